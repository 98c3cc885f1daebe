/- A call does what the abstract one tells. One operation of a frame that an abstract state tells. One step of a region that an abstract state tells, calls among them. Conditions: none beyond those that each theorem names. -/
import Derived.Test.YtgngflkahbpecaaGreatDoorU06
import Derived.Test.YtgngflkahbpecaaGreatDoorU05
namespace Go.Ab
open Go
section
variable {V : Env} {P : Program} {C : Ctx} {w : World}
variable {res : Option (SV V.E)} {cs : List Cd} {bx' : List (Nat × Box V.E)} {ac : Acc}
theorem conds_own {c0 : List Cd} : ∀ (ls : List (Leaf V.E)) (id : Nat) (os : List (TypeId × TypeId)) (k : List (Leaf V.E) → Todo V.E),
    (∀ l bx rs ws res cs bx' ac, interp V bx (k l) rs ws = some (res, cs, bx', ac) → cs = c0) →
    ∀ bx rs ws res cs bx' ac, interp V bx (ownLeaves V id os ls k) rs ws = some (res, cs, bx', ac) → cs = c0
  | [], id, os, k, hk, bx, rs, ws, res, cs, bx', ac, h => by
    have h : interp V bx (k []) rs ws = some (res, cs, bx', ac) := by
      cases os with
      | nil => exact h
      | cons o os => obtain ⟨e, e2⟩ := o; exact h
    exact hk _ _ _ _ _ _ _ _ h
  | l :: ls, id, os, k, hk, bx, rs, ws, res, cs, bx', ac, h => by
    have rec1 : ∀ os' id' (f : List (Leaf V.E) → List (Leaf V.E)) bx rs ws, interp V bx (ownLeaves V id' os' ls fun l => k (f l)) rs ws = some (res, cs, bx', ac) → cs = c0 :=
      fun os' id' f bx rs ws h => conds_own ls id' os' (fun l => k (f l)) (fun l => hk _) _ _ _ _ _ _ _ h
    unfold ownLeaves at h
    split at h
    · rename_i heq; cases heq
    · rename_i heq; cases heq; exact rec1 _ _ (l :: ·) _ _ _ h
    · rename_i heq; cases heq
      obtain ⟨_, rs', ws', h⟩ := newBox_ok h
      exact rec1 _ _ (Leaf.ar id 0 :: ·) _ _ _ h
    · rename_i heq; cases heq
      obtain ⟨_, rs', ws', h⟩ := newBox_ok h
      exact rec1 _ _ (Leaf.ar id 0 :: ·) _ _ _ h
    · rename_i heq; cases heq; exact rec1 _ _ (l :: ·) _ _ _ h
    · simp [interp] at h
theorem conds_res {c0 : List Cd} : ∀ (ts : List Ty) (id : Nat) (os : List (List (TypeId × TypeId))) (y : HL V.E ts) (k : List (CV V.E) → Todo V.E),
    (∀ l bx rs ws res cs bx' ac, interp V bx (k l) rs ws = some (res, cs, bx', ac) → cs = c0) →
    ∀ bx rs ws res cs bx' ac, interp V bx (resCV V id os ts y k) rs ws = some (res, cs, bx', ac) → cs = c0
  | [], id, os, y, k, hk, bx, rs, ws, res, cs, bx', ac, h => hk _ _ _ _ _ _ _ _ h
  | t :: ts, id, os, (y, r), k, hk, bx, rs, ws, res, cs, bx', ac, h => by
    simp only [resCV] at h
    refine conds_own _ _ _ _ (fun l bx rs ws res cs bx' ac h => ?_) _ _ _ _ _ _ _ h
    split at h
    · exact conds_res ts _ _ r _ (fun l => hk _) _ _ _ _ _ _ _ h
    · simp [interp] at h
theorem NBok.later {ok ok' : Nat → Prop} (L : Later ok w ok' w) {n : NB V.E} (h : NBok V ok w n) : NBok V ok' w n := by
  unfold NBok at h ⊢
  split at h
  · exact ⟨h.1, h.2.later L fun _ _ => rfl⟩
  · obtain ⟨h1, h2, h3⟩ := h
    exact ⟨h1, h2, h3.imp fun _ _ k => k.later L fun _ _ => rfl⟩
  · exact h.elim
theorem NBok.boxRep {ok : Nat → Prop} {n : NB V.E} (h : NBok V ok w n) {bx : List (Nat × Box V.E)} {β : Nat → BI} (hβ : β n.id = n.bi) : BoxRep V.T bx β ok w n.id n.b := by
  unfold NBok at h
  split at h
  · rename_i hb; rw [hb]; simp only [BoxRep]; rw [hβ]; exact h
  · rename_i hb; rw [hb]; simp only [BoxRep]; rw [hβ]; exact h
  · exact h.elim
theorem flat_nodup {α β : Type} {f : α → List β} : ∀ {N : List α}, (N.flatMap f).Nodup → ∀ n ∈ N, (f n).Nodup
  | [], _, n, h => by simp at h
  | m :: N, hd, n, h => by
    rw [List.flatMap_cons] at hd
    have h1 := List.nodup_append.1 hd
    rcases List.mem_cons.1 h with rfl | h
    · exact h1.1
    · exact flat_nodup h1.2.1 n h
theorem flat_apart {α β : Type} {f : α → List β} : ∀ {N : List α}, (N.flatMap f).Nodup → ∀ n ∈ N, ∀ m ∈ N, ∀ x, x ∈ f n → x ∈ f m → n = m
  | [], _, n, h, _, _, _, _, _ => by simp at h
  | k :: N, hd, n, hn, m, hm, x, h1, h2 => by
    rw [List.flatMap_cons] at hd
    have hd := List.nodup_append.1 hd
    rcases List.mem_cons.1 hn with e | hn' <;> rcases List.mem_cons.1 hm with e' | hm'
    · rw [e, e']
    · rw [e] at h1; exact (hd.2.2 x h1 x (List.mem_flatMap.2 ⟨m, hm', h2⟩) rfl).elim
    · rw [e'] at h2; exact (hd.2.2 x h2 x (List.mem_flatMap.2 ⟨n, hn', h1⟩) rfl).elim
    · exact flat_apart hd.2.1 n hn' m hm' x h1 h2
theorem flat_nodup_mk {α β : Type} {f : α → List β} : ∀ {N : List α}, N.Nodup → (∀ n ∈ N, (f n).Nodup) → (∀ n ∈ N, ∀ m ∈ N, ∀ x, x ∈ f n → x ∈ f m → n = m) → (N.flatMap f).Nodup
  | [], _, _, _ => by simp
  | k :: N, hd, h1, h2 => by
    rw [List.flatMap_cons]
    have hd := List.nodup_cons.1 hd
    refine List.nodup_append.2 ⟨h1 k (by simp), flat_nodup_mk hd.2 (fun n hn => h1 n (by simp [hn])) (fun n hn m hm => h2 n (by simp [hn]) m (by simp [hm])), fun x hx y hy e => ?_⟩
    subst e
    obtain ⟨m, hm, hxm⟩ := List.mem_flatMap.1 hy
    have := h2 k (by simp) m (by simp [hm]) x hx hxm
    subst this
    exact hd.1 hm
theorem toldRes_ok {S : FS V.E} {o : Orc V.E} {x : HL V.E S.args} {y : HL V.E S.res} {c : List Cd} (h : toldRes V S o x = some (y, c)) (hc : AllP c) : S.f x = some y := by
  unfold toldRes at h
  split at h
  · split at h
    · cases h; exact hc.1
    · cases h
  · split at h
    · rename_i z hz
      cases h
      unfold FS.f
      rw [hz]; rfl
    · cases h
  · cases h
theorem call_ok (HT : V.T.Ok) (HF : FuncsOk V P) {bx : List (Nat × Box V.E)} {β : Nat → BI} (M : MemOk V.T C bx β w) {dst : Nat} {f : FuncId} {args : List (CV V.E)} {vs : List Value} (ha : All2 (CVRep V.T bx β (okOf C β w) w) args vs)
    {o : Orc V.E} {rs ws : List Nat} (h : interp V bx (callTodo V dst f args o) rs ws = some (res, cs, bx', ac)) (hc : AllP cs) : CallsOk V P C bx β w f vs res bx' := by
  unfold callTodo at h
  split at h
  · rename_i S hS
    obtain ⟨hfn, hM⟩ := HF.fs f S hS
    obtain ⟨bx1, β1, ls, rs1, ws1, gs, M1, X1, h, g1, _, g3, _, hargs⟩ := give_ok HT _ _ _ _ _ M ha _ _ _ h
    split at h
    rotate_left
    · simp [interp] at h
    rename_i x hx
    split at h
    · rename_i y c0 htold
      have hk : ∀ l bx rs ws res cs bx' ac, interp V bx (retCV V c0 l) rs ws = some (res, cs, bx', ac) → cs = c0 := by
        intro l bx rs ws res cs bx' ac h
        unfold retCV at h
        split at h <;> exact (interp_ret h).2.1.symm
      have hcs := conds_res _ _ _ _ _ hk _ _ _ _ _ _ _ h
      rw [hcs] at hc
      have hxy := toldRes_ok htold hc
      have hargs := hargs S.args x hx
      have hgown : ∀ b, b ∈ (gs.flatMap fun id => (β1 id).own) ↔ ∃ id ∈ gs, b ∈ (β1 id).own := fun b => List.mem_flatMap
      refine ⟨hfn, ?_⟩
      refine (hM x y hxy (okOf C β1 w) w vs _ hargs (flat_nodup_mk g3 (fun id _ => M1.nodup id) fun id _ id' _ x h1 h2 => M1.apart id id' x h1 h2) ?_ (fun b hb => hb.1)).mono ?_
      · intro b hb
        obtain ⟨id, _, hb⟩ := (hgown b).1 hb
        exact ⟨(M1.mine id b hb).1, fun hk => hk.2.2 id hb⟩
      · rintro e w' ⟨rv, own', rfl, hbut, hnd, hown', hres⟩
        obtain ⟨N, cvs, rs2, ws2, b1, b2, b3, b4, b5, b6⟩ := res_ok _ _ _ _ _ hres _ _ _ _ _ h
        let β' : Nat → BI := fun j => match getN N j with | some n => n.bi | none => if j ∈ gs then { β1 j with own := [] } else β1 j
        have hβN : ∀ n ∈ N, β' n.id = n.bi := by
          intro n hn
          show (match getN N n.id with | some n => n.bi | none => _) = _
          rw [getN_of b2 hn]
        have hNg : ∀ n ∈ N, n.id ∉ gs := by
          intro n hn hg
          have := g1 _ hg
          rw [b3 n hn] at this; cases this
        have hβg : ∀ j ∈ gs, β' j = { β1 j with own := [] } := by
          intro j hj
          show (match getN N j with | some n => n.bi | none => _) = _
          split
          · rename_i n hn
            obtain ⟨hm, rfl⟩ := getN_mem hn
            exact (hNg n hm hj).elim
          · rw [if_pos hj]
        have hβo : ∀ j, (¬ ∃ n ∈ N, n.id = j) → j ∉ gs → β' j = β1 j := by
          intro j hj hg
          show (match getN N j with | some n => n.bi | none => _) = _
          split
          · rename_i n hn
            obtain ⟨hm, e⟩ := getN_mem hn
            exact (hj ⟨n, hm, e⟩).elim
          · rw [if_neg hg]
        have hlookN : ∀ n ∈ N, look n.id (putN N bx1) = some n.b := by
          intro n hn; rw [look_putN _ _ _ b2, getN_of b2 hn]
        have hlooko : ∀ j, (¬ ∃ n ∈ N, n.id = j) → look j (putN N bx1) = look j bx1 := by
          intro j hj
          rw [look_putN _ _ _ b2]
          split
          · rename_i n hn
            obtain ⟨hm, e⟩ := getN_mem hn
            exact (hj ⟨n, hm, e⟩).elim
          · rfl
        have hmemN : ∀ n ∈ N, ∀ x ∈ n.bi.own, x ∈ own' := by
          intro n hn x hx; rw [b5]; exact List.mem_flatMap.2 ⟨n, hn, hx⟩
        have hokR : ∀ b, (b < w'.heap.size ∧ (okOf C β1 w b ∨ w.heap.size ≤ b ∨ b ∈ gs.flatMap fun id => (β1 id).own) ∧ b ∉ own') → okOf C β' w' b := by
          rintro b ⟨k1, k2, k3⟩
          refine ⟨k1, ?_, fun id hid => ?_⟩
          · rcases k2 with k2 | k2 | k2
            · exact k2.2.1
            · exact .inr (.inl (Nat.le_trans M1.kept.size k2))
            · obtain ⟨id, _, hb⟩ := (hgown b).1 k2
              rcases (M1.mine id b hb).2 with h | h
              · exact .inr (.inl h)
              · exact .inr (.inr h)
          · by_cases hN : ∃ n ∈ N, n.id = id
            · obtain ⟨n, hn, rfl⟩ := hN
              rw [hβN n hn] at hid
              exact k3 (hmemN n hn b hid)
            · by_cases hg : id ∈ gs
              · rw [hβg id hg] at hid; simp at hid
              · rw [hβo id hN hg] at hid
                rcases k2 with k2 | k2 | k2
                · exact k2.2.2 id hid
                · have := (M1.mine id b hid).1; omega
                · obtain ⟨id', hid', hb⟩ := (hgown b).1 k2
                  have := M1.apart id id' b hid hb
                  subst this; exact hg hid'
        have LR : Later (fun b => b < w'.heap.size ∧ (okOf C β1 w b ∨ w.heap.size ≤ b ∨ b ∈ gs.flatMap fun id => (β1 id).own) ∧ b ∉ own') w' (okOf C β' w') w' := ⟨hokR, fun _ _ => rfl⟩
        obtain ⟨M2, X2⟩ := M1.step (bx' := putN N bx1) (β' := β') (w' := w') (fun j => j ∈ gs ∨ ∃ n ∈ N, n.id = j) hbut.os hbut.tape hbut.output hbut.size
          (fun j hj => ⟨hβo j (fun h => hj (.inr h)) (fun h => hj (.inl h)), hlooko j fun h => hj (.inr h)⟩)
          (fun x hx hn => hbut.heap x hx fun hm => by
            obtain ⟨id, hid, hb⟩ := (hgown x).1 hm
            exact hn id (.inl hid) hb)
          (fun j hj x hx => by
            by_cases hN : ∃ n ∈ N, n.id = j
            · obtain ⟨n, hn, rfl⟩ := hN
              rw [hβN n hn] at hx
              obtain ⟨q1, q2⟩ := hown' x (hmemN n hn x hx)
              rcases q2 with q2 | q2
              · exact .inr ⟨q2, q1⟩
              · obtain ⟨id, hid, hb⟩ := (hgown x).1 q2
                exact .inl ⟨id, .inl hid, hb⟩
            · rcases hj with hj | hj
              · rw [hβg j hj] at hx; simp at hx
              · exact (hN hj).elim)
          (fun j hj => by
            by_cases hN : ∃ n ∈ N, n.id = j
            · obtain ⟨n, hn, rfl⟩ := hN
              rw [hβN n hn]
              rw [b5] at hnd
              exact flat_nodup hnd n hn
            · rcases hj with hj | hj
              · rw [hβg j hj]; simp
              · exact (hN hj).elim)
          (fun j j' x hj hj' hx hx' => by
            by_cases hN : ∃ n ∈ N, n.id = j
            · by_cases hN' : ∃ n ∈ N, n.id = j'
              · obtain ⟨n, hn, rfl⟩ := hN
                obtain ⟨m, hm, rfl⟩ := hN'
                rw [hβN n hn] at hx
                rw [hβN m hm] at hx'
                rw [b5] at hnd
                rw [flat_apart hnd n hn m hm x hx hx']
              · rcases hj' with hj' | hj'
                · rw [hβg j' hj'] at hx'; simp at hx'
                · exact (hN' hj').elim
            · rcases hj with hj | hj
              · rw [hβg j hj] at hx; simp at hx
              · exact (hN hj).elim)
          (fun j hj hn => by
            by_cases hN : ∃ n ∈ N, n.id = j
            · obtain ⟨n, hn', rfl⟩ := hN
              rw [hlookN n hn'] at hn; cases hn
            · rcases hj with hj | hj
              · rw [hβg j hj]
              · exact (hN hj).elim)
          (fun j b hj hb => by
            by_cases hN : ∃ n ∈ N, n.id = j
            · obtain ⟨n, hn, rfl⟩ := hN
              rw [b3 n hn] at hb; cases hb
            · rcases hj with hj | hj
              · rw [g1 j hj] at hb; cases hb
                exact ⟨.gone, by rw [hlooko j hN]; exact g1 j hj, trivial⟩
              · exact (hN hj).elim)
          (fun X j b hj hb => by
            by_cases hN : ∃ n ∈ N, n.id = j
            · obtain ⟨n, hn, rfl⟩ := hN
              rw [hlookN n hn] at hb; cases hb
              exact ((b4 n hn).later LR).boxRep (hβN n hn)
            · rcases hj with hj | hj
              · rw [hlooko j hN, g1 j hj] at hb; cases hb
                trivial
              · exact (hN hj).elim)
        have hleaf : ∀ l v, RLeaf V (fun b => b < w'.heap.size ∧ (okOf C β1 w b ∨ w.heap.size ≤ b ∨ b ∈ gs.flatMap fun id => (β1 id).own) ∧ b ∉ own') w' N l v → LeafRep V.T (putN N bx1) β' (okOf C β' w') w' l v := by
          intro l v hl
          rcases hl with hl | ⟨n, hn, rfl, rfl, hone⟩
          · exact LeafRep.ext ⟨LR, fun _ b h => ⟨b, h, compat.refl _ _ _⟩⟩ _ _ (hl (putN N bx1) β')
          · simp only [LeafRep]
            refine ⟨hone, ?_⟩
            rw [hlookN n hn]
            have := b4 n hn
            unfold NBok at this
            split at this
            · rename_i hb; rw [hb]; exact ⟨Nat.le_refl _, fun _ => by rw [hβN n hn]⟩
            · rename_i hb; rw [hb]; exact ⟨Nat.le_refl _, fun _ => by rw [hβN n hn]⟩
            · exact this.elim
        have hval : ∀ c v, RVal V (fun b => b < w'.heap.size ∧ (okOf C β1 w b ∨ w.heap.size ≤ b ∨ b ∈ gs.flatMap fun id => (β1 id).own) ∧ b ∉ own') w' N c v → CVRep V.T (putN N bx1) β' (okOf C β' w') w' c v := by
          intro c v hcv
          cases c with
          | one l => exact hleaf _ _ hcv
          | ag ls => obtain ⟨cs, rfl, hcv⟩ := hcv; exact ⟨cs, rfl, hcv.imp fun _ _ k => hleaf _ _ k⟩
        refine ⟨_, rfl, β', ?_⟩
        unfold retCV at b1
        split at b1
        · rename_i c
          obtain ⟨rfl, _, rfl⟩ := interp_ret b1
          cases b6 with
          | cons q1 q2 => cases q2; exact ⟨_, rfl, hval _ _ q1, M2, X1.trans X2⟩
        · rename_i hne
          obtain ⟨rfl, _, rfl⟩ := interp_ret b1
          refine ⟨_, rfl, ?_, M2, X1.trans X2⟩
          simp only [SVRep]
          refine ⟨rv.toArray, ?_, by simpa using b6.imp fun _ _ k => hval _ _ k⟩
          have hl := b6.length
          cases rv with
          | nil => rfl
          | cons v rv =>
            cases rv with
            | cons _ _ => rfl
            | nil =>
              match cvs, hl, hne with
              | [c], _, hne => exact (hne c rfl).elim
    · simp [interp] at h
  · rename_i hS
    split at h
    rotate_left
    · exact callp_ok HF M ha h
    · simp [interp] at h
    rename_i d
    cases hW : V.ws f with
    | none =>
      rw [hW] at h
      cases hC : V.cs f with
      | none => rw [hC] at h; simp [callcTodo, interp] at h
      | some S =>
        rw [hC] at h
        exact callc_ok HT (HF.cs f S hC) M ha h hc
    | some S =>
      rw [hW] at h
      exact callw_ok HT (HF.ws f S hW) M ha h hc
end
end Go.Ab
namespace Go.Ab
open Go
structure Good (V : Env) (P : Program) : Prop where
  tab : V.T.Ok
  types : EnvOk V P
  eqs : EqsOk V P
  funcs : FuncsOk V P
  mixed : P.follows .mixedOrders = true
section
variable {V : Env} {P : Program} {C : Ctx}
structure SimB (V : Env) (C : Ctx) (s : St V.E) (β : Nat → BI) (a : Act) (w : World) : Prop where
  size : a.tmps.size = s.n
  defers : a.defers = [] ∧ (V.t0 = true → a.tmps.getD 0 undef = C.v0)
  slots : ∀ k x, slot V s k = some x → SR V C s.boxes β w x (getV C a.tmps k)
  mem : MemOk V.T C s.boxes β w
def Sim (V : Env) (C : Ctx) (s : St V.E) (a : Act) (w : World) : Prop := ∃ β, SimB V C s β a w
theorem const_rep {bx : List (Nat × Box V.E)} {β : Nat → BI} {w : World} (t : TypeId) (v : Value) (x : SV V.E) (h : constSV V t v = some x) : SR V C bx β w x v := by
  unfold constSV at h
  split at h
  · cases h; rfl
  · cases h; rfl
  · rename_i s
    cases h
    show Value.string s = .string ⟨s.data.toList.toArray⟩
    cases s; rfl
  · split at h
    · split at h
      · cases h
        simp only [SR, SVRep, CVRep, LeafRep]
        exact ⟨none, 0, by simp, by simp, fun _ => rfl, fun _ _ => rfl, fun ad h => by cases h⟩
      · cases h
    · cases h
  · cases h; rfl
  · cases h; rfl
  · cases h
theorem SimB.slotT {s : St V.E} {β : Nat → BI} {a : Act} {w : World} (S : SimB V C s β a w) {k : Nat} {x : SV V.E} (h : Ab.slotT V s k = some x) : SR V C s.boxes β w x (a.tmps.getD k undef) := by
  unfold Ab.slotT at h
  split at h
  · rename_i hk
    have := S.slots k x h
    unfold getV at this
    rw [hk] at this
    exact this
  · cases h
theorem opnd_ok {s : St V.E} {β : Nat → BI} {a : Act} {w : World} (S : SimB V C s β a w) (t : TypeId) (x : Operand) (y : SV V.E) (h : opnd V s t x = some y) : SR V C s.boxes β w y (a.eval x) := by
  cases x with
  | tmp k => exact S.slotT h
  | const v => exact const_rep t v y h
  | global g => simp [opnd] at h
  | func f =>
    simp only [opnd, Option.some.injEq] at h
    subst h
    simp only [SR, SVRep, CVRep, LeafRep]
    exact ⟨#[], rfl, rfl⟩
theorem opnds_ok {s : St V.E} {β : Nat → BI} {a : Act} {w : World} (S : SimB V C s β a w) : ∀ (xs : List Operand) (ts : List TypeId), Vals V C s.boxes β w (opnds V s ts xs) (xs.map a.eval)
  | [], ts => by cases ts <;> exact .nil
  | x :: xs, [] => .cons (fun y h => opnd_ok S 0 x y h) (opnds_ok S xs [])
  | x :: xs, t :: ts => .cons (fun y h => opnd_ok S t x y h) (opnds_ok S xs ts)
def NOk (T : Tab) (C : Ctx) (bx : List (Nat × Box T.E)) (β : Nat → BI) (w : World) (res : Option (SV T.E)) (bx' : List (Nat × Box T.E)) (r : Result Next) : Prop :=
  ∃ β' w', MemOk T C bx' β' w' ∧ Ext T bx β (okOf C β w) w bx' β' (okOf C β' w') w' ∧
    ((∃ v x, res = some x ∧ r = .ok (.value v) w' ∧ SVRep T bx' β' (okOf C β' w') w' x v) ∨ (res = none ∧ r = .ok .skip w'))
theorem NOk.ofV {T : Tab} {bx bx' : List (Nat × Box T.E)} {β : Nat → BI} {w : World} {res : Option (SV T.E)} {m : Sem Value} (h : VOk T C bx β w res bx' (m.run P w)) :
    NOk T C bx β w res bx' ((do pure (.value (← m)) : Sem Next).run P w) := by
  obtain ⟨β', w', v, x, h1, h2, h3, h4, h5⟩ := h
  exact ⟨β', w', h4, h5, .inl ⟨v, x, h1, by simp only [Sem.run_bind, h2, Result.andThen_ok, Sem.run_pure], h3⟩⟩
theorem NOk.ofU {T : Tab} {bx bx' : List (Nat × Box T.E)} {β : Nat → BI} {w : World} {res : Option (SV T.E)} {m : Sem Unit} (h : UOk T C bx β w res bx' (m.run P w)) :
    NOk T C bx β w res bx' ((do m; pure .skip : Sem Next).run P w) := by
  obtain ⟨β', w', h1, h2, h4, h5⟩ := h
  exact ⟨β', w', h4, h5, .inr ⟨h1, by simp only [Sem.run_bind, h2, Result.andThen_ok, Sem.run_pure]⟩⟩
theorem NOk.val {T : Tab} {bx : List (Nat × Box T.E)} {β : Nat → BI} {w : World} (M : MemOk T C bx β w) {x : SV T.E} {v : Value} (h : SVRep T bx β (okOf C β w) w x v) : NOk T C bx β w (some x) bx (.ok (.value v) w) :=
  ⟨β, w, M, Ext.refl _ _ _ _ _, .inl ⟨v, x, rfl, rfl, h⟩⟩
def isCall (o : Oper) : Bool :=
  match o.op with
  | .call c => match c.callee with
    | .value _ => true
    | _ => false
  | _ => false
theorem slice_kind {t : TypeId} {i : TI V.E} {info : TypeInfo} {d : TypeDesc} {z : Value} (I : InfoOk V P t i info d z) {e : TypeId} (h : i.kind = .slice e) : P.underlying t = some (.slice e) := by
  have hk := I.kind
  rw [h] at hk
  have hu := I.under
  cases d <;> simp [kindB] at hk
  subst hk
  exact hu
theorem elemOf_ok {t : TypeId} {j : TI V.E} (h : elemOf V t = some j) : ∃ i e, V.ti t = some i ∧ i.kind = .slice e ∧ V.ti e = some j := by
  unfold elemOf at h
  split at h
  · rename_i e _ _ _ _ ht
    exact ⟨_, e, ht, rfl, h⟩
  · cases h
theorem elemIdOf_ok {t : TypeId} {e : TypeId} {j : TI V.E} (h : elemIdOf V t = some (e, j)) : ∃ i, V.ti t = some i ∧ i.kind = .slice e ∧ V.ti e = some j := by
  unfold elemIdOf at h
  split at h
  · rename_i e _ _ _ _ ht
    split at h
    · rename_i j hj
      cases h
      exact ⟨_, ht, rfl, hj⟩
    · cases h
  · cases h
theorem slice_el {t : TypeId} {i : TI V.E} (hi : V.ti t = some i) : ∀ e u, i.kind = .slice e → (elemOf V t).map (·.ty) = some u → ∃ j, V.ti e = some j ∧ j.ty = u := by
  intro e u hk hu
  cases hel : elemOf V t with
  | none => rw [hel] at hu; cases hu
  | some j =>
    rw [hel] at hu
    simp at hu
    obtain ⟨i', e', h1, h2, h3⟩ := elemOf_ok hel
    rw [hi] at h1; cases h1
    rw [hk] at h2; cases h2
    exact ⟨j, h3, hu⟩
theorem vals1 {bx : List (Nat × Box V.E)} {β : Nat → BI} {w : World} {a : SV V.E} {ds : List Value} (h : Vals V C bx β w [some a] ds) : ∃ d, ds = [d] ∧ SR V C bx β w a d := by
  cases h with
  | cons h1 h2 => cases h2; exact ⟨_, rfl, h1 a rfl⟩
theorem vals2 {bx : List (Nat × Box V.E)} {β : Nat → BI} {w : World} {a b : SV V.E} {ds : List Value} (h : Vals V C bx β w [some a, some b] ds) : ∃ d e, ds = [d, e] ∧ SR V C bx β w a d ∧ SR V C bx β w b e := by
  cases h with
  | cons h1 h2 =>
    obtain ⟨e, rfl, h3⟩ := vals1 h2
    exact ⟨_, e, rfl, h1 a rfl, h3⟩
theorem exec_ok (G : Good V P) {s : St V.E} {β : Nat → BI} {a : Act} {w : World} (S : SimB V C s β a w) (dst : Nat) (o : Oper) (hcall : isCall o = false) (q : Orc V.E)
    {res : Option (SV V.E)} {cs : List Cd} {bx' : List (Nat × Box V.E)} {ac : Acc} {rs ws : List Nat}
    (h : interp V s.boxes (core V dst o (opnds V s (opTypes V o) o.op.operands.toList) q) rs ws = some (res, cs, bx', ac)) (hc : AllP cs) :
    NOk V.T C s.boxes β w res bx' ((execOp a.eval o).run P w) := by
  have hv := opnds_ok S o.op.operands.toList (opTypes V o)
  generalize opnds V s (opTypes V o) o.op.operands.toList = vs at h hv
  have M := S.mem
  unfold core at h
  split at h
  · -- move
    rename_i x v ho
    obtain ⟨rfl, _, rfl⟩ := interp_ret h
    simp only [ho, Op.operands, List.map_cons, List.map_nil] at hv
    obtain ⟨d, hd, hr⟩ := vals1 hv
    cases hd
    simp only [execOp, ho, Sem.run_pure]
    exact .val M hr
  · -- assign
    rename_i x v ho
    obtain ⟨rfl, _, rfl⟩ := interp_ret h
    simp only [ho, Op.operands, List.map_cons, List.map_nil] at hv
    obtain ⟨d, hd, hr⟩ := vals1 hv
    cases hd
    simp only [execOp, ho, Sem.run_pure]
    exact .val M hr
  · -- pick
    rename_i c0 a0 b0 b x y ho
    simp only [ho, Op.operands, List.map_cons, List.map_nil] at hv
    cases hv with
    | cons h1 hv =>
      cases hv with
      | cons h2 hv =>
        cases hv with
        | cons h3 hv =>
          have hb := h1 _ rfl
          simp only [SR, SVRep, CVRep, LeafRep] at hb
          have hrun : (execOp a.eval o).run P w = .ok (.value (if b then a.eval a0 else a.eval b0)) w := by
            simp only [execOp, ho, hb, asBool, Sem.run_bind, Sem.run_pure, Result.andThen_ok]
          rw [hrun]
          split at h
          · rename_i dd
            split at h
            · rename_i v hvv
              obtain ⟨rfl, rfl, rfl⟩ := interp_ret h
              have hbd := hc.1
              subst hbd
              refine .val M ?_
              cases b
              · exact h3 v (by simpa using hvv)
              · exact h2 v (by simpa using hvv)
            · simp [interp] at h
          · split at h
            · rename_i p r
              obtain ⟨rfl, rfl, rfl⟩ := interp_ret h
              have e2 := h2 _ rfl
              have e3 := h3 _ rfl
              simp only [SR, SVRep, CVRep, LeafRep] at e2 e3
              rw [e2, e3]
              refine .val M ?_
              cases b <;> rfl
            · simp [interp] at h
  · -- alloc
    rename_i t ho
    split at h
    · rename_i i hi
      obtain ⟨info, d, z, I⟩ := G.types t i hi
      have := box_ok M (t := t) (vs := z.cells) (zls_rep I.zeros) h
      simp only [execOp, ho]
      refine NOk.ofV ?_
      have hr : (Instr.alloc t true (.tuple #[])).run P w = .ok (.pointer (some ⟨w.heap.size, 0, none⟩)) (w.alloc (.cells z.cells t)) := by
        simp only [Instr.alloc, Sem.run_bind, I.run_zero, Result.andThen_ok, newVar, newRow, run_newObj, Sem.run_pure]
        rfl
      rw [hr]; exact this
    · simp [interp] at h
  · -- box
    rename_i t x c ho
    simp only [ho, Op.operands, List.map_cons, List.map_nil] at hv
    obtain ⟨d, hd, hr⟩ := vals1 hv
    cases hd
    split at h
    · have := box_ok M (t := t) (vs := (a.eval x).cells) (CVRep.cells hr) h
      simp only [execOp, ho]
      refine NOk.ofV ?_
      have hrun : (Instr.box t (a.eval x)).run P w = .ok (.pointer (some ⟨w.heap.size, 0, none⟩)) (w.alloc (.cells (a.eval x).cells t)) := by
        simp only [Instr.box, Sem.run_bind, newVar, newRow, run_newObj, Result.andThen_ok, Sem.run_pure]
        rfl
      rw [hrun]; exact this
    · simp [interp] at h
  · -- build
    rename_i t ps ho
    simp only [ho, Op.operands, List.map_map, Function.comp_def] at hv
    split at h
    · rename_i fs sz by_ z0 ty hi
      split at h
      · rename_i hall
        split at h
        · rename_i ls hf
          obtain ⟨rfl, _, rfl⟩ := interp_ret h
          obtain ⟨info, d, z, I⟩ := G.types t _ hi
          simp only [execOp, ho]
          exact NOk.ofV (build_ok G.types M I rfl hall a.eval ps (by simpa using hv) hf)
        · simp [interp] at h
      · simp [interp] at h
    · simp [interp] at h
  · -- buildSlice
    rename_i t n ps ho
    simp only [ho, Op.operands, List.map_map, Function.comp_def] at hv
    split at h
    · rename_i e i hel
      obtain ⟨it, ht, hk, he⟩ := elemIdOf_ok hel
      obtain ⟨_, _, _, It⟩ := G.types t _ ht
      obtain ⟨info, d, z, I⟩ := G.types e _ he
      split at h
      · rename_i hn
        split at h
        · rename_i ls hf
          simp only [execOp, ho]
          exact NOk.ofV (buildSlice_ok G.tab M (slice_kind It hk) I n hn a.eval ps (by simpa using hv) hf q h)
        · simp [interp] at h
      · simp [interp] at h
    · simp [interp] at h
  · -- load
    rename_i t x v ho
    simp only [ho, Op.operands, List.map_cons, List.map_nil] at hv
    obtain ⟨d, hd, hr⟩ := vals1 hv
    cases hd
    split at h
    · rename_i i hi
      obtain ⟨info, d, z, I⟩ := G.types t i hi
      simp only [execOp, ho]
      exact NOk.ofV (load_ok G.tab M I hr h)
    · simp [interp] at h
  · -- store
    rename_i t x y v1 v2 ho
    simp only [ho, Op.operands, List.map_cons, List.map_nil] at hv
    obtain ⟨d1, d2, hd, hr1, hr2⟩ := vals2 hv
    cases hd
    split at h
    · rename_i i hi
      obtain ⟨info, d, z, I⟩ := G.types t i hi
      simp only [execOp, ho]
      exact NOk.ofU (store_ok G.tab M I hr1 hr2 h hc)
    · simp [interp] at h
  · -- nilCheck
    rename_i x id off ho
    simp only [ho, Op.operands, List.map_cons, List.map_nil] at hv
    obtain ⟨d, hd, hr⟩ := vals1 hv
    cases hd
    simp only [interp] at h
    split at h
    · rename_i ls hb
      obtain ⟨rfl, _, rfl⟩ := interp_ret h
      have hr' := hr
      simp only [SR, SVRep, CVRep, LeafRep, hb] at hr'
      have hrun : (execOp a.eval o).run P w = .ok (.value (a.eval x)) w := by
        simp only [execOp, ho, hr'.2, Sem.run_pure]
      rw [hrun]
      exact .val M hr
    · simp [interp] at h
  · -- binOp
    rename_i op t x y u v1 v2 ho
    simp only [ho, Op.operands, List.map_cons, List.map_nil] at hv
    obtain ⟨d1, d2, hd, hr1, hr2⟩ := vals2 hv
    cases hd
    simp only [execOp, ho]
    exact NOk.ofV (bin_ok G.types G.eqs M op t x y hr1 hr2 h hc)
  · -- unOp
    rename_i op t x v ho
    simp only [ho, Op.operands, List.map_cons, List.map_nil] at hv
    obtain ⟨d, hd, hr⟩ := vals1 hv
    cases hd
    simp only [execOp, ho]
    exact NOk.ofV (un_ok M op hr h)
  · -- convert
    rename_i u t x v ho
    simp only [ho, Op.operands, List.map_cons, List.map_nil] at hv
    obtain ⟨d, hd, hr⟩ := vals1 hv
    cases hd
    simp only [execOp, ho]
    exact NOk.ofV (conv_ok G.types M u t hr h)
  · -- makeFunc
    rename_i f fi ca ho
    simp only [ho, Op.operands] at hv
    split at h
    · rename_i hfi
      split at h
      · rename_i ls hl
        obtain ⟨rfl, _, rfl⟩ := interp_ret h
        simp only [execOp, ho]
        exact NOk.ofV (makeFunc_ok M f a.eval fi ca hfi hv hl)
      · simp [interp] at h
    · simp [interp] at h
  · -- makeSlice
    rename_i t x y kl l kc c ho
    simp only [ho, Op.operands, List.map_cons, List.map_nil] at hv
    obtain ⟨d1, d2, hd, hr1, hr2⟩ := vals2 hv
    simp only [SR, SVRep, CVRep, LeafRep] at hr1 hr2
    subst hr1 hr2
    split at h
    · rename_i e _ _ _ _ ht
      split at h
      · rename_i i hi
        obtain ⟨_, _, _, It⟩ := G.types t _ ht
        obtain ⟨info, d, z, I⟩ := G.types e _ hi
        simp only [List.cons.injEq, and_true] at hd
        simp only [execOp, ho, hd.1, hd.2]
        exact NOk.ofV (make_ok G.tab M (slice_kind It rfl) I h hc)
      · simp [interp] at h
    · simp [interp] at h
  · -- slice, whole
    rename_i t x v ho
    simp only [ho, Op.operands, Option.toArray] at hv
    obtain ⟨d, hd, hr⟩ := vals1 (by simpa using hv)
    cases hd
    split at h
    · rename_i i hi
      obtain ⟨info, d, z, I⟩ := G.types t i hi
      simp only [execOp, ho]
      exact NOk.ofV (slice_ok M I (fun e _ j hj => G.types e j hj) _ (slice_el hi) hr none none h hc)
    · simp [interp] at h
  · -- from
    rename_i t x y v k l ho
    simp only [ho, Op.operands, Option.toArray] at hv
    obtain ⟨d1, d2, hd, hr1, hr2⟩ := vals2 (by simpa using hv)
    simp only [List.cons.injEq, and_true] at hd
    simp only [SR, SVRep, CVRep, LeafRep] at hr2
    subst hr2
    split at h
    · rename_i i hi
      obtain ⟨info, d, z, I⟩ := G.types t i hi
      simp only [execOp, ho, Option.map_some, Option.map_none, hd.1, hd.2]
      exact NOk.ofV (slice_ok M I (fun e _ j hj => G.types e j hj) _ (slice_el hi) hr1 (some (k, l)) none h hc)
    · simp [interp] at h
  · -- to
    rename_i t x y v k l ho
    simp only [ho, Op.operands, Option.toArray] at hv
    obtain ⟨d1, d2, hd, hr1, hr2⟩ := vals2 (by simpa using hv)
    simp only [List.cons.injEq, and_true] at hd
    simp only [SR, SVRep, CVRep, LeafRep] at hr2
    subst hr2
    split at h
    · rename_i i hi
      obtain ⟨info, d, z, I⟩ := G.types t i hi
      simp only [execOp, ho, Option.map_some, Option.map_none, hd.1, hd.2]
      exact NOk.ofV (slice_ok M I (fun e _ j hj => G.types e j hj) _ (slice_el hi) hr1 none (some (k, l)) h hc)
    · simp [interp] at h
  · -- from, to
    rename_i t x y1 y2 v k l k2 l2 ho
    simp only [ho, Op.operands, Option.toArray] at hv
    have hv : Vals V C s.boxes β w [some v, some (.cv (.one (.int k l))), some (.cv (.one (.int k2 l2)))] [a.eval x, a.eval y1, a.eval y2] := by simpa using hv
    cases hv with
    | cons h1 hv =>
      obtain ⟨d1, d2, hd, hr1, hr2⟩ := vals2 hv
      have hr0 := h1 v rfl
      simp only [List.cons.injEq, and_true] at hd
      simp only [SR, SVRep, CVRep, LeafRep] at hr1 hr2
      subst hr1 hr2
      split at h
      · rename_i i hi
        obtain ⟨info, d, z, I⟩ := G.types t i hi
        simp only [execOp, ho, Option.map_some, hd.1, hd.2]
        exact NOk.ofV (slice_ok M I (fun e _ j hj => G.types e j hj) _ (slice_el hi) hr0 (some (k, l)) (some (k2, l2)) h hc)
      · simp [interp] at h
  · -- fieldAddr
    rename_i t x f v ho
    simp only [ho, Op.operands, List.map_cons, List.map_nil] at hv
    obtain ⟨d, hd, hr⟩ := vals1 hv
    cases hd
    split at h
    · rename_i fs sz by_ z0 ty hi
      split at h
      · rename_i off size hp
        split at h
        · simp [interp] at h
        · obtain ⟨info, d, z, I⟩ := G.types t _ hi
          unfold fieldPlace at hp
          split at hp
          · rename_i o2 t2 hf
            split at hp
            · rename_i j hj
              cases hp
              obtain ⟨_, _, _, J⟩ := G.types t2 j hj
              simp only [execOp, ho]
              exact NOk.ofV (fieldAddr_ok M I.under I.kind J hf hr h)
            · cases hp
          · cases hp
      · simp [interp] at h
    · simp [interp] at h
  · -- field
    rename_i t x f ls ho
    simp only [ho, Op.operands, List.map_cons, List.map_nil] at hv
    obtain ⟨d, hd, hr⟩ := vals1 hv
    cases hd
    split at h
    · rename_i fs sz by_ z0 ty hi
      split at h
      · rename_i off t2 hf
        split at h
        · rename_i j hj
          obtain ⟨info, d, z, I⟩ := G.types t _ hi
          obtain ⟨_, _, _, J⟩ := G.types t2 j hj
          simp only [SR, SVRep, CVRep] at hr
          obtain ⟨cs0, he, hr⟩ := hr
          have hk := I.kind
          have hu := I.under
          cases d <;> simp [kindB] at hk
          rename_i fields
          subst hk
          rw [List.getElem?_map] at hf
          cases hfl : fields.toList[f]? with
          | none => rw [hfl] at hf; simp at hf
          | some fl =>
            rw [hfl] at hf; simp at hf
            obtain ⟨rfl, rfl⟩ := hf
            have hfa : fields[f]? = some fl := by rw [← hfl, Array.getElem?_toList]
            have hrun : (Instr.field t (a.eval x) f).run P w = (Go.part fl.type cs0 fl.offset).run P w := by
              simp only [Instr.field, Sem.run_bind, run_underlying hu, Result.andThen_ok, hfa, he, asAgg, Sem.run_pure]
            simp only [execOp, ho]
            refine NOk.ofV ?_
            rw [hrun]
            exact part_ok M J fl.offset hr h
        · simp [interp] at h
      · simp [interp] at h
    · simp [interp] at h
  · -- indexAddr
    rename_i t x y v1 v2 ho
    simp only [ho, Op.operands, List.map_cons, List.map_nil] at hv
    obtain ⟨d1, d2, hd, hr1, hr2⟩ := vals2 hv
    cases hd
    split at h
    · rename_i j hel
      obtain ⟨it, e, ht, hk, he⟩ := elemOf_ok hel
      obtain ⟨_, _, _, It⟩ := G.types t _ ht
      obtain ⟨info, d, z, J⟩ := G.types e _ he
      simp only [execOp, ho]
      exact NOk.ofV (indexAddr_ok M (slice_kind It hk) J hr1 hr2 h hc)
    · simp [interp] at h
  · -- index
    rename_i t x y l k i ho
    simp only [ho, Op.operands, List.map_cons, List.map_nil] at hv
    obtain ⟨d1, d2, hd, hr1, hr2⟩ := vals2 hv
    simp only [SR, SVRep, CVRep, LeafRep] at hr1 hr2
    subst hr1 hr2
    simp only [List.cons.injEq, and_true] at hd
    split at h
    · rename_i _ _ _ _ ht
      obtain ⟨_, d, _, It⟩ := G.types t _ ht
      obtain ⟨rfl, rfl, rfl⟩ := interp_ret h
      have hk := It.kind
      have hu := It.under
      cases d <;> simp [kindB] at hk
      simp only [execOp, ho, hd.1, hd.2]
      exact NOk.ofV (index_ok M hu l k i hc.1)
    · simp [interp] at h
  · -- makeMap
    rename_i t ho
    split at h
    · simp only [execOp, ho, Option.map_none]
      exact NOk.ofV (makeMap_ok M h)
    · simp [interp] at h
  · -- lookup
    rename_i t x y ok v1 v2 ho
    simp only [ho, Op.operands, List.map_cons, List.map_nil] at hv
    obtain ⟨d1, d2, hd, hr1, hr2⟩ := vals2 hv
    cases hd
    split at h
    · rename_i i j hm
      obtain ⟨it, k, e, ht, hk, hi, hj, h1, h2⟩ := mapOf_ok hm
      obtain ⟨_, _, _, It⟩ := G.types t it ht
      obtain ⟨_, _, _, I⟩ := G.types k i hi
      obtain ⟨_, _, _, J⟩ := G.types e j hj
      simp only [execOp, ho]
      exact NOk.ofV (lookup_ok G.tab M (map_kind It hk) I J h1 h2 hr1 hr2 h)
    · simp [interp] at h
  · -- mapUpdate
    rename_i t x y z v1 v2 v3 ho
    simp only [ho, Op.operands, List.map_cons, List.map_nil] at hv
    cases hv with
    | cons hr0 hv =>
      obtain ⟨d1, d2, hd, hr1, hr2⟩ := vals2 hv
      cases hd
      split at h
      · rename_i i j hm
        obtain ⟨it, k, e, ht, hk, hi, hj, h1, h2⟩ := mapOf_ok hm
        obtain ⟨_, _, _, It⟩ := G.types t it ht
        obtain ⟨_, _, _, I⟩ := G.types k i hi
        simp only [execOp, ho]
        exact NOk.ofU (update_ok G.tab M (map_kind It hk) I h1 h2 (hr0 _ rfl) hr1 hr2 h)
      · simp [interp] at h
  · -- insert
    rename_i t x y z v1 v2 v3 ho
    simp only [ho, Op.operands, List.map_cons, List.map_nil] at hv
    cases hv with
    | cons hr0 hv =>
      obtain ⟨d1, d2, hd, hr1, hr2⟩ := vals2 hv
      cases hd
      split at h
      · rename_i i j hm
        obtain ⟨it, k, e, ht, hk, hi, hj, h1, h2⟩ := mapOf_ok hm
        obtain ⟨_, _, _, It⟩ := G.types t it ht
        obtain ⟨_, _, _, I⟩ := G.types k i hi
        simp only [execOp, ho]
        exact NOk.ofU (update_ok G.tab M (map_kind It hk) I h1 h2 (hr0 _ rfl) hr1 hr2 h)
      · simp [interp] at h
  · -- extract
    rename_i x n l ho
    simp only [ho, Op.operands, List.map_cons, List.map_nil] at hv
    obtain ⟨d, hd, hr⟩ := vals1 hv
    cases hd
    simp only [execOp, ho]
    exact NOk.ofV (extract_ok M hr n h)
  · -- calls
    rename_i c ho
    split at h
    · -- of a builtin
      rename_i vs _ _ b hb
      simp only [ho, Op.operands, Call.operands, hb] at hv
      have hv : Vals V C s.boxes β w vs (c.args.toList.map a.eval) := by simpa using hv
      have hrun : (execOp a.eval o).run P w = (builtin b c.argTypes o.type (c.args.map fun | .const _ => true | _ => false) (c.args.map a.eval)).run P w := by
        simp only [execOp, ho, resolve, hb, Sem.run_bind, Sem.run_pure, Result.andThen_ok, invoke]; rfl
      rw [hrun]
      have hlist : ∀ l : List Value, c.args.toList.map a.eval = l → c.args.map a.eval = l.toArray := by
        rintro l rfl; apply Array.ext'; simp
      unfold builtinTodo at h
      split at h
      · -- len
        rename_i v
        obtain ⟨d, hd, hr⟩ := vals1 hv
        rw [hlist _ hd]
        split at h
        · rename_i t r hat
          split at h
          · rename_i i hi
            obtain ⟨info, d', z, I⟩ := G.types t i hi
            have : c.argTypes = (t :: r).toArray := by apply Array.ext'; simpa using hat
            rw [this]
            exact NOk.ofV (len_ok M I r hr h o.type)
          · simp [interp] at h
        · simp [interp] at h
      · -- append
        rename_i v1 v2
        obtain ⟨d1, d2, hd, hr1, hr2⟩ := vals2 hv
        rw [hlist _ hd]
        split at h
        · rename_i t u hat
          split at h
          · rename_i e _ _ _ _ e2 _ _ _ _ ht hu
            split at h
            · rename_i i hi
              obtain ⟨_, _, _, It⟩ := G.types t _ ht
              obtain ⟨_, _, _, Iu⟩ := G.types u _ hu
              obtain ⟨info, d', z, I⟩ := G.types e _ hi
              have : c.argTypes = #[t, u] := by apply Array.ext'; simpa using hat
              rw [this]
              exact NOk.ofV (appendF_ok M (slice_kind It rfl) (slice_kind Iu rfl) I hr1 hr2 o.type h hc)
            · simp [interp] at h
          · simp [interp] at h
        · simp [interp] at h
      · -- copy
        rename_i v1 v2
        obtain ⟨d1, d2, hd, hr1, hr2⟩ := vals2 hv
        rw [hlist _ hd]
        split at h
        · rename_i t u hat
          split at h
          · rename_i e _ _ _ _ e2 _ _ _ _ ht hu
            split at h
            · rename_i i hi
              obtain ⟨_, _, _, It⟩ := G.types t _ ht
              obtain ⟨info, d', z, I⟩ := G.types e _ hi
              have : c.argTypes = #[t, u] := by apply Array.ext'; simpa using hat
              rw [this]
              exact NOk.ofV (copy_ok M (slice_kind It rfl) I hr1 hr2 o.type h hc)
            · simp [interp] at h
          · simp [interp] at h
        · simp [interp] at h
      · -- min
        rename_i k1 x1 k2 x2
        obtain ⟨d1, d2, hd, hr1, hr2⟩ := vals2 hv
        simp only [SR, SVRep, CVRep, LeafRep] at hr1 hr2
        subst hr1 hr2
        rw [hlist _ hd]
        split at h
        · rename_i hk
          subst hk
          obtain ⟨rfl, _, rfl⟩ := interp_ret h
          exact NOk.ofV (min_ok M _ _ _ _ _)
        · simp [interp] at h
      · -- max
        rename_i k1 x1 k2 x2
        obtain ⟨d1, d2, hd, hr1, hr2⟩ := vals2 hv
        simp only [SR, SVRep, CVRep, LeafRep] at hr1 hr2
        subst hr1 hr2
        rw [hlist _ hd]
        split at h
        · rename_i hk
          subst hk
          obtain ⟨rfl, _, rfl⟩ := interp_ret h
          exact NOk.ofV (max_ok M _ _ _ _ _)
        · simp [interp] at h
      · simp [interp] at h
    · -- of a function
      rename_i fv f caps vs' hb
      unfold isCall at hcall
      rw [ho] at hcall
      simp [hb] at hcall
    · simp [interp] at h
  · simp [interp] at h
end
end Go.Ab
namespace Go.Ab
open Go
section
variable {V : Env} {P : Program} {C : Ctx}
theorem vals_cvs {bx : List (Nat × Box V.E)} {β : Nat → BI} {w : World} : ∀ {xs : List (Option (SV V.E))} {vs : List Value} {cs : List (CV V.E)}, Vals V C bx β w xs vs → cvsOf V xs = some cs → All2 (CVRep V.T bx β (okOf C β w) w) cs vs
  | [], _, cs, .nil, h => by simp [cvsOf] at h; subst h; exact .nil
  | x :: xs, _, cs, .cons h1 h2, h => by
    unfold cvsOf at h
    split at h
    · rename_i heq; cases heq
    · rename_i c r heq
      cases heq
      split at h
      · rename_i ls hl
        cases h
        exact .cons (h1 _ rfl) (vals_cvs h2 hl)
      · cases h
    · cases h
theorem caps_rep {bx : List (Nat × Box V.E)} {β : Nat → BI} {ok : Nat → Prop} {w : World} : ∀ {ls : List (Leaf V.E)} {vs : List Value}, LeafReps V.T bx β ok w ls vs → All2 (CVRep V.T bx β ok w) (ls.map CV.one) vs
  | [], vs, h => by simp only [LeafReps] at h; subst h; exact .nil
  | l :: ls, vs, h => by
    simp only [LeafReps] at h
    obtain ⟨v, r, rfl, h1, h2⟩ := h
    exact .cons h1 (caps_rep h2)
theorem SimB.put {s : St V.E} {β β' : Nat → BI} {a : Act} {w w' : World} {bx' : List (Nat × Box V.E)} (S : SimB V C s β a w) (M : MemOk V.T C bx' β' w') (X : Ext V.T s.boxes β (okOf C β w) w bx' β' (okOf C β' w') w')
    {dst : Option Tmp} (hd : ∀ d, dst = some d → d < s.n ∧ Nat.blt d 1000000 = true ∧ (V.t0 = true → d ≠ 0)) {res : Option (SV V.E)} {v : Value} (hr : ∀ x, res = some x → SR V C bx' β' w' x v) :
    SimB V C ⟨s.n, putDst V dst res s.slots, bx'⟩ β' (a.put dst v) w' := by
  cases dst with
  | none =>
    exact ⟨S.size, S.defers, fun k x hk => SVRep.ext X (S.slots k x hk), M⟩
  | some d =>
    have hlt := (hd d rfl).1
    refine ⟨by simpa [Act.put] using S.size, ⟨by simpa [Act.put] using S.defers.1, fun ht => ?_⟩, fun k x hk => ?_, M⟩
    · rw [← S.defers.2 ht]
      simp [Act.put, Array.getD_eq_getD_getElem?, Array.getElem?_setIfInBounds_ne ((hd d rfl).2.2 ht)]
    simp only [slot, putDst] at hk
    by_cases hkd : k = d
    · subst hkd
      rw [look_put_same] at hk
      have : getV C (a.put (some k) v).tmps k = v := by
        unfold getV
        rw [(hd k rfl).2.1]
        simp [Act.put, Array.getD_eq_getD_getElem?, S.size, hlt]
      rw [this]
      exact hr x hk
    · rw [look_put_other hkd] at hk
      have : getV C (a.put (some d) v).tmps k = getV C a.tmps k := by
        unfold getV
        split
        · simp [Act.put, Array.getD_eq_getD_getElem?, Array.getElem?_setIfInBounds_ne (Ne.symm hkd)]
        · rfl
      rw [this]
      exact SVRep.ext X (S.slots k x hk)
theorem getD_bool {a : Act} {d : Nat} {b : Bool} (h : a.tmps.getD d undef = .bool b) : a.tmps[d]? = some (.bool b) := by
  rw [Array.getD_eq_getD_getElem?] at h
  cases hx : a.tmps[d]? with
  | none => rw [hx] at h; simp [undef] at h
  | some v => rw [hx] at h; simp at h; rw [h]
theorem wants_ok {ops : Array Oper} {s : St V.E} {β : Nat → BI} {a : Act} {w : World} (S : SimB V C s β a w) {q : Orcs V} {o : Oper} {b : Bool} {c : List Cd} (h : wants V ops.toList s q o = some (b, c)) (hc : AllP c) :
    Region.wanted o (yielded ops a.tmps) = b := by
  unfold wants at h
  unfold Region.wanted
  split at h
  · rename_i hg
    cases h
    rw [hg]
  · rename_i j want hg
    rw [hg]
    simp only
    split at h
    · rename_i d hd
      rw [Array.getElem?_toList] at hd
      split at h
      · rename_i bb x hs ho
        cases h
        have hb := hc.1
        subst hb
        have hr := S.slotT hs
        simp only [SR, SVRep, CVRep, LeafRep] at hr
        unfold yielded
        rw [hd]
        simp only [Option.bind_some]
        rw [getD_bool hr]
        cases bb <;> cases want <;> rfl
      · rename_i hs
        cases h
        have hr := S.slotT hs
        simp only [SR, SVRep] at hr
        obtain ⟨vs, hv, hr⟩ := hr
        unfold yielded
        rw [hd]
        simp only [Option.bind_some]
        rw [Array.getD_eq_getD_getElem?] at hv
        cases hx : a.tmps[d]? with
        | none => rfl
        | some v => rw [hx] at hv; simp at hv; rw [hv]; rfl
      · cases h
    · cases h
theorem run_callFunc {f : FuncId} {fn : Func} {args : Array Value} {w : World} (hf : P.funcs[f]? = some fn) (hb : fn.body.isSome = true) (hn : (fn.name == "runtime.NumGoroutine") = false) :
    (callFunc f args).run P w = .ok (.enter f args) w := by
  have hb' : fn.body.isNone = false := by cases h : fn.body <;> simp_all
  simp only [callFunc, Sem.run_bind, run_program, Result.andThen_ok, hf, hn, hb', Bool.false_eq_true, if_false, Sem.run_pure]
theorem step_ok (G : Good V P) {ops : Array Oper} {i : Nat} {o : Oper} (ho : ops[i]? = some o) {q : Orcs V} {s s' : St V.E} {a : Act} {w : World} (S : Sim V C s a w) {cs : List Cd} {ac : Acc}
    (h : evOp V ops.toList i o q s = some (s', cs, ac)) (hc : AllP cs) {K : Act → World → Prop} {Q : Exit → Act → World → Prop} (hK : ∀ a' w', Sim V C s' a' w' → K a' w') :
    wpOp P ops Q i K a w := by
  obtain ⟨β, S⟩ := S
  unfold evOp at h
  split at h
  · rename_i hd
    have hd : ∀ d, o.dst = some d → d < s.n ∧ Nat.blt d 1000000 = true ∧ (V.t0 = true → d ≠ 0) := by
      intro d hdd
      rw [hdd] at hd
      simp only [dstOk, Bool.and_eq_true, Bool.or_eq_true, Bool.not_eq_true'] at hd
      refine ⟨(Nat.blt_eq).mp hd.1, hd.2.1, fun ht => ?_⟩
      rcases hd.2.2 with h | h
      · rw [ht] at h; cases h
      · exact Nat.ne_of_gt ((Nat.blt_eq).mp h)
    unfold wpOp
    rw [ho]
    simp only
    split at h
    · cases h
    · rename_i c hw
      cases h
      have hwant := wants_ok S hw hc
      rw [hwant]
      simp only [Bool.false_eq_true, if_false]
      exact hK _ _ ⟨β, S.put S.mem (Ext.refl _ _ _ _ _) hd (fun x hx => by cases hx; exact ⟨#[], rfl, .nil⟩)⟩
    · rename_i c hw
      split at h
      · rename_i v c' bs acc hrun
        cases h
        obtain ⟨hc1, hc2⟩ := AllP.append hc
        have hwant := wants_ok S hw hc1
        rw [hwant]
        simp only [if_true]
        refine .inl ?_
        by_cases hcall : isCall o = true
        · -- a call
          unfold isCall at hcall
          split at hcall
          · rename_i cl hop
            split at hcall
            · rename_i fv hcv
              have hrun' := hrun
              unfold core at hrun'
              have hv := opnds_ok S o.op.operands.toList (opTypes V o)
              generalize hvs : opnds V s (opTypes V o) o.op.operands.toList = vs at hrun' hv
              rw [hop] at hrun' hv
              have hops : (Op.call cl).operands.toList = fv :: cl.args.toList := by
                simp [Op.operands, Call.operands, hcv]
              rw [hops] at hv
              cases hv with
              | cons h1 hv =>
                rename_i x0 xs
                simp only [hcv] at hrun'
                split at hrun'
                · rename_i heq; cases heq
                · rename_i fv' f caps vs' heq heq'
                  cases heq
                  cases heq'
                  split at hrun'
                  · rename_i ls hls
                    have hf := h1 _ rfl
                    simp only [SR, SVRep, CVRep, LeafRep] at hf
                    obtain ⟨capv, hfv, hcap⟩ := hf
                    have hargs := (vals_cvs hv hls).append (caps_rep hcap)
                    obtain ⟨⟨fn, hfn, hbd, hnm⟩, hcalls⟩ := call_ok G.tab G.funcs S.mem hargs hrun' hc2
                    unfold Oper.wp
                    have hexec : (execOp a.eval o).run P w = .ok (.enter f (cl.args.map a.eval ++ capv)) w := by
                      simp only [execOp, hop, resolve, hcv, hfv, Deferred.ofValue, Sem.run_bind, Sem.run_pure, Result.andThen_ok, invoke]
                      rw [run_callFunc hfn hbd hnm]
                      simp
                    rw [hexec, Oper.upon_enter]
                    have harr : (cl.args.toList.map a.eval ++ capv.toList).toArray = cl.args.map a.eval ++ capv := by
                      apply Array.ext'; simp
                    rw [harr] at hcalls
                    refine hcalls.mono ?_
                    rintro e w' ⟨rv, rfl, β', x, rfl, hx, M', X'⟩
                    exact hK _ _ ⟨β', S.put M' X' hd (fun y hy => by cases hy; exact hx)⟩
                  · simp [interp] at hrun'
                · simp [interp] at hrun'
            · cases hcall
          · cases hcall
        · simp only [Bool.not_eq_true] at hcall
          obtain ⟨β', w', M', X', hr⟩ := exec_ok G S (V.base + o.dst.getD 0) o hcall _ hrun hc2
          unfold Oper.wp
          rcases hr with ⟨rv, x, rfl, hr, hx⟩ | ⟨rfl, hr⟩
          · rw [hr, Oper.upon_value]
            exact hK _ _ ⟨β', S.put M' X' hd (fun y hy => by cases hy; exact hx)⟩
          · rw [hr, Oper.upon_skip]
            exact hK _ _ ⟨β', S.put M' X' hd (fun y hy => by cases hy)⟩
      · cases h
  · cases h
theorem Sim.drew {s : St V.E} {a : Act} {w : World} (S : Sim V C s a w) : Sim V C s a { w with drawn := w.drawn + 1 } := by
  obtain ⟨β, S⟩ := S
  obtain ⟨M, X⟩ := S.mem.grow (Grow.drew w)
  exact ⟨β, S.size, S.defers, fun k x hk => SVRep.ext X (S.slots k x hk), M⟩
theorem ops_ok (G : Good V P) {ops : Array Oper} {q : Orcs V} {Q : Exit → Act → World → Prop} : ∀ (os : List Oper) (i : Nat) (_hi : ops.toList.drop i = os) (s s' : St V.E) (cs : List Cd) (acs : List Acc) (a : Act) (w : World), Sim V C s a w →
    evOps V ops.toList q i os s = some (s', cs, acs) → AllP cs → (∀ a' w', Sim V C s' a' w' → Q .normal a' w') → wpOps P ops Q ((List.range ops.size).drop i) a w
  | [], i, hi, s, s', cs, acs, a, w, S, h, hc, hQ => by
    simp only [evOps, Option.some.injEq, Prod.mk.injEq] at h
    obtain ⟨rfl, _, _⟩ := h
    have : ops.size ≤ i := by simpa using hi
    have hn : (List.range ops.size).drop i = [] := by simpa using this
    rw [hn]
    exact hQ _ _ S
  | o :: os, i, hi, s, s', cs, acs, a, w, S, h, hc, hQ => by
    have hlt : i < ops.size := by
      rcases Nat.lt_or_ge i ops.size with h | h
      · exact h
      · have : ops.toList.drop i = [] := by simpa using h
        rw [this] at hi; cases hi
    have hn : (List.range ops.size).drop i = i :: (List.range ops.size).drop (i + 1) := by
      rw [List.drop_eq_getElem_cons (by simpa using hlt)]; simp
    have ho : ops[i]? = some o := by
      have := congrArg (·[0]?) hi
      simpa using this
    have hi' : ops.toList.drop (i + 1) = os := by
      have := congrArg List.tail hi
      simpa using this
    rw [hn, wpOps_cons]
    simp only [evOps] at h
    split at h
    · rename_i s1 c1 a1 h1
      split at h
      · rename_i s2 c2 as h2
        cases h
        obtain ⟨hc1, hc2⟩ := AllP.append hc
        exact step_ok G ho S h1 hc1 fun a' w' S' => ops_ok G os (i + 1) hi' s1 _ c2 as a' w' S' h2 hc2 hQ
      · cases h
    · cases h
end
end Go.Ab
