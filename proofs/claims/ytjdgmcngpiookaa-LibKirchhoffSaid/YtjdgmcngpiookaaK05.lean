/- The results of a call, some of which become boxes of the caller's. A call of a function that writes into a piece of an array. A call does what the abstract one tells. One operation of a frame that an abstract state tells. Conditions: none beyond those that each theorem names. -/
import Derived.Test.YtjdgmcngpiookaaK04
namespace Go.Ab
open Go
structure NB (E : Nat → Type) where
  id : Nat
  b : Box E
  bi : BI
def putN {E : Nat → Type} : List (NB E) → List (Nat × Box E) → List (Nat × Box E)
  | [], bx => bx
  | n :: N, bx => putN N (put n.id n.b bx)
def getN {E : Nat → Type} (N : List (NB E)) (j : Nat) : Option (NB E) := N.find? fun n => n.id == j
theorem getN_mem {E : Nat → Type} {N : List (NB E)} {j : Nat} {n : NB E} (h : getN N j = some n) : n ∈ N ∧ n.id = j := by
  unfold getN at h
  exact ⟨List.mem_of_find?_eq_some h, by simpa using List.find?_some h⟩
theorem getN_of {E : Nat → Type} : ∀ {N : List (NB E)} {n : NB E}, (N.map (·.id)).Nodup → n ∈ N → getN N n.id = some n
  | [], _, _, h => by simp at h
  | m :: N, n, hd, h => by
    simp only [List.map_cons, List.nodup_cons] at hd
    rcases List.mem_cons.1 h with rfl | h
    · simp [getN]
    · have hne : m.id ≠ n.id := fun e => hd.1 (e ▸ List.mem_map.2 ⟨n, h, rfl⟩)
      have := getN_of hd.2 h
      unfold getN at this ⊢
      rw [List.find?_cons]
      have : (m.id == n.id) = false := by simpa using hne
      rw [this]
      assumption
theorem look_putN {E : Nat → Type} : ∀ (N : List (NB E)) (bx : List (Nat × Box E)) (j : Nat), (N.map (·.id)).Nodup → look j (putN N bx) = match getN N j with | some n => some n.b | none => look j bx
  | [], bx, j, _ => rfl
  | m :: N, bx, j, hd => by
    simp only [List.map_cons, List.nodup_cons] at hd
    rw [putN, look_putN N _ j hd.2]
    by_cases hj : m.id = j
    · subst hj
      have h1 : getN N m.id = none := by
        unfold getN
        rw [List.find?_eq_none]
        intro n hn
        simp only [beq_iff_eq]
        exact fun e => hd.1 (e ▸ List.mem_map.2 ⟨n, hn, rfl⟩)
      have h2 : getN (m :: N) m.id = some m := by simp [getN]
      rw [h1, h2, look_put_same]
    · have h2 : getN (m :: N) j = getN N j := by
        unfold getN
        rw [List.find?_cons]
        have : (m.id == j) = false := by simpa using hj
        rw [this]
      rw [h2, look_put_other (Ne.symm hj)]
section
variable {V : Env} {P : Program} {C : Ctx} {w : World}
variable {res : Option (SV V.E)} {cs : List Prop} {bx' : List (Nat × Box V.E)} {ac : Acc}
def NBok (V : Env) (ok : Nat → Prop) (w : World) (n : NB V.E) : Prop :=
  match n.b with
  | .arr e t xs 0 false => n.bi.own = n.bi.hdr.ownBlock.toList ∧ ArrOwn V.T ok w e t xs n.bi.hdr
  | .rows e e2 t xss 0 0 .opn => RowsOwn V.T ok w e e2 t xss n.bi
  | _ => False
def RLeaf (V : Env) (ok : Nat → Prop) (w : World) (N : List (NB V.E)) (l : Leaf V.E) (v : Value) : Prop :=
  (∀ bx β, LeafRep V.T bx β ok w l v) ∨ ∃ n ∈ N, l = .ar n.id 0 ∧ v = n.bi.hdr ∧ v.oneCell' = true
theorem RLeaf.mono {ok : Nat → Prop} {N M : List (NB V.E)} (h : ∀ n ∈ N, n ∈ M) {l : Leaf V.E} {v : Value} (k : RLeaf V ok w N l v) : RLeaf V ok w M l v := by
  rcases k with k | ⟨n, hn, k⟩
  · exact .inl k
  · exact .inr ⟨n, h n hn, k⟩
theorem arr_one {ok : Nat → Prop} {e : TypeId} {t : Ty} {xs : List (t.den V.E)} {v : Value} (h : ArrOwn V.T ok w e t xs v) : v.oneCell' = true := by
  obtain ⟨_, ⟨_, q⟩, _⟩ := h
  rcases q with ⟨q, _⟩ | ⟨_, _, _, q, _⟩ <;> rw [q] <;> rfl
theorem own_ok {ok : Nat → Prop} : ∀ {os : List (TypeId × TypeId)} {ls : List (Leaf V.E)} {vs : List Value} {ow : List Nat}, OwnLeaves V.T ok w os ls vs ow →
    ∀ (id : Nat) (bx : List (Nat × Box V.E)) (k : List (Leaf V.E) → Todo V.E) (rs ws : List Nat), interp V bx (ownLeaves V id os ls k) rs ws = some (res, cs, bx', ac) →
    ∃ (N : List (NB V.E)) (ls' : List (Leaf V.E)) (rs' ws' : List Nat), interp V (putN N bx) (k ls') rs' ws' = some (res, cs, bx', ac) ∧ (N.map (·.id)).Nodup ∧ (∀ n ∈ N, look n.id bx = none) ∧ (∀ n ∈ N, NBok V ok w n) ∧
      ow = N.flatMap (·.bi.own) ∧ All2 (RLeaf V ok w N) ls' vs
  | os, _, _, _, .nil, id, bx, k, rs, ws, h => by
    have h : interp V bx (k []) rs ws = some (res, cs, bx', ac) := by
      cases os with
      | nil => exact h
      | cons o os => obtain ⟨e, e2⟩ := o; exact h
    exact ⟨[], [], rs, ws, h, by simp, by simp, by simp, rfl, .nil⟩
  | _, _, _, _, .more h1 h2, id, bx, k, rs, ws, h => by
    have h : interp V bx (ownLeaves V (id + 1000) [] _ fun ls => k (_ :: ls)) rs ws = some (res, cs, bx', ac) := h
    obtain ⟨N, ls', rs', ws', a1, a2, a3, a4, a5, a6⟩ := own_ok h2 _ _ _ _ _ h
    exact ⟨N, _, rs', ws', a1, a2, a3, a4, a5, .cons (.inl h1) a6⟩
  | _, _, _, _, .data h1 h2, id, bx, k, rs, ws, h => by
    have h : interp V bx (ownLeaves V (id + 1000) _ _ fun ls => k (_ :: ls)) rs ws = some (res, cs, bx', ac) := h
    obtain ⟨N, ls', rs', ws', a1, a2, a3, a4, a5, a6⟩ := own_ok h2 _ _ _ _ _ h
    exact ⟨N, _, rs', ws', a1, a2, a3, a4, a5, .cons (.inl h1) a6⟩
  | _, _, _, _, @OwnLeaves.arr _ _ _ e os t st xs ls v vs ow he hA h2, id, bx, k, rs, ws, h => by
    obtain ⟨e, rfl⟩ := Nat.exists_eq_add_one_of_ne_zero he
    have h : interp V bx (newBox V id (.arr (e + 1) t xs 0 false) (ownLeaves V (id + 1000) os ls fun ls => k (.ar id 0 :: ls))) rs ws = some (res, cs, bx', ac) := by
      cases t <;> exact h
    obtain ⟨hid, rs1, ws1, h⟩ := newBox_ok h
    obtain ⟨N, ls', rs', ws', a1, a2, a3, a4, a5, a6⟩ := own_ok h2 _ _ _ _ _ h
    have hne : ∀ n ∈ N, n.id ≠ id := by
      intro n hn e
      have := a3 n hn
      rw [e, look_put_same] at this; cases this
    refine ⟨⟨id, .arr (e + 1) t xs 0 false, ⟨0, v, v.ownBlock.toList, []⟩⟩ :: N, .ar id 0 :: ls', rs', ws', a1, ?_, ?_, ?_, by rw [a5]; simp, .cons (.inr ⟨_, List.mem_cons_self, rfl, rfl, arr_one hA⟩) (a6.imp fun _ _ k => k.mono fun n hn => List.mem_cons_of_mem _ hn)⟩
    · simp only [List.map_cons, List.nodup_cons]
      exact ⟨fun hm => by obtain ⟨n, hn, e⟩ := List.mem_map.1 hm; exact hne n hn e, a2⟩
    · intro n hn
      rcases List.mem_cons.1 hn with rfl | hn
      · exact hid
      · have := a3 n hn
        rw [look_put_other (hne n hn)] at this; exact this
    · intro n hn
      rcases List.mem_cons.1 hn with rfl | hn
      · exact ⟨rfl, hA⟩
      · exact a4 n hn
  | _, _, _, _, @OwnLeaves.rows _ _ _ e e2 os t st xss ls v vs ow rows own he he2 hA h2, id, bx, k, rs, ws, h => by
    obtain ⟨e, rfl⟩ := Nat.exists_eq_add_one_of_ne_zero he
    obtain ⟨e2, rfl⟩ := Nat.exists_eq_add_one_of_ne_zero he2
    have h : interp V bx (newBox V id (.rows (e + 1) (e2 + 1) t xss 0 0 .opn) (ownLeaves V (id + 1000) os ls fun ls => k (.ar id 0 :: ls))) rs ws = some (res, cs, bx', ac) := h
    obtain ⟨hid, rs1, ws1, h⟩ := newBox_ok h
    obtain ⟨N, ls', rs', ws', a1, a2, a3, a4, a5, a6⟩ := own_ok h2 _ _ _ _ _ h
    have hne : ∀ n ∈ N, n.id ≠ id := by
      intro n hn e
      have := a3 n hn
      rw [e, look_put_same] at this; cases this
    have hone : v.oneCell' = true := by
      obtain ⟨⟨_, q⟩, _⟩ := hA
      rcases q with ⟨q, _⟩ | ⟨_, _, _, q, _⟩ <;> (simp only at q; rw [q]; rfl)
    refine ⟨⟨id, .rows (e + 1) (e2 + 1) t xss 0 0 .opn, ⟨0, v, own, rows⟩⟩ :: N, .ar id 0 :: ls', rs', ws', a1, ?_, ?_, ?_, by rw [a5]; simp, .cons (.inr ⟨_, List.mem_cons_self, rfl, rfl, hone⟩) (a6.imp fun _ _ k => k.mono fun n hn => List.mem_cons_of_mem _ hn)⟩
    · simp only [List.map_cons, List.nodup_cons]
      exact ⟨fun hm => by obtain ⟨n, hn, e⟩ := List.mem_map.1 hm; exact hne n hn e, a2⟩
    · intro n hn
      rcases List.mem_cons.1 hn with rfl | hn
      · exact hid
      · have := a3 n hn
        rw [look_put_other (hne n hn)] at this; exact this
    · intro n hn
      rcases List.mem_cons.1 hn with rfl | hn
      · exact hA
      · exact a4 n hn
def RVal (V : Env) (ok : Nat → Prop) (w : World) (N : List (NB V.E)) : CV V.E → Value → Prop
  | .one l, v => RLeaf V ok w N l v
  | .ag ls, v => ∃ cs, v = .agg cs ∧ All2 (RLeaf V ok w N) ls cs.toList
theorem RVal.mono {ok : Nat → Prop} {N M : List (NB V.E)} (h : ∀ n ∈ N, n ∈ M) {c : CV V.E} {v : Value} (k : RVal V ok w N c v) : RVal V ok w M c v := by
  cases c with
  | one l => exact RLeaf.mono h k
  | ag ls => obtain ⟨cs, rfl, k⟩ := k; exact ⟨cs, rfl, k.imp fun _ _ k => RLeaf.mono h k⟩
theorem putN_append {E : Nat → Type} : ∀ (N M : List (NB E)) (bx : List (Nat × Box E)), putN (N ++ M) bx = putN M (putN N bx)
  | [], _, _ => rfl
  | _ :: N, M, _ => putN_append N M _
theorem res_ok {ok : Nat → Prop} : ∀ (os : List (List (TypeId × TypeId))) (ts : List Ty) (y : HL V.E ts) (vs : List Value) (ow : List Nat), ResRep V.T ok w os ts y vs ow →
    ∀ (id : Nat) (bx : List (Nat × Box V.E)) (k : List (CV V.E) → Todo V.E) (rs ws : List Nat), interp V bx (resCV V id os ts y k) rs ws = some (res, cs, bx', ac) →
    ∃ (N : List (NB V.E)) (cvs : List (CV V.E)) (rs' ws' : List Nat), interp V (putN N bx) (k cvs) rs' ws' = some (res, cs, bx', ac) ∧ (N.map (·.id)).Nodup ∧ (∀ n ∈ N, look n.id bx = none) ∧ (∀ n ∈ N, NBok V ok w n) ∧
      ow = N.flatMap (·.bi.own) ∧ All2 (RVal V ok w N) cvs vs
  | os, [], y, vs, ow, ⟨h1, h2⟩, id, bx, k, rs, ws, h => by
    subst h1 h2
    exact ⟨[], [], rs, ws, h, by simp, by simp, by simp, rfl, .nil⟩
  | os, t :: ts, (y, r), _, _, ⟨v, vr, o1, o2, rfl, rfl, h1, h2⟩, id, bx, k, rs, ws, h => by
    simp only [resCV] at h
    obtain ⟨ls, hl, hv⟩ := h1
    obtain ⟨N, ls', rs1, ws1, a1, a2, a3, a4, a5, a6⟩ := own_ok hl _ _ _ _ _ h
    cases hc : ofLeaves (isNm t) ls' with
    | none => rw [hc] at a1; simp [interp] at a1
    | some c =>
      rw [hc] at a1
      simp only at a1
      have hos : os.drop 1 = os.tail := by cases os <;> rfl
      rw [hos] at a1
      obtain ⟨M, cvs, rs2, ws2, b1, b2, b3, b4, b5, b6⟩ := res_ok _ _ _ _ _ h2 _ _ _ _ _ a1
      have hval : RVal V ok w N c v := by
        cases hn : isNm t with
        | true =>
          rw [hn] at hc hv
          simp [ofLeaves] at hc
          subst hc
          simp at hv
          exact ⟨ls.toArray, hv, by simpa using a6⟩
        | false =>
          rw [hn] at hc hv
          simp at hv
          subst hv
          cases a6 with
          | cons q1 q2 =>
            cases q2
            simp [ofLeaves] at hc
            subst hc
            exact q1
      refine ⟨N ++ M, c :: cvs, rs2, ws2, by rw [putN_append]; exact b1, ?_, ?_, ?_, by rw [a5, b5, List.flatMap_append], .cons (hval.mono fun n hn => List.mem_append.2 (.inl hn)) (b6.imp fun _ _ k => k.mono fun n hn => List.mem_append.2 (.inr hn))⟩
      · rw [List.map_append]
        refine List.nodup_append.2 ⟨a2, b2, fun x hx y hy e => ?_⟩
        subst e
        obtain ⟨n, hn, rfl⟩ := List.mem_map.1 hx
        obtain ⟨m, hm, e⟩ := List.mem_map.1 hy
        have := b3 m hm
        rw [e, look_putN _ _ _ a2, getN_of a2 hn] at this
        cases this
      · intro n hn
        rcases List.mem_append.1 hn with hn | hn
        · exact a3 n hn
        · have := b3 n hn
          rw [look_putN _ _ _ a2] at this
          split at this
          · cases this
          · exact this
      · intro n hn
        rcases List.mem_append.1 hn with hn | hn
        · exact a4 n hn
        · exact b4 n hn
end
end Go.Ab
namespace Go.Ab
open Go
section
variable {V : Env} {P : Program} {C : Ctx} {w : World}
variable {res : Option (SV V.E)} {cs : List Prop} {bx' : List (Nat × Box V.E)} {ac : Acc}
theorem upd_self (β : Nat → BI) (id : Nat) : upd β id (β id) = β := by
  funext j; unfold upd; split
  · rename_i h; rw [h]
  · rfl
theorem argsRep_nil {ok : Nat → Prop} : ∀ (ts : List Ty) (x : HL V.E ts) (vs : List Value) (own : List Nat), ArgsRep V.T ok w [] ts x vs own → own = []
  | [], _, _, _, h => h.2
  | t :: ts, (x, r), _, _, ⟨v, vr, o1, o2, rfl, rfl, h1, h2⟩ => by
    have h1 : ArgRep V.T ok w 0 t x v o1 := h1
    cases h1 with
    | data _ => rw [argsRep_nil ts r vr o2 h2]; rfl
theorem ownLeaves_nil : ∀ (ls : List (Leaf V.E)) (id : Nat) (k : List (Leaf V.E) → Todo V.E), ownLeaves V id [] ls k = k ls
  | [], _, _ => rfl
  | l :: ls, id, k => by
    show ownLeaves V (id + 1000) [] ls (fun ls => k (l :: ls)) = _
    rw [ownLeaves_nil ls]
theorem own_data {ok : Nat → Prop} : ∀ {ls : List (Leaf V.E)} {vs : List Value} {ow : List Nat}, OwnLeaves V.T ok w [] ls vs ow → All2 (fun l v => ∀ bx β, LeafRep V.T bx β ok w l v) ls vs
  | _, _, _, .nil => .nil
  | _, _, _, .more h1 h2 => .cons h1 (own_data h2)
theorem res_data {ok : Nat → Prop} : ∀ (ts : List Ty) (y : HL V.E ts) (vs : List Value) (ow : List Nat), ResRep V.T ok w [] ts y vs ow →
    ∀ (id : Nat) (bx : List (Nat × Box V.E)) (k : List (CV V.E) → Todo V.E) (rs ws : List Nat), interp V bx (resCV V id [] ts y k) rs ws = some (res, cs, bx', ac) →
    ∃ cvs, interp V bx (k cvs) rs ws = some (res, cs, bx', ac) ∧ All2 (fun c v => ∀ bx β, CVRep V.T bx β ok w c v) cvs vs
  | [], y, vs, ow, ⟨h1, _⟩, id, bx, k, rs, ws, h => by subst h1; exact ⟨[], h, .nil⟩
  | t :: ts, (y, r), _, _, ⟨v, vr, o1, o2, rfl, _, h1, h2⟩, id, bx, k, rs, ws, h => by
    obtain ⟨ls, hl, hv⟩ := h1
    have hall := own_data (V := V) (w := w) hl
    simp only [resCV, List.headD_nil, ownLeaves_nil] at h
    cases hc : ofLeaves (isNm t) (t.toL V.T y) with
    | none => rw [hc] at h; simp [interp] at h
    | some c =>
      rw [hc] at h
      simp only [List.drop_nil] at h
      obtain ⟨cvs, b1, b2⟩ := res_data ts r vr o2 h2 _ _ _ _ _ h
      refine ⟨c :: cvs, b1, .cons (fun bx β => ?_) b2⟩
      cases hn : isNm t with
      | true =>
        rw [hn] at hc hv
        simp [ofLeaves] at hc
        subst hc
        simp at hv
        exact ⟨ls.toArray, hv, by simpa using hall.imp fun _ _ k => k bx β⟩
      | false =>
        rw [hn] at hc hv
        simp at hv
        subst hv
        generalize Ty.toL V.T t y = q at *
        cases hall with
        | cons q1 q2 =>
          cases q2
          simp [ofLeaves] at hc
          subst hc
          exact q1 bx β
theorem conds_resd {c0 : List Prop} : ∀ (ts : List Ty) (id : Nat) (y : HL V.E ts) (k : List (CV V.E) → Todo V.E),
    (∀ l bx rs ws res cs bx' ac, interp V bx (k l) rs ws = some (res, cs, bx', ac) → cs = c0) →
    ∀ bx rs ws res cs bx' ac, interp V bx (resCV V id [] ts y k) rs ws = some (res, cs, bx', ac) → cs = c0
  | [], id, y, k, hk, bx, rs, ws, res, cs, bx', ac, h => hk _ _ _ _ _ _ _ _ h
  | t :: ts, id, (y, r), k, hk, bx, rs, ws, res, cs, bx', ac, h => by
    simp only [resCV, List.headD_nil, ownLeaves_nil] at h
    split at h
    · exact conds_resd ts _ r _ (fun l => hk _) _ _ _ _ _ _ _ h
    · simp [interp] at h
def CallsOk (V : Env) (P : Program) (C : Ctx) (bx : List (Nat × Box V.E)) (β : Nat → BI) (w : World) (f : FuncId) (vs : List Value) (res : Option (SV V.E)) (bx' : List (Nat × Box V.E)) : Prop :=
  (∃ fn, P.funcs[f]? = some fn ∧ fn.body.isSome = true ∧ (fn.name == "runtime.NumGoroutine") = false) ∧
  Calls P f vs.toArray w fun e w' => ∃ v, e = .returned v ∧ ∃ β' x, res = some x ∧ SVRep V.T bx' β' (okOf C β' w') w' x v ∧ MemOk V.T C bx' β' w' ∧ Ext V.T bx β (okOf C β w) w bx' β' (okOf C β' w') w'
theorem callw_ok (HT : V.T.Ok) {f : FuncId} {S : FW V.E} (HW : MeetsW V P f S) {bx : List (Nat × Box V.E)} {β : Nat → BI} (M : MemOk V.T C bx β w) {dst : Nat} {args : List (CV V.E)} {vs : List Value} (ha : All2 (CVRep V.T bx β (okOf C β w) w) args vs)
    {d : Dyn V.E} {rs ws : List Nat} (h : interp V bx (callwTodo V dst (some S) args d) rs ws = some (res, cs, bx', ac)) (hc : AllP cs) : CallsOk V P C bx β w f vs res bx' := by
  unfold callwTodo at h
  split at h
  · rename_i S' id ver i n rest heq
    cases heq
    cases ha with
    | cons h1 h2 =>
      rename_i v vr
      obtain ⟨bx1, β1, ls, rs1, ws1, gs, M1, X1, h, _, _, _, _, hargs⟩ := give_ok HT [] rest vr bx β M h2 _ _ _ h
      simp only [interp] at h
      split at h
      · rename_i e t xs v0 hb
        split at h
        · rename_i hv
          simp only [Bool.and_eq_true] at hv
          have he := eq_of_beq' hv.2
          split at h
          · rename_i ht
            subst ht
            subst he
            split at h
            · rename_i x y hx hy
              have h1' := CVRep.ext X1 h1
              simp only [CVRep, LeafRep, hb] at h1'
              obtain ⟨_, _, h1'⟩ := h1'
              obtain ⟨i0, n0, hin, b, cap, hh, hic, hveq⟩ := h1' (eq_of_beq' hv.1)
              have hk : ∀ l bx rs ws res cs bx' ac, interp V bx (.write id (.arr S.e S.t y.1 v0 false) (retCV V [S.f xs i n x = some (y.1, y.2), y.1.length = xs.length] l)) rs ws = some (res, cs, bx', ac) → cs = [S.f xs i n x = some (y.1, y.2), y.1.length = xs.length] := by
                intro l bx rs ws res cs bx' ac h
                simp only [interp] at h
                unfold retCV at h
                split at h <;> exact (interp_ret h).2.1.symm
              have hcs := conds_resd _ _ _ _ hk _ _ _ _ _ _ _ h
              rw [hcs] at hc
              obtain ⟨hf, hlen, _⟩ := hc
              have hargs := hargs S.args x hx
              rw [argsRep_nil _ _ _ _ hargs] at hargs
              obtain ⟨hown, hA⟩ := M1.boxes id _ hb
              have hown' : (β1 id).own = [b] := by rw [hown, hh]; rfl
              have hbo : b ∈ (β1 id).own := by rw [hown']; simp
              refine ⟨HW.1, (HW.2 xs i n x y.1 y.2 hf hlen (okOf C β1 w) w v vr (β1 id).hdr b ⟨cap, hh, i0, n0, hin, hic, hveq⟩ hA hargs (M1.mine id b hbo).1 (fun hk => hk.2.2 id hbo) (fun c hc => hc.1)).mono ?_⟩
              rintro e w' ⟨rv, rfl, hbut, hA', hres⟩
              obtain ⟨cvs, b1, b2⟩ := res_data _ _ _ _ hres _ _ _ _ _ h
              simp only [interp] at b1
              have hβ : upd β1 id (β1 id) = β1 := upd_self β1 id
              have hokR : ∀ c, okW (okOf C β1 w) w b w' c → okOf C (upd β1 id (β1 id)) w' c := by
                rintro c ⟨k1, k2, k3⟩
                rw [hβ]
                refine ⟨k1, ?_, fun j hj => ?_⟩
                · rcases k2 with k2 | k2
                  · exact k2.2.1
                  · exact .inr (.inl (Nat.le_trans M1.kept.size k2))
                · rcases k2 with k2 | k2
                  · exact k2.2.2 j hj
                  · have := (M1.mine j c hj).1; omega
              have LR : Later (okW (okOf C β1 w) w b w') w' (okOf C (upd β1 id (β1 id)) w') w' := ⟨hokR, fun _ _ => rfl⟩
              obtain ⟨M2, X2⟩ := M1.set (w' := w') id (.arr S.e S.t y.1 v0 false) (β1 id) hbut.os hbut.tape hbut.output hbut.size
                (fun x hx hn => hbut.heap x hx (by rw [hown'] at hn; exact hn)) (fun x hx => .inl hx) (M1.nodup id)
                (fun b0 h0 => by rw [hb] at h0; cases h0; exact ⟨rfl, Nat.le_refl _, fun _ => ⟨rfl, hlen⟩⟩)
                (fun _ => ⟨by rw [upd_same]; exact hown, by rw [upd_same]; exact hA'.later LR fun _ _ => rfl⟩)
              have hval : ∀ c v, (∀ bx β, CVRep V.T bx β (okW (okOf C β1 w) w b w') w' c v) → CVRep V.T (put id (.arr S.e S.t y.1 v0 false) bx1) (upd β1 id (β1 id)) (okOf C (upd β1 id (β1 id)) w') w' c v :=
                fun c v k => CVRep.ext ⟨LR, fun _ b h => ⟨b, h, compat.refl _ _ _⟩⟩ (k _ (upd β1 id (β1 id)))
              refine ⟨_, rfl, upd β1 id (β1 id), ?_⟩
              unfold retCV at b1
              split at b1
              · rename_i c
                obtain ⟨rfl, _, rfl⟩ := interp_ret b1
                cases b2 with
                | cons q1 q2 => cases q2; exact ⟨_, rfl, hval _ _ q1, M2, X1.trans X2⟩
              · rename_i hne
                obtain ⟨rfl, _, rfl⟩ := interp_ret b1
                refine ⟨_, rfl, ?_, M2, X1.trans X2⟩
                simp only [SVRep]
                refine ⟨rv.toArray, ?_, by simpa using b2.imp fun _ _ k => hval _ _ k⟩
                have hl := b2.length
                cases rv with
                | nil => rfl
                | cons v rv =>
                  cases rv with
                  | cons _ _ => rfl
                  | nil =>
                    match cvs, hl, hne with
                    | [c], _, hne => exact (hne c rfl).elim
            · simp [interp] at h
          · simp [interp] at h
        · simp [interp] at h
      · simp [interp] at h
  · simp [interp] at h
end
end Go.Ab
namespace Go.Ab
open Go
section
variable {V : Env} {P : Program} {C : Ctx} {w : World}
variable {res : Option (SV V.E)} {cs : List Prop} {bx' : List (Nat × Box V.E)} {ac : Acc}
theorem conds_own {c0 : List Prop} : ∀ (ls : List (Leaf V.E)) (id : Nat) (os : List (TypeId × TypeId)) (k : List (Leaf V.E) → Todo V.E),
    (∀ l bx rs ws res cs bx' ac, interp V bx (k l) rs ws = some (res, cs, bx', ac) → cs = c0) →
    ∀ bx rs ws res cs bx' ac, interp V bx (ownLeaves V id os ls k) rs ws = some (res, cs, bx', ac) → cs = c0
  | [], id, os, k, hk, bx, rs, ws, res, cs, bx', ac, h => by
    have h : interp V bx (k []) rs ws = some (res, cs, bx', ac) := by
      cases os with
      | nil => exact h
      | cons o os => obtain ⟨e, e2⟩ := o; exact h
    exact hk _ _ _ _ _ _ _ _ h
  | l :: ls, id, os, k, hk, bx, rs, ws, res, cs, bx', ac, h => by
    have rec1 : ∀ os' id' (f : List (Leaf V.E) → List (Leaf V.E)) bx rs ws, interp V bx (ownLeaves V id' os' ls fun l => k (f l)) rs ws = some (res, cs, bx', ac) → cs = c0 :=
      fun os' id' f bx rs ws h => conds_own ls id' os' (fun l => k (f l)) (fun l => hk _) _ _ _ _ _ _ _ h
    unfold ownLeaves at h
    split at h
    · rename_i heq; cases heq
    · rename_i heq; cases heq; exact rec1 _ _ (l :: ·) _ _ _ h
    · rename_i heq; cases heq
      obtain ⟨_, rs', ws', h⟩ := newBox_ok h
      exact rec1 _ _ (Leaf.ar id 0 :: ·) _ _ _ h
    · rename_i heq; cases heq
      obtain ⟨_, rs', ws', h⟩ := newBox_ok h
      exact rec1 _ _ (Leaf.ar id 0 :: ·) _ _ _ h
    · rename_i heq; cases heq; exact rec1 _ _ (l :: ·) _ _ _ h
    · simp [interp] at h
theorem conds_res {c0 : List Prop} : ∀ (ts : List Ty) (id : Nat) (os : List (List (TypeId × TypeId))) (y : HL V.E ts) (k : List (CV V.E) → Todo V.E),
    (∀ l bx rs ws res cs bx' ac, interp V bx (k l) rs ws = some (res, cs, bx', ac) → cs = c0) →
    ∀ bx rs ws res cs bx' ac, interp V bx (resCV V id os ts y k) rs ws = some (res, cs, bx', ac) → cs = c0
  | [], id, os, y, k, hk, bx, rs, ws, res, cs, bx', ac, h => hk _ _ _ _ _ _ _ _ h
  | t :: ts, id, os, (y, r), k, hk, bx, rs, ws, res, cs, bx', ac, h => by
    simp only [resCV] at h
    refine conds_own _ _ _ _ (fun l bx rs ws res cs bx' ac h => ?_) _ _ _ _ _ _ _ h
    split at h
    · exact conds_res ts _ _ r _ (fun l => hk _) _ _ _ _ _ _ _ h
    · simp [interp] at h
theorem NBok.later {ok ok' : Nat → Prop} (L : Later ok w ok' w) {n : NB V.E} (h : NBok V ok w n) : NBok V ok' w n := by
  unfold NBok at h ⊢
  split at h
  · exact ⟨h.1, h.2.later L fun _ _ => rfl⟩
  · obtain ⟨h1, h2, h3⟩ := h
    exact ⟨h1, h2, h3.imp fun _ _ k => k.later L fun _ _ => rfl⟩
  · exact h.elim
theorem NBok.boxRep {ok : Nat → Prop} {n : NB V.E} (h : NBok V ok w n) {bx : List (Nat × Box V.E)} {β : Nat → BI} (hβ : β n.id = n.bi) : BoxRep V.T bx β ok w n.id n.b := by
  unfold NBok at h
  split at h
  · rename_i hb; rw [hb]; simp only [BoxRep]; rw [hβ]; exact h
  · rename_i hb; rw [hb]; simp only [BoxRep]; rw [hβ]; exact h
  · exact h.elim
theorem flat_nodup {α β : Type} {f : α → List β} : ∀ {N : List α}, (N.flatMap f).Nodup → ∀ n ∈ N, (f n).Nodup
  | [], _, n, h => by simp at h
  | m :: N, hd, n, h => by
    rw [List.flatMap_cons] at hd
    have h1 := List.nodup_append.1 hd
    rcases List.mem_cons.1 h with rfl | h
    · exact h1.1
    · exact flat_nodup h1.2.1 n h
theorem flat_apart {α β : Type} {f : α → List β} : ∀ {N : List α}, (N.flatMap f).Nodup → ∀ n ∈ N, ∀ m ∈ N, ∀ x, x ∈ f n → x ∈ f m → n = m
  | [], _, n, h, _, _, _, _, _ => by simp at h
  | k :: N, hd, n, hn, m, hm, x, h1, h2 => by
    rw [List.flatMap_cons] at hd
    have hd := List.nodup_append.1 hd
    rcases List.mem_cons.1 hn with e | hn' <;> rcases List.mem_cons.1 hm with e' | hm'
    · rw [e, e']
    · rw [e] at h1; exact (hd.2.2 x h1 x (List.mem_flatMap.2 ⟨m, hm', h2⟩) rfl).elim
    · rw [e'] at h2; exact (hd.2.2 x h2 x (List.mem_flatMap.2 ⟨n, hn', h1⟩) rfl).elim
    · exact flat_apart hd.2.1 n hn' m hm' x h1 h2
theorem flat_nodup_mk {α β : Type} {f : α → List β} : ∀ {N : List α}, N.Nodup → (∀ n ∈ N, (f n).Nodup) → (∀ n ∈ N, ∀ m ∈ N, ∀ x, x ∈ f n → x ∈ f m → n = m) → (N.flatMap f).Nodup
  | [], _, _, _ => by simp
  | k :: N, hd, h1, h2 => by
    rw [List.flatMap_cons]
    have hd := List.nodup_cons.1 hd
    refine List.nodup_append.2 ⟨h1 k (by simp), flat_nodup_mk hd.2 (fun n hn => h1 n (by simp [hn])) (fun n hn m hm => h2 n (by simp [hn]) m (by simp [hm])), fun x hx y hy e => ?_⟩
    subst e
    obtain ⟨m, hm, hxm⟩ := List.mem_flatMap.1 hy
    have := h2 k (by simp) m (by simp [hm]) x hx hxm
    subst this
    exact hd.1 hm
theorem call_ok (HT : V.T.Ok) (HF : FuncsOk V P) {bx : List (Nat × Box V.E)} {β : Nat → BI} (M : MemOk V.T C bx β w) {dst : Nat} {f : FuncId} {args : List (CV V.E)} {vs : List Value} (ha : All2 (CVRep V.T bx β (okOf C β w) w) args vs)
    {o : Orc V.E} {rs ws : List Nat} (h : interp V bx (callTodo V dst f args o) rs ws = some (res, cs, bx', ac)) (hc : AllP cs) : CallsOk V P C bx β w f vs res bx' := by
  unfold callTodo at h
  split at h
  · rename_i S d hS
    obtain ⟨hfn, hM⟩ := HF.fs f S hS
    obtain ⟨bx1, β1, ls, rs1, ws1, gs, M1, X1, h, g1, _, g3, _, hargs⟩ := give_ok HT _ _ _ _ _ M ha _ _ _ h
    split at h
    · rename_i x y hx hy
      have hk : ∀ l bx rs ws res cs bx' ac, interp V bx (retCV V [S.f x = some y] l) rs ws = some (res, cs, bx', ac) → cs = [S.f x = some y] := by
        intro l bx rs ws res cs bx' ac h
        unfold retCV at h
        split at h <;> exact (interp_ret h).2.1.symm
      have hcs := conds_res _ _ _ _ _ hk _ _ _ _ _ _ _ h
      rw [hcs] at hc
      have hxy := hc.1
      have hargs := hargs S.args x hx
      have hgown : ∀ b, b ∈ (gs.flatMap fun id => (β1 id).own) ↔ ∃ id ∈ gs, b ∈ (β1 id).own := fun b => List.mem_flatMap
      refine ⟨hfn, ?_⟩
      refine (hM x y hxy (okOf C β1 w) w vs _ hargs (flat_nodup_mk g3 (fun id _ => M1.nodup id) fun id _ id' _ x h1 h2 => M1.apart id id' x h1 h2) ?_ (fun b hb => hb.1)).mono ?_
      · intro b hb
        obtain ⟨id, _, hb⟩ := (hgown b).1 hb
        exact ⟨(M1.mine id b hb).1, fun hk => hk.2.2 id hb⟩
      · rintro e w' ⟨rv, own', rfl, hbut, hnd, hown', hres⟩
        obtain ⟨N, cvs, rs2, ws2, b1, b2, b3, b4, b5, b6⟩ := res_ok _ _ _ _ _ hres _ _ _ _ _ h
        let β' : Nat → BI := fun j => match getN N j with | some n => n.bi | none => if j ∈ gs then { β1 j with own := [] } else β1 j
        have hβN : ∀ n ∈ N, β' n.id = n.bi := by
          intro n hn
          show (match getN N n.id with | some n => n.bi | none => _) = _
          rw [getN_of b2 hn]
        have hNg : ∀ n ∈ N, n.id ∉ gs := by
          intro n hn hg
          have := g1 _ hg
          rw [b3 n hn] at this; cases this
        have hβg : ∀ j ∈ gs, β' j = { β1 j with own := [] } := by
          intro j hj
          show (match getN N j with | some n => n.bi | none => _) = _
          split
          · rename_i n hn
            obtain ⟨hm, rfl⟩ := getN_mem hn
            exact (hNg n hm hj).elim
          · rw [if_pos hj]
        have hβo : ∀ j, (¬ ∃ n ∈ N, n.id = j) → j ∉ gs → β' j = β1 j := by
          intro j hj hg
          show (match getN N j with | some n => n.bi | none => _) = _
          split
          · rename_i n hn
            obtain ⟨hm, e⟩ := getN_mem hn
            exact (hj ⟨n, hm, e⟩).elim
          · rw [if_neg hg]
        have hlookN : ∀ n ∈ N, look n.id (putN N bx1) = some n.b := by
          intro n hn; rw [look_putN _ _ _ b2, getN_of b2 hn]
        have hlooko : ∀ j, (¬ ∃ n ∈ N, n.id = j) → look j (putN N bx1) = look j bx1 := by
          intro j hj
          rw [look_putN _ _ _ b2]
          split
          · rename_i n hn
            obtain ⟨hm, e⟩ := getN_mem hn
            exact (hj ⟨n, hm, e⟩).elim
          · rfl
        have hmemN : ∀ n ∈ N, ∀ x ∈ n.bi.own, x ∈ own' := by
          intro n hn x hx; rw [b5]; exact List.mem_flatMap.2 ⟨n, hn, hx⟩
        have hokR : ∀ b, (b < w'.heap.size ∧ (okOf C β1 w b ∨ w.heap.size ≤ b ∨ b ∈ gs.flatMap fun id => (β1 id).own) ∧ b ∉ own') → okOf C β' w' b := by
          rintro b ⟨k1, k2, k3⟩
          refine ⟨k1, ?_, fun id hid => ?_⟩
          · rcases k2 with k2 | k2 | k2
            · exact k2.2.1
            · exact .inr (.inl (Nat.le_trans M1.kept.size k2))
            · obtain ⟨id, _, hb⟩ := (hgown b).1 k2
              rcases (M1.mine id b hb).2 with h | h
              · exact .inr (.inl h)
              · exact .inr (.inr h)
          · by_cases hN : ∃ n ∈ N, n.id = id
            · obtain ⟨n, hn, rfl⟩ := hN
              rw [hβN n hn] at hid
              exact k3 (hmemN n hn b hid)
            · by_cases hg : id ∈ gs
              · rw [hβg id hg] at hid; simp at hid
              · rw [hβo id hN hg] at hid
                rcases k2 with k2 | k2 | k2
                · exact k2.2.2 id hid
                · have := (M1.mine id b hid).1; omega
                · obtain ⟨id', hid', hb⟩ := (hgown b).1 k2
                  have := M1.apart id id' b hid hb
                  subst this; exact hg hid'
        have LR : Later (fun b => b < w'.heap.size ∧ (okOf C β1 w b ∨ w.heap.size ≤ b ∨ b ∈ gs.flatMap fun id => (β1 id).own) ∧ b ∉ own') w' (okOf C β' w') w' := ⟨hokR, fun _ _ => rfl⟩
        obtain ⟨M2, X2⟩ := M1.step (bx' := putN N bx1) (β' := β') (w' := w') (fun j => j ∈ gs ∨ ∃ n ∈ N, n.id = j) hbut.os hbut.tape hbut.output hbut.size
          (fun j hj => ⟨hβo j (fun h => hj (.inr h)) (fun h => hj (.inl h)), hlooko j fun h => hj (.inr h)⟩)
          (fun x hx hn => hbut.heap x hx fun hm => by
            obtain ⟨id, hid, hb⟩ := (hgown x).1 hm
            exact hn id (.inl hid) hb)
          (fun j hj x hx => by
            by_cases hN : ∃ n ∈ N, n.id = j
            · obtain ⟨n, hn, rfl⟩ := hN
              rw [hβN n hn] at hx
              obtain ⟨q1, q2⟩ := hown' x (hmemN n hn x hx)
              rcases q2 with q2 | q2
              · exact .inr ⟨q2, q1⟩
              · obtain ⟨id, hid, hb⟩ := (hgown x).1 q2
                exact .inl ⟨id, .inl hid, hb⟩
            · rcases hj with hj | hj
              · rw [hβg j hj] at hx; simp at hx
              · exact (hN hj).elim)
          (fun j hj => by
            by_cases hN : ∃ n ∈ N, n.id = j
            · obtain ⟨n, hn, rfl⟩ := hN
              rw [hβN n hn]
              rw [b5] at hnd
              exact flat_nodup hnd n hn
            · rcases hj with hj | hj
              · rw [hβg j hj]; simp
              · exact (hN hj).elim)
          (fun j j' x hj hj' hx hx' => by
            by_cases hN : ∃ n ∈ N, n.id = j
            · by_cases hN' : ∃ n ∈ N, n.id = j'
              · obtain ⟨n, hn, rfl⟩ := hN
                obtain ⟨m, hm, rfl⟩ := hN'
                rw [hβN n hn] at hx
                rw [hβN m hm] at hx'
                rw [b5] at hnd
                rw [flat_apart hnd n hn m hm x hx hx']
              · rcases hj' with hj' | hj'
                · rw [hβg j' hj'] at hx'; simp at hx'
                · exact (hN' hj').elim
            · rcases hj with hj | hj
              · rw [hβg j hj] at hx; simp at hx
              · exact (hN hj).elim)
          (fun j hj hn => by
            by_cases hN : ∃ n ∈ N, n.id = j
            · obtain ⟨n, hn', rfl⟩ := hN
              rw [hlookN n hn'] at hn; cases hn
            · rcases hj with hj | hj
              · rw [hβg j hj]
              · exact (hN hj).elim)
          (fun j b hj hb => by
            by_cases hN : ∃ n ∈ N, n.id = j
            · obtain ⟨n, hn, rfl⟩ := hN
              rw [b3 n hn] at hb; cases hb
            · rcases hj with hj | hj
              · rw [g1 j hj] at hb; cases hb
                exact ⟨.gone, by rw [hlooko j hN]; exact g1 j hj, trivial⟩
              · exact (hN hj).elim)
          (fun X j b hj hb => by
            by_cases hN : ∃ n ∈ N, n.id = j
            · obtain ⟨n, hn, rfl⟩ := hN
              rw [hlookN n hn] at hb; cases hb
              exact ((b4 n hn).later LR).boxRep (hβN n hn)
            · rcases hj with hj | hj
              · rw [hlooko j hN, g1 j hj] at hb; cases hb
                trivial
              · exact (hN hj).elim)
        have hleaf : ∀ l v, RLeaf V (fun b => b < w'.heap.size ∧ (okOf C β1 w b ∨ w.heap.size ≤ b ∨ b ∈ gs.flatMap fun id => (β1 id).own) ∧ b ∉ own') w' N l v → LeafRep V.T (putN N bx1) β' (okOf C β' w') w' l v := by
          intro l v hl
          rcases hl with hl | ⟨n, hn, rfl, rfl, hone⟩
          · exact LeafRep.ext ⟨LR, fun _ b h => ⟨b, h, compat.refl _ _ _⟩⟩ _ _ (hl (putN N bx1) β')
          · simp only [LeafRep]
            refine ⟨hone, ?_⟩
            rw [hlookN n hn]
            have := b4 n hn
            unfold NBok at this
            split at this
            · rename_i hb; rw [hb]; exact ⟨Nat.le_refl _, fun _ => by rw [hβN n hn]⟩
            · rename_i hb; rw [hb]; exact ⟨Nat.le_refl _, fun _ => by rw [hβN n hn]⟩
            · exact this.elim
        have hval : ∀ c v, RVal V (fun b => b < w'.heap.size ∧ (okOf C β1 w b ∨ w.heap.size ≤ b ∨ b ∈ gs.flatMap fun id => (β1 id).own) ∧ b ∉ own') w' N c v → CVRep V.T (putN N bx1) β' (okOf C β' w') w' c v := by
          intro c v hcv
          cases c with
          | one l => exact hleaf _ _ hcv
          | ag ls => obtain ⟨cs, rfl, hcv⟩ := hcv; exact ⟨cs, rfl, hcv.imp fun _ _ k => hleaf _ _ k⟩
        refine ⟨_, rfl, β', ?_⟩
        unfold retCV at b1
        split at b1
        · rename_i c
          obtain ⟨rfl, _, rfl⟩ := interp_ret b1
          cases b6 with
          | cons q1 q2 => cases q2; exact ⟨_, rfl, hval _ _ q1, M2, X1.trans X2⟩
        · rename_i hne
          obtain ⟨rfl, _, rfl⟩ := interp_ret b1
          refine ⟨_, rfl, ?_, M2, X1.trans X2⟩
          simp only [SVRep]
          refine ⟨rv.toArray, ?_, by simpa using b6.imp fun _ _ k => hval _ _ k⟩
          have hl := b6.length
          cases rv with
          | nil => rfl
          | cons v rv =>
            cases rv with
            | cons _ _ => rfl
            | nil =>
              match cvs, hl, hne with
              | [c], _, hne => exact (hne c rfl).elim
    · simp [interp] at h
  · rename_i d hS
    cases hW : V.ws f with
    | none => rw [hW] at h; simp [callwTodo, interp] at h
    | some S =>
      rw [hW] at h
      exact callw_ok HT (HF.ws f S hW) M ha h hc
  · simp [interp] at h
end
end Go.Ab
namespace Go.Ab
open Go
structure Good (V : Env) (P : Program) : Prop where
  tab : V.T.Ok
  types : EnvOk V P
  eqs : EqsOk V P
  funcs : FuncsOk V P
  mixed : P.follows .mixedOrders = true
section
variable {V : Env} {P : Program} {C : Ctx}
structure SimB (V : Env) (C : Ctx) (s : St V.E) (β : Nat → BI) (a : Act) (w : World) : Prop where
  size : a.tmps.size = s.n
  defers : a.defers = [] ∧ (V.t0 = true → a.tmps.getD 0 undef = C.v0)
  slots : ∀ k x, slot V s k = some x → SR V C s.boxes β w x (a.tmps.getD k undef)
  mem : MemOk V.T C s.boxes β w
def Sim (V : Env) (C : Ctx) (s : St V.E) (a : Act) (w : World) : Prop := ∃ β, SimB V C s β a w
theorem const_rep {bx : List (Nat × Box V.E)} {β : Nat → BI} {w : World} (t : TypeId) (v : Value) (x : SV V.E) (h : constSV V t v = some x) : SR V C bx β w x v := by
  unfold constSV at h
  split at h
  · cases h; rfl
  · cases h; rfl
  · rename_i s
    cases h
    show Value.string s = .string ⟨s.data.toList.toArray⟩
    cases s; rfl
  · split at h
    · split at h
      · cases h
        simp only [SR, SVRep, CVRep, LeafRep]
        exact ⟨none, 0, by simp, by simp, fun _ => rfl, fun _ _ => rfl, fun ad h => by cases h⟩
      · cases h
    · cases h
  · cases h; rfl
  · cases h; rfl
  · cases h
theorem opnd_ok {s : St V.E} {β : Nat → BI} {a : Act} {w : World} (S : SimB V C s β a w) (t : TypeId) (x : Operand) (y : SV V.E) (h : opnd V s t x = some y) : SR V C s.boxes β w y (a.eval x) := by
  cases x with
  | tmp k => exact S.slots k y h
  | const v => exact const_rep t v y h
  | global g => simp [opnd] at h
  | func f =>
    simp only [opnd, Option.some.injEq] at h
    subst h
    simp only [SR, SVRep, CVRep, LeafRep]
    exact ⟨#[], rfl, rfl⟩
theorem opnds_ok {s : St V.E} {β : Nat → BI} {a : Act} {w : World} (S : SimB V C s β a w) : ∀ (xs : List Operand) (ts : List TypeId), Vals V C s.boxes β w (opnds V s ts xs) (xs.map a.eval)
  | [], ts => by cases ts <;> exact .nil
  | x :: xs, [] => .cons (fun y h => opnd_ok S 0 x y h) (opnds_ok S xs [])
  | x :: xs, t :: ts => .cons (fun y h => opnd_ok S t x y h) (opnds_ok S xs ts)
def NOk (T : Tab) (C : Ctx) (bx : List (Nat × Box T.E)) (β : Nat → BI) (w : World) (res : Option (SV T.E)) (bx' : List (Nat × Box T.E)) (r : Result Next) : Prop :=
  ∃ β' w', MemOk T C bx' β' w' ∧ Ext T bx β (okOf C β w) w bx' β' (okOf C β' w') w' ∧
    ((∃ v x, res = some x ∧ r = .ok (.value v) w' ∧ SVRep T bx' β' (okOf C β' w') w' x v) ∨ (res = none ∧ r = .ok .skip w'))
theorem NOk.ofV {T : Tab} {bx bx' : List (Nat × Box T.E)} {β : Nat → BI} {w : World} {res : Option (SV T.E)} {m : Sem Value} (h : VOk T C bx β w res bx' (m.run P w)) :
    NOk T C bx β w res bx' ((do pure (.value (← m)) : Sem Next).run P w) := by
  obtain ⟨β', w', v, x, h1, h2, h3, h4, h5⟩ := h
  exact ⟨β', w', h4, h5, .inl ⟨v, x, h1, by simp only [Sem.run_bind, h2, Result.andThen_ok, Sem.run_pure], h3⟩⟩
theorem NOk.ofU {T : Tab} {bx bx' : List (Nat × Box T.E)} {β : Nat → BI} {w : World} {res : Option (SV T.E)} {m : Sem Unit} (h : UOk T C bx β w res bx' (m.run P w)) :
    NOk T C bx β w res bx' ((do m; pure .skip : Sem Next).run P w) := by
  obtain ⟨β', w', h1, h2, h4, h5⟩ := h
  exact ⟨β', w', h4, h5, .inr ⟨h1, by simp only [Sem.run_bind, h2, Result.andThen_ok, Sem.run_pure]⟩⟩
theorem NOk.val {T : Tab} {bx : List (Nat × Box T.E)} {β : Nat → BI} {w : World} (M : MemOk T C bx β w) {x : SV T.E} {v : Value} (h : SVRep T bx β (okOf C β w) w x v) : NOk T C bx β w (some x) bx (.ok (.value v) w) :=
  ⟨β, w, M, Ext.refl _ _ _ _ _, .inl ⟨v, x, rfl, rfl, h⟩⟩
def isCall (o : Oper) : Bool :=
  match o.op with
  | .call c => match c.callee with
    | .value _ => true
    | _ => false
  | _ => false
theorem slice_kind {t : TypeId} {i : TI V.E} {info : TypeInfo} {d : TypeDesc} {z : Value} (I : InfoOk V P t i info d z) {e : TypeId} (h : i.kind = .slice e) : P.underlying t = some (.slice e) := by
  have hk := I.kind
  rw [h] at hk
  have hu := I.under
  cases d <;> simp [kindB] at hk
  subst hk
  exact hu
theorem elemOf_ok {t : TypeId} {j : TI V.E} (h : elemOf V t = some j) : ∃ i e, V.ti t = some i ∧ i.kind = .slice e ∧ V.ti e = some j := by
  unfold elemOf at h
  split at h
  · rename_i e _ _ _ _ ht
    exact ⟨_, e, ht, rfl, h⟩
  · cases h
theorem elemIdOf_ok {t : TypeId} {e : TypeId} {j : TI V.E} (h : elemIdOf V t = some (e, j)) : ∃ i, V.ti t = some i ∧ i.kind = .slice e ∧ V.ti e = some j := by
  unfold elemIdOf at h
  split at h
  · rename_i e _ _ _ _ ht
    split at h
    · rename_i j hj
      cases h
      exact ⟨_, ht, rfl, hj⟩
    · cases h
  · cases h
theorem slice_el {t : TypeId} {i : TI V.E} (hi : V.ti t = some i) : ∀ e u, i.kind = .slice e → (elemOf V t).map (·.ty) = some u → ∃ j, V.ti e = some j ∧ j.ty = u := by
  intro e u hk hu
  cases hel : elemOf V t with
  | none => rw [hel] at hu; cases hu
  | some j =>
    rw [hel] at hu
    simp at hu
    obtain ⟨i', e', h1, h2, h3⟩ := elemOf_ok hel
    rw [hi] at h1; cases h1
    rw [hk] at h2; cases h2
    exact ⟨j, h3, hu⟩
theorem vals1 {bx : List (Nat × Box V.E)} {β : Nat → BI} {w : World} {a : SV V.E} {ds : List Value} (h : Vals V C bx β w [some a] ds) : ∃ d, ds = [d] ∧ SR V C bx β w a d := by
  cases h with
  | cons h1 h2 => cases h2; exact ⟨_, rfl, h1 a rfl⟩
theorem vals2 {bx : List (Nat × Box V.E)} {β : Nat → BI} {w : World} {a b : SV V.E} {ds : List Value} (h : Vals V C bx β w [some a, some b] ds) : ∃ d e, ds = [d, e] ∧ SR V C bx β w a d ∧ SR V C bx β w b e := by
  cases h with
  | cons h1 h2 =>
    obtain ⟨e, rfl, h3⟩ := vals1 h2
    exact ⟨_, e, rfl, h1 a rfl, h3⟩
theorem exec_ok (G : Good V P) {s : St V.E} {β : Nat → BI} {a : Act} {w : World} (S : SimB V C s β a w) (dst : Nat) (o : Oper) (hcall : isCall o = false) (q : Orc V.E)
    {res : Option (SV V.E)} {cs : List Prop} {bx' : List (Nat × Box V.E)} {ac : Acc} {rs ws : List Nat}
    (h : interp V s.boxes (core V dst o (opnds V s (opTypes V o) o.op.operands.toList) q) rs ws = some (res, cs, bx', ac)) (hc : AllP cs) :
    NOk V.T C s.boxes β w res bx' ((execOp a.eval o).run P w) := by
  have hv := opnds_ok S o.op.operands.toList (opTypes V o)
  generalize opnds V s (opTypes V o) o.op.operands.toList = vs at h hv
  have M := S.mem
  unfold core at h
  split at h
  · -- move
    rename_i x v ho
    obtain ⟨rfl, _, rfl⟩ := interp_ret h
    simp only [ho, Op.operands, List.map_cons, List.map_nil] at hv
    obtain ⟨d, hd, hr⟩ := vals1 hv
    cases hd
    simp only [execOp, ho, Sem.run_pure]
    exact .val M hr
  · -- assign
    rename_i x v ho
    obtain ⟨rfl, _, rfl⟩ := interp_ret h
    simp only [ho, Op.operands, List.map_cons, List.map_nil] at hv
    obtain ⟨d, hd, hr⟩ := vals1 hv
    cases hd
    simp only [execOp, ho, Sem.run_pure]
    exact .val M hr
  · -- pick
    rename_i c0 a0 b0 b x y ho
    simp only [ho, Op.operands, List.map_cons, List.map_nil] at hv
    cases hv with
    | cons h1 hv =>
      cases hv with
      | cons h2 hv =>
        cases hv with
        | cons h3 hv =>
          have hb := h1 _ rfl
          simp only [SR, SVRep, CVRep, LeafRep] at hb
          have hrun : (execOp a.eval o).run P w = .ok (.value (if b then a.eval a0 else a.eval b0)) w := by
            simp only [execOp, ho, hb, asBool, Sem.run_bind, Sem.run_pure, Result.andThen_ok]
          rw [hrun]
          split at h
          · rename_i dd
            split at h
            · rename_i v hvv
              obtain ⟨rfl, rfl, rfl⟩ := interp_ret h
              have hbd := hc.1
              subst hbd
              refine .val M ?_
              cases b
              · exact h3 v (by simpa using hvv)
              · exact h2 v (by simpa using hvv)
            · simp [interp] at h
          · split at h
            · rename_i p r
              obtain ⟨rfl, rfl, rfl⟩ := interp_ret h
              have e2 := h2 _ rfl
              have e3 := h3 _ rfl
              simp only [SR, SVRep, CVRep, LeafRep] at e2 e3
              rw [e2, e3]
              refine .val M ?_
              cases b <;> rfl
            · simp [interp] at h
  · -- alloc
    rename_i t ho
    split at h
    · rename_i i hi
      obtain ⟨info, d, z, I⟩ := G.types t i hi
      have := box_ok M (t := t) (vs := z.cells) (zls_rep I.zeros) h
      simp only [execOp, ho]
      refine NOk.ofV ?_
      have hr : (Instr.alloc t true (.tuple #[])).run P w = .ok (.pointer (some ⟨w.heap.size, 0, none⟩)) (w.alloc (.cells z.cells t)) := by
        simp only [Instr.alloc, Sem.run_bind, I.run_zero, Result.andThen_ok, newVar, newRow, run_newObj, Sem.run_pure]
        rfl
      rw [hr]; exact this
    · simp [interp] at h
  · -- box
    rename_i t x c ho
    simp only [ho, Op.operands, List.map_cons, List.map_nil] at hv
    obtain ⟨d, hd, hr⟩ := vals1 hv
    cases hd
    split at h
    · have := box_ok M (t := t) (vs := (a.eval x).cells) (CVRep.cells hr) h
      simp only [execOp, ho]
      refine NOk.ofV ?_
      have hrun : (Instr.box t (a.eval x)).run P w = .ok (.pointer (some ⟨w.heap.size, 0, none⟩)) (w.alloc (.cells (a.eval x).cells t)) := by
        simp only [Instr.box, Sem.run_bind, newVar, newRow, run_newObj, Result.andThen_ok, Sem.run_pure]
        rfl
      rw [hrun]; exact this
    · simp [interp] at h
  · -- build
    rename_i t ps ho
    simp only [ho, Op.operands, List.map_map, Function.comp_def] at hv
    split at h
    · rename_i fs sz by_ z0 ty hi
      split at h
      · rename_i hall
        split at h
        · rename_i ls hf
          obtain ⟨rfl, _, rfl⟩ := interp_ret h
          obtain ⟨info, d, z, I⟩ := G.types t _ hi
          simp only [execOp, ho]
          exact NOk.ofV (build_ok G.types M I rfl hall a.eval ps (by simpa using hv) hf)
        · simp [interp] at h
      · simp [interp] at h
    · simp [interp] at h
  · -- buildSlice
    rename_i t n ps ho
    simp only [ho, Op.operands, List.map_map, Function.comp_def] at hv
    split at h
    · rename_i e i hel
      obtain ⟨it, ht, hk, he⟩ := elemIdOf_ok hel
      obtain ⟨_, _, _, It⟩ := G.types t _ ht
      obtain ⟨info, d, z, I⟩ := G.types e _ he
      split at h
      · rename_i hn
        split at h
        · rename_i ls hf
          simp only [execOp, ho]
          exact NOk.ofV (buildSlice_ok G.tab M (slice_kind It hk) I n hn a.eval ps (by simpa using hv) hf q h)
        · simp [interp] at h
      · simp [interp] at h
    · simp [interp] at h
  · -- load
    rename_i t x v ho
    simp only [ho, Op.operands, List.map_cons, List.map_nil] at hv
    obtain ⟨d, hd, hr⟩ := vals1 hv
    cases hd
    split at h
    · rename_i i hi
      obtain ⟨info, d, z, I⟩ := G.types t i hi
      simp only [execOp, ho]
      exact NOk.ofV (load_ok G.tab M I hr h)
    · simp [interp] at h
  · -- store
    rename_i t x y v1 v2 ho
    simp only [ho, Op.operands, List.map_cons, List.map_nil] at hv
    obtain ⟨d1, d2, hd, hr1, hr2⟩ := vals2 hv
    cases hd
    split at h
    · rename_i i hi
      obtain ⟨info, d, z, I⟩ := G.types t i hi
      simp only [execOp, ho]
      exact NOk.ofU (store_ok G.tab M I hr1 hr2 h hc)
    · simp [interp] at h
  · -- nilCheck
    rename_i x id off ho
    simp only [ho, Op.operands, List.map_cons, List.map_nil] at hv
    obtain ⟨d, hd, hr⟩ := vals1 hv
    cases hd
    simp only [interp] at h
    split at h
    · rename_i ls hb
      obtain ⟨rfl, _, rfl⟩ := interp_ret h
      have hr' := hr
      simp only [SR, SVRep, CVRep, LeafRep, hb] at hr'
      have hrun : (execOp a.eval o).run P w = .ok (.value (a.eval x)) w := by
        simp only [execOp, ho, hr'.2, Sem.run_pure]
      rw [hrun]
      exact .val M hr
    · simp [interp] at h
  · -- binOp
    rename_i op t x y u v1 v2 ho
    simp only [ho, Op.operands, List.map_cons, List.map_nil] at hv
    obtain ⟨d1, d2, hd, hr1, hr2⟩ := vals2 hv
    cases hd
    simp only [execOp, ho]
    exact NOk.ofV (bin_ok G.types G.eqs M op t x y hr1 hr2 h hc)
  · -- unOp
    rename_i op t x v ho
    simp only [ho, Op.operands, List.map_cons, List.map_nil] at hv
    obtain ⟨d, hd, hr⟩ := vals1 hv
    cases hd
    simp only [execOp, ho]
    exact NOk.ofV (un_ok M op hr h)
  · -- convert
    rename_i u t x v ho
    simp only [ho, Op.operands, List.map_cons, List.map_nil] at hv
    obtain ⟨d, hd, hr⟩ := vals1 hv
    cases hd
    simp only [execOp, ho]
    exact NOk.ofV (conv_ok G.types M u t hr h)
  · -- makeFunc
    rename_i f fi ca ho
    simp only [ho, Op.operands] at hv
    split at h
    · rename_i hfi
      split at h
      · rename_i ls hl
        obtain ⟨rfl, _, rfl⟩ := interp_ret h
        simp only [execOp, ho]
        exact NOk.ofV (makeFunc_ok M f a.eval fi ca hfi hv hl)
      · simp [interp] at h
    · simp [interp] at h
  · -- makeSlice
    rename_i t x y kl l kc c ho
    simp only [ho, Op.operands, List.map_cons, List.map_nil] at hv
    obtain ⟨d1, d2, hd, hr1, hr2⟩ := vals2 hv
    simp only [SR, SVRep, CVRep, LeafRep] at hr1 hr2
    subst hr1 hr2
    split at h
    · rename_i e _ _ _ _ ht
      split at h
      · rename_i i hi
        obtain ⟨_, _, _, It⟩ := G.types t _ ht
        obtain ⟨info, d, z, I⟩ := G.types e _ hi
        simp only [List.cons.injEq, and_true] at hd
        simp only [execOp, ho, hd.1, hd.2]
        exact NOk.ofV (make_ok G.tab M (slice_kind It rfl) I h hc)
      · simp [interp] at h
    · simp [interp] at h
  · -- slice, whole
    rename_i t x v ho
    simp only [ho, Op.operands, Option.toArray] at hv
    obtain ⟨d, hd, hr⟩ := vals1 (by simpa using hv)
    cases hd
    split at h
    · rename_i i hi
      obtain ⟨info, d, z, I⟩ := G.types t i hi
      simp only [execOp, ho]
      exact NOk.ofV (slice_ok M I (fun e _ j hj => G.types e j hj) _ (slice_el hi) hr none none h hc)
    · simp [interp] at h
  · -- from
    rename_i t x y v k l ho
    simp only [ho, Op.operands, Option.toArray] at hv
    obtain ⟨d1, d2, hd, hr1, hr2⟩ := vals2 (by simpa using hv)
    simp only [List.cons.injEq, and_true] at hd
    simp only [SR, SVRep, CVRep, LeafRep] at hr2
    subst hr2
    split at h
    · rename_i i hi
      obtain ⟨info, d, z, I⟩ := G.types t i hi
      simp only [execOp, ho, Option.map_some, Option.map_none, hd.1, hd.2]
      exact NOk.ofV (slice_ok M I (fun e _ j hj => G.types e j hj) _ (slice_el hi) hr1 (some (k, l)) none h hc)
    · simp [interp] at h
  · -- to
    rename_i t x y v k l ho
    simp only [ho, Op.operands, Option.toArray] at hv
    obtain ⟨d1, d2, hd, hr1, hr2⟩ := vals2 (by simpa using hv)
    simp only [List.cons.injEq, and_true] at hd
    simp only [SR, SVRep, CVRep, LeafRep] at hr2
    subst hr2
    split at h
    · rename_i i hi
      obtain ⟨info, d, z, I⟩ := G.types t i hi
      simp only [execOp, ho, Option.map_some, Option.map_none, hd.1, hd.2]
      exact NOk.ofV (slice_ok M I (fun e _ j hj => G.types e j hj) _ (slice_el hi) hr1 none (some (k, l)) h hc)
    · simp [interp] at h
  · -- from, to
    rename_i t x y1 y2 v k l k2 l2 ho
    simp only [ho, Op.operands, Option.toArray] at hv
    have hv : Vals V C s.boxes β w [some v, some (.cv (.one (.int k l))), some (.cv (.one (.int k2 l2)))] [a.eval x, a.eval y1, a.eval y2] := by simpa using hv
    cases hv with
    | cons h1 hv =>
      obtain ⟨d1, d2, hd, hr1, hr2⟩ := vals2 hv
      have hr0 := h1 v rfl
      simp only [List.cons.injEq, and_true] at hd
      simp only [SR, SVRep, CVRep, LeafRep] at hr1 hr2
      subst hr1 hr2
      split at h
      · rename_i i hi
        obtain ⟨info, d, z, I⟩ := G.types t i hi
        simp only [execOp, ho, Option.map_some, hd.1, hd.2]
        exact NOk.ofV (slice_ok M I (fun e _ j hj => G.types e j hj) _ (slice_el hi) hr0 (some (k, l)) (some (k2, l2)) h hc)
      · simp [interp] at h
  · -- fieldAddr
    rename_i t x f v ho
    simp only [ho, Op.operands, List.map_cons, List.map_nil] at hv
    obtain ⟨d, hd, hr⟩ := vals1 hv
    cases hd
    split at h
    · rename_i fs sz by_ z0 ty hi
      split at h
      · rename_i off size hp
        split at h
        · simp [interp] at h
        · obtain ⟨info, d, z, I⟩ := G.types t _ hi
          unfold fieldPlace at hp
          split at hp
          · rename_i o2 t2 hf
            split at hp
            · rename_i j hj
              cases hp
              obtain ⟨_, _, _, J⟩ := G.types t2 j hj
              simp only [execOp, ho]
              exact NOk.ofV (fieldAddr_ok M I.under I.kind J hf hr h)
            · cases hp
          · cases hp
      · simp [interp] at h
    · simp [interp] at h
  · -- field
    rename_i t x f ls ho
    simp only [ho, Op.operands, List.map_cons, List.map_nil] at hv
    obtain ⟨d, hd, hr⟩ := vals1 hv
    cases hd
    split at h
    · rename_i fs sz by_ z0 ty hi
      split at h
      · rename_i off t2 hf
        split at h
        · rename_i j hj
          obtain ⟨info, d, z, I⟩ := G.types t _ hi
          obtain ⟨_, _, _, J⟩ := G.types t2 j hj
          simp only [SR, SVRep, CVRep] at hr
          obtain ⟨cs0, he, hr⟩ := hr
          have hk := I.kind
          have hu := I.under
          cases d <;> simp [kindB] at hk
          rename_i fields
          subst hk
          rw [List.getElem?_map] at hf
          cases hfl : fields.toList[f]? with
          | none => rw [hfl] at hf; simp at hf
          | some fl =>
            rw [hfl] at hf; simp at hf
            obtain ⟨rfl, rfl⟩ := hf
            have hfa : fields[f]? = some fl := by rw [← hfl, Array.getElem?_toList]
            have hrun : (Instr.field t (a.eval x) f).run P w = (Go.part fl.type cs0 fl.offset).run P w := by
              simp only [Instr.field, Sem.run_bind, run_underlying hu, Result.andThen_ok, hfa, he, asAgg, Sem.run_pure]
            simp only [execOp, ho]
            refine NOk.ofV ?_
            rw [hrun]
            exact part_ok M J fl.offset hr h
        · simp [interp] at h
      · simp [interp] at h
    · simp [interp] at h
  · -- indexAddr
    rename_i t x y v1 v2 ho
    simp only [ho, Op.operands, List.map_cons, List.map_nil] at hv
    obtain ⟨d1, d2, hd, hr1, hr2⟩ := vals2 hv
    cases hd
    split at h
    · rename_i j hel
      obtain ⟨it, e, ht, hk, he⟩ := elemOf_ok hel
      obtain ⟨_, _, _, It⟩ := G.types t _ ht
      obtain ⟨info, d, z, J⟩ := G.types e _ he
      simp only [execOp, ho]
      exact NOk.ofV (indexAddr_ok M (slice_kind It hk) J hr1 hr2 h hc)
    · simp [interp] at h
  · -- index
    rename_i t x y l k i ho
    simp only [ho, Op.operands, List.map_cons, List.map_nil] at hv
    obtain ⟨d1, d2, hd, hr1, hr2⟩ := vals2 hv
    simp only [SR, SVRep, CVRep, LeafRep] at hr1 hr2
    subst hr1 hr2
    simp only [List.cons.injEq, and_true] at hd
    split at h
    · rename_i _ _ _ _ ht
      obtain ⟨_, d, _, It⟩ := G.types t _ ht
      obtain ⟨rfl, rfl, rfl⟩ := interp_ret h
      have hk := It.kind
      have hu := It.under
      cases d <;> simp [kindB] at hk
      simp only [execOp, ho, hd.1, hd.2]
      exact NOk.ofV (index_ok M hu l k i hc.1)
    · simp [interp] at h
  · -- extract
    rename_i x n l ho
    simp only [ho, Op.operands, List.map_cons, List.map_nil] at hv
    obtain ⟨d, hd, hr⟩ := vals1 hv
    cases hd
    simp only [execOp, ho]
    exact NOk.ofV (extract_ok M hr n h)
  · -- calls
    rename_i c ho
    split at h
    · -- of a builtin
      rename_i vs _ _ b hb
      simp only [ho, Op.operands, Call.operands, hb] at hv
      have hv : Vals V C s.boxes β w vs (c.args.toList.map a.eval) := by simpa using hv
      have hrun : (execOp a.eval o).run P w = (builtin b c.argTypes o.type (c.args.map fun | .const _ => true | _ => false) (c.args.map a.eval)).run P w := by
        simp only [execOp, ho, resolve, hb, Sem.run_bind, Sem.run_pure, Result.andThen_ok, invoke]; rfl
      rw [hrun]
      have hlist : ∀ l : List Value, c.args.toList.map a.eval = l → c.args.map a.eval = l.toArray := by
        rintro l rfl; apply Array.ext'; simp
      unfold builtinTodo at h
      split at h
      · -- len
        rename_i v
        obtain ⟨d, hd, hr⟩ := vals1 hv
        rw [hlist _ hd]
        split at h
        · rename_i t r hat
          split at h
          · rename_i i hi
            obtain ⟨info, d', z, I⟩ := G.types t i hi
            have : c.argTypes = (t :: r).toArray := by apply Array.ext'; simpa using hat
            rw [this]
            exact NOk.ofV (len_ok M I r hr h o.type)
          · simp [interp] at h
        · simp [interp] at h
      · -- append
        rename_i v1 v2
        obtain ⟨d1, d2, hd, hr1, hr2⟩ := vals2 hv
        rw [hlist _ hd]
        split at h
        · rename_i t u hat
          split at h
          · rename_i e _ _ _ _ e2 _ _ _ _ ht hu
            split at h
            · rename_i i hi
              obtain ⟨_, _, _, It⟩ := G.types t _ ht
              obtain ⟨_, _, _, Iu⟩ := G.types u _ hu
              obtain ⟨info, d', z, I⟩ := G.types e _ hi
              have : c.argTypes = #[t, u] := by apply Array.ext'; simpa using hat
              rw [this]
              exact NOk.ofV (append_ok M (slice_kind It rfl) (slice_kind Iu rfl) I hr1 hr2 o.type h hc)
            · simp [interp] at h
          · simp [interp] at h
        · simp [interp] at h
      · -- min
        rename_i k1 x1 k2 x2
        obtain ⟨d1, d2, hd, hr1, hr2⟩ := vals2 hv
        simp only [SR, SVRep, CVRep, LeafRep] at hr1 hr2
        subst hr1 hr2
        rw [hlist _ hd]
        split at h
        · rename_i hk
          subst hk
          obtain ⟨rfl, _, rfl⟩ := interp_ret h
          exact NOk.ofV (min_ok M _ _ _ _ _)
        · simp [interp] at h
      · -- max
        rename_i k1 x1 k2 x2
        obtain ⟨d1, d2, hd, hr1, hr2⟩ := vals2 hv
        simp only [SR, SVRep, CVRep, LeafRep] at hr1 hr2
        subst hr1 hr2
        rw [hlist _ hd]
        split at h
        · rename_i hk
          subst hk
          obtain ⟨rfl, _, rfl⟩ := interp_ret h
          exact NOk.ofV (max_ok M _ _ _ _ _)
        · simp [interp] at h
      · simp [interp] at h
    · -- of a function
      rename_i fv f caps vs' hb
      unfold isCall at hcall
      rw [ho] at hcall
      simp [hb] at hcall
    · simp [interp] at h
  · simp [interp] at h
end
end Go.Ab
