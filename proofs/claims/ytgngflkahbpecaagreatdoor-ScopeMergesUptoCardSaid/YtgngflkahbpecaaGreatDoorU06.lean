/- What is known of a function, and what a call comes to. The results of a call, some of which become boxes of the caller's. A call of a function that writes into a piece of an array. A call that is reckoned by leaves which name no box. Conditions: none beyond those that each theorem names. -/
import Derived.Test.YtgngflkahbpecaaGreatDoorU05
import Derived.Test.YtgngflkahbpecaaGreatDoorU01
namespace Go.Ab
open Go
section
variable (T : Tab)
def DRep (ok : Nat → Prop) (w : World) (t : Ty) (x : t.den T.E) (v : Value) : Prop :=
  if isNm t then ∃ cs, v = .agg cs ∧ AVRep ok w (t.av T x) cs.toList else AVRep ok w (t.av T x) [v]
inductive ArgRep (ok : Nat → Prop) (w : World) : TypeId → (t : Ty) → t.den T.E → Value → List Nat → Prop where
  | data {t x v} : DRep T ok w t x v → ArgRep ok w 0 t x v []
  | own {e t xs v} : ArrOwn T ok w (e + 1) t xs v → ArgRep ok w (e + 1) (.sl t) xs v v.ownBlock.toList
def ArgsRep (ok : Nat → Prop) (w : World) : List TypeId → (ts : List Ty) → HL T.E ts → List Value → List Nat → Prop
  | _, [], _, vs, own => vs = [] ∧ own = []
  | os, t :: ts, (x, r), vs, own => ∃ v vr o1 o2, vs = v :: vr ∧ own = o1 ++ o2 ∧ ArgRep T ok w (os.headD 0) t x v o1 ∧ ArgsRep ok w os.tail ts r vr o2
inductive OwnLeaves (ok : Nat → Prop) (w : World) : List (TypeId × TypeId) → List (Leaf T.E) → List Value → List Nat → Prop where
  | nil {os} : OwnLeaves ok w os [] [] []
  | more {l ls v vs ow} : (∀ bx β, LeafRep T bx β ok w l v) → OwnLeaves ok w [] ls vs ow → OwnLeaves ok w [] (l :: ls) (v :: vs) ow
  | data {e os l ls v vs ow} : (∀ bx β, LeafRep T bx β ok w l v) → OwnLeaves ok w os ls vs ow → OwnLeaves ok w ((0, e) :: os) (l :: ls) (v :: vs) ow
  | arr {e os t st xs ls v vs ow} : e ≠ 0 → ArrOwn T ok w e t xs v → OwnLeaves ok w os ls vs ow → OwnLeaves ok w ((e, 0) :: os) (.sl t st xs :: ls) (v :: vs) (v.ownBlock.toList ++ ow)
  | rows {e e2 os t st xss ls v vs ow rows own} : e ≠ 0 → e2 ≠ 0 → RowsOwn T ok w e e2 t xss ⟨0, v, own, rows⟩ → OwnLeaves ok w os ls vs ow → OwnLeaves ok w ((e, e2) :: os) (.sl (.sl t) st xss :: ls) (v :: vs) (own ++ ow)
def ResRep1 (ok : Nat → Prop) (w : World) (os : List (TypeId × TypeId)) (t : Ty) (y : t.den T.E) (v : Value) (own : List Nat) : Prop :=
  ∃ vs, OwnLeaves T ok w os (t.toL T y) vs own ∧ if isNm t then v = .agg vs.toArray else vs = [v]
def ResRep (ok : Nat → Prop) (w : World) : List (List (TypeId × TypeId)) → (ts : List Ty) → HL T.E ts → List Value → List Nat → Prop
  | _, [], _, vs, own => vs = [] ∧ own = []
  | os, t :: ts, (y, r), vs, own => ∃ v vr o1 o2, vs = v :: vr ∧ own = o1 ++ o2 ∧ ResRep1 T ok w (os.headD []) t y v o1 ∧ ResRep ok w os.tail ts r vr o2
end
def oneOr : List Value → Value
  | [v] => v
  | vs => .tuple vs.toArray
structure But (own : List Nat) (w w' : World) : Prop where
  os : w'.os = w.os
  tape : w'.tape = w.tape
  output : w'.output = w.output
  size : w.heap.size ≤ w'.heap.size
  heap : ∀ b, b < w.heap.size → b ∉ own → w'.heap[b]? = w.heap[b]?
def Meets (V : Env) (P : Program) (f : FuncId) (S : FS V.E) : Prop :=
  (∃ fn, P.funcs[f]? = some fn ∧ fn.body.isSome = true ∧ (fn.name == "runtime.NumGoroutine") = false) ∧
  ∀ x y, S.f x = some y → ∀ (okp : Nat → Prop) (w : World) (vs : List Value) (own : List Nat), ArgsRep V.T okp w S.argOwn S.args x vs own → own.Nodup → (∀ b ∈ own, b < w.heap.size ∧ ¬ okp b) → (∀ b, okp b → b < w.heap.size) →
    Calls P f vs.toArray w fun e w' => ∃ rs own', e = .returned (oneOr rs) ∧ But own w w' ∧ own'.Nodup ∧ (∀ b ∈ own', b < w'.heap.size ∧ (w.heap.size ≤ b ∨ b ∈ own)) ∧
      ResRep V.T (fun b => b < w'.heap.size ∧ (okp b ∨ w.heap.size ≤ b ∨ b ∈ own) ∧ b ∉ own') w' S.resOwn S.res y rs own'
def WinRep (sz : Nat) (hdr v : Value) (b N : Nat) (i n : Int) : Prop :=
  ∃ cap, hdr = .slice (some ⟨b, 0, none⟩) N cap ∧ 0 ≤ i ∧ 0 ≤ n ∧ i + n ≤ N ∧ i.toNat ≤ cap ∧ v = .slice (some ⟨b, i.toNat * sz, none⟩) n.toNat (cap - i.toNat)
def okW (okp : Nat → Prop) (w : World) (b : Nat) (w' : World) (c : Nat) : Prop := c < w'.heap.size ∧ (okp c ∨ w.heap.size ≤ c) ∧ c ≠ b
def MeetsW (V : Env) (P : Program) (f : FuncId) (S : FW V.E) : Prop :=
  (∃ fn, P.funcs[f]? = some fn ∧ fn.body.isSome = true ∧ (fn.name == "runtime.NumGoroutine") = false) ∧
  ∀ xs i n x ys y, S.f xs i n x = some (ys, y) → ys.length = xs.length → ∀ (okp : Nat → Prop) (w : World) (v : Value) (vs : List Value) (hdr : Value) (b : Nat), WinRep (S.t.sz V.T) hdr v b xs.length i n →
    ArrOwn V.T okp w S.e S.t xs hdr → ArgsRep V.T okp w [] S.args x vs [] → b < w.heap.size → ¬ okp b → (∀ c, okp c → c < w.heap.size) →
    Calls P f (v :: vs).toArray w fun e w' => ∃ rs, e = .returned (oneOr rs) ∧ But [b] w w' ∧ ArrOwn V.T (okW okp w b w') w' S.e S.t ys hdr ∧ ResRep V.T (okW okp w b w') w' [] S.res y rs []
def MeetsC (V : Env) (P : Program) (f : FuncId) (S : FC V.E) : Prop :=
  (∃ fn, P.funcs[f]? = some fn ∧ fn.body.isSome = true ∧ (fn.name == "runtime.NumGoroutine") = false) ∧
  ∀ c x y, S.f c x = some y → ∀ (okp : Nat → Prop) (w : World) (vs : List Value) (pv : Value), ArgsRep V.T okp w [] S.args x vs [] → (S.via.isFn = true ∨ ∃ b o cs, pv = .pointer (some ⟨b, o, none⟩) ∧ AVRep okp w (S.c.av V.T c) cs ∧ Mem okp w b o cs) →
    (∀ b, okp b → b < w.heap.size) →
    Calls P f (vs ++ [S.via.val pv]).toArray w fun e w' => ∃ rs, e = .returned (oneOr rs) ∧ But [] w w' ∧ ResRep V.T (fun b => b < w'.heap.size ∧ (okp b ∨ w.heap.size ≤ b)) w' [] S.res y rs []
def MeetsL (T : Tab) (P : Program) (f : FuncId) (S : FL T.E) : Prop :=
  (∃ fn, P.funcs[f]? = some fn ∧ fn.body.isSome = true ∧ (fn.name == "runtime.NumGoroutine") = false) ∧
  ∀ lo args bx res bx', S.g lo args bx = some (res, bx') → ∀ (C : Ctx) (β : Nat → BI) (w : World) (vs : List Value) (kx : List (SV T.E)) (kv : List Value), MemOk T C bx β w → All2 (CVRep T bx β (okOf C β w) w) args vs →
    All2 (SVRep T bx β (okOf C β w) w) kx kv → Calls P f vs.toArray w fun e w' => ∃ β' rs, e = .returned (oneOr rs) ∧ MemOk T C bx' β' w' ∧ All2 (CVRep T bx' β' (okOf C β' w') w') res rs ∧ All2 (SVRep T bx' β' (okOf C β' w') w') kx kv
def β0 : Nat → BI := fun _ => ⟨0, undef, [], []⟩
structure FuncsOk (V : Env) (P : Program) : Prop where
  fs : ∀ f S, V.fs f = some S → Meets V P f S
  ws : ∀ f S, V.ws f = some S → MeetsW V P f S
  cs : ∀ f S, V.cs f = some S → MeetsC V P f S
  ps : ∀ f S, V.ps f = some S → MeetsL V.T P f S
section
variable {V : Env} {P : Program} {C : Ctx} {w : World}
variable {res : Option (SV V.E)} {cs : List Cd} {bx' : List (Nat × Box V.E)} {ac : Acc}
theorem ArgRep.later {ok ok' : Nat → Prop} {e : TypeId} {t : Ty} {x : t.den V.E} {v : Value} {own : List Nat} (L : Later ok w ok' w) (h : ArgRep V.T ok w e t x v own) : ArgRep V.T ok' w e t x v own := by
  cases h with
  | data h =>
    refine .data ?_
    unfold DRep at h ⊢
    split at h
    · rename_i hn
      rw [if_pos hn]
      obtain ⟨cs, rfl, h⟩ := h
      exact ⟨cs, rfl, AVRep.later L _ _ h⟩
    · rename_i hn
      rw [if_neg hn]
      exact AVRep.later L _ _ h
  | own h => exact .own (h.later L fun _ _ => rfl)
theorem cv_agg {bx : List (Nat × Box V.E)} {β : Nat → BI} {ok : Nat → Prop} (HT : V.T.Ok) {c : CV V.E} {v : Value} {ls : List (Leaf V.E)} {vs : List Value} (hv : v.cells.toList = vs) (hc : c.isAg = true → ∃ cs, v = .agg cs) (hc' : c.isAg = false → v.cells = #[v])
    (hr : All2 (LeafRep V.T bx β ok w) ls vs) {t : Ty} (ha : (c.isAg == isNm t) = true) {x : t.den V.E} (hx : t.ofL V.T ls = some x) : DRep V.T ok w t x v := by
  have h := (toL_av HT t x vs).1 (coes_rep (ofL_coe HT hx) hr)
  unfold DRep
  have ha : c.isAg = isNm t := by simpa using ha
  split
  · rename_i hn
    rw [hn] at ha
    obtain ⟨cs, rfl⟩ := hc ha
    refine ⟨cs, rfl, ?_⟩
    have : vs = cs.toList := by rw [← hv]; rfl
    rw [← this]; exact h
  · rename_i hn
    simp only [Bool.not_eq_true] at hn
    rw [hn] at ha
    have := hc' ha
    rw [this] at hv
    have : vs = [v] := by rw [← hv]
    rw [← this]; exact h
theorem CVRep.isAg {bx : List (Nat × Box V.E)} {β : Nat → BI} {ok : Nat → Prop} {c : CV V.E} {v : Value} (h : CVRep V.T bx β ok w c v) : (c.isAg = true → ∃ cs, v = .agg cs) ∧ (c.isAg = false → v.cells = #[v]) := by
  cases c with
  | one l => exact ⟨(fun k => by cases k), fun _ => leaf_cells h⟩
  | ag ls => obtain ⟨cs, rfl, _⟩ := h; exact ⟨(fun _ => ⟨cs, rfl⟩), (fun k => by cases k)⟩
theorem give_ok (HT : V.T.Ok) : ∀ (os : List TypeId) (args : List (CV V.E)) (vs : List Value) (bx : List (Nat × Box V.E)) (β : Nat → BI), MemOk V.T C bx β w → All2 (CVRep V.T bx β (okOf C β w) w) args vs →
    ∀ (k : List (Bool × List (Leaf V.E)) → Todo V.E) (rs ws : List Nat), interp V bx (giveAll V os args k) rs ws = some (res, cs, bx', ac) →
    ∃ (bx1 : List (Nat × Box V.E)) (β1 : Nat → BI) (ls : List (Bool × List (Leaf V.E))) (rs' ws' gs : List Nat), MemOk V.T C bx1 β1 w ∧ Ext V.T bx β (okOf C β w) w bx1 β1 (okOf C β1 w) w ∧ interp V bx1 (k ls) rs' ws' = some (res, cs, bx', ac) ∧
      (∀ id ∈ gs, look id bx1 = some .gone) ∧ (∀ id ∈ gs, look id bx ≠ some .gone) ∧ gs.Nodup ∧ GoneKept bx β bx1 β1 ∧
      ∀ (ts : List Ty) (x : HL V.E ts), argsOf V.T ts ls = some x → ArgsRep V.T (okOf C β1 w) w os ts x vs (gs.flatMap fun id => (β1 id).own)
  | os, [], _, bx, β, M, .nil, k, rs, ws, h => by
    have h : interp V bx (k []) rs ws = some (res, cs, bx', ac) := by cases os <;> exact h
    exact ⟨bx, β, [], rs, ws, [], M, Ext.refl _ _ _ _ _, h, by simp, by simp, by simp, fun j hj => ⟨hj, rfl⟩, fun ts x hx => by cases ts with
      | nil => exact ⟨rfl, rfl⟩
      | cons t ts => simp [argsOf] at hx⟩
  | os, c :: args, v :: vs, bx, β, M, .cons h1 h2, k, rs, ws, h => by
    have data : ∀ (os' : List TypeId) (h : interp V bx (frz V c.leaves fun l => giveAll V os' args fun r' => k ((c.isAg, l) :: r')) rs ws = some (res, cs, bx', ac)), os.headD 0 = 0 → os.tail = os' →
        ∃ (bx1 : List (Nat × Box V.E)) (β1 : Nat → BI) (ls : List (Bool × List (Leaf V.E))) (rs' ws' gs : List Nat), MemOk V.T C bx1 β1 w ∧ Ext V.T bx β (okOf C β w) w bx1 β1 (okOf C β1 w) w ∧ interp V bx1 (k ls) rs' ws' = some (res, cs, bx', ac) ∧
          (∀ id ∈ gs, look id bx1 = some .gone) ∧ (∀ id ∈ gs, look id bx ≠ some .gone) ∧ gs.Nodup ∧ GoneKept bx β bx1 β1 ∧
          ∀ (ts : List Ty) (x : HL V.E ts), argsOf V.T ts ls = some x → ArgsRep V.T (okOf C β1 w) w os ts x (v :: vs) (gs.flatMap fun id => (β1 id).own) := by
      intro os' h ho ht
      obtain ⟨bx1, β1, ls', rs1, ws1, M1, X1, R1, I1, G1⟩ := frz_ok _ _ bx β M (CVRep.cells h1) _ _ _ h
      obtain ⟨bx2, β2, ls2, rs2, ws2, gs, M2, X2, I2, a1, a2, a3, G2, F2⟩ := give_ok HT os' args vs bx1 β1 M1 (h2.imp fun _ _ k => CVRep.ext X1 k) _ _ _ I1
      refine ⟨bx2, β2, (c.isAg, ls') :: ls2, rs2, ws2, gs, M2, X1.trans X2, I2, a1, fun id hid hg => a2 id hid (G1 id hg).1, a3, fun j hj => ?_, fun ts x hx => ?_⟩
      · obtain ⟨g1, g2⟩ := G1 j hj
        obtain ⟨g3, g4⟩ := G2 j g1
        exact ⟨g3, g4.trans g2⟩
      · cases ts with
        | nil => simp [argsOf] at hx
        | cons t ts =>
          simp only [argsOf] at hx
          split at hx
          · rename_i hag
            split at hx
            · rename_i x1 hx1
              split at hx
              · rename_i r hr
                cases hx
                refine ⟨v, vs, [], _, rfl, rfl, ?_, by rw [ht]; exact F2 ts r hr⟩
                rw [ho]
                have hci := CVRep.isAg h1
                exact (ArgRep.data (cv_agg HT rfl hci.1 hci.2 R1 hag hx1)).later X2.later
              · cases hx
            · cases hx
          · cases hx
    match os, c, h with
    | [], c, h => exact data [] h rfl rfl
    | 0 :: os, c, h => exact data os h rfl rfl
    | (e + 1) :: os, .ag _, h => simp [giveAll, interp] at h
    | (e + 1) :: os, .one l, h =>
      cases l with
      | ar id ver =>
        simp only [giveAll, interp] at h
        split at h
        · rename_i e' t xs v0 hb
          split at h
          · rename_i hv
            simp only [Bool.and_eq_true] at hv
            have he := eq_of_beq' hv.2
            subst he
            simp only [interp] at h
            simp only [CVRep, LeafRep, hb] at h1
            have hvv := h1.2.2 (eq_of_beq' hv.1)
            obtain ⟨hown, hA⟩ := M.boxes id _ hb
            obtain ⟨M1, X1⟩ := M.set (w' := w) id .gone (β id) rfl rfl rfl (Nat.le_refl _) (fun _ _ _ => rfl) (fun x hx => .inl hx) (M.nodup id) (fun b0 h0 => by rw [hb] at h0; cases h0; trivial) (fun _ => trivial)
            have hβ : upd β id (β id) = β := by funext j; unfold upd; split <;> simp_all
            rw [hβ] at M1 X1
            obtain ⟨bx2, β2, ls2, rs2, ws2, gs, M2, X2, I2, a1, a2, a3, G2, F2⟩ := give_ok HT os args vs _ β M1 (h2.imp fun _ _ k => CVRep.ext X1 k) _ _ _ h
            obtain ⟨g1, g2⟩ := G2 id (look_put_same _ _ _)
            refine ⟨bx2, β2, _, rs2, ws2, id :: gs, M2, X1.trans X2, I2, ?_, ?_, ?_, ?_, fun ts x hx => ?_⟩
            · intro j hj
              rcases List.mem_cons.1 hj with rfl | hj
              · exact g1
              · exact a1 j hj
            · intro j hj
              rcases List.mem_cons.1 hj with rfl | hj
              · rw [hb]; simp
              · intro hg
                by_cases hji : j = id
                · subst hji; rw [hb] at hg; cases hg
                · exact a2 j hj (by rw [look_put_other hji]; exact hg)
            · refine List.nodup_cons.2 ⟨fun hid => a2 id hid (look_put_same _ _ _), a3⟩
            · intro j hj
              have hji : j ≠ id := by rintro rfl; rw [hb] at hj; cases hj
              exact G2 j (by rw [look_put_other hji]; exact hj)
            · cases ts with
              | nil => simp [argsOf] at hx
              | cons t' ts =>
                simp only [argsOf] at hx
                split at hx
                · rename_i hag
                  split at hx
                  · rename_i x1 hx1
                    split at hx
                    · rename_i r hr
                      cases hx
                      refine ⟨v, vs, (β2 id).own, gs.flatMap fun id => (β2 id).own, rfl, rfl, ?_, F2 ts r hr⟩
                      cases t' with
                      | sl t' =>
                        simp only [Ty.ofL] at hx1
                        split at hx1
                        · rename_i hu
                          subst hu
                          cases hx1
                          rw [g2, hown, ← hvv]
                          rw [← hvv] at hA
                          exact .own ((hA.later X1.later fun _ _ => rfl).later X2.later fun _ _ => rfl)
                        · cases hx1
                      | nm n => simp [isNm] at hag
                      | _ => simp [Ty.ofL] at hx1
                    · cases hx
                  · cases hx
                · cases hx
          · simp [interp] at h
        · simp [interp] at h
      | _ => simp [giveAll, interp] at h
end
end Go.Ab
namespace Go.Ab
open Go
structure NB (E : Nat → Type) where
  id : Nat
  b : Box E
  bi : BI
def putN {E : Nat → Type} : List (NB E) → List (Nat × Box E) → List (Nat × Box E)
  | [], bx => bx
  | n :: N, bx => putN N (put n.id n.b bx)
def getN {E : Nat → Type} (N : List (NB E)) (j : Nat) : Option (NB E) := N.find? fun n => n.id == j
theorem getN_mem {E : Nat → Type} {N : List (NB E)} {j : Nat} {n : NB E} (h : getN N j = some n) : n ∈ N ∧ n.id = j := by
  unfold getN at h
  exact ⟨List.mem_of_find?_eq_some h, by simpa using List.find?_some h⟩
theorem getN_of {E : Nat → Type} : ∀ {N : List (NB E)} {n : NB E}, (N.map (·.id)).Nodup → n ∈ N → getN N n.id = some n
  | [], _, _, h => by simp at h
  | m :: N, n, hd, h => by
    simp only [List.map_cons, List.nodup_cons] at hd
    rcases List.mem_cons.1 h with rfl | h
    · simp [getN]
    · have hne : m.id ≠ n.id := fun e => hd.1 (e ▸ List.mem_map.2 ⟨n, h, rfl⟩)
      have := getN_of hd.2 h
      unfold getN at this ⊢
      rw [List.find?_cons]
      have : (m.id == n.id) = false := by simpa using hne
      rw [this]
      assumption
theorem look_putN {E : Nat → Type} : ∀ (N : List (NB E)) (bx : List (Nat × Box E)) (j : Nat), (N.map (·.id)).Nodup → look j (putN N bx) = match getN N j with | some n => some n.b | none => look j bx
  | [], bx, j, _ => rfl
  | m :: N, bx, j, hd => by
    simp only [List.map_cons, List.nodup_cons] at hd
    rw [putN, look_putN N _ j hd.2]
    by_cases hj : m.id = j
    · subst hj
      have h1 : getN N m.id = none := by
        unfold getN
        rw [List.find?_eq_none]
        intro n hn
        simp only [beq_iff_eq]
        exact fun e => hd.1 (e ▸ List.mem_map.2 ⟨n, hn, rfl⟩)
      have h2 : getN (m :: N) m.id = some m := by simp [getN]
      rw [h1, h2, look_put_same]
    · have h2 : getN (m :: N) j = getN N j := by
        unfold getN
        rw [List.find?_cons]
        have : (m.id == j) = false := by simpa using hj
        rw [this]
      rw [h2, look_put_other (Ne.symm hj)]
section
variable {V : Env} {P : Program} {C : Ctx} {w : World}
variable {res : Option (SV V.E)} {cs : List Cd} {bx' : List (Nat × Box V.E)} {ac : Acc}
def NBok (V : Env) (ok : Nat → Prop) (w : World) (n : NB V.E) : Prop :=
  match n.b with
  | .arr e t xs 0 false => n.bi.own = n.bi.hdr.ownBlock.toList ∧ ArrOwn V.T ok w e t xs n.bi.hdr
  | .rows e e2 t xss 0 0 .opn => RowsOwn V.T ok w e e2 t xss n.bi
  | _ => False
def RLeaf (V : Env) (ok : Nat → Prop) (w : World) (N : List (NB V.E)) (l : Leaf V.E) (v : Value) : Prop :=
  (∀ bx β, LeafRep V.T bx β ok w l v) ∨ ∃ n ∈ N, l = .ar n.id 0 ∧ v = n.bi.hdr ∧ v.oneCell' = true
theorem RLeaf.mono {ok : Nat → Prop} {N M : List (NB V.E)} (h : ∀ n ∈ N, n ∈ M) {l : Leaf V.E} {v : Value} (k : RLeaf V ok w N l v) : RLeaf V ok w M l v := by
  rcases k with k | ⟨n, hn, k⟩
  · exact .inl k
  · exact .inr ⟨n, h n hn, k⟩
theorem arr_one {ok : Nat → Prop} {e : TypeId} {t : Ty} {xs : List (t.den V.E)} {v : Value} (h : ArrOwn V.T ok w e t xs v) : v.oneCell' = true := by
  obtain ⟨_, ⟨_, q⟩, _⟩ := h
  rcases q with ⟨q, _⟩ | ⟨_, _, _, q, _⟩ <;> rw [q] <;> rfl
theorem own_ok {ok : Nat → Prop} : ∀ {os : List (TypeId × TypeId)} {ls : List (Leaf V.E)} {vs : List Value} {ow : List Nat}, OwnLeaves V.T ok w os ls vs ow →
    ∀ (id : Nat) (bx : List (Nat × Box V.E)) (k : List (Leaf V.E) → Todo V.E) (rs ws : List Nat), interp V bx (ownLeaves V id os ls k) rs ws = some (res, cs, bx', ac) →
    ∃ (N : List (NB V.E)) (ls' : List (Leaf V.E)) (rs' ws' : List Nat), interp V (putN N bx) (k ls') rs' ws' = some (res, cs, bx', ac) ∧ (N.map (·.id)).Nodup ∧ (∀ n ∈ N, look n.id bx = none) ∧ (∀ n ∈ N, NBok V ok w n) ∧
      ow = N.flatMap (·.bi.own) ∧ All2 (RLeaf V ok w N) ls' vs
  | os, _, _, _, .nil, id, bx, k, rs, ws, h => by
    have h : interp V bx (k []) rs ws = some (res, cs, bx', ac) := by
      cases os with
      | nil => exact h
      | cons o os => obtain ⟨e, e2⟩ := o; exact h
    exact ⟨[], [], rs, ws, h, by simp, by simp, by simp, rfl, .nil⟩
  | _, _, _, _, .more h1 h2, id, bx, k, rs, ws, h => by
    have h : interp V bx (ownLeaves V (id + 1000) [] _ fun ls => k (_ :: ls)) rs ws = some (res, cs, bx', ac) := h
    obtain ⟨N, ls', rs', ws', a1, a2, a3, a4, a5, a6⟩ := own_ok h2 _ _ _ _ _ h
    exact ⟨N, _, rs', ws', a1, a2, a3, a4, a5, .cons (.inl h1) a6⟩
  | _, _, _, _, .data h1 h2, id, bx, k, rs, ws, h => by
    have h : interp V bx (ownLeaves V (id + 1000) _ _ fun ls => k (_ :: ls)) rs ws = some (res, cs, bx', ac) := h
    obtain ⟨N, ls', rs', ws', a1, a2, a3, a4, a5, a6⟩ := own_ok h2 _ _ _ _ _ h
    exact ⟨N, _, rs', ws', a1, a2, a3, a4, a5, .cons (.inl h1) a6⟩
  | _, _, _, _, @OwnLeaves.arr _ _ _ e os t st xs ls v vs ow he hA h2, id, bx, k, rs, ws, h => by
    obtain ⟨e, rfl⟩ := Nat.exists_eq_add_one_of_ne_zero he
    have h : interp V bx (newBox V id (.arr (e + 1) t xs 0 false) (ownLeaves V (id + 1000) os ls fun ls => k (.ar id 0 :: ls))) rs ws = some (res, cs, bx', ac) := by
      cases t <;> exact h
    obtain ⟨hid, rs1, ws1, h⟩ := newBox_ok h
    obtain ⟨N, ls', rs', ws', a1, a2, a3, a4, a5, a6⟩ := own_ok h2 _ _ _ _ _ h
    have hne : ∀ n ∈ N, n.id ≠ id := by
      intro n hn e
      have := a3 n hn
      rw [e, look_put_same] at this; cases this
    refine ⟨⟨id, .arr (e + 1) t xs 0 false, ⟨0, v, v.ownBlock.toList, []⟩⟩ :: N, .ar id 0 :: ls', rs', ws', a1, ?_, ?_, ?_, by rw [a5]; simp, .cons (.inr ⟨_, List.mem_cons_self, rfl, rfl, arr_one hA⟩) (a6.imp fun _ _ k => k.mono fun n hn => List.mem_cons_of_mem _ hn)⟩
    · simp only [List.map_cons, List.nodup_cons]
      exact ⟨fun hm => by obtain ⟨n, hn, e⟩ := List.mem_map.1 hm; exact hne n hn e, a2⟩
    · intro n hn
      rcases List.mem_cons.1 hn with rfl | hn
      · exact hid
      · have := a3 n hn
        rw [look_put_other (hne n hn)] at this; exact this
    · intro n hn
      rcases List.mem_cons.1 hn with rfl | hn
      · exact ⟨rfl, hA⟩
      · exact a4 n hn
  | _, _, _, _, @OwnLeaves.rows _ _ _ e e2 os t st xss ls v vs ow rows own he he2 hA h2, id, bx, k, rs, ws, h => by
    obtain ⟨e, rfl⟩ := Nat.exists_eq_add_one_of_ne_zero he
    obtain ⟨e2, rfl⟩ := Nat.exists_eq_add_one_of_ne_zero he2
    have h : interp V bx (newBox V id (.rows (e + 1) (e2 + 1) t xss 0 0 .opn) (ownLeaves V (id + 1000) os ls fun ls => k (.ar id 0 :: ls))) rs ws = some (res, cs, bx', ac) := h
    obtain ⟨hid, rs1, ws1, h⟩ := newBox_ok h
    obtain ⟨N, ls', rs', ws', a1, a2, a3, a4, a5, a6⟩ := own_ok h2 _ _ _ _ _ h
    have hne : ∀ n ∈ N, n.id ≠ id := by
      intro n hn e
      have := a3 n hn
      rw [e, look_put_same] at this; cases this
    have hone : v.oneCell' = true := by
      obtain ⟨⟨_, q⟩, _⟩ := hA
      rcases q with ⟨q, _⟩ | ⟨_, _, _, q, _⟩ <;> (simp only at q; rw [q]; rfl)
    refine ⟨⟨id, .rows (e + 1) (e2 + 1) t xss 0 0 .opn, ⟨0, v, own, rows⟩⟩ :: N, .ar id 0 :: ls', rs', ws', a1, ?_, ?_, ?_, by rw [a5]; simp, .cons (.inr ⟨_, List.mem_cons_self, rfl, rfl, hone⟩) (a6.imp fun _ _ k => k.mono fun n hn => List.mem_cons_of_mem _ hn)⟩
    · simp only [List.map_cons, List.nodup_cons]
      exact ⟨fun hm => by obtain ⟨n, hn, e⟩ := List.mem_map.1 hm; exact hne n hn e, a2⟩
    · intro n hn
      rcases List.mem_cons.1 hn with rfl | hn
      · exact hid
      · have := a3 n hn
        rw [look_put_other (hne n hn)] at this; exact this
    · intro n hn
      rcases List.mem_cons.1 hn with rfl | hn
      · exact hA
      · exact a4 n hn
def RVal (V : Env) (ok : Nat → Prop) (w : World) (N : List (NB V.E)) : CV V.E → Value → Prop
  | .one l, v => RLeaf V ok w N l v
  | .ag ls, v => ∃ cs, v = .agg cs ∧ All2 (RLeaf V ok w N) ls cs.toList
theorem RVal.mono {ok : Nat → Prop} {N M : List (NB V.E)} (h : ∀ n ∈ N, n ∈ M) {c : CV V.E} {v : Value} (k : RVal V ok w N c v) : RVal V ok w M c v := by
  cases c with
  | one l => exact RLeaf.mono h k
  | ag ls => obtain ⟨cs, rfl, k⟩ := k; exact ⟨cs, rfl, k.imp fun _ _ k => RLeaf.mono h k⟩
theorem putN_append {E : Nat → Type} : ∀ (N M : List (NB E)) (bx : List (Nat × Box E)), putN (N ++ M) bx = putN M (putN N bx)
  | [], _, _ => rfl
  | _ :: N, M, _ => putN_append N M _
theorem res_ok {ok : Nat → Prop} : ∀ (os : List (List (TypeId × TypeId))) (ts : List Ty) (y : HL V.E ts) (vs : List Value) (ow : List Nat), ResRep V.T ok w os ts y vs ow →
    ∀ (id : Nat) (bx : List (Nat × Box V.E)) (k : List (CV V.E) → Todo V.E) (rs ws : List Nat), interp V bx (resCV V id os ts y k) rs ws = some (res, cs, bx', ac) →
    ∃ (N : List (NB V.E)) (cvs : List (CV V.E)) (rs' ws' : List Nat), interp V (putN N bx) (k cvs) rs' ws' = some (res, cs, bx', ac) ∧ (N.map (·.id)).Nodup ∧ (∀ n ∈ N, look n.id bx = none) ∧ (∀ n ∈ N, NBok V ok w n) ∧
      ow = N.flatMap (·.bi.own) ∧ All2 (RVal V ok w N) cvs vs
  | os, [], y, vs, ow, ⟨h1, h2⟩, id, bx, k, rs, ws, h => by
    subst h1 h2
    exact ⟨[], [], rs, ws, h, by simp, by simp, by simp, rfl, .nil⟩
  | os, t :: ts, (y, r), _, _, ⟨v, vr, o1, o2, rfl, rfl, h1, h2⟩, id, bx, k, rs, ws, h => by
    simp only [resCV] at h
    obtain ⟨ls, hl, hv⟩ := h1
    obtain ⟨N, ls', rs1, ws1, a1, a2, a3, a4, a5, a6⟩ := own_ok hl _ _ _ _ _ h
    cases hc : ofLeaves (isNm t) ls' with
    | none => rw [hc] at a1; simp [interp] at a1
    | some c =>
      rw [hc] at a1
      simp only at a1
      have hos : os.drop 1 = os.tail := by cases os <;> rfl
      rw [hos] at a1
      obtain ⟨M, cvs, rs2, ws2, b1, b2, b3, b4, b5, b6⟩ := res_ok _ _ _ _ _ h2 _ _ _ _ _ a1
      have hval : RVal V ok w N c v := by
        cases hn : isNm t with
        | true =>
          rw [hn] at hc hv
          simp [ofLeaves] at hc
          subst hc
          simp at hv
          exact ⟨ls.toArray, hv, by simpa using a6⟩
        | false =>
          rw [hn] at hc hv
          simp at hv
          subst hv
          cases a6 with
          | cons q1 q2 =>
            cases q2
            simp [ofLeaves] at hc
            subst hc
            exact q1
      refine ⟨N ++ M, c :: cvs, rs2, ws2, by rw [putN_append]; exact b1, ?_, ?_, ?_, by rw [a5, b5, List.flatMap_append], .cons (hval.mono fun n hn => List.mem_append.2 (.inl hn)) (b6.imp fun _ _ k => k.mono fun n hn => List.mem_append.2 (.inr hn))⟩
      · rw [List.map_append]
        refine List.nodup_append.2 ⟨a2, b2, fun x hx y hy e => ?_⟩
        subst e
        obtain ⟨n, hn, rfl⟩ := List.mem_map.1 hx
        obtain ⟨m, hm, e⟩ := List.mem_map.1 hy
        have := b3 m hm
        rw [e, look_putN _ _ _ a2, getN_of a2 hn] at this
        cases this
      · intro n hn
        rcases List.mem_append.1 hn with hn | hn
        · exact a3 n hn
        · have := b3 n hn
          rw [look_putN _ _ _ a2] at this
          split at this
          · cases this
          · exact this
      · intro n hn
        rcases List.mem_append.1 hn with hn | hn
        · exact a4 n hn
        · exact b4 n hn
end
end Go.Ab
namespace Go.Ab
open Go
section
variable {V : Env} {P : Program} {C : Ctx} {w : World}
variable {res : Option (SV V.E)} {cs : List Cd} {bx' : List (Nat × Box V.E)} {ac : Acc}
theorem upd_self (β : Nat → BI) (id : Nat) : upd β id (β id) = β := by
  funext j; unfold upd; split
  · rename_i h; rw [h]
  · rfl
theorem argsRep_nil {ok : Nat → Prop} : ∀ (ts : List Ty) (x : HL V.E ts) (vs : List Value) (own : List Nat), ArgsRep V.T ok w [] ts x vs own → own = []
  | [], _, _, _, h => h.2
  | t :: ts, (x, r), _, _, ⟨v, vr, o1, o2, rfl, rfl, h1, h2⟩ => by
    have h1 : ArgRep V.T ok w 0 t x v o1 := h1
    cases h1 with
    | data _ => rw [argsRep_nil ts r vr o2 h2]; rfl
theorem ownLeaves_nil : ∀ (ls : List (Leaf V.E)) (id : Nat) (k : List (Leaf V.E) → Todo V.E), ownLeaves V id [] ls k = k ls
  | [], _, _ => rfl
  | l :: ls, id, k => by
    show ownLeaves V (id + 1000) [] ls (fun ls => k (l :: ls)) = _
    rw [ownLeaves_nil ls]
theorem own_data {ok : Nat → Prop} : ∀ {ls : List (Leaf V.E)} {vs : List Value} {ow : List Nat}, OwnLeaves V.T ok w [] ls vs ow → All2 (fun l v => ∀ bx β, LeafRep V.T bx β ok w l v) ls vs
  | _, _, _, .nil => .nil
  | _, _, _, .more h1 h2 => .cons h1 (own_data h2)
theorem res_data {ok : Nat → Prop} : ∀ (ts : List Ty) (y : HL V.E ts) (vs : List Value) (ow : List Nat), ResRep V.T ok w [] ts y vs ow →
    ∀ (id : Nat) (bx : List (Nat × Box V.E)) (k : List (CV V.E) → Todo V.E) (rs ws : List Nat), interp V bx (resCV V id [] ts y k) rs ws = some (res, cs, bx', ac) →
    ∃ cvs, interp V bx (k cvs) rs ws = some (res, cs, bx', ac) ∧ All2 (fun c v => ∀ bx β, CVRep V.T bx β ok w c v) cvs vs
  | [], y, vs, ow, ⟨h1, _⟩, id, bx, k, rs, ws, h => by subst h1; exact ⟨[], h, .nil⟩
  | t :: ts, (y, r), _, _, ⟨v, vr, o1, o2, rfl, _, h1, h2⟩, id, bx, k, rs, ws, h => by
    obtain ⟨ls, hl, hv⟩ := h1
    have hall := own_data (V := V) (w := w) hl
    simp only [resCV, List.headD_nil, ownLeaves_nil] at h
    cases hc : ofLeaves (isNm t) (t.toL V.T y) with
    | none => rw [hc] at h; simp [interp] at h
    | some c =>
      rw [hc] at h
      simp only [List.drop_nil] at h
      obtain ⟨cvs, b1, b2⟩ := res_data ts r vr o2 h2 _ _ _ _ _ h
      refine ⟨c :: cvs, b1, .cons (fun bx β => ?_) b2⟩
      cases hn : isNm t with
      | true =>
        rw [hn] at hc hv
        simp [ofLeaves] at hc
        subst hc
        simp at hv
        exact ⟨ls.toArray, hv, by simpa using hall.imp fun _ _ k => k bx β⟩
      | false =>
        rw [hn] at hc hv
        simp at hv
        subst hv
        generalize Ty.toL V.T t y = q at *
        cases hall with
        | cons q1 q2 =>
          cases q2
          simp [ofLeaves] at hc
          subst hc
          exact q1 bx β
theorem conds_resd {c0 : List Cd} : ∀ (ts : List Ty) (id : Nat) (y : HL V.E ts) (k : List (CV V.E) → Todo V.E),
    (∀ l bx rs ws res cs bx' ac, interp V bx (k l) rs ws = some (res, cs, bx', ac) → cs = c0) →
    ∀ bx rs ws res cs bx' ac, interp V bx (resCV V id [] ts y k) rs ws = some (res, cs, bx', ac) → cs = c0
  | [], id, y, k, hk, bx, rs, ws, res, cs, bx', ac, h => hk _ _ _ _ _ _ _ _ h
  | t :: ts, id, (y, r), k, hk, bx, rs, ws, res, cs, bx', ac, h => by
    simp only [resCV, List.headD_nil, ownLeaves_nil] at h
    split at h
    · exact conds_resd ts _ r _ (fun l => hk _) _ _ _ _ _ _ _ h
    · simp [interp] at h
def CallsOk (V : Env) (P : Program) (C : Ctx) (bx : List (Nat × Box V.E)) (β : Nat → BI) (w : World) (f : FuncId) (vs : List Value) (res : Option (SV V.E)) (bx' : List (Nat × Box V.E)) : Prop :=
  (∃ fn, P.funcs[f]? = some fn ∧ fn.body.isSome = true ∧ (fn.name == "runtime.NumGoroutine") = false) ∧
  Calls P f vs.toArray w fun e w' => ∃ v, e = .returned v ∧ ∃ β' x, res = some x ∧ SVRep V.T bx' β' (okOf C β' w') w' x v ∧ MemOk V.T C bx' β' w' ∧ Ext V.T bx β (okOf C β w) w bx' β' (okOf C β' w') w'
theorem lastOf_some {α : Type} : ∀ {l i : List α} {a : α}, lastOf l = some (i, a) → l = i ++ [a]
  | [], _, _, h => by simp [lastOf] at h
  | [b], _, _, h => by simp [lastOf] at h; obtain ⟨rfl, rfl⟩ := h; rfl
  | b :: c :: r, _, _, h => by
    unfold lastOf at h
    split at h
    · rename_i i l hl
      cases h
      rw [lastOf_some hl]; rfl
    · cases h
theorem argsRep_later {ok ok' : Nat → Prop} (L : Later ok w ok' w) : ∀ (ts : List Ty) (x : HL V.E ts) (vs : List Value) (own : List Nat) {os : List TypeId}, ArgsRep V.T ok w os ts x vs own → ArgsRep V.T ok' w os ts x vs own
  | [], _, _, _, _, h => h
  | _ :: ts, (_, r), _, _, _, ⟨v, vr, o1, o2, e1, e2, h1, h2⟩ => ⟨v, vr, o1, o2, e1, e2, h1.later L, argsRep_later L ts r vr o2 h2⟩
theorem flat_res {ok ok' : Nat → Prop} {w w' : World} : ∀ (ts : List Ty) (y : HL V.E ts) (vs : List Value) (ow : List Nat), ts.all isFlat = true → ResRep V.T ok w [] ts y vs ow → ResRep V.T ok' w' [] ts y vs ow
  | [], _, _, _, _, h => h
  | t :: ts, (y, r), _, _, hf, ⟨v, vr, o1, o2, e1, e2, ⟨ls, hl, hv⟩, h2⟩ => by
    simp only [List.all_cons, Bool.and_eq_true] at hf
    refine ⟨v, vr, o1, o2, e1, e2, ⟨ls, ?_, hv⟩, flat_res ts r vr o2 hf.2 h2⟩
    have hl : OwnLeaves V.T ok w [] (t.toL V.T y) ls o1 := hl
    show OwnLeaves V.T ok' w' [] (t.toL V.T y) ls o1
    cases t with
    | int k => cases hl with
      | more a b => cases b; exact .more (fun bx β => a bx β) .nil
    | bool => cases hl with
      | more a b => cases b; exact .more (fun bx β => a bx β) .nil
    | str => cases hl with
      | more a b => cases b; exact .more (fun bx β => a bx β) .nil
    | sl t => simp [isFlat] at hf
    | nm n => simp [isFlat] at hf
theorem later_res {ok ok' : Nat → Prop} {w : World} (L : Later ok w ok' w) : ∀ (ts : List Ty) (y : HL V.E ts) (vs : List Value) (ow : List Nat), ResRep V.T ok w [] ts y vs ow → ResRep V.T ok' w [] ts y vs ow
  | [], _, _, _, h => h
  | t :: ts, (y, r), _, _, ⟨v, vr, o1, o2, e1, e2, ⟨ls, hl, hv⟩, h2⟩ => by
    refine ⟨v, vr, o1, o2, e1, e2, ⟨ls, ?_, hv⟩, later_res L ts r vr o2 h2⟩
    have key : ∀ (cs : List (Leaf V.E)) (vs : List Value) (ow : List Nat), OwnLeaves V.T ok w [] cs vs ow → OwnLeaves V.T ok' w [] cs vs ow := by
      intro cs
      induction cs with
      | nil => intro vs ow h; cases h; exact .nil
      | cons l ls IH => intro vs ow h; cases h with
        | more h1 h => exact .more (fun bx β => LeafRep.agree L l _ (fun id hid => ⟨.inl rfl, rfl⟩) (h1 bx β)) (IH _ _ h)
    exact key _ _ _ hl
theorem via_at {bx : List (Nat × Box V.E)} {β : Nat → BI} {ok : Nat → Prop} {v : Via} {l l' : Leaf V.E} {u : Value} (h : v.at l = some l') (hr : LeafRep V.T bx β ok w l u) : ∃ pv, u = v.val pv ∧ (v.isFn = false → LeafRep V.T bx β ok w l' pv) := by
  cases v with
  | ptr => cases h; exact ⟨u, rfl, fun _ => hr⟩
  | clo f =>
    cases l with
    | clo f' ls =>
      match ls with
      | [a] =>
        simp only [Via.at] at h
        split at h
        · rename_i e
          cases h
          have e := Nat.eq_of_beq_eq_true e
          subst e
          simp only [LeafRep] at hr
          obtain ⟨vs, rfl, hr⟩ := hr
          simp only [LeafReps] at hr
          obtain ⟨pv, r, hv, h1, rfl⟩ := hr
          refine ⟨pv, ?_, fun _ => h1⟩
          have : vs = #[pv] := by cases vs; simp at hv; subst hv; rfl
          rw [this]; rfl
        · cases h
      | [] => simp [Via.at] at h
      | _ :: _ :: _ => simp [Via.at] at h
    | _ => simp [Via.at] at h
  | fn f =>
    cases l with
    | clo f' ls =>
      match ls with
      | [] =>
        simp only [Via.at] at h
        split at h
        · rename_i e
          have e := Nat.eq_of_beq_eq_true e
          subst e
          simp only [LeafRep] at hr
          obtain ⟨vs, rfl, hr⟩ := hr
          simp only [LeafReps] at hr
          refine ⟨undef, ?_, fun h => by simp [Via.isFn] at h⟩
          have : vs = #[] := by cases vs; simp at hr; subst hr; rfl
          rw [this]; rfl
        · cases h
      | _ :: _ => simp [Via.at] at h
    | _ => simp [Via.at] at h
theorem via_leaf {bx : List (Nat × Box V.E)} {β : Nat → BI} {ok : Nat → Prop} {v : Via} {l : Leaf V.E} {pv : Value} (h : v.isFn = true ∨ LeafRep V.T bx β ok w l pv) : LeafRep V.T bx β ok w (v.leaf l) (v.val pv) := by
  cases v with
  | ptr => rcases h with h | h
           · simp [Via.isFn] at h
           · exact h
  | clo f => rcases h with h | h
             · simp [Via.isFn] at h
             · exact ⟨#[pv], rfl, pv, [], rfl, h, rfl⟩
  | fn f => exact ⟨#[], rfl, rfl⟩
theorem callc_fin {f : FuncId} {S : FC V.E} (HW : MeetsC V P f S) {bx bx1 : List (Nat × Box V.E)} {β β1 : Nat → BI} (M1 : MemOk V.T C bx1 β1 w) (X1 : Ext V.T bx β (okOf C β w) w bx1 β1 (okOf C β1 w) w) {dst : Nat} {vr : List Value} {pv : Value}
    {c : S.c.den V.E} {x : HL V.E S.args} {y : HL V.E S.res} (okp : Nat → Prop) (L : Later (okOf C β1 w) w okp w) (hlt : ∀ b, okp b → b < w.heap.size) (hflat : S.res.all isFlat = true ∨ ∀ b, okp b → okOf C β1 w b)
    (hargs : ArgsRep V.T (okOf C β1 w) w [] S.args x vr []) (hp : S.via.isFn = true ∨ ∃ b o cs, pv = .pointer (some ⟨b, o, none⟩) ∧ AVRep okp w (S.c.av V.T c) cs ∧ Mem okp w b o cs)
    {rs ws : List Nat} (h : interp V bx1 (resCV V dst [] S.res y (retCV V [cc (S.f c x = some y)])) rs ws = some (res, cs, bx', ac)) (hc : AllP cs) : CallsOk V P C bx β w f (vr ++ [S.via.val pv]) res bx' := by
  have hk : ∀ l bx rs ws res cs bx' ac, interp V bx (retCV V [cc (S.f c x = some y)] l) rs ws = some (res, cs, bx', ac) → cs = [cc (S.f c x = some y)] := by
    intro l bx rs ws res cs bx' ac h
    unfold retCV at h
    split at h <;> exact (interp_ret h).2.1.symm
  have hcs := conds_resd _ _ _ _ hk _ _ _ _ _ _ _ h
  rw [hcs] at hc
  refine ⟨HW.1, (HW.2 c x y hc.1 okp w vr pv (argsRep_later L _ _ _ _ hargs) hp hlt).mono ?_⟩
  rintro e w' ⟨rv, rfl, hbut, hres⟩
  have hgr : Grow w w' := ⟨hbut.os, hbut.tape, hbut.output, hbut.size, fun x hx => hbut.heap x hx (by simp)⟩
  obtain ⟨M2, X2⟩ := M1.grow (w' := w') hgr
  have hres' : ResRep V.T (okOf C β1 w') w' [] S.res y rv [] := by
    rcases hflat with hflat | hok
    · exact flat_res _ _ _ _ hflat hres
    · refine later_res ⟨fun b hb => ?_, fun _ _ => rfl⟩ _ _ _ _ hres
      rcases hb with ⟨h1, h2 | h2⟩
      · have := hok b h2
        exact ⟨h1, this.2.1, this.2.2⟩
      · refine ⟨h1, .inr (.inl (Nat.le_trans M1.kept.size h2)), fun id hid => ?_⟩
        have := (M1.mine id _ hid).1
        omega
  obtain ⟨cvs, b1, b2⟩ := res_data _ _ _ _ hres' _ _ _ _ _ h
  refine ⟨_, rfl, β1, ?_⟩
  unfold retCV at b1
  split at b1
  · rename_i c0
    obtain ⟨rfl, _, rfl⟩ := interp_ret b1
    cases b2 with
    | cons q1 q2 => cases q2; exact ⟨_, rfl, q1 _ _, M2, X1.trans X2⟩
  · rename_i hne
    obtain ⟨rfl, _, rfl⟩ := interp_ret b1
    refine ⟨_, rfl, ?_, M2, X1.trans X2⟩
    simp only [SVRep]
    refine ⟨rv.toArray, ?_, by simpa using b2.imp fun _ _ k => k _ _⟩
    have hl := b2.length
    cases rv with
    | nil => rfl
    | cons v rv =>
      cases rv with
      | cons _ _ => rfl
      | nil =>
        match cvs, hl, hne with
        | [c], _, hne => exact (hne c rfl).elim
theorem callc_ok (HT : V.T.Ok) {f : FuncId} {S : FC V.E} (HW : MeetsC V P f S) {bx : List (Nat × Box V.E)} {β : Nat → BI} (M : MemOk V.T C bx β w) {dst : Nat} {args : List (CV V.E)} {vs : List Value} (ha : All2 (CVRep V.T bx β (okOf C β w) w) args vs)
    {d : Dyn V.E} {rs ws : List Nat} (h : interp V bx (callcTodo V dst (some S) args d) rs ws = some (res, cs, bx', ac)) (hc : AllP cs) : CallsOk V P C bx β w f vs res bx' := by
  unfold callcTodo at h
  split at h
  rotate_left
  · simp [interp] at h
  rename_i S' rest l e1 heq
  cases e1
  have hargs0 := lastOf_some heq
  subst hargs0
  obtain ⟨vr, vp, rfl, ha1, ha2⟩ := ha.split
  cases ha2 with
  | cons h1 h2 =>
    cases h2
    rename_i uv
    obtain ⟨bx1, β1, ls, rs1, ws1, gs, M1, X1, h, _, _, _, _, hargs⟩ := give_ok HT [] rest vr bx β M ha1 _ _ _ h
    have h1' : LeafRep V.T bx1 β1 (okOf C β1 w) w l uv := CVRep.ext X1 h1
    split at h
    · rename_i x y id off hx hy hat
      obtain ⟨pv, rfl, hpv⟩ := via_at hat h1'
      have hnf : S.via.isFn = false := by
        cases hv : S.via with
        | fn f0 =>
          rw [hv] at hat
          cases l with
          | clo f' ls => cases ls with
            | nil => simp only [Via.at] at hat; split at hat <;> cases hat
            | cons _ _ => simp [Via.at] at hat
          | _ => simp [Via.at] at hat
        | _ => rfl
      have hpv := hpv hnf
      have hargs := hargs S.args x hx
      rw [argsRep_nil _ _ _ _ hargs] at hargs
      simp only [interp] at h
      split at h
      · rename_i cl hb
        split at h
        · rename_i c hcl
          split at h
          · rename_i hflat
            simp only [LeafRep, hb] at hpv
            obtain ⟨_, rfl⟩ := hpv
            obtain ⟨ca, ce, hown, hheap, hrep⟩ := M1.boxes id _ hb
            have hmem : (β1 id).blk < w.heap.size := (M1.mine id _ (by rw [hown]; simp)).1
            have hcells : All2 (LeafRep V.T bx1 β1 (okOf C β1 w) w) (S.c.toL V.T c) ((ca.toList.drop off).take (S.c.sz V.T)) := coes_rep (ofL_coe HT hcl) ((hrep.drop off).take _)
            have hav := (toL_av HT S.c c _).1 hcells
            have L : Later (okOf C β1 w) w (fun b => okOf C β1 w b ∨ b = (β1 id).blk) w := ⟨fun b hb => .inl hb, fun _ _ => rfl⟩
            refine callc_fin HW M1 X1 (fun b => okOf C β1 w b ∨ b = (β1 id).blk) L (fun b hb => ?_) (.inl hflat) hargs (.inr ⟨_, off, _, rfl, AVRep.later L _ _ hav, .inr rfl, fun j v hv => ?_⟩) h hc
            · rcases hb with hb | hb
              · exact hb.1
              · rw [hb]; exact hmem
            · have hj : ca.toList[off + j]? = some v := by
                rw [List.getElem?_take] at hv
                split at hv
                · rw [List.getElem?_drop] at hv; exact hv
                · cases hv
              unfold World.cell?
              simp only [hheap]
              simpa using hj
          · simp [interp] at h
        · simp [interp] at h
      · simp [interp] at h
    · rename_i x y t z hx hy hat
      obtain ⟨pv, rfl, hpv⟩ := via_at hat h1'
      have hargs := hargs S.args x hx
      rw [argsRep_nil _ _ _ _ hargs] at hargs
      split at h
      · rename_i ht
        subst ht
        refine callc_fin HW M1 X1 (okOf C β1 w) ⟨fun b hb => hb, fun _ _ => rfl⟩ (fun b hb => hb.1) (.inr fun b hb => hb) hargs ?_ h hc
        cases hv : S.via.isFn with
        | true => exact .inl rfl
        | false =>
          have := hpv hv
          simp only [LeafRep, Nat.add_zero] at this
          obtain ⟨b, o, cs, e1, e2, e3⟩ := this
          exact .inr ⟨b, o, cs, e1, e2, e3⟩
      · simp [interp] at h
    · rename_i x y hx hy hat
      obtain ⟨pv, rfl, hpv⟩ := via_at hat h1'
      have hargs := hargs S.args x hx
      rw [argsRep_nil _ _ _ _ hargs] at hargs
      split at h
      · rename_i hfn
        exact callc_fin HW M1 X1 (okOf C β1 w) ⟨fun b hb => hb, fun _ _ => rfl⟩ (fun b hb => hb.1) (.inr fun b hb => hb) hargs (.inl hfn) h hc
      · simp [interp] at h
    · simp [interp] at h
theorem callw_ok (HT : V.T.Ok) {f : FuncId} {S : FW V.E} (HW : MeetsW V P f S) {bx : List (Nat × Box V.E)} {β : Nat → BI} (M : MemOk V.T C bx β w) {dst : Nat} {args : List (CV V.E)} {vs : List Value} (ha : All2 (CVRep V.T bx β (okOf C β w) w) args vs)
    {d : Dyn V.E} {rs ws : List Nat} (h : interp V bx (callwTodo V dst (some S) args d) rs ws = some (res, cs, bx', ac)) (hc : AllP cs) : CallsOk V P C bx β w f vs res bx' := by
  unfold callwTodo at h
  split at h
  · rename_i S' id ver i n rest heq
    cases heq
    cases ha with
    | cons h1 h2 =>
      rename_i v vr
      obtain ⟨bx1, β1, ls, rs1, ws1, gs, M1, X1, h, _, _, _, _, hargs⟩ := give_ok HT [] rest vr bx β M h2 _ _ _ h
      simp only [interp] at h
      split at h
      · rename_i e t xs v0 hb
        split at h
        · rename_i hv
          simp only [Bool.and_eq_true] at hv
          have he := eq_of_beq' hv.2
          split at h
          · rename_i ht
            subst ht
            subst he
            split at h
            · rename_i x y hx hy
              have h1' := CVRep.ext X1 h1
              simp only [CVRep, LeafRep, hb] at h1'
              obtain ⟨_, _, h1'⟩ := h1'
              obtain ⟨i0, n0, hin, b, cap, hh, hic, hveq⟩ := h1' (eq_of_beq' hv.1)
              have hk : ∀ l bx rs ws res cs bx' ac, interp V bx (.write id (.arr S.e S.t y.1 v0 false) (retCV V [cc (S.f xs i n x = some (y.1, y.2)), cd (y.1.length = xs.length)] l)) rs ws = some (res, cs, bx', ac) → cs = [cc (S.f xs i n x = some (y.1, y.2)), cd (y.1.length = xs.length)] := by
                intro l bx rs ws res cs bx' ac h
                simp only [interp] at h
                unfold retCV at h
                split at h <;> exact (interp_ret h).2.1.symm
              have hcs := conds_resd _ _ _ _ hk _ _ _ _ _ _ _ h
              rw [hcs] at hc
              obtain ⟨hf, hlen, _⟩ := hc
              have hargs := hargs S.args x hx
              rw [argsRep_nil _ _ _ _ hargs] at hargs
              obtain ⟨hown, hA⟩ := M1.boxes id _ hb
              have hown' : (β1 id).own = [b] := by rw [hown, hh]; rfl
              have hbo : b ∈ (β1 id).own := by rw [hown']; simp
              refine ⟨HW.1, (HW.2 xs i n x y.1 y.2 hf hlen (okOf C β1 w) w v vr (β1 id).hdr b ⟨cap, hh, i0, n0, hin, hic, hveq⟩ hA hargs (M1.mine id b hbo).1 (fun hk => hk.2.2 id hbo) (fun c hc => hc.1)).mono ?_⟩
              rintro e w' ⟨rv, rfl, hbut, hA', hres⟩
              obtain ⟨cvs, b1, b2⟩ := res_data _ _ _ _ hres _ _ _ _ _ h
              simp only [interp] at b1
              have hβ : upd β1 id (β1 id) = β1 := upd_self β1 id
              have hokR : ∀ c, okW (okOf C β1 w) w b w' c → okOf C (upd β1 id (β1 id)) w' c := by
                rintro c ⟨k1, k2, k3⟩
                rw [hβ]
                refine ⟨k1, ?_, fun j hj => ?_⟩
                · rcases k2 with k2 | k2
                  · exact k2.2.1
                  · exact .inr (.inl (Nat.le_trans M1.kept.size k2))
                · rcases k2 with k2 | k2
                  · exact k2.2.2 j hj
                  · have := (M1.mine j c hj).1; omega
              have LR : Later (okW (okOf C β1 w) w b w') w' (okOf C (upd β1 id (β1 id)) w') w' := ⟨hokR, fun _ _ => rfl⟩
              obtain ⟨M2, X2⟩ := M1.set (w' := w') id (.arr S.e S.t y.1 v0 false) (β1 id) hbut.os hbut.tape hbut.output hbut.size
                (fun x hx hn => hbut.heap x hx (by rw [hown'] at hn; exact hn)) (fun x hx => .inl hx) (M1.nodup id)
                (fun b0 h0 => by rw [hb] at h0; cases h0; exact ⟨rfl, Nat.le_refl _, fun _ => ⟨rfl, hlen⟩⟩)
                (fun _ => ⟨by rw [upd_same]; exact hown, by rw [upd_same]; exact hA'.later LR fun _ _ => rfl⟩)
              have hval : ∀ c v, (∀ bx β, CVRep V.T bx β (okW (okOf C β1 w) w b w') w' c v) → CVRep V.T (put id (.arr S.e S.t y.1 v0 false) bx1) (upd β1 id (β1 id)) (okOf C (upd β1 id (β1 id)) w') w' c v :=
                fun c v k => CVRep.ext ⟨LR, fun _ b h => ⟨b, h, compat.refl _ _ _⟩⟩ (k _ (upd β1 id (β1 id)))
              refine ⟨_, rfl, upd β1 id (β1 id), ?_⟩
              unfold retCV at b1
              split at b1
              · rename_i c
                obtain ⟨rfl, _, rfl⟩ := interp_ret b1
                cases b2 with
                | cons q1 q2 => cases q2; exact ⟨_, rfl, hval _ _ q1, M2, X1.trans X2⟩
              · rename_i hne
                obtain ⟨rfl, _, rfl⟩ := interp_ret b1
                refine ⟨_, rfl, ?_, M2, X1.trans X2⟩
                simp only [SVRep]
                refine ⟨rv.toArray, ?_, by simpa using b2.imp fun _ _ k => hval _ _ k⟩
                have hl := b2.length
                cases rv with
                | nil => rfl
                | cons v rv =>
                  cases rv with
                  | cons _ _ => rfl
                  | nil =>
                    match cvs, hl, hne with
                    | [c], _, hne => exact (hne c rfl).elim
            · simp [interp] at h
          · simp [interp] at h
        · simp [interp] at h
      · simp [interp] at h
  · simp [interp] at h
end
end Go.Ab
namespace Go.Ab
open Go
section
variable {V : Env} {P : Program} {C : Ctx} {w : World}
variable {res : Option (SV V.E)} {cs : List Cd} {bx' : List (Nat × Box V.E)} {ac : Acc}
mutual
theorem LeafRep.free {T : Tab} {bx bx2 : List (Nat × Box T.E)} {β β2 : Nat → BI} {ok ok' : Nat → Prop} {w w' : World} (L : Later ok w ok' w') : ∀ (l : Leaf T.E) (v : Value), noId l = true → LeafRep T bx β ok w l v → LeafRep T bx2 β2 ok' w' l v
  | .int _ _, _, _, h => h
  | .bool _, _, _, h => h
  | .str _, _, _, h => h
  | .sl _ _ _, _, _, h => AVRep.later L _ _ h
  | .cp t x off, v, _, h => by
    simp only [LeafRep] at h ⊢
    obtain ⟨b, o, cs, h1, h2, h3⟩ := h
    exact ⟨b, o, cs, h1, AVRep.later L _ _ h2, h3.later L⟩
  | .nptr, _, _, h => h
  | .nfn, _, _, h => h
  | .nmp, _, _, h => h
  | .clo f caps, v, hn, h => by
    simp only [LeafRep] at h ⊢
    obtain ⟨vs, h1, h2⟩ := h
    exact ⟨vs, h1, LeafReps.free L caps _ (by simpa [noId] using hn) h2⟩
  | .ar _ _, _, h, _ => by cases h
  | .row _ _ _ _, _, h, _ => by cases h
  | .ptr _ _, _, h, _ => by cases h
  | .ep _ _ _ _, _, h, _ => by cases h
  | .rp _ _ _ _ _ _, _, h, _ => by cases h
  | .bs _, _, h, _ => by cases h
  | .win _ _ _ _, _, h, _ => by cases h
  | .mp _, _, h, _ => by cases h
theorem LeafReps.free {T : Tab} {bx bx2 : List (Nat × Box T.E)} {β β2 : Nat → BI} {ok ok' : Nat → Prop} {w w' : World} (L : Later ok w ok' w') : ∀ (ls : List (Leaf T.E)) (vs : List Value), noIds ls = true → LeafReps T bx β ok w ls vs → LeafReps T bx2 β2 ok' w' ls vs
  | [], _, _, h => h
  | l :: ls, vs, hn, h => by
    simp only [LeafReps] at h ⊢
    simp only [noIds, Bool.and_eq_true] at hn
    obtain ⟨v, r, rfl, h1, h2⟩ := h
    exact ⟨v, r, rfl, LeafRep.free L l v hn.1 h1, LeafReps.free L ls r hn.2 h2⟩
end
theorem CVRep.free {T : Tab} {bx bx2 : List (Nat × Box T.E)} {β β2 : Nat → BI} {ok ok' : Nat → Prop} {w w' : World} (L : Later ok w ok' w') {c : CV T.E} {v : Value} (hn : noIds c.leaves = true) (h : CVRep T bx β ok w c v) : CVRep T bx2 β2 ok' w' c v := by
  cases c with
  | one l => exact LeafRep.free L l v (by simpa [CV.leaves, noIds] using hn) h
  | ag ls =>
    obtain ⟨cs, rfl, h⟩ := h
    exact ⟨cs, rfl, (LeafReps.iff T ls _).1 (LeafReps.free L ls _ hn ((LeafReps.iff T ls _).2 h))⟩
theorem CVReps.free {T : Tab} {bx bx2 : List (Nat × Box T.E)} {β β2 : Nat → BI} {ok ok' : Nat → Prop} {w w' : World} (L : Later ok w ok' w') : ∀ {cs : List (CV T.E)} {vs : List Value}, noIdCs cs = true → All2 (CVRep T bx β ok w) cs vs → All2 (CVRep T bx2 β2 ok' w') cs vs
  | _, _, _, .nil => .nil
  | _ :: _, _, hn, .cons h t => by
    simp only [noIdCs, Bool.and_eq_true] at hn
    exact .cons (h.free L hn.1) (CVReps.free L hn.2 t)
theorem frzCs_ok : ∀ (args : List (CV V.E)) (vs : List Value) (bx : List (Nat × Box V.E)) (β : Nat → BI), MemOk V.T C bx β w → All2 (CVRep V.T bx β (okOf C β w) w) args vs →
    ∀ (k : List (CV V.E) → Todo V.E) (rs ws : List Nat), interp V bx (frzCs V args k) rs ws = some (res, cs, bx', ac) →
    ∃ bx1 β1 as rs' ws', MemOk V.T C bx1 β1 w ∧ Ext V.T bx β (okOf C β w) w bx1 β1 (okOf C β1 w) w ∧ All2 (CVRep V.T bx1 β1 (okOf C β1 w) w) as vs ∧ interp V bx1 (k as) rs' ws' = some (res, cs, bx', ac)
  | [], _, bx, β, M, .nil, k, rs, ws, h => ⟨bx, β, [], rs, ws, M, Ext.refl _ _ _ _ _, .nil, h⟩
  | c :: args, v :: vs, bx, β, M, .cons h1 h2, k, rs, ws, h => by
    simp only [frzCs] at h
    obtain ⟨bx1, β1, ls', rs1, ws1, M1, X1, R1, I1, _⟩ := frz_ok _ _ bx β M (CVRep.cells h1) _ _ _ h
    obtain ⟨bx2, β2, as, rs2, ws2, M2, X2, R2, I2⟩ := frzCs_ok args vs bx1 β1 M1 (h2.imp fun _ _ k => CVRep.ext X1 k) _ _ _ I1
    refine ⟨bx2, β2, _, rs2, ws2, M2, X1.trans X2, .cons ?_ R2, I2⟩
    refine CVRep.ext X2 ?_
    cases c with
    | one l =>
      rw [leaf_cells h1] at R1
      cases R1 with
      | cons q1 q2 => cases q2; exact q1
    | ag ls =>
      obtain ⟨cs', rfl, h1⟩ := h1
      have hag : ∀ ls', (CV.ag ls : CV V.E).turn ls' = .ag ls' := fun ls' => by cases ls' <;> rfl
      rw [hag]
      exact ⟨cs', rfl, R1⟩
theorem newAll_ok : ∀ (N : List (Nat × Box V.E)) {bx : List (Nat × Box V.E)} {k : Todo V.E} {rs ws : List Nat}, interp V bx (newAll V N k) rs ws = some (res, cs, bx', ac) →
    ∃ bx1 rs' ws', interp V bx1 k rs' ws' = some (res, cs, bx', ac) ∧ (∀ j b, look j N = some b → look j bx = none) ∧ ∀ j, look j bx1 = match look j N with | some b => some b | none => look j bx
  | [], bx, k, rs, ws, h => ⟨bx, rs, ws, h, fun j b hb => by simp [look] at hb, fun j => rfl⟩
  | (id, b) :: N, bx, k, rs, ws, h => by
    simp only [newAll] at h
    obtain ⟨hid, rs1, ws1, h⟩ := newBox_ok h
    obtain ⟨bx1, rs2, ws2, h, h1, h2⟩ := newAll_ok N h
    refine ⟨bx1, rs2, ws2, h, fun j c hc => ?_, fun j => ?_⟩
    · unfold look at hc
      split at hc
      · rename_i e; have := eq_of_beq' e; subst this; exact hid
      · rename_i hne
        have hj : j ≠ id := by rintro rfl; simp at hne
        have := h1 j c hc
        rw [look_put_other hj] at this; exact this
    · rw [h2, show look j ((id, b) :: N) = if Nat.beq id j = true then some b else look j N from rfl]
      by_cases hj : j = id
      · subst hj
        have : look j N = none := by
          cases hl : look j N with
          | none => rfl
          | some c => have := h1 j c hl; rw [look_put_same] at this; cases this
        rw [this, look_put_same]; simp
      · rw [beq_of_ne (Ne.symm hj), look_put_other hj]; simp
theorem callp_ok (HF : FuncsOk V P) {dst : Nat} {f : FuncId} {bx : List (Nat × Box V.E)} {β : Nat → BI} (M : MemOk V.T C bx β w) {args : List (CV V.E)} {vs : List Value} (ha : All2 (CVRep V.T bx β (okOf C β w) w) args vs)
    {rs ws : List Nat} (h : interp V bx (callpTodo V dst (V.ps f) args) rs ws = some (res, cs, bx', ac)) : CallsOk V P C bx β w f vs res bx' := by
  unfold callpTodo at h
  split at h
  · rename_i S hS
    obtain ⟨hfn, hM⟩ := HF.ps f S hS
    obtain ⟨bx1, β1, as, rs1, ws1, M1, X1, R1, h⟩ := frzCs_ok _ _ _ _ M ha _ _ _ h
    split at h
    · rename_i r0 N ha0 hr0
      obtain ⟨bx2, rs2, ws2, h, hfresh, hlook⟩ := newAll_ok N h
      let C1 : Ctx := ⟨P, okOf C β1 w, w.heap.size, fun _ => False, w, undef, []⟩
      have M0 : MemOk V.T C1 ([] : List (Nat × Box V.E)) β0 w := ⟨fun id b hb => by simp [look] at hb, fun _ _ => rfl, fun _ => List.nodup_nil, fun _ _ _ hx => by simp [β0] at hx, fun _ _ hx => by simp [β0] at hx, ⟨rfl, rfl, rfl, Nat.le_refl _, fun _ _ _ => rfl⟩⟩
      have L0 : Later (okOf C β1 w) w (okOf C1 β0 w) w := ⟨fun b hb => ⟨hb.1, .inl hb, fun _ hx => by simp [β0] at hx⟩, fun _ _ => rfl⟩
      refine ⟨hfn, (hM _ _ _ _ _ hr0 C1 β0 w vs [] [] M0 (CVReps.free L0 ha0 R1) .nil).mono ?_⟩
      rintro e w' ⟨β', rv, rfl, M', hres, _⟩
      let β2 : Nat → BI := fun j => match look j N with | some _ => β' j | none => β1 j
      have hβN : ∀ j b, look j N = some b → β2 j = β' j := fun j b hb => by show (match look j N with | some _ => β' j | none => β1 j) = _; rw [hb]
      have hβo : ∀ j, look j N = none → β2 j = β1 j := fun j hj => by show (match look j N with | some _ => β' j | none => β1 j) = _; rw [hj]
      have hnew : ∀ j x, x ∈ (β' j).own → w.heap.size ≤ x ∧ x < w'.heap.size := fun j x hx => by
        obtain ⟨h1, h2⟩ := M'.mine j x hx
        rcases h2 with h2 | h2
        · exact ⟨h2, h1⟩
        · exact h2.elim
      have L2 : Later (okOf C1 β' w') w' (okOf C β2 w') w' := by
        refine ⟨fun b hb => ⟨hb.1, ?_, fun id hid => ?_⟩, fun _ _ => rfl⟩
        · rcases hb.2.1 with k | k | k
          · exact k.2.1
          · exact .inr (.inl (Nat.le_trans M1.kept.size k))
          · exact k.elim
        · cases hN : look id N with
          | some c => rw [hβN id c hN] at hid; exact hb.2.2 id hid
          | none =>
            rw [hβo id hN] at hid
            rcases hb.2.1 with k | k | k
            · exact k.2.2 id hid
            · have h1 := (M1.mine id b hid).1
              have : w.heap.size ≤ b := k
              omega
            · exact k.elim
      have alike : ∀ id, (∃ b, look id N = some b) → Alike (look id N) (look id bx2) ∧ β2 id = β' id := fun id ⟨b, hb⟩ => ⟨.inl (by rw [hlook, hb]), hβN id b hb⟩
      obtain ⟨M2, X2⟩ := M1.step (bx' := bx2) (β' := β2) (w' := w') (fun j => ∃ b, look j N = some b) M'.kept.os M'.kept.tape M'.kept.output M'.kept.size
        (fun j hj => by
          cases hN : look j N with
          | some b => exact (hj ⟨b, hN⟩).elim
          | none => exact ⟨hβo j hN, by rw [hlook, hN]⟩)
        (fun x hx _ => M'.kept.heap x hx (fun k => k))
        (fun j ⟨b, hb⟩ x hx => by rw [hβN j b hb] at hx; exact .inr (hnew j x hx))
        (fun j ⟨b, hb⟩ => by rw [hβN j b hb]; exact M'.nodup j)
        (fun j j' x ⟨b, hb⟩ ⟨b', hb'⟩ hx hx' => by rw [hβN j b hb] at hx; rw [hβN j' b' hb'] at hx'; exact M'.apart j j' x hx hx')
        (fun j ⟨b, hb⟩ hn => by rw [hlook, hb] at hn; cases hn)
        (fun j c ⟨b, hb⟩ hc => by rw [hfresh j b hb] at hc; cases hc)
        (fun _ j b ⟨c, hc⟩ hb => by
          rw [hlook, hc] at hb
          cases hb
          refine BoxRep.agree L2 (hβN j b hc) (fun ls e i hi => ?_) (M'.boxes j b hc)
          subst e
          obtain ⟨cc, ee, _, _, hrep⟩ := M'.boxes j _ hc
          exact alike i (LeafReps.here ls _ ((LeafReps.iff V.T ls _).2 hrep) i hi))
      have hres' : All2 (CVRep V.T bx2 β2 (okOf C β2 w') w') r0 rv := hres.imp fun c v k => CVRep.agree L2 (fun id hid => alike id (CVRep.here k id hid)) k
      refine ⟨_, rfl, β2, ?_⟩
      unfold retCV at h
      split at h
      · rename_i c0
        obtain ⟨rfl, _, rfl⟩ := interp_ret h
        cases hres' with
        | cons q1 q2 => cases q2; exact ⟨_, rfl, q1, M2, X1.trans X2⟩
      · rename_i hne
        obtain ⟨rfl, _, rfl⟩ := interp_ret h
        refine ⟨_, rfl, ?_, M2, X1.trans X2⟩
        simp only [SVRep]
        refine ⟨rv.toArray, ?_, by simpa using hres'⟩
        have hl := hres'.length
        cases rv with
        | nil => rfl
        | cons v rv =>
          cases rv with
          | cons _ _ => rfl
          | nil =>
            match r0, hl, hne with
            | [c], _, hne => exact (hne c rfl).elim
    · simp [interp] at h
  · simp [interp] at h
end
end Go.Ab
