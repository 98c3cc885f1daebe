/- One operation of a frame that an abstract state tells. One step of a region that an abstract state tells, calls among them. A region whose order is drawn: the order as it stands in the text tells them all, where whatever touches is bound. Conditions: none beyond those that each theorem names. -/
import Derived.Test.YtjdgmcngpiookaaS05
namespace Go.Ab
open Go
structure Ay (V : Env) (P : Program) : Prop where
 tab : V.T.Ok
 types : Sg V P
 eqs : Akn V P
 funcs : Ait V P
 mixed : P.follows .mixedOrders = true
section
variable {V : Env} {P : Program} {C : Ctx}
structure Rv (V : Env) (C : Ctx) (s : St V.E) (β : Nat -> BI) (a : Act) (w : World) : Prop where
 size : a.tmps.size = s.n
 defers : a.defers = [] /\ (V.t0 = true -> a.tmps.getD 0 undef = C.v0)
 slots : ∀ k x, slot V s k = some x -> SR V C s.boxes β w x (a.tmps.getD k undef)
 mem : Bo V.T C s.boxes β w
def Sim (V : Env) (C : Ctx) (s : St V.E) (a : Act) (w : World) : Prop := ∃ β, Rv V C s β a w
theorem Amt {bx : List (Nat × Box V.E)} {β : Nat -> BI} {w : World} (t : TypeId) (v : Value) (x : SV V.E) (h : Abo V t v = some x) : SR V C bx β w x v := by
 unfold Abo at h
 split at h
 · cases h; rfl
 · cases h; rfl
 · rename_i s
   cases h
   show Value.string s = .string ⟨s.data.toList.toArray⟩
   cases s; rfl
 · split at h
   · split at h
     · cases h
       simp only [SR, A8, A2, Ak]
       exact ⟨none, 0, by simp, by simp, λ _ => rfl, λ _ _ => rfl, λ ad h => by cases h⟩
     · cases h
   · cases h
 · cases h; rfl
 · cases h; rfl
 · cases h
theorem Z0 {s : St V.E} {β : Nat -> BI} {a : Act} {w : World} (S : Rv V C s β a w) (t : TypeId) (x : Operand) (y : SV V.E) (h : Acr V s t x = some y) : SR V C s.boxes β w y (a.eval x) := by
 cases x with
 | tmp k => exact S.slots k y h
 | const v => exact Amt t v y h
 | global g => simp [Acr] at h
 | func f =>
   simp only [Acr, Option.some.injEq] at h
   subst h
   simp only [SR, A8, A2, Ak]
   exact ⟨#[], rfl, rfl⟩
theorem Rn {s : St V.E} {β : Nat -> BI} {a : Act} {w : World} (S : Rv V C s β a w) : ∀ (xs : List Operand) (ts : List TypeId), Ve V C s.boxes β w (Ml V s ts xs) (xs.map a.eval)
 | [], ts => by cases ts <;> exact .nil
 | x :: xs, [] => .cons (λ y h => Z0 S 0 x y h) (Rn S xs [])
 | x :: xs, t :: ts => .cons (λ y h => Z0 S t x y h) (Rn S xs ts)
def NOk (T : Tab) (C : Ctx) (bx : List (Nat × Box T.E)) (β : Nat -> BI) (w : World) (res : Option (SV T.E)) (bx' : List (Nat × Box T.E)) (r : Result Next) : Prop :=
 ∃ β' w', Bo T C bx' β' w' /\ Ext T bx β (Bb C β w) w bx' β' (Bb C β' w') w' /\
   ((∃ v x, res = some x /\ r = .ok (.value v) w' /\ A8 T bx' β' (Bb C β' w') w' x v) \/ (res = none /\ r = .ok .skip w'))
theorem NOk.ofV {T : Tab} {bx bx' : List (Nat × Box T.E)} {β : Nat -> BI} {w : World} {res : Option (SV T.E)} {m : Sem Value} (h : VOk T C bx β w res bx' (m.run P w)) :
   NOk T C bx β w res bx' ((do pure (.value (<- m)) : Sem Next).run P w) := by
 obtain ⟨β', w', v, x, h1, h2, h3, h4, h5⟩ := h
 exact ⟨β', w', h4, h5, .inl ⟨v, x, h1, by simp only [Sem.run_bind, h2, Result.andThen_ok, Sem.run_pure], h3⟩⟩
theorem NOk.ofU {T : Tab} {bx bx' : List (Nat × Box T.E)} {β : Nat -> BI} {w : World} {res : Option (SV T.E)} {m : Sem Unit} (h : UOk T C bx β w res bx' (m.run P w)) :
   NOk T C bx β w res bx' ((do m; pure .skip : Sem Next).run P w) := by
 obtain ⟨β', w', h1, h2, h4, h5⟩ := h
 exact ⟨β', w', h4, h5, .inr ⟨h1, by simp only [Sem.run_bind, h2, Result.andThen_ok, Sem.run_pure]⟩⟩
theorem NOk.val {T : Tab} {bx : List (Nat × Box T.E)} {β : Nat -> BI} {w : World} (M : Bo T C bx β w) {x : SV T.E} {v : Value} (h : A8 T bx β (Bb C β w) w x v) : NOk T C bx β w (some x) bx (.ok (.value v) w) :=
 ⟨β, w, M, Ext.refl _ _ _ _ _, .inl ⟨v, x, rfl, rfl, h⟩⟩
def Aav (o : Oper) : Bool :=
 match o.op with
 | .call c => match c.callee with
   | .value _ => true
   | _ => false
 | _ => false
theorem Kj {t : TypeId} {i : TI V.E} {info : TypeInfo} {d : TypeDesc} {z : Value} (I : Dc V P t i info d z) {e : TypeId} (h : i.kind = .slice e) : P.underlying t = some (.slice e) := by
 have hk := I.kind
 rw [h] at hk
 have hu := I.under
 cases d <;> simp [F1] at hk
 subst hk
 exact hu
theorem Y9 {t : TypeId} {j : TI V.E} (h : Mx V t = some j) : ∃ i e, V.ti t = some i /\ i.kind = .slice e /\ V.ti e = some j := by
 unfold Mx at h
 split at h
 · rename_i e _ _ _ _ ht
   exact ⟨_, e, ht, rfl, h⟩
 · cases h
theorem Adx {t : TypeId} {e : TypeId} {j : TI V.E} (h : Wx V t = some (e, j)) : ∃ i, V.ti t = some i /\ i.kind = .slice e /\ V.ti e = some j := by
 unfold Wx at h
 split at h
 · rename_i e _ _ _ _ ht
   split at h
   · rename_i j hj
     cases h
     exact ⟨_, ht, rfl, hj⟩
   · cases h
 · cases h
theorem Rm {t : TypeId} {i : TI V.E} (hi : V.ti t = some i) : ∀ e u, i.kind = .slice e -> (Mx V t).map (·.ty) = some u -> ∃ j, V.ti e = some j /\ j.ty = u := by
 intro e u hk hu
 cases hel : Mx V t with
 | none => rw [hel] at hu; cases hu
 | some j =>
   rw [hel] at hu
   simp at hu
   obtain ⟨i', e', h1, h2, h3⟩ := Y9 hel
   rw [hi] at h1; cases h1
   rw [hk] at h2; cases h2
   exact ⟨j, h3, hu⟩
theorem L6 {bx : List (Nat × Box V.E)} {β : Nat -> BI} {w : World} {a : SV V.E} {ds : List Value} (h : Ve V C bx β w [some a] ds) : ∃ d, ds = [d] /\ SR V C bx β w a d := by
 cases h with
 | cons h1 h2 => cases h2; exact ⟨_, rfl, h1 a rfl⟩
theorem Oq {bx : List (Nat × Box V.E)} {β : Nat -> BI} {w : World} {a b : SV V.E} {ds : List Value} (h : Ve V C bx β w [some a, some b] ds) : ∃ d e, ds = [d, e] /\ SR V C bx β w a d /\ SR V C bx β w b e := by
 cases h with
 | cons h1 h2 =>
   obtain ⟨e, rfl, h3⟩ := L6 h2
   exact ⟨_, e, rfl, h1 a rfl, h3⟩
theorem Awr (G : Ay V P) {s : St V.E} {β : Nat -> BI} {a : Act} {w : World} (S : Rv V C s β a w) (dst : Nat) (o : Oper) (hcall : Aav o = false) (q : Orc V.E)
   {res : Option (SV V.E)} {cs : List Prop} {bx' : List (Nat × Box V.E)} {ac : Acc} {rs ws : List Nat}
   (h : Al V s.boxes (Au1 V dst o (Ml V s (La V o) o.op.operands.toList) q) rs ws = some (res, cs, bx', ac)) (hc : Ff cs) :
   NOk V.T C s.boxes β w res bx' ((execOp a.eval o).run P w) := by
 have hv := Rn S o.op.operands.toList (La V o)
 generalize Ml V s (La V o) o.op.operands.toList = vs at h hv
 have M := S.mem
 unfold Au1 at h
 split at h
 · -- move
   rename_i x v ho
   obtain ⟨rfl, _, rfl⟩ := Ax h
   simp only [ho, Op.operands, List.map_cons, List.map_nil] at hv
   obtain ⟨d, hd, hr⟩ := L6 hv
   cases hd
   simp only [execOp, ho, Sem.run_pure]
   exact .val M hr
 · -- assign
   rename_i x v ho
   obtain ⟨rfl, _, rfl⟩ := Ax h
   simp only [ho, Op.operands, List.map_cons, List.map_nil] at hv
   obtain ⟨d, hd, hr⟩ := L6 hv
   cases hd
   simp only [execOp, ho, Sem.run_pure]
   exact .val M hr
 · -- pick
   rename_i c0 a0 b0 b x y ho
   simp only [ho, Op.operands, List.map_cons, List.map_nil] at hv
   cases hv with
   | cons h1 hv =>
     cases hv with
     | cons h2 hv =>
       cases hv with
       | cons h3 hv =>
         have hb := h1 _ rfl
         simp only [SR, A8, A2, Ak] at hb
         have hrun : (execOp a.eval o).run P w = .ok (.value (if b then a.eval a0 else a.eval b0)) w := by
           simp only [execOp, ho, hb, asBool, Sem.run_bind, Sem.run_pure, Result.andThen_ok]
         rw [hrun]
         split at h
         · rename_i dd
           split at h
           · rename_i v hvv
             obtain ⟨rfl, rfl, rfl⟩ := Ax h
             have hbd := hc.1
             subst hbd
             refine .val M ?_
             cases b
             · exact h3 v (by simpa using hvv)
             · exact h2 v (by simpa using hvv)
           · simp [Al] at h
         · split at h
           · rename_i p r
             obtain ⟨rfl, rfl, rfl⟩ := Ax h
             have e2 := h2 _ rfl
             have e3 := h3 _ rfl
             simp only [SR, A8, A2, Ak] at e2 e3
             rw [e2, e3]
             refine .val M ?_
             cases b <;> rfl
           · simp [Al] at h
 · -- alloc
   rename_i t ho
   split at h
   · rename_i i hi
     obtain ⟨info, d, z, I⟩ := G.types t i hi
     have := Aqq M (t := t) (vs := z.cells) (Pm I.zeros) h
     simp only [execOp, ho]
     refine NOk.ofV ?_
     have hr : (Instr.alloc t true (.tuple #[])).run P w = .ok (.pointer (some ⟨w.heap.size, 0, none⟩)) (w.alloc (.cells z.cells t)) := by
       simp only [Instr.alloc, Sem.run_bind, I.run_zero, Result.andThen_ok, newVar, newRow, run_newObj, Sem.run_pure]
       rfl
     rw [hr]; exact this
   · simp [Al] at h
 · -- box
   rename_i t x c ho
   simp only [ho, Op.operands, List.map_cons, List.map_nil] at hv
   obtain ⟨d, hd, hr⟩ := L6 hv
   cases hd
   split at h
   · have := Aqq M (t := t) (vs := (a.eval x).cells) (A2.cells hr) h
     simp only [execOp, ho]
     refine NOk.ofV ?_
     have hrun : (Instr.box t (a.eval x)).run P w = .ok (.pointer (some ⟨w.heap.size, 0, none⟩)) (w.alloc (.cells (a.eval x).cells t)) := by
       simp only [Instr.box, Sem.run_bind, newVar, newRow, run_newObj, Result.andThen_ok, Sem.run_pure]
       rfl
     rw [hrun]; exact this
   · simp [Al] at h
 · -- build
   rename_i t ps ho
   simp only [ho, Op.operands, List.map_map, Function.comp_def] at hv
   split at h
   · rename_i fs sz by_ z0 ty hi
     split at h
     · rename_i hall
       split at h
       · rename_i ls hf
         obtain ⟨rfl, _, rfl⟩ := Ax h
         obtain ⟨info, d, z, I⟩ := G.types t _ hi
         simp only [execOp, ho]
         exact NOk.ofV (Ap5 G.types M I rfl hall a.eval ps (by simpa using hv) hf)
       · simp [Al] at h
     · simp [Al] at h
   · simp [Al] at h
 · -- buildSlice
   rename_i t n ps ho
   simp only [ho, Op.operands, List.map_map, Function.comp_def] at hv
   split at h
   · rename_i e i hel
     obtain ⟨it, ht, hk, he⟩ := Adx hel
     obtain ⟨_, _, _, It⟩ := G.types t _ ht
     obtain ⟨info, d, z, I⟩ := G.types e _ he
     split at h
     · rename_i hn
       split at h
       · rename_i ls hf
         simp only [execOp, ho]
         exact NOk.ofV (Xr G.tab M (Kj It hk) I n hn a.eval ps (by simpa using hv) hf q h)
       · simp [Al] at h
     · simp [Al] at h
   · simp [Al] at h
 · -- load
   rename_i t x v ho
   simp only [ho, Op.operands, List.map_cons, List.map_nil] at hv
   obtain ⟨d, hd, hr⟩ := L6 hv
   cases hd
   split at h
   · rename_i i hi
     obtain ⟨info, d, z, I⟩ := G.types t i hi
     simp only [execOp, ho]
     exact NOk.ofV (Ati G.tab M I hr h)
   · simp [Al] at h
 · -- store
   rename_i t x y v1 v2 ho
   simp only [ho, Op.operands, List.map_cons, List.map_nil] at hv
   obtain ⟨d1, d2, hd, hr1, hr2⟩ := Oq hv
   cases hd
   split at h
   · rename_i i hi
     obtain ⟨info, d, z, I⟩ := G.types t i hi
     simp only [execOp, ho]
     exact NOk.ofU (Aoc G.tab M I hr1 hr2 h hc)
   · simp [Al] at h
 · -- nilCheck
   rename_i x id off ho
   simp only [ho, Op.operands, List.map_cons, List.map_nil] at hv
   obtain ⟨d, hd, hr⟩ := L6 hv
   cases hd
   simp only [Al] at h
   split at h
   · rename_i ls hb
     obtain ⟨rfl, _, rfl⟩ := Ax h
     have hr' := hr
     simp only [SR, A8, A2, Ak, hb] at hr'
     have hrun : (execOp a.eval o).run P w = .ok (.value (a.eval x)) w := by
       simp only [execOp, ho, hr'.2, Sem.run_pure]
     rw [hrun]
     exact .val M hr
   · simp [Al] at h
 · -- binOp
   rename_i op t x y u v1 v2 ho
   simp only [ho, Op.operands, List.map_cons, List.map_nil] at hv
   obtain ⟨d1, d2, hd, hr1, hr2⟩ := Oq hv
   cases hd
   simp only [execOp, ho]
   exact NOk.ofV (A3g G.types G.eqs M op t x y hr1 hr2 h hc)
 · -- unOp
   rename_i op t x v ho
   simp only [ho, Op.operands, List.map_cons, List.map_nil] at hv
   obtain ⟨d, hd, hr⟩ := L6 hv
   cases hd
   simp only [execOp, ho]
   exact NOk.ofV (A6b M op hr h)
 · -- convert
   rename_i u t x v ho
   simp only [ho, Op.operands, List.map_cons, List.map_nil] at hv
   obtain ⟨d, hd, hr⟩ := L6 hv
   cases hd
   simp only [execOp, ho]
   exact NOk.ofV (Awj G.types M u t hr h)
 · -- makeFunc
   rename_i f fi ca ho
   simp only [ho, Op.operands] at hv
   split at h
   · rename_i hfi
     split at h
     · rename_i ls hl
       obtain ⟨rfl, _, rfl⟩ := Ax h
       simp only [execOp, ho]
       exact NOk.ofV (Aet M f a.eval fi ca hfi hv hl)
     · simp [Al] at h
   · simp [Al] at h
 · -- makeSlice
   rename_i t x y kl l kc c ho
   simp only [ho, Op.operands, List.map_cons, List.map_nil] at hv
   obtain ⟨d1, d2, hd, hr1, hr2⟩ := Oq hv
   simp only [SR, A8, A2, Ak] at hr1 hr2
   subst hr1 hr2
   split at h
   · rename_i e _ _ _ _ ht
     split at h
     · rename_i i hi
       obtain ⟨_, _, _, It⟩ := G.types t _ ht
       obtain ⟨info, d, z, I⟩ := G.types e _ hi
       simp only [List.cons.injEq, and_true] at hd
       simp only [execOp, ho, hd.1, hd.2]
       exact NOk.ofV (Awm G.tab M (Kj It rfl) I h hc)
     · simp [Al] at h
   · simp [Al] at h
 · -- slice, whole
   rename_i t x v ho
   simp only [ho, Op.operands, Option.toArray] at hv
   obtain ⟨d, hd, hr⟩ := L6 (by simpa using hv)
   cases hd
   split at h
   · rename_i i hi
     obtain ⟨info, d, z, I⟩ := G.types t i hi
     simp only [execOp, ho]
     exact NOk.ofV (R5 M I (λ e _ j hj => G.types e j hj) _ (Rm hi) hr none none h hc)
   · simp [Al] at h
 · -- from
   rename_i t x y v k l ho
   simp only [ho, Op.operands, Option.toArray] at hv
   obtain ⟨d1, d2, hd, hr1, hr2⟩ := Oq (by simpa using hv)
   simp only [List.cons.injEq, and_true] at hd
   simp only [SR, A8, A2, Ak] at hr2
   subst hr2
   split at h
   · rename_i i hi
     obtain ⟨info, d, z, I⟩ := G.types t i hi
     simp only [execOp, ho, Option.map_some, Option.map_none, hd.1, hd.2]
     exact NOk.ofV (R5 M I (λ e _ j hj => G.types e j hj) _ (Rm hi) hr1 (some (k, l)) none h hc)
   · simp [Al] at h
 · -- to
   rename_i t x y v k l ho
   simp only [ho, Op.operands, Option.toArray] at hv
   obtain ⟨d1, d2, hd, hr1, hr2⟩ := Oq (by simpa using hv)
   simp only [List.cons.injEq, and_true] at hd
   simp only [SR, A8, A2, Ak] at hr2
   subst hr2
   split at h
   · rename_i i hi
     obtain ⟨info, d, z, I⟩ := G.types t i hi
     simp only [execOp, ho, Option.map_some, Option.map_none, hd.1, hd.2]
     exact NOk.ofV (R5 M I (λ e _ j hj => G.types e j hj) _ (Rm hi) hr1 none (some (k, l)) h hc)
   · simp [Al] at h
 · -- from, to
   rename_i t x y1 y2 v k l k2 l2 ho
   simp only [ho, Op.operands, Option.toArray] at hv
   have hv : Ve V C s.boxes β w [some v, some (.cv (.one (.int k l))), some (.cv (.one (.int k2 l2)))] [a.eval x, a.eval y1, a.eval y2] := by simpa using hv
   cases hv with
   | cons h1 hv =>
     obtain ⟨d1, d2, hd, hr1, hr2⟩ := Oq hv
     have hr0 := h1 v rfl
     simp only [List.cons.injEq, and_true] at hd
     simp only [SR, A8, A2, Ak] at hr1 hr2
     subst hr1 hr2
     split at h
     · rename_i i hi
       obtain ⟨info, d, z, I⟩ := G.types t i hi
       simp only [execOp, ho, Option.map_some, hd.1, hd.2]
       exact NOk.ofV (R5 M I (λ e _ j hj => G.types e j hj) _ (Rm hi) hr0 (some (k, l)) (some (k2, l2)) h hc)
     · simp [Al] at h
 · -- fieldAddr
   rename_i t x f v ho
   simp only [ho, Op.operands, List.map_cons, List.map_nil] at hv
   obtain ⟨d, hd, hr⟩ := L6 hv
   cases hd
   split at h
   · rename_i fs sz by_ z0 ty hi
     split at h
     · rename_i off size hp
       split at h
       · simp [Al] at h
       · obtain ⟨info, d, z, I⟩ := G.types t _ hi
         unfold fieldPlace at hp
         split at hp
         · rename_i o2 t2 hf
           split at hp
           · rename_i j hj
             cases hp
             obtain ⟨_, _, _, J⟩ := G.types t2 j hj
             simp only [execOp, ho]
             exact NOk.ofV (Aa8 M I.under I.kind J hf hr h)
           · cases hp
         · cases hp
     · simp [Al] at h
   · simp [Al] at h
 · -- field
   rename_i t x f ls ho
   simp only [ho, Op.operands, List.map_cons, List.map_nil] at hv
   obtain ⟨d, hd, hr⟩ := L6 hv
   cases hd
   split at h
   · rename_i fs sz by_ z0 ty hi
     split at h
     · rename_i off t2 hf
       split at h
       · rename_i j hj
         obtain ⟨info, d, z, I⟩ := G.types t _ hi
         obtain ⟨_, _, _, J⟩ := G.types t2 j hj
         simp only [SR, A8, A2] at hr
         obtain ⟨cs0, he, hr⟩ := hr
         have hk := I.kind
         have hu := I.under
         cases d <;> simp [F1] at hk
         rename_i fields
         subst hk
         rw [List.getElem?_map] at hf
         cases hfl : fields.toList[f]? with
         | none => rw [hfl] at hf; simp at hf
         | some fl =>
           rw [hfl] at hf; simp at hf
           obtain ⟨rfl, rfl⟩ := hf
           have hfa : fields[f]? = some fl := by rw [<- hfl, Array.getElem?_toList]
           have hrun : (Instr.field t (a.eval x) f).run P w = (Go.part fl.type cs0 fl.offset).run P w := by
             simp only [Instr.field, Sem.run_bind, run_underlying hu, Result.andThen_ok, hfa, he, asAgg, Sem.run_pure]
           simp only [execOp, ho]
           refine NOk.ofV ?_
           rw [hrun]
           exact Aw4 M J fl.offset hr h
       · simp [Al] at h
     · simp [Al] at h
   · simp [Al] at h
 · -- indexAddr
   rename_i t x y v1 v2 ho
   simp only [ho, Op.operands, List.map_cons, List.map_nil] at hv
   obtain ⟨d1, d2, hd, hr1, hr2⟩ := Oq hv
   cases hd
   split at h
   · rename_i j hel
     obtain ⟨it, e, ht, hk, he⟩ := Y9 hel
     obtain ⟨_, _, _, It⟩ := G.types t _ ht
     obtain ⟨info, d, z, J⟩ := G.types e _ he
     simp only [execOp, ho]
     exact NOk.ofV (Aaz M (Kj It hk) J hr1 hr2 h hc)
   · simp [Al] at h
 · -- index
   rename_i t x y l k i ho
   simp only [ho, Op.operands, List.map_cons, List.map_nil] at hv
   obtain ⟨d1, d2, hd, hr1, hr2⟩ := Oq hv
   simp only [SR, A8, A2, Ak] at hr1 hr2
   subst hr1 hr2
   simp only [List.cons.injEq, and_true] at hd
   split at h
   · rename_i _ _ _ _ ht
     obtain ⟨_, d, _, It⟩ := G.types t _ ht
     obtain ⟨rfl, rfl, rfl⟩ := Ax h
     have hk := It.kind
     have hu := It.under
     cases d <;> simp [F1] at hk
     simp only [execOp, ho, hd.1, hd.2]
     exact NOk.ofV (Asd M hu l k i hc.1)
   · simp [Al] at h
 · -- extract
   rename_i x n l ho
   simp only [ho, Op.operands, List.map_cons, List.map_nil] at hv
   obtain ⟨d, hd, hr⟩ := L6 hv
   cases hd
   simp only [execOp, ho]
   exact NOk.ofV (Agt M hr n h)
 · -- calls
   rename_i c ho
   split at h
   · -- of a builtin
     rename_i vs _ _ b hb
     simp only [ho, Op.operands, Call.operands, hb] at hv
     have hv : Ve V C s.boxes β w vs (c.args.toList.map a.eval) := by simpa using hv
     have hrun : (execOp a.eval o).run P w = (builtin b c.argTypes o.type (c.args.map fun | .const _ => true | _ => false) (c.args.map a.eval)).run P w := by
       simp only [execOp, ho, resolve, hb, Sem.run_bind, Sem.run_pure, Result.andThen_ok, invoke]; rfl
     rw [hrun]
     have hlist : ∀ l : List Value, c.args.toList.map a.eval = l -> c.args.map a.eval = l.toArray := by
       rintro l rfl; apply Array.ext'; simp
     unfold Tz at h
     split at h
     · -- len
       rename_i v
       obtain ⟨d, hd, hr⟩ := L6 hv
       rw [hlist _ hd]
       split at h
       · rename_i t r hat
         split at h
         · rename_i i hi
           obtain ⟨info, d', z, I⟩ := G.types t i hi
           have : c.argTypes = (t :: r).toArray := by apply Array.ext'; simpa using hat
           rw [this]
           exact NOk.ofV (A2w M I r hr h o.type)
         · simp [Al] at h
       · simp [Al] at h
     · -- append
       rename_i v1 v2
       obtain ⟨d1, d2, hd, hr1, hr2⟩ := Oq hv
       rw [hlist _ hd]
       split at h
       · rename_i t u hat
         split at h
         · rename_i e _ _ _ _ e2 _ _ _ _ ht hu
           split at h
           · rename_i i hi
             obtain ⟨_, _, _, It⟩ := G.types t _ ht
             obtain ⟨_, _, _, Iu⟩ := G.types u _ hu
             obtain ⟨info, d', z, I⟩ := G.types e _ hi
             have : c.argTypes = #[t, u] := by apply Array.ext'; simpa using hat
             rw [this]
             exact NOk.ofV (Amu M (Kj It rfl) (Kj Iu rfl) I hr1 hr2 o.type h hc)
           · simp [Al] at h
         · simp [Al] at h
       · simp [Al] at h
     · -- min
       rename_i k1 x1 k2 x2
       obtain ⟨d1, d2, hd, hr1, hr2⟩ := Oq hv
       simp only [SR, A8, A2, Ak] at hr1 hr2
       subst hr1 hr2
       rw [hlist _ hd]
       split at h
       · rename_i hk
         subst hk
         obtain ⟨rfl, _, rfl⟩ := Ax h
         exact NOk.ofV (A3r M _ _ _ _ _)
       · simp [Al] at h
     · -- max
       rename_i k1 x1 k2 x2
       obtain ⟨d1, d2, hd, hr1, hr2⟩ := Oq hv
       simp only [SR, A8, A2, Ak] at hr1 hr2
       subst hr1 hr2
       rw [hlist _ hd]
       split at h
       · rename_i hk
         subst hk
         obtain ⟨rfl, _, rfl⟩ := Ax h
         exact NOk.ofV (A3c M _ _ _ _ _)
       · simp [Al] at h
     · simp [Al] at h
   · -- of a function
     rename_i fv f caps vs' hb
     unfold Aav at hcall
     rw [ho] at hcall
     simp [hb] at hcall
   · simp [Al] at h
 · simp [Al] at h
end
section
variable {V : Env} {P : Program} {C : Ctx}
theorem Adl {bx : List (Nat × Box V.E)} {β : Nat -> BI} {w : World} : ∀ {xs : List (Option (SV V.E))} {vs : List Value} {cs : List (CV V.E)}, Ve V C bx β w xs vs -> Acv V xs = some cs -> Bj (A2 V.T bx β (Bb C β w) w) cs vs
 | [], _, cs, .nil, h => by simp [Acv] at h; subst h; exact .nil
 | x :: xs, _, cs, .cons h1 h2, h => by
   unfold Acv at h
   split at h
   · rename_i heq; cases heq
   · rename_i c r heq
     cases heq
     split at h
     · rename_i ls hl
       cases h
       exact .cons (h1 _ rfl) (Adl h2 hl)
     · cases h
   · cases h
theorem Adq {bx : List (Nat × Box V.E)} {β : Nat -> BI} {ok : Nat -> Prop} {w : World} : ∀ {ls : List (A5 V.E)} {vs : List Value}, Bs V.T bx β ok w ls vs -> Bj (A2 V.T bx β ok w) (ls.map CV.one) vs
 | [], vs, h => by simp only [Bs] at h; subst h; exact .nil
 | l :: ls, vs, h => by
   simp only [Bs] at h
   obtain ⟨v, r, rfl, h1, h2⟩ := h
   exact .cons h1 (Adq h2)
theorem Rv.put {s : St V.E} {β β' : Nat -> BI} {a : Act} {w w' : World} {bx' : List (Nat × Box V.E)} (S : Rv V C s β a w) (M : Bo V.T C bx' β' w') (X : Ext V.T s.boxes β (Bb C β w) w bx' β' (Bb C β' w') w')
   {dst : Option Tmp} (hd : ∀ d, dst = some d -> d < s.n /\ (V.t0 = true -> d ≠ 0)) {res : Option (SV V.E)} {v : Value} (hr : ∀ x, res = some x -> SR V C bx' β' w' x v) :
   Rv V C ⟨s.n, Kt V dst res s.slots, bx'⟩ β' (a.put dst v) w' := by
 cases dst with
 | none =>
   exact ⟨S.size, S.defers, λ k x hk => A8.ext X (S.slots k x hk), M⟩
 | some d =>
   have hlt := (hd d rfl).1
   refine ⟨by simpa [Act.put] using S.size, ⟨by simpa [Act.put] using S.defers.1, λ ht => ?_⟩, λ k x hk => ?_, M⟩
   · rw [<- S.defers.2 ht]
     simp [Act.put, Array.getD_eq_getD_getElem?, Array.getElem?_setIfInBounds_ne ((hd d rfl).2 ht)]
   simp only [slot, Kt] at hk
   by_cases hkd : k = d
   · subst hkd
     rw [A1] at hk
     have : (a.put (some k) v).tmps.getD k undef = v := by
       simp [Act.put, Array.getD_eq_getD_getElem?, S.size, hlt]
     rw [this]
     exact hr x hk
   · rw [A4 hkd] at hk
     have : (a.put (some d) v).tmps.getD k undef = a.tmps.getD k undef := by
       simp [Act.put, Array.getD_eq_getD_getElem?, Array.getElem?_setIfInBounds_ne (Ne.symm hkd)]
     rw [this]
     exact A8.ext X (S.slots k x hk)
theorem Ank {a : Act} {d : Nat} {b : Bool} (h : a.tmps.getD d undef = .bool b) : a.tmps[d]? = some (.bool b) := by
 rw [Array.getD_eq_getD_getElem?] at h
 cases hx : a.tmps[d]? with
 | none => rw [hx] at h; simp [undef] at h
 | some v => rw [hx] at h; simp at h; rw [h]
theorem Ad0 {ops : Array Oper} {s : St V.E} {β : Nat -> BI} {a : Act} {w : World} (S : Rv V C s β a w) {q : Su V} {o : Oper} {b : Bool} {c : List Prop} (h : Yt V ops.toList s q o = some (b, c)) (hc : Ff c) :
   Region.wanted o (yielded ops a.tmps) = b := by
 unfold Yt at h
 unfold Region.wanted
 split at h
 · rename_i hg
   cases h
   rw [hg]
 · rename_i j want hg
   rw [hg]
   simp only
   split at h
   · rename_i d hd
     rw [Array.getElem?_toList] at hd
     split at h
     · rename_i bb x hs ho
       cases h
       have hb := hc.1
       subst hb
       have hr := S.slots d _ hs
       simp only [SR, A8, A2, Ak] at hr
       unfold yielded
       rw [hd]
       simp only [Option.bind_some]
       rw [Ank hr]
       cases bb <;> cases want <;> rfl
     · rename_i hs
       cases h
       have hr := S.slots d _ hs
       simp only [SR, A8] at hr
       obtain ⟨vs, hv, hr⟩ := hr
       unfold yielded
       rw [hd]
       simp only [Option.bind_some]
       rw [Array.getD_eq_getD_getElem?] at hv
       cases hx : a.tmps[d]? with
       | none => rfl
       | some v => rw [hx] at hv; simp at hv; rw [hv]; rfl
     · cases h
   · cases h
theorem Aak {f : FuncId} {fn : Func} {args : Array Value} {w : World} (hf : P.funcs[f]? = some fn) (hb : fn.body.isSome = true) (hn : (fn.name == "runtime.NumGoroutine") = false) :
   (callFunc f args).run P w = .ok (.enter f args) w := by
 have hb' : fn.body.isNone = false := by cases h : fn.body <;> simp_all
 simp only [callFunc, Sem.run_bind, run_program, Result.andThen_ok, hf, hn, hb', Bool.false_eq_true, if_false, Sem.run_pure]
theorem Alf (G : Ay V P) {ops : Array Oper} {i : Nat} {o : Oper} (ho : ops[i]? = some o) {q : Su V} {s s' : St V.E} {a : Act} {w : World} (S : Sim V C s a w) {cs : List Prop} {ac : Acc}
   (h : Ag2 V ops.toList i o q s = some (s', cs, ac)) (hc : Ff cs) {K : Act -> World -> Prop} {Q : Exit -> Act -> World -> Prop} (hK : ∀ a' w', Sim V C s' a' w' -> K a' w') :
   wpOp P ops Q i K a w := by
 obtain ⟨β, S⟩ := S
 unfold Ag2 at h
 split at h
 · rename_i hd
   have hd : ∀ d, o.dst = some d -> d < s.n /\ (V.t0 = true -> d ≠ 0) := by
     intro d hdd
     rw [hdd] at hd
     simp only [Ax5, Bool.and_eq_true, Bool.or_eq_true, Bool.not_eq_true'] at hd
     refine ⟨(Nat.blt_eq).mp hd.1, λ ht => ?_⟩
     rcases hd.2 with h | h
     · rw [ht] at h; cases h
     · exact Nat.ne_of_gt ((Nat.blt_eq).mp h)
   unfold wpOp
   rw [ho]
   simp only
   split at h
   · cases h
   · rename_i c hw
     cases h
     have hwant := Ad0 S hw hc
     rw [hwant]
     simp only [Bool.false_eq_true, if_false]
     exact hK _ _ ⟨β, S.put S.mem (Ext.refl _ _ _ _ _) hd (λ x hx => by cases hx; exact ⟨#[], rfl, .nil⟩)⟩
   · rename_i c hw
     split at h
     · rename_i v c' bs acc hrun
       cases h
       obtain ⟨hc1, hc2⟩ := Ff.append hc
       have hwant := Ad0 S hw hc1
       rw [hwant]
       simp only [if_true]
       refine .inl ?_
       by_cases hcall : Aav o = true
       · -- a call
         unfold Aav at hcall
         split at hcall
         · rename_i cl hop
           split at hcall
           · rename_i fv hcv
             have hrun' := hrun
             unfold Au1 at hrun'
             have hv := Rn S o.op.operands.toList (La V o)
             generalize hvs : Ml V s (La V o) o.op.operands.toList = vs at hrun' hv
             rw [hop] at hrun' hv
             have hops : (Op.call cl).operands.toList = fv :: cl.args.toList := by
               simp [Op.operands, Call.operands, hcv]
             rw [hops] at hv
             cases hv with
             | cons h1 hv =>
               rename_i x0 xs
               simp only [hcv] at hrun'
               split at hrun'
               · rename_i heq; cases heq
               · rename_i fv' f caps vs' heq heq'
                 cases heq
                 cases heq'
                 split at hrun'
                 · rename_i ls hls
                   have hf := h1 _ rfl
                   simp only [SR, A8, A2, Ak] at hf
                   obtain ⟨capv, hfv, hcap⟩ := hf
                   have hargs := (Adl hv hls).append (Adq hcap)
                   obtain ⟨⟨fn, hfn, hbd, hnm⟩, hcalls⟩ := Att G.tab G.funcs S.mem hargs hrun' hc2
                   unfold Oper.wp
                   have hexec : (execOp a.eval o).run P w = .ok (.enter f (cl.args.map a.eval ++ capv)) w := by
                     simp only [execOp, hop, resolve, hcv, hfv, Deferred.ofValue, Sem.run_bind, Sem.run_pure, Result.andThen_ok, invoke]
                     rw [Aak hfn hbd hnm]
                     simp
                   rw [hexec, Oper.upon_enter]
                   have harr : (cl.args.toList.map a.eval ++ capv.toList).toArray = cl.args.map a.eval ++ capv := by
                     apply Array.ext'; simp
                   rw [harr] at hcalls
                   refine hcalls.mono ?_
                   rintro e w' ⟨rv, rfl, β', x, rfl, hx, M', X'⟩
                   exact hK _ _ ⟨β', S.put M' X' hd (λ y hy => by cases hy; exact hx)⟩
                 · simp [Al] at hrun'
               · simp [Al] at hrun'
           · cases hcall
         · cases hcall
       · simp only [Bool.not_eq_true] at hcall
         obtain ⟨β', w', M', X', hr⟩ := Awr G S (o.dst.getD 0) o hcall _ hrun hc2
         unfold Oper.wp
         rcases hr with ⟨rv, x, rfl, hr, hx⟩ | ⟨rfl, hr⟩
         · rw [hr, Oper.upon_value]
           exact hK _ _ ⟨β', S.put M' X' hd (λ y hy => by cases hy; exact hx)⟩
         · rw [hr, Oper.upon_skip]
           exact hK _ _ ⟨β', S.put M' X' hd (λ y hy => by cases hy)⟩
     · cases h
 · cases h
theorem Sim.drew {s : St V.E} {a : Act} {w : World} (S : Sim V C s a w) : Sim V C s a { w with drawn := w.drawn + 1 } := by
 obtain ⟨β, S⟩ := S
 obtain ⟨M, X⟩ := S.mem.grow (P0.drew w)
 exact ⟨β, S.size, S.defers, λ k x hk => A8.ext X (S.slots k x hk), M⟩
theorem Aq4 (G : Ay V P) {ops : Array Oper} {q : Su V} {Q : Exit -> Act -> World -> Prop} : ∀ (os : List Oper) (i : Nat) (_hi : ops.toList.drop i = os) (s s' : St V.E) (cs : List Prop) (acs : List Acc) (a : Act) (w : World), Sim V C s a w ->
   Rb V ops.toList q i os s = some (s', cs, acs) -> Ff cs -> (∀ a' w', Sim V C s' a' w' -> Q .normal a' w') -> wpOps P ops Q ((List.range ops.size).drop i) a w
 | [], i, hi, s, s', cs, acs, a, w, S, h, hc, hQ => by
   simp only [Rb, Option.some.injEq, Prod.mk.injEq] at h
   obtain ⟨rfl, _, _⟩ := h
   have : ops.size <= i := by simpa using hi
   have hn : (List.range ops.size).drop i = [] := by simpa using this
   rw [hn]
   exact hQ _ _ S
 | o :: os, i, hi, s, s', cs, acs, a, w, S, h, hc, hQ => by
   have hlt : i < ops.size := by
     rcases Nat.lt_or_ge i ops.size with h | h
     · exact h
     · have : ops.toList.drop i = [] := by simpa using h
       rw [this] at hi; cases hi
   have hn : (List.range ops.size).drop i = i :: (List.range ops.size).drop (i + 1) := by
     rw [List.drop_eq_getElem_cons (by simpa using hlt)]; simp
   have ho : ops[i]? = some o := by
     have := congrArg (·[0]?) hi
     simpa using this
   have hi' : ops.toList.drop (i + 1) = os := by
     have := congrArg List.tail hi
     simpa using this
   rw [hn, wpOps_cons]
   simp only [Rb] at h
   split at h
   · rename_i s1 c1 a1 h1
     split at h
     · rename_i s2 c2 as h2
       cases h
       obtain ⟨hc1, hc2⟩ := Ff.append hc
       exact Alf G ho S h1 hc1 λ a' w' S' => Aq4 G os (i + 1) hi' s1 _ c2 as a' w' S' h2 hc2 hQ
     · cases h
   · cases h
end
section
variable {V : Env} {P : Program} {C : Ctx}
def Vt {α : Type} (l m : List (Nat × α)) : Prop := ∀ k, A3 k l = A3 k m
theorem Vt.put {α : Type} {l m : List (Nat × α)} (h : Vt l m) (k : Nat) (x : α) : Vt (put k x l) (put k x m) := by
 intro j
 by_cases hj : j = k
 · subst hj; rw [A1, A1]
 · rw [A4 hj, A4 hj]; exact h j
theorem Vt.comm {α : Type} (l : List (Nat × α)) {j k : Nat} (x y : α) (h : j ≠ k) : Vt (Ab.put j x (Ab.put k y l)) (Ab.put k y (Ab.put j x l)) := by
 intro i
 by_cases hij : i = j
 · subst hij; rw [A1, A4 h, A1]
 · by_cases hik : i = k
   · subst hik; rw [A4 hij, A1, A1]
   · rw [A4 hij, A4 hik, A4 hik, A4 hij]
structure N8 (s t : St V.E) : Prop where
 n : s.n = t.n
 slots : Vt s.slots t.slots
 boxes : Vt s.boxes t.boxes
theorem N8.refl (s : St V.E) : N8 s s := ⟨rfl, λ _ => rfl, λ _ => rfl⟩
theorem N8.symm {s t : St V.E} (h : N8 s t) : N8 t s := ⟨h.n.symm, λ k => (h.slots k).symm, λ k => (h.boxes k).symm⟩
theorem N8.trans {s t u : St V.E} (h : N8 s t) (k : N8 t u) : N8 s u := ⟨h.n.trans k.n, λ i => (h.slots i).trans (k.slots i), λ i => (h.boxes i).trans (k.boxes i)⟩
theorem Ob : ∀ (t : D0 V.E) (bs bs' : List (Nat × Box V.E)) (rs ws : List Nat) {res : Option (SV V.E)} {c : List Prop} {b1 : List (Nat × Box V.E)} {ac : Acc},
   Al V bs t rs ws = some (res, c, b1, ac) -> (∀ id ∈ ac.reads, id ∉ ws -> A3 id bs = A3 id bs') -> (∀ id ∈ ws, A3 id bs = A3 id bs') ->
   ∃ b1', Al V bs' t rs ws = some (res, c, b1', ac) /\ (∀ id ∈ ac.writes, A3 id b1' = A3 id b1) /\ (∀ id, id ∉ ac.writes -> A3 id b1' = A3 id bs' /\ A3 id b1 = A3 id bs) /\ (∀ id ∈ ws, id ∈ ac.writes) /\ (∀ id ∈ rs, id ∈ ac.reads)
 | .fail, bs, bs', rs, ws, res, c, b1, ac, h, _, _ => by simp [Al] at h
 | .ret v c0, bs, bs', rs, ws, res, c, b1, ac, h, hr, hw => by
   simp only [Al, Option.some.injEq, Prod.mk.injEq] at h
   obtain ⟨rfl, rfl, rfl, rfl⟩ := h
   exact ⟨bs', rfl, λ id hid => (hw id hid).symm, λ id _ => ⟨rfl, rfl⟩, λ id h => h, λ id h => h⟩
 | .read i k, bs, bs', rs, ws, res, c, b1, ac, h, hr, hw => by
   simp only [Al] at h ⊢
   obtain ⟨b2, e1, e2, e3, e4, e5⟩ := Ob (k (A3 i bs)) bs bs' (i :: rs) ws h hr hw
   have hi : A3 i bs = A3 i bs' := by
     by_cases hiw : i ∈ ws
     · exact hw i hiw
     · exact hr i (e5 i (by simp)) hiw
   rw [hi] at e1
   exact ⟨b2, e1, e2, e3, e4, λ id hid => e5 id (by simp [hid])⟩
 | .write i b k, bs, bs', rs, ws, res, c, b1, ac, h, hr, hw => by
   simp only [Al] at h ⊢
   obtain ⟨b2, e1, e2, e3, e4, e5⟩ := Ob k (put i b bs) (put i b bs') rs (i :: ws) h
     (λ id hid hn => by
       simp only [List.mem_cons, not_or] at hn
       rw [A4 hn.1, A4 hn.1]; exact hr id hid hn.2)
     (λ id hid => by
       by_cases e : id = i
       · subst e; rw [A1, A1]
       · rw [A4 e, A4 e]
         exact hw id (by simpa [e] using hid))
   refine ⟨b2, e1, e2, λ id hid => ?_, λ id hid => e4 id (by simp [hid]), e5⟩
   have hne : id ≠ i := by rintro rfl; exact hid (e4 id (by simp))
   have := e3 id hid
   rw [A4 hne, A4 hne] at this
   exact this
theorem Yv {s s' : St V.E} {t : TypeId} {x : Operand} (h : ∀ k, x = .tmp k -> slot V s k = slot V s' k) : Acr V s t x = Acr V s' t x := by
 cases x with
 | tmp k => exact h k rfl
 | _ => rfl
theorem Qq {s s' : St V.E} : ∀ {xs : List Operand} {ts : List TypeId}, (∀ k, Operand.tmp k ∈ xs -> slot V s k = slot V s' k) -> Ml V s ts xs = Ml V s' ts xs
 | [], ts, _ => by cases ts <;> rfl
 | x :: xs, [], h => by
   simp only [Ml]
   rw [Yv (s' := s') λ k hk => h k (by simp [hk]), Qq λ k hk => h k (by simp [hk])]
 | x :: xs, t :: ts, h => by
   simp only [Ml]
   rw [Yv (s' := s') λ k hk => h k (by simp [hk]), Qq λ k hk => h k (by simp [hk])]
theorem Za {s s' : St V.E} {k : Nat} (h : A3 k s.slots = A3 k s'.slots) : slot V s k = slot V s' k := by unfold slot; rw [h]
theorem Afu {ops : Array Oper} {s s' : St V.E} {q : Su V} {o : Oper} (h : ∀ k ∈ o.looksAt ops, slot V s k = slot V s' k) : Yt V ops.toList s q o = Yt V ops.toList s' q o := by
 unfold Yt
 cases hg : o.guard with
 | none => rfl
 | some jw =>
   obtain ⟨j, want⟩ := jw
   simp only
   cases hd : (ops.toList[j]?).bind (·.dst) with
   | none => rfl
   | some d =>
     simp only
     rw [Array.getElem?_toList] at hd
     rw [h d (by simp [Oper.looksAt, hg, hd])]
theorem Pc {ops : Array Oper} {i : Nat} {o : Oper} {q : Su V} {s s' s1 : St V.E} {c : List Prop} {ac : Acc} (h : Ag2 V ops.toList i o q s = some (s1, c, ac)) (hn : s.n = s'.n)
   (hs : ∀ k ∈ o.looksAt ops, A3 k s.slots = A3 k s'.slots) (hb : ∀ id ∈ ac.reads, A3 id s.boxes = A3 id s'.boxes) :
   ∃ s1', Ag2 V ops.toList i o q s' = some (s1', c, ac) /\ s1.n = s.n /\ s1'.n = s'.n /\
     (∃ v, s1.slots = Kt V o.dst v s.slots /\ s1'.slots = Kt V o.dst v s'.slots) /\
     (∀ id ∈ ac.writes, A3 id s1'.boxes = A3 id s1.boxes) /\ (∀ id, id ∉ ac.writes -> A3 id s1'.boxes = A3 id s'.boxes /\ A3 id s1.boxes = A3 id s.boxes) := by
 have hsl : ∀ k ∈ o.looksAt ops, slot V s k = slot V s' k := λ k hk => Za (hs k hk)
 unfold Ag2 at h ⊢
 rw [<- hn]
 split at h
 · rw [Afu hsl] at h
   split at h
   · cases h
   · rename_i c0 hw
     cases h
     exact ⟨_, rfl, rfl, rfl, ⟨some (.tup []), rfl, rfl⟩, (λ id hid => by simp at hid), (λ id _ => ⟨rfl, rfl⟩)⟩
   · rename_i c0 hw
     have hop : Ml V s (La V o) o.op.operands.toList = Ml V s' (La V o) o.op.operands.toList :=
       Qq λ k hk => hsl k (List.mem_append_left _ (List.mem_filterMap.2 ⟨.tmp k, hk, rfl⟩))
     rw [hop] at h
     split at h
     · rename_i v c' bs acc hrun
       cases h
       obtain ⟨b1', e1, e2, e3, _, _⟩ := Ob _ s.boxes s'.boxes [] [] hrun (λ id hid _ => hb id hid) (λ id hid => by simp at hid)
       rw [e1]
       exact ⟨_, rfl, rfl, rfl, ⟨v, rfl, rfl⟩, e2, e3⟩
     · cases h
 · cases h
inductive W5 (V : Env) (ops : Array Oper) (q : Su V) (ac : Nat -> Acc) : List Nat -> St V.E -> St V.E -> Prop where
 | nil {s} : W5 V ops q ac [] s s
 | cons {i o L s s1 s2 c} : ops[i]? = some o -> Ag2 V ops.toList i o q s = some (s1, c, ac i) -> Ff c -> W5 V ops q ac L s1 s2 -> W5 V ops q ac (i :: L) s s2
theorem T2 {d : Option Tmp} {v : Option (SV V.E)} {l m : List (Nat × Option (SV V.E))} (h : Vt l m) : Vt (Kt V d v l) (Kt V d v m) := by
 cases d with
 | none => exact h
 | some d => exact h.put d v
theorem T3 {d : Option Tmp} {v : Option (SV V.E)} {l : List (Nat × Option (SV V.E))} {k : Nat} (h : d ≠ some k) : A3 k (Kt V d v l) = A3 k l := by
 cases d with
 | none => rfl
 | some d => exact A4 (λ e => h (by rw [e])) _ _
theorem Vs {ops : Array Oper} {q : Su V} {ac : Nat -> Acc} : ∀ {L : List Nat} {s s2 t : St V.E}, W5 V ops q ac L s s2 -> N8 s t -> ∃ t2, W5 V ops q ac L t t2 /\ N8 s2 t2
 | _, _, _, t, .nil, e => ⟨t, .nil, e⟩
 | _, s, _, t, .cons (i := i) (s1 := s1) ho h hc r, e => by
   obtain ⟨t1, h1, n1, n2, ⟨v, e1, e2⟩, e3, e4⟩ := Pc h e.n (λ k _ => e.slots k) (λ id _ => e.boxes id)
   have e' : N8 s1 t1 := by
     refine ⟨by rw [n1, n2]; exact e.n, ?_, λ id => ?_⟩
     · rw [e1, e2]; exact T2 e.slots
     · by_cases hid : id ∈ (ac i).writes
       · exact (e3 id hid).symm
       · rw [(e4 id hid).1, (e4 id hid).2]; exact e.boxes id
   obtain ⟨t2, r2, e2⟩ := Vs r e'
   exact ⟨t2, .cons ho h1 hc r2, e2⟩
def Oe (a b : Acc) : Prop := (∀ id ∈ a.writes, id ∉ b.reads /\ id ∉ b.writes) /\ (∀ id ∈ b.writes, id ∉ a.reads)
theorem Amz {ops : Array Oper} {q : Su V} {ac : Nat -> Acc} {i j : Nat} {oi oj : Oper} (hi : ops[i]? = some oi) (hj : ops[j]? = some oj) (hap : oi.apart ops oj = true) (hac : Oe (ac i) (ac j)) {L : List Nat} {s s2 : St V.E}
   (r : W5 V ops q ac (i :: j :: L) s s2) : ∃ t2, W5 V ops q ac (j :: i :: L) s t2 /\ N8 s2 t2 := by
 obtain ⟨p1, p2, p3⟩ := Oper.apart_spec hap
 cases r with
 | cons ho h hc r =>
   rename_i o s1 c
   rw [hi] at ho; cases ho
   cases r with
   | cons ho' h' hc' r =>
     rename_i o' s3 c'
     rw [hj] at ho'; cases ho'
     obtain ⟨_, _, n1, _, ⟨v, e1, _⟩, _, e4⟩ := Pc h rfl (λ _ _ => rfl) (λ _ _ => rfl)
     -- j first
     obtain ⟨t1, g1, m1, m2, ⟨u, f1, f2⟩, f3, f4⟩ := Pc (s' := s) h' n1
       (λ k hk => by rw [e1]; exact T3 λ e => p1 k e hk)
       (λ id hid => (e4 id λ hw => (hac.1 id hw).1 hid).2)
     -- then i
     obtain ⟨t2, g2, m3, m4, ⟨v', f5, f6⟩, f7, f8⟩ := Pc (s' := t1) h m2.symm
       (λ k hk => by rw [f2]; exact (T3 λ e => p3 k e hk).symm)
       (λ id hid => ((f4 id λ hw => hac.2 id hw hid).1).symm)
     have e : N8 s3 t2 := by
       refine ⟨by rw [m1, n1, m4, m2], ?_, λ id => ?_⟩
       · rw [f1, e1, f6, f2]
         have hv : Vt (Kt V oi.dst v s.slots) (Kt V oi.dst v' s.slots) := by
           rw [<- e1, <- f5]; exact λ _ => rfl
         intro k
         have h1 := T2 (d := oj.dst) (v := u) hv k
         rw [h1]
         cases hdi : oi.dst with
         | none => rfl
         | some d =>
           cases hdj : oj.dst with
           | none => rfl
           | some d' =>
             have hne : d' ≠ d := λ e => p2 d hdi (by rw [hdj, e])
             exact Vt.comm _ _ _ hne k
       · by_cases hiw : id ∈ (ac i).writes
         · rw [f7 id hiw, (f4 id (hac.1 id hiw).2).2]
         · rw [(f8 id hiw).1]
           by_cases hjw : id ∈ (ac j).writes
           · exact (f3 id hjw).symm
           · rw [(f4 id hjw).1, (f4 id hjw).2, (e4 id hiw).2]
     obtain ⟨t3, r3, e3⟩ := Vs r e
     exact ⟨t3, .cons hj g1 hc' (.cons hi g2 hc r3), e3⟩
theorem Tj {ops : Array Oper} {q : Su V} {ac : Nat -> Acc} {i : Nat} {oi : Oper} (hi : ops[i]? = some oi) : ∀ {L1 L2 : List Nat} {s s2 : St V.E},
   (∀ j ∈ L1, ∃ oj, ops[j]? = some oj /\ oj.apart ops oi = true /\ Oe (ac j) (ac i)) -> W5 V ops q ac (L1 ++ i :: L2) s s2 -> ∃ t2, W5 V ops q ac (i :: (L1 ++ L2)) s t2 /\ N8 s2 t2
 | [], L2, s, s2, _, r => ⟨s2, r, .refl _⟩
 | j :: L1, L2, s, s2, h, r => by
   cases r with
   | cons ho hh hc r =>
     obtain ⟨t2, r1, e1⟩ := Tj hi (λ k hk => h k (by simp [hk])) r
     obtain ⟨oj, hoj, h1, h2⟩ := h j (by simp)
     obtain ⟨t3, r2, e2⟩ := Amz hoj hi h1 h2 (.cons ho hh hc r1)
     exact ⟨t3, r2, e1.trans e2⟩
end
end Go.Ab
