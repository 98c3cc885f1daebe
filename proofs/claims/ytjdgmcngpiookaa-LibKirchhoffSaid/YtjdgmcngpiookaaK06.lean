/- One step of a region that an abstract state tells, calls among them. A region whose order is drawn: the order as it stands in the text tells them all, where whatever touches is bound. A region whose order is drawn, told by the order as it stands. An abstract state told anew: less of it, other numbers, slices that nobody writes any more. Conditions: none beyond those that each theorem names. -/
import Derived.Test.YtjdgmcngpiookaaK05
namespace Go.Ab
open Go
section
variable {V : Env} {P : Program} {C : Ctx}
theorem vals_cvs {bx : List (Nat × Box V.E)} {β : Nat → BI} {w : World} : ∀ {xs : List (Option (SV V.E))} {vs : List Value} {cs : List (CV V.E)}, Vals V C bx β w xs vs → cvsOf V xs = some cs → All2 (CVRep V.T bx β (okOf C β w) w) cs vs
  | [], _, cs, .nil, h => by simp [cvsOf] at h; subst h; exact .nil
  | x :: xs, _, cs, .cons h1 h2, h => by
    unfold cvsOf at h
    split at h
    · rename_i heq; cases heq
    · rename_i c r heq
      cases heq
      split at h
      · rename_i ls hl
        cases h
        exact .cons (h1 _ rfl) (vals_cvs h2 hl)
      · cases h
    · cases h
theorem caps_rep {bx : List (Nat × Box V.E)} {β : Nat → BI} {ok : Nat → Prop} {w : World} : ∀ {ls : List (Leaf V.E)} {vs : List Value}, LeafReps V.T bx β ok w ls vs → All2 (CVRep V.T bx β ok w) (ls.map CV.one) vs
  | [], vs, h => by simp only [LeafReps] at h; subst h; exact .nil
  | l :: ls, vs, h => by
    simp only [LeafReps] at h
    obtain ⟨v, r, rfl, h1, h2⟩ := h
    exact .cons h1 (caps_rep h2)
theorem SimB.put {s : St V.E} {β β' : Nat → BI} {a : Act} {w w' : World} {bx' : List (Nat × Box V.E)} (S : SimB V C s β a w) (M : MemOk V.T C bx' β' w') (X : Ext V.T s.boxes β (okOf C β w) w bx' β' (okOf C β' w') w')
    {dst : Option Tmp} (hd : ∀ d, dst = some d → d < s.n ∧ (V.t0 = true → d ≠ 0)) {res : Option (SV V.E)} {v : Value} (hr : ∀ x, res = some x → SR V C bx' β' w' x v) :
    SimB V C ⟨s.n, putDst V dst res s.slots, bx'⟩ β' (a.put dst v) w' := by
  cases dst with
  | none =>
    exact ⟨S.size, S.defers, fun k x hk => SVRep.ext X (S.slots k x hk), M⟩
  | some d =>
    have hlt := (hd d rfl).1
    refine ⟨by simpa [Act.put] using S.size, ⟨by simpa [Act.put] using S.defers.1, fun ht => ?_⟩, fun k x hk => ?_, M⟩
    · rw [← S.defers.2 ht]
      simp [Act.put, Array.getD_eq_getD_getElem?, Array.getElem?_setIfInBounds_ne ((hd d rfl).2 ht)]
    simp only [slot, putDst] at hk
    by_cases hkd : k = d
    · subst hkd
      rw [look_put_same] at hk
      have : (a.put (some k) v).tmps.getD k undef = v := by
        simp [Act.put, Array.getD_eq_getD_getElem?, S.size, hlt]
      rw [this]
      exact hr x hk
    · rw [look_put_other hkd] at hk
      have : (a.put (some d) v).tmps.getD k undef = a.tmps.getD k undef := by
        simp [Act.put, Array.getD_eq_getD_getElem?, Array.getElem?_setIfInBounds_ne (Ne.symm hkd)]
      rw [this]
      exact SVRep.ext X (S.slots k x hk)
theorem getD_bool {a : Act} {d : Nat} {b : Bool} (h : a.tmps.getD d undef = .bool b) : a.tmps[d]? = some (.bool b) := by
  rw [Array.getD_eq_getD_getElem?] at h
  cases hx : a.tmps[d]? with
  | none => rw [hx] at h; simp [undef] at h
  | some v => rw [hx] at h; simp at h; rw [h]
theorem wants_ok {ops : Array Oper} {s : St V.E} {β : Nat → BI} {a : Act} {w : World} (S : SimB V C s β a w) {q : Orcs V} {o : Oper} {b : Bool} {c : List Prop} (h : wants V ops.toList s q o = some (b, c)) (hc : AllP c) :
    Region.wanted o (yielded ops a.tmps) = b := by
  unfold wants at h
  unfold Region.wanted
  split at h
  · rename_i hg
    cases h
    rw [hg]
  · rename_i j want hg
    rw [hg]
    simp only
    split at h
    · rename_i d hd
      rw [Array.getElem?_toList] at hd
      split at h
      · rename_i bb x hs ho
        cases h
        have hb := hc.1
        subst hb
        have hr := S.slots d _ hs
        simp only [SR, SVRep, CVRep, LeafRep] at hr
        unfold yielded
        rw [hd]
        simp only [Option.bind_some]
        rw [getD_bool hr]
        cases bb <;> cases want <;> rfl
      · rename_i hs
        cases h
        have hr := S.slots d _ hs
        simp only [SR, SVRep] at hr
        obtain ⟨vs, hv, hr⟩ := hr
        unfold yielded
        rw [hd]
        simp only [Option.bind_some]
        rw [Array.getD_eq_getD_getElem?] at hv
        cases hx : a.tmps[d]? with
        | none => rfl
        | some v => rw [hx] at hv; simp at hv; rw [hv]; rfl
      · cases h
    · cases h
theorem run_callFunc {f : FuncId} {fn : Func} {args : Array Value} {w : World} (hf : P.funcs[f]? = some fn) (hb : fn.body.isSome = true) (hn : (fn.name == "runtime.NumGoroutine") = false) :
    (callFunc f args).run P w = .ok (.enter f args) w := by
  have hb' : fn.body.isNone = false := by cases h : fn.body <;> simp_all
  simp only [callFunc, Sem.run_bind, run_program, Result.andThen_ok, hf, hn, hb', Bool.false_eq_true, if_false, Sem.run_pure]
theorem step_ok (G : Good V P) {ops : Array Oper} {i : Nat} {o : Oper} (ho : ops[i]? = some o) {q : Orcs V} {s s' : St V.E} {a : Act} {w : World} (S : Sim V C s a w) {cs : List Prop} {ac : Acc}
    (h : evOp V ops.toList i o q s = some (s', cs, ac)) (hc : AllP cs) {K : Act → World → Prop} {Q : Exit → Act → World → Prop} (hK : ∀ a' w', Sim V C s' a' w' → K a' w') :
    wpOp P ops Q i K a w := by
  obtain ⟨β, S⟩ := S
  unfold evOp at h
  split at h
  · rename_i hd
    have hd : ∀ d, o.dst = some d → d < s.n ∧ (V.t0 = true → d ≠ 0) := by
      intro d hdd
      rw [hdd] at hd
      simp only [dstOk, Bool.and_eq_true, Bool.or_eq_true, Bool.not_eq_true'] at hd
      refine ⟨(Nat.blt_eq).mp hd.1, fun ht => ?_⟩
      rcases hd.2 with h | h
      · rw [ht] at h; cases h
      · exact Nat.ne_of_gt ((Nat.blt_eq).mp h)
    unfold wpOp
    rw [ho]
    simp only
    split at h
    · cases h
    · rename_i c hw
      cases h
      have hwant := wants_ok S hw hc
      rw [hwant]
      simp only [Bool.false_eq_true, if_false]
      exact hK _ _ ⟨β, S.put S.mem (Ext.refl _ _ _ _ _) hd (fun x hx => by cases hx; exact ⟨#[], rfl, .nil⟩)⟩
    · rename_i c hw
      split at h
      · rename_i v c' bs acc hrun
        cases h
        obtain ⟨hc1, hc2⟩ := AllP.append hc
        have hwant := wants_ok S hw hc1
        rw [hwant]
        simp only [if_true]
        refine .inl ?_
        by_cases hcall : isCall o = true
        · -- a call
          unfold isCall at hcall
          split at hcall
          · rename_i cl hop
            split at hcall
            · rename_i fv hcv
              have hrun' := hrun
              unfold core at hrun'
              have hv := opnds_ok S o.op.operands.toList (opTypes V o)
              generalize hvs : opnds V s (opTypes V o) o.op.operands.toList = vs at hrun' hv
              rw [hop] at hrun' hv
              have hops : (Op.call cl).operands.toList = fv :: cl.args.toList := by
                simp [Op.operands, Call.operands, hcv]
              rw [hops] at hv
              cases hv with
              | cons h1 hv =>
                rename_i x0 xs
                simp only [hcv] at hrun'
                split at hrun'
                · rename_i heq; cases heq
                · rename_i fv' f caps vs' heq heq'
                  cases heq
                  cases heq'
                  split at hrun'
                  · rename_i ls hls
                    have hf := h1 _ rfl
                    simp only [SR, SVRep, CVRep, LeafRep] at hf
                    obtain ⟨capv, hfv, hcap⟩ := hf
                    have hargs := (vals_cvs hv hls).append (caps_rep hcap)
                    obtain ⟨⟨fn, hfn, hbd, hnm⟩, hcalls⟩ := call_ok G.tab G.funcs S.mem hargs hrun' hc2
                    unfold Oper.wp
                    have hexec : (execOp a.eval o).run P w = .ok (.enter f (cl.args.map a.eval ++ capv)) w := by
                      simp only [execOp, hop, resolve, hcv, hfv, Deferred.ofValue, Sem.run_bind, Sem.run_pure, Result.andThen_ok, invoke]
                      rw [run_callFunc hfn hbd hnm]
                      simp
                    rw [hexec, Oper.upon_enter]
                    have harr : (cl.args.toList.map a.eval ++ capv.toList).toArray = cl.args.map a.eval ++ capv := by
                      apply Array.ext'; simp
                    rw [harr] at hcalls
                    refine hcalls.mono ?_
                    rintro e w' ⟨rv, rfl, β', x, rfl, hx, M', X'⟩
                    exact hK _ _ ⟨β', S.put M' X' hd (fun y hy => by cases hy; exact hx)⟩
                  · simp [interp] at hrun'
                · simp [interp] at hrun'
            · cases hcall
          · cases hcall
        · simp only [Bool.not_eq_true] at hcall
          obtain ⟨β', w', M', X', hr⟩ := exec_ok G S (o.dst.getD 0) o hcall _ hrun hc2
          unfold Oper.wp
          rcases hr with ⟨rv, x, rfl, hr, hx⟩ | ⟨rfl, hr⟩
          · rw [hr, Oper.upon_value]
            exact hK _ _ ⟨β', S.put M' X' hd (fun y hy => by cases hy; exact hx)⟩
          · rw [hr, Oper.upon_skip]
            exact hK _ _ ⟨β', S.put M' X' hd (fun y hy => by cases hy)⟩
      · cases h
  · cases h
theorem Sim.drew {s : St V.E} {a : Act} {w : World} (S : Sim V C s a w) : Sim V C s a { w with drawn := w.drawn + 1 } := by
  obtain ⟨β, S⟩ := S
  obtain ⟨M, X⟩ := S.mem.grow (Grow.drew w)
  exact ⟨β, S.size, S.defers, fun k x hk => SVRep.ext X (S.slots k x hk), M⟩
theorem ops_ok (G : Good V P) {ops : Array Oper} {q : Orcs V} {Q : Exit → Act → World → Prop} : ∀ (os : List Oper) (i : Nat) (_hi : ops.toList.drop i = os) (s s' : St V.E) (cs : List Prop) (acs : List Acc) (a : Act) (w : World), Sim V C s a w →
    evOps V ops.toList q i os s = some (s', cs, acs) → AllP cs → (∀ a' w', Sim V C s' a' w' → Q .normal a' w') → wpOps P ops Q ((List.range ops.size).drop i) a w
  | [], i, hi, s, s', cs, acs, a, w, S, h, hc, hQ => by
    simp only [evOps, Option.some.injEq, Prod.mk.injEq] at h
    obtain ⟨rfl, _, _⟩ := h
    have : ops.size ≤ i := by simpa using hi
    have hn : (List.range ops.size).drop i = [] := by simpa using this
    rw [hn]
    exact hQ _ _ S
  | o :: os, i, hi, s, s', cs, acs, a, w, S, h, hc, hQ => by
    have hlt : i < ops.size := by
      rcases Nat.lt_or_ge i ops.size with h | h
      · exact h
      · have : ops.toList.drop i = [] := by simpa using h
        rw [this] at hi; cases hi
    have hn : (List.range ops.size).drop i = i :: (List.range ops.size).drop (i + 1) := by
      rw [List.drop_eq_getElem_cons (by simpa using hlt)]; simp
    have ho : ops[i]? = some o := by
      have := congrArg (·[0]?) hi
      simpa using this
    have hi' : ops.toList.drop (i + 1) = os := by
      have := congrArg List.tail hi
      simpa using this
    rw [hn, wpOps_cons]
    simp only [evOps] at h
    split at h
    · rename_i s1 c1 a1 h1
      split at h
      · rename_i s2 c2 as h2
        cases h
        obtain ⟨hc1, hc2⟩ := AllP.append hc
        exact step_ok G ho S h1 hc1 fun a' w' S' => ops_ok G os (i + 1) hi' s1 _ c2 as a' w' S' h2 hc2 hQ
      · cases h
    · cases h
end
end Go.Ab
namespace Go.Ab
open Go
section
variable {V : Env} {P : Program} {C : Ctx}
def Same {α : Type} (l m : List (Nat × α)) : Prop := ∀ k, look k l = look k m
theorem Same.put {α : Type} {l m : List (Nat × α)} (h : Same l m) (k : Nat) (x : α) : Same (put k x l) (put k x m) := by
  intro j
  by_cases hj : j = k
  · subst hj; rw [look_put_same, look_put_same]
  · rw [look_put_other hj, look_put_other hj]; exact h j
theorem Same.comm {α : Type} (l : List (Nat × α)) {j k : Nat} (x y : α) (h : j ≠ k) : Same (Ab.put j x (Ab.put k y l)) (Ab.put k y (Ab.put j x l)) := by
  intro i
  by_cases hij : i = j
  · subst hij; rw [look_put_same, look_put_other h, look_put_same]
  · by_cases hik : i = k
    · subst hik; rw [look_put_other hij, look_put_same, look_put_same]
    · rw [look_put_other hij, look_put_other hik, look_put_other hik, look_put_other hij]
structure StEq (s t : St V.E) : Prop where
  n : s.n = t.n
  slots : Same s.slots t.slots
  boxes : Same s.boxes t.boxes
theorem StEq.refl (s : St V.E) : StEq s s := ⟨rfl, fun _ => rfl, fun _ => rfl⟩
theorem StEq.symm {s t : St V.E} (h : StEq s t) : StEq t s := ⟨h.n.symm, fun k => (h.slots k).symm, fun k => (h.boxes k).symm⟩
theorem StEq.trans {s t u : St V.E} (h : StEq s t) (k : StEq t u) : StEq s u := ⟨h.n.trans k.n, fun i => (h.slots i).trans (k.slots i), fun i => (h.boxes i).trans (k.boxes i)⟩
theorem interp_same : ∀ (t : Todo V.E) (bs bs' : List (Nat × Box V.E)) (rs ws : List Nat) {res : Option (SV V.E)} {c : List Prop} {b1 : List (Nat × Box V.E)} {ac : Acc},
    interp V bs t rs ws = some (res, c, b1, ac) → (∀ id ∈ ac.reads, id ∉ ws → look id bs = look id bs') → (∀ id ∈ ws, look id bs = look id bs') →
    ∃ b1', interp V bs' t rs ws = some (res, c, b1', ac) ∧ (∀ id ∈ ac.writes, look id b1' = look id b1) ∧ (∀ id, id ∉ ac.writes → look id b1' = look id bs' ∧ look id b1 = look id bs) ∧ (∀ id ∈ ws, id ∈ ac.writes) ∧ (∀ id ∈ rs, id ∈ ac.reads)
  | .fail, bs, bs', rs, ws, res, c, b1, ac, h, _, _ => by simp [interp] at h
  | .ret v c0, bs, bs', rs, ws, res, c, b1, ac, h, hr, hw => by
    simp only [interp, Option.some.injEq, Prod.mk.injEq] at h
    obtain ⟨rfl, rfl, rfl, rfl⟩ := h
    exact ⟨bs', rfl, fun id hid => (hw id hid).symm, fun id _ => ⟨rfl, rfl⟩, fun id h => h, fun id h => h⟩
  | .read i k, bs, bs', rs, ws, res, c, b1, ac, h, hr, hw => by
    simp only [interp] at h ⊢
    obtain ⟨b2, e1, e2, e3, e4, e5⟩ := interp_same (k (look i bs)) bs bs' (i :: rs) ws h hr hw
    have hi : look i bs = look i bs' := by
      by_cases hiw : i ∈ ws
      · exact hw i hiw
      · exact hr i (e5 i (by simp)) hiw
    rw [hi] at e1
    exact ⟨b2, e1, e2, e3, e4, fun id hid => e5 id (by simp [hid])⟩
  | .write i b k, bs, bs', rs, ws, res, c, b1, ac, h, hr, hw => by
    simp only [interp] at h ⊢
    obtain ⟨b2, e1, e2, e3, e4, e5⟩ := interp_same k (put i b bs) (put i b bs') rs (i :: ws) h
      (fun id hid hn => by
        simp only [List.mem_cons, not_or] at hn
        rw [look_put_other hn.1, look_put_other hn.1]; exact hr id hid hn.2)
      (fun id hid => by
        by_cases e : id = i
        · subst e; rw [look_put_same, look_put_same]
        · rw [look_put_other e, look_put_other e]
          exact hw id (by simpa [e] using hid))
    refine ⟨b2, e1, e2, fun id hid => ?_, fun id hid => e4 id (by simp [hid]), e5⟩
    have hne : id ≠ i := by rintro rfl; exact hid (e4 id (by simp))
    have := e3 id hid
    rw [look_put_other hne, look_put_other hne] at this
    exact this
theorem opnd_same {s s' : St V.E} {t : TypeId} {x : Operand} (h : ∀ k, x = .tmp k → slot V s k = slot V s' k) : opnd V s t x = opnd V s' t x := by
  cases x with
  | tmp k => exact h k rfl
  | _ => rfl
theorem opnds_same {s s' : St V.E} : ∀ {xs : List Operand} {ts : List TypeId}, (∀ k, Operand.tmp k ∈ xs → slot V s k = slot V s' k) → opnds V s ts xs = opnds V s' ts xs
  | [], ts, _ => by cases ts <;> rfl
  | x :: xs, [], h => by
    simp only [opnds]
    rw [opnd_same (s' := s') fun k hk => h k (by simp [hk]), opnds_same fun k hk => h k (by simp [hk])]
  | x :: xs, t :: ts, h => by
    simp only [opnds]
    rw [opnd_same (s' := s') fun k hk => h k (by simp [hk]), opnds_same fun k hk => h k (by simp [hk])]
theorem slot_same {s s' : St V.E} {k : Nat} (h : look k s.slots = look k s'.slots) : slot V s k = slot V s' k := by unfold slot; rw [h]
theorem wants_same {ops : Array Oper} {s s' : St V.E} {q : Orcs V} {o : Oper} (h : ∀ k ∈ o.looksAt ops, slot V s k = slot V s' k) : wants V ops.toList s q o = wants V ops.toList s' q o := by
  unfold wants
  cases hg : o.guard with
  | none => rfl
  | some jw =>
    obtain ⟨j, want⟩ := jw
    simp only
    cases hd : (ops.toList[j]?).bind (·.dst) with
    | none => rfl
    | some d =>
      simp only
      rw [Array.getElem?_toList] at hd
      rw [h d (by simp [Oper.looksAt, hg, hd])]
theorem evOp_same {ops : Array Oper} {i : Nat} {o : Oper} {q : Orcs V} {s s' s1 : St V.E} {c : List Prop} {ac : Acc} (h : evOp V ops.toList i o q s = some (s1, c, ac)) (hn : s.n = s'.n)
    (hs : ∀ k ∈ o.looksAt ops, look k s.slots = look k s'.slots) (hb : ∀ id ∈ ac.reads, look id s.boxes = look id s'.boxes) :
    ∃ s1', evOp V ops.toList i o q s' = some (s1', c, ac) ∧ s1.n = s.n ∧ s1'.n = s'.n ∧
      (∃ v, s1.slots = putDst V o.dst v s.slots ∧ s1'.slots = putDst V o.dst v s'.slots) ∧
      (∀ id ∈ ac.writes, look id s1'.boxes = look id s1.boxes) ∧ (∀ id, id ∉ ac.writes → look id s1'.boxes = look id s'.boxes ∧ look id s1.boxes = look id s.boxes) := by
  have hsl : ∀ k ∈ o.looksAt ops, slot V s k = slot V s' k := fun k hk => slot_same (hs k hk)
  unfold evOp at h ⊢
  rw [← hn]
  split at h
  · rw [wants_same hsl] at h
    split at h
    · cases h
    · rename_i c0 hw
      cases h
      exact ⟨_, rfl, rfl, rfl, ⟨some (.tup []), rfl, rfl⟩, (fun id hid => by simp at hid), (fun id _ => ⟨rfl, rfl⟩)⟩
    · rename_i c0 hw
      have hop : opnds V s (opTypes V o) o.op.operands.toList = opnds V s' (opTypes V o) o.op.operands.toList :=
        opnds_same fun k hk => hsl k (List.mem_append_left _ (List.mem_filterMap.2 ⟨.tmp k, hk, rfl⟩))
      rw [hop] at h
      split at h
      · rename_i v c' bs acc hrun
        cases h
        obtain ⟨b1', e1, e2, e3, _, _⟩ := interp_same _ s.boxes s'.boxes [] [] hrun (fun id hid _ => hb id hid) (fun id hid => by simp at hid)
        rw [e1]
        exact ⟨_, rfl, rfl, rfl, ⟨v, rfl, rfl⟩, e2, e3⟩
      · cases h
  · cases h
inductive Runs (V : Env) (ops : Array Oper) (q : Orcs V) (ac : Nat → Acc) : List Nat → St V.E → St V.E → Prop where
  | nil {s} : Runs V ops q ac [] s s
  | cons {i o L s s1 s2 c} : ops[i]? = some o → evOp V ops.toList i o q s = some (s1, c, ac i) → AllP c → Runs V ops q ac L s1 s2 → Runs V ops q ac (i :: L) s s2
theorem putDst_same {d : Option Tmp} {v : Option (SV V.E)} {l m : List (Nat × Option (SV V.E))} (h : Same l m) : Same (putDst V d v l) (putDst V d v m) := by
  cases d with
  | none => exact h
  | some d => exact h.put d v
theorem look_putDst {d : Option Tmp} {v : Option (SV V.E)} {l : List (Nat × Option (SV V.E))} {k : Nat} (h : d ≠ some k) : look k (putDst V d v l) = look k l := by
  cases d with
  | none => rfl
  | some d => exact look_put_other (fun e => h (by rw [e])) _ _
theorem runs_congr {ops : Array Oper} {q : Orcs V} {ac : Nat → Acc} : ∀ {L : List Nat} {s s2 t : St V.E}, Runs V ops q ac L s s2 → StEq s t → ∃ t2, Runs V ops q ac L t t2 ∧ StEq s2 t2
  | _, _, _, t, .nil, e => ⟨t, .nil, e⟩
  | _, s, _, t, .cons (i := i) (s1 := s1) ho h hc r, e => by
    obtain ⟨t1, h1, n1, n2, ⟨v, e1, e2⟩, e3, e4⟩ := evOp_same h e.n (fun k _ => e.slots k) (fun id _ => e.boxes id)
    have e' : StEq s1 t1 := by
      refine ⟨by rw [n1, n2]; exact e.n, ?_, fun id => ?_⟩
      · rw [e1, e2]; exact putDst_same e.slots
      · by_cases hid : id ∈ (ac i).writes
        · exact (e3 id hid).symm
        · rw [(e4 id hid).1, (e4 id hid).2]; exact e.boxes id
    obtain ⟨t2, r2, e2⟩ := runs_congr r e'
    exact ⟨t2, .cons ho h1 hc r2, e2⟩
def AccApart (a b : Acc) : Prop := (∀ id ∈ a.writes, id ∉ b.reads ∧ id ∉ b.writes) ∧ (∀ id ∈ b.writes, id ∉ a.reads)
theorem runs_swap {ops : Array Oper} {q : Orcs V} {ac : Nat → Acc} {i j : Nat} {oi oj : Oper} (hi : ops[i]? = some oi) (hj : ops[j]? = some oj) (hap : oi.apart ops oj = true) (hac : AccApart (ac i) (ac j)) {L : List Nat} {s s2 : St V.E}
    (r : Runs V ops q ac (i :: j :: L) s s2) : ∃ t2, Runs V ops q ac (j :: i :: L) s t2 ∧ StEq s2 t2 := by
  obtain ⟨p1, p2, p3⟩ := Oper.apart_spec hap
  cases r with
  | cons ho h hc r =>
    rename_i o s1 c
    rw [hi] at ho; cases ho
    cases r with
    | cons ho' h' hc' r =>
      rename_i o' s3 c'
      rw [hj] at ho'; cases ho'
      obtain ⟨_, _, n1, _, ⟨v, e1, _⟩, _, e4⟩ := evOp_same h rfl (fun _ _ => rfl) (fun _ _ => rfl)
      -- j first
      obtain ⟨t1, g1, m1, m2, ⟨u, f1, f2⟩, f3, f4⟩ := evOp_same (s' := s) h' n1
        (fun k hk => by rw [e1]; exact look_putDst fun e => p1 k e hk)
        (fun id hid => (e4 id fun hw => (hac.1 id hw).1 hid).2)
      -- then i
      obtain ⟨t2, g2, m3, m4, ⟨v', f5, f6⟩, f7, f8⟩ := evOp_same (s' := t1) h m2.symm
        (fun k hk => by rw [f2]; exact (look_putDst fun e => p3 k e hk).symm)
        (fun id hid => ((f4 id fun hw => hac.2 id hw hid).1).symm)
      have e : StEq s3 t2 := by
        refine ⟨by rw [m1, n1, m4, m2], ?_, fun id => ?_⟩
        · rw [f1, e1, f6, f2]
          have hv : Same (putDst V oi.dst v s.slots) (putDst V oi.dst v' s.slots) := by
            rw [← e1, ← f5]; exact fun _ => rfl
          intro k
          have h1 := putDst_same (d := oj.dst) (v := u) hv k
          rw [h1]
          cases hdi : oi.dst with
          | none => rfl
          | some d =>
            cases hdj : oj.dst with
            | none => rfl
            | some d' =>
              have hne : d' ≠ d := fun e => p2 d hdi (by rw [hdj, e])
              exact Same.comm _ _ _ hne k
        · by_cases hiw : id ∈ (ac i).writes
          · rw [f7 id hiw, (f4 id (hac.1 id hiw).2).2]
          · rw [(f8 id hiw).1]
            by_cases hjw : id ∈ (ac j).writes
            · exact (f3 id hjw).symm
            · rw [(f4 id hjw).1, (f4 id hjw).2, (e4 id hiw).2]
      obtain ⟨t3, r3, e3⟩ := runs_congr r e
      exact ⟨t3, .cons hj g1 hc' (.cons hi g2 hc r3), e3⟩
theorem runs_bubble {ops : Array Oper} {q : Orcs V} {ac : Nat → Acc} {i : Nat} {oi : Oper} (hi : ops[i]? = some oi) : ∀ {L1 L2 : List Nat} {s s2 : St V.E},
    (∀ j ∈ L1, ∃ oj, ops[j]? = some oj ∧ oj.apart ops oi = true ∧ AccApart (ac j) (ac i)) → Runs V ops q ac (L1 ++ i :: L2) s s2 → ∃ t2, Runs V ops q ac (i :: (L1 ++ L2)) s t2 ∧ StEq s2 t2
  | [], L2, s, s2, _, r => ⟨s2, r, .refl _⟩
  | j :: L1, L2, s, s2, h, r => by
    cases r with
    | cons ho hh hc r =>
      obtain ⟨t2, r1, e1⟩ := runs_bubble hi (fun k hk => h k (by simp [hk])) r
      obtain ⟨oj, hoj, h1, h2⟩ := h j (by simp)
      obtain ⟨t3, r2, e2⟩ := runs_swap hoj hi h1 h2 (.cons ho hh hc r1)
      exact ⟨t3, r2, e1.trans e2⟩
end
end Go.Ab
namespace Go.Ab
open Go
section
variable {V : Env} {P : Program} {C : Ctx}
theorem Sim.same {s t : St V.E} {a : Act} {w : World} (S : Sim V C s a w) (e : StEq s t) : Sim V C t a w := by
  obtain ⟨β, S⟩ := S
  obtain ⟨M, X⟩ := S.mem.step (bx' := t.boxes) (β' := β) (w' := w) (fun _ => False) rfl rfl rfl (Nat.le_refl _) (fun j _ => ⟨rfl, (e.boxes j).symm⟩) (fun _ _ _ => rfl) (fun j h => h.elim) (fun j h => h.elim)
    (fun j _ _ h => h.elim) (fun j h => h.elim) (fun j _ h => h.elim) (fun _ j _ h => h.elim)
  exact ⟨β, by rw [S.size, e.n], S.defers, fun k x hk => SVRep.ext X (S.slots k x ((slot_same (e.slots k)).trans hk)), M⟩
def memB : Nat → List Nat → Bool
  | _, [] => false
  | k, x :: xs => Nat.beq x k || memB k xs
def noneIn : List Nat → List Nat → Bool
  | [], _ => true
  | x :: xs, l => !(memB x l) && noneIn xs l
def accApartB (a b : Acc) : Bool := noneIn a.writes b.reads && noneIn a.writes b.writes && noneIn b.writes a.reads
theorem memB_of {k : Nat} : ∀ {l : List Nat}, k ∈ l → memB k l = true
  | x :: xs, h => by
    unfold memB
    rcases List.mem_cons.1 h with rfl | h
    · simp
    · rw [memB_of h]; simp
theorem noneIn_of : ∀ {l m : List Nat}, noneIn l m = true → ∀ k ∈ l, k ∉ m
  | x :: xs, m, h, k, hk, hm => by
    unfold noneIn at h
    simp only [Bool.and_eq_true, Bool.not_eq_true'] at h
    rcases List.mem_cons.1 hk with rfl | hk
    · rw [memB_of hm] at h; exact Bool.noConfusion h.1
    · exact noneIn_of h.2 k hk hm
theorem accApart_of {a b : Acc} (h : accApartB a b = true) : AccApart a b := by
  unfold accApartB at h
  simp only [Bool.and_eq_true] at h
  exact ⟨fun id hid => ⟨noneIn_of h.1.1 id hid, noneIn_of h.1.2 id hid⟩, fun id hid => noneIn_of h.2 id hid⟩
def preOf (masks : List Nat) (o : Oper) : Nat :=
  o.after.toList.foldl (fun m e => if Region.binds .any e then m ||| ((1 <<< e.on) ||| masks.getD e.on 0) else m) 0
def masksOf : List Oper → List Nat → List Nat
  | [], ms => ms
  | o :: os, ms => masksOf os (ms ++ [preOf ms o])
def backB : Nat → List Oper → Bool
  | _, [] => true
  | i, o :: os => o.after.toList.all (fun e => !Region.binds .any e || Nat.blt e.on i) && backB (i + 1) os
def pairB (ops : Array Oper) (oi : Oper) (ai : Acc) (mi : Nat) : Nat → List Oper → List Acc → Bool
  | _, [], _ => true
  | j, oj :: os, aj :: as => (mi.testBit j || (oj.apart ops oi && accApartB aj ai)) && pairB ops oi ai mi (j + 1) os as
  | _, _ :: _, [] => false
def pairsB (ops : Array Oper) (allO : List Oper) (allA : List Acc) : Nat → List Oper → List Acc → List Nat → Bool
  | _, [], _, _ => true
  | i, o :: os, a :: as, m :: ms => pairB ops o a m 0 (allO.take i) (allA.take i) && pairsB ops allO allA (i + 1) os as ms
  | _, _, _, _ => false
def anyB (ops : Array Oper) (acs : List Acc) : Bool :=
  backB 0 ops.toList && pairsB ops ops.toList acs 0 ops.toList acs (masksOf ops.toList [])
inductive Reach (ops : Array Oper) (j : Nat) : Nat → Prop where
  | one {i o e} : ops[i]? = some o → e ∈ o.after → Region.binds .any e = true → e.on = j → Reach ops j i
  | more {i o e} : ops[i]? = some o → e ∈ o.after → Region.binds .any e = true → Reach ops j e.on → Reach ops j i
def Masked (ops : Array Oper) (ms : List Nat) : Prop := ∀ i j, (ms.getD i 0).testBit j = true → Reach ops j i
theorem pre_reach {ops : Array Oper} {ms : List Nat} (hm : Masked ops ms) {i : Nat} {o : Oper} (ho : ops[i]? = some o) {j : Nat} (h : (preOf ms o).testBit j = true) : Reach ops j i := by
  unfold preOf at h
  have gen : ∀ (l : List Edge) (m : Nat), (∀ e ∈ l, e ∈ o.after) → (m.testBit j = true → Reach ops j i) →
      (l.foldl (fun m e => if Region.binds .any e then m ||| ((1 <<< e.on) ||| ms.getD e.on 0) else m) m).testBit j = true → Reach ops j i := by
    intro l
    induction l with
    | nil => intro m _ hm h; exact hm h
    | cons e l ih =>
      intro m hl h0 h
      simp only [List.foldl_cons] at h
      refine ih _ (fun e' he' => hl e' (by simp [he'])) ?_ h
      intro hb
      split at hb
      · rename_i hbind
        rw [Nat.testBit_or, Nat.testBit_or] at hb
        simp only [Bool.or_eq_true] at hb
        rcases hb with hb | hb | hb
        · exact h0 hb
        · rw [Nat.one_shiftLeft, Nat.testBit_two_pow] at hb
          exact .one ho (hl e (by simp)) hbind (by simpa using hb)
        · exact .more ho (hl e (by simp)) hbind (hm _ _ hb)
      · exact h0 hb
  exact gen _ 0 (fun e he => by simpa using he) (fun h => by simp at h) h
theorem masks_reach {ops : Array Oper} : ∀ (os : List Oper) (ms : List Nat), ops.toList.drop ms.length = os → Masked ops ms → Masked ops (masksOf os ms)
  | [], ms, _, hm => hm
  | o :: os, ms, hd, hm => by
    unfold masksOf
    have ho : ops[ms.length]? = some o := by
      have := congrArg (·[0]?) hd
      simpa using this
    refine masks_reach os _ ?_ ?_
    · have := congrArg List.tail hd
      simpa using this
    · intro i j h
      rw [List.getD_eq_getElem?_getD] at h
      rcases Nat.lt_trichotomy i ms.length with hl | he | hg
      · rw [List.getElem?_append_left hl] at h
        exact hm i j (by rw [List.getD_eq_getElem?_getD]; exact h)
      · subst he
        simp at h
        exact pre_reach hm ho h
      · rw [List.getElem?_eq_none (by simp; omega)] at h
        simp at h
theorem back_of {os : List Oper} : ∀ {i : Nat}, backB i os = true → ∀ k o, os[k]? = some o → ∀ e ∈ o.after, Region.binds .any e = true → e.on < i + k := by
  induction os with
  | nil => intro i _ k o hk; simp at hk
  | cons o os ih =>
    intro i h k o' hk e he hb
    unfold backB at h
    simp only [Bool.and_eq_true, List.all_eq_true] at h
    cases k with
    | zero =>
      simp at hk; subst hk
      have := h.1 e (by simpa using he)
      rw [hb] at this
      exact (Nat.blt_eq).mp (by simpa using this)
    | succ k =>
      have := ih h.2 k o' (by simpa using hk) e he hb
      omega
theorem pair_of {ops : Array Oper} {oi : Oper} {ai : Acc} {mi : Nat} {os : List Oper} : ∀ {as : List Acc} {j : Nat}, pairB ops oi ai mi j os as = true → ∀ k oj, os[k]? = some oj →
    ∃ aj, as[k]? = some aj ∧ (mi.testBit (j + k) = true ∨ (oj.apart ops oi = true ∧ AccApart aj ai)) := by
  induction os with
  | nil => intro as j _ k oj hk; simp at hk
  | cons o os ih =>
    intro as j h k oj hk
    cases as with
    | nil => simp [pairB] at h
    | cons a as =>
      unfold pairB at h
      simp only [Bool.and_eq_true, Bool.or_eq_true] at h
      cases k with
      | zero =>
        simp at hk; subst hk
        refine ⟨a, by simp, ?_⟩
        rcases h.1 with h | h
        · exact .inl h
        · exact .inr ⟨h.1, accApart_of h.2⟩
      | succ k =>
        obtain ⟨aj, h1, h2⟩ := ih h.2 k oj (by simpa using hk)
        exact ⟨aj, by simpa using h1, by rw [show j + (k + 1) = j + 1 + k by omega]; exact h2⟩
theorem pairs_of {ops : Array Oper} {allO : List Oper} {allA : List Acc} {os : List Oper} : ∀ {as : List Acc} {ms : List Nat} {i : Nat}, pairsB ops allO allA i os as ms = true → ∀ k o, os[k]? = some o →
    ∃ a m, as[k]? = some a ∧ ms[k]? = some m ∧ pairB ops o a m 0 (allO.take (i + k)) (allA.take (i + k)) = true := by
  induction os with
  | nil => intro as ms i _ k oj hk; simp at hk
  | cons o os ih =>
    intro as ms i h k o' hk
    cases as with
    | nil => simp [pairsB] at h
    | cons a as =>
      cases ms with
      | nil => simp [pairsB] at h
      | cons m ms =>
        unfold pairsB at h
        simp only [Bool.and_eq_true] at h
        cases k with
        | zero => simp at hk; subst hk; exact ⟨a, m, by simp, by simp, h.1⟩
        | succ k =>
          obtain ⟨a', m', h1, h2, h3⟩ := ih h.2 k o' (by simpa using hk)
          exact ⟨a', m', by simpa using h1, by simpa using h2, by rw [show i + (k + 1) = i + 1 + k by omega]; exact h3⟩
def acAt (acs : List Acc) (i : Nat) : Acc := acs.getD i ⟨[], []⟩
theorem any_spec {ops : Array Oper} {acs : List Acc} (h : anyB ops acs = true) : (∀ i o, ops[i]? = some o → ∀ e ∈ o.after, Region.binds .any e = true → e.on < i) ∧
    ∀ i j oi oj, j < i → ops[i]? = some oi → ops[j]? = some oj → Reach ops j i ∨ (oj.apart ops oi = true ∧ AccApart (acAt acs j) (acAt acs i)) := by
  unfold anyB at h
  simp only [Bool.and_eq_true] at h
  refine ⟨fun i o ho e he hb => ?_, fun i j oi oj hji hoi hoj => ?_⟩
  · have := back_of h.1 i o (by simpa using ho) e he hb
    simpa using this
  · obtain ⟨a, m, h1, h2, h3⟩ := pairs_of h.2 i oi (by simpa using hoi)
    rw [Nat.zero_add] at h3
    obtain ⟨aj, h4, h5⟩ := pair_of h3 j oj (by rw [List.getElem?_take]; simpa [hji] using hoj)
    rw [Nat.zero_add] at h5
    rw [List.getElem?_take] at h4
    simp only [hji, if_true] at h4
    have hm := masks_reach ops.toList [] rfl (ops := ops) (fun i j h => by simp at h)
    rcases h5 with h5 | h5
    · exact .inl (hm i j (by rw [List.getD_eq_getElem?_getD, h2]; exact h5))
    · refine .inr ?_
      have e1 : acAt acs i = a := by unfold acAt; rw [List.getD_eq_getElem?_getD, h1]; rfl
      have e2 : acAt acs j = aj := by unfold acAt; rw [List.getD_eq_getElem?_getD, h4]; rfl
      rw [e1, e2]; exact h5
def rem (n : Nat) (listed : Array Bool) : List Nat := (List.range n).filter fun i => !listed.getD i true
theorem mem_rem {n : Nat} {listed : Array Bool} {i : Nat} : i ∈ rem n listed ↔ i < n ∧ listed.getD i true = false := by
  simp [rem]
theorem rem_sorted (n : Nat) (listed : Array Bool) : (rem n listed).Pairwise (· < ·) := List.Pairwise.filter _ List.pairwise_lt_range
theorem getD_false_true {listed : Array Bool} {i : Nat} (h : i < listed.size) : listed.getD i true = listed.getD i false := by
  simp [Array.getD_eq_getD_getElem?, h]
def Closed (ops : Array Oper) (listed : Array Bool) : Prop := ∀ i o, ops[i]? = some o → listed.getD i false = true → ∀ e ∈ o.after, Region.binds .any e = true → listed.getD e.on false = true
theorem reach_listed {ops : Array Oper} {listed : Array Bool} (hc : Closed ops listed) {j i : Nat} (h : Reach ops j i) : ∀ o, ops[i]? = some o → (∀ e ∈ o.after, Region.binds .any e = true → listed.getD e.on false = true) → listed.getD j false = true := by
  induction h with
  | one ho he hb hj => intro o ho' hl; rw [ho] at ho'; cases ho'; rw [← hj]; exact hl _ he hb
  | more ho he hb hr ih =>
    intro o ho' hl
    rw [ho] at ho'; cases ho'
    have hl' := hl _ he hb
    rename_i i o e
    cases hoe : ops[e.on]? with
    | some oe => exact ih oe hoe (hc e.on oe hoe hl')
    | none =>
      cases hr with
      | one ho2 _ _ _ => rw [hoe] at ho2; cases ho2
      | more ho2 _ _ _ => rw [hoe] at ho2; cases ho2
theorem rem_set {n : Nat} {listed : Array Bool} {i : Nat} {L1 L2 : List Nat} (hi : i < listed.size) (h : rem n listed = L1 ++ i :: L2) : rem n (listed.setIfInBounds i true) = L1 ++ L2 := by
  have hs := rem_sorted n listed
  rw [h] at hs
  obtain ⟨p1, p2, p3⟩ := List.pairwise_append.1 hs
  have h1 : ∀ j ∈ L1, j ≠ i := fun j hj => Nat.ne_of_lt (p3 j hj i (by simp))
  have h2 : ∀ j ∈ L2, j ≠ i := fun j hj => Nat.ne_of_gt ((List.pairwise_cons.1 p2).1 j hj)
  have : rem n (listed.setIfInBounds i true) = (rem n listed).filter fun j => decide (j ≠ i) := by
    unfold rem
    rw [List.filter_filter]
    refine List.filter_congr fun j _ => ?_
    by_cases hji : j = i
    · subst hji
      simp [Array.getD_eq_getD_getElem?, hi]
    · rw [getD_set_ne true (Ne.symm hji)]
      simp [hji]
  rw [this, h, List.filter_append, List.filter_cons]
  simp only [ne_eq, not_true, decide_false, Bool.false_eq_true, if_false]
  rw [List.filter_eq_self.2 (fun j hj => by simpa using h1 j hj), List.filter_eq_self.2 (fun j hj => by simpa using h2 j hj)]
theorem any_ok (G : Good V P) {ops : Array Oper} {q : Orcs V} {acs : List Acc} (hB : anyB ops acs = true) {Q : Exit → Act → World → Prop} {sf : St V.E} (hQ : ∀ a w, Sim V C sf a w → Q .normal a w) :
    ∀ (fuel : Nat) (listed : Array Bool) (a : Act) (w : World) (s s2 : St V.E), listed.size = ops.size → (rem ops.size listed).length = fuel → Closed ops listed → Sim V C s a w →
      Runs V ops q (acAt acs) (rem ops.size listed) s s2 → StEq s2 sf → wpAny P .any ops Q fuel listed a w
  | 0, listed, a, w, s, s2, hsz, hlen, hcl, S, r, e => by
    have hnil : rem ops.size listed = [] := by simpa using hlen
    rw [hnil] at r
    cases r
    refine ⟨?_, hQ _ _ (S.same e)⟩
    cases hr : Region.ready .any ops listed with
    | nil => rfl
    | cons j js =>
      have hj : j ∈ Region.ready .any ops listed := by rw [hr]; simp
      obtain ⟨h1, o, h2, _⟩ := mem_ready.1 hj
      have : j ∈ rem ops.size listed := mem_rem.2 ⟨(Array.getElem?_eq_some_iff.1 h2).1, h1⟩
      rw [hnil] at this; cases this
  | fuel + 1, listed, a, w, s, s2, hsz, hlen, hcl, S, r, e => by
    obtain ⟨hback, hpair⟩ := any_spec hB
    refine ⟨fun h0 => ?_, fun i hi => ?_⟩
    · exfalso
      have key : ∀ i, i < ops.size → listed.getD i true = false → ∃ k, k ∈ Region.ready .any ops listed := by
        intro i
        induction i using Nat.strongRecOn with
        | _ i ih =>
          intro hi hu
          have ho : ops[i]? = some ops[i] := by simp [hi]
          by_cases hall : ∀ e ∈ ops[i].after, Region.binds .any e = true → listed.getD e.on false = true
          · exact ⟨i, mem_ready.2 ⟨hu, _, ho, hall⟩⟩
          · have : ∃ e, e ∈ ops[i].after ∧ Region.binds .any e = true ∧ listed.getD e.on false ≠ true := by
              refine Classical.byContradiction fun hno => hall fun e he hb => Classical.byContradiction fun hl => hno ⟨e, he, hb, hl⟩
            obtain ⟨e, he, hb, hl⟩ := this
            have hlt := hback i _ ho e he hb
            have : e.on < listed.size := by omega
            exact ih e.on hlt (by omega) (by rw [getD_false_true this]; simpa using hl)
      cases hrem : rem ops.size listed with
      | nil => rw [hrem] at hlen; simp at hlen
      | cons i L =>
        have : i ∈ rem ops.size listed := by rw [hrem]; simp
        obtain ⟨h1, h2⟩ := mem_rem.1 this
        obtain ⟨k, hk⟩ := key i h1 h2
        rw [h0] at hk; cases hk
    · obtain ⟨hu, oi, hoi, hpre⟩ := mem_ready.1 hi
      have hlt : i < ops.size := (Array.getElem?_eq_some_iff.1 hoi).1
      have hmem : i ∈ rem ops.size listed := mem_rem.2 ⟨hlt, hu⟩
      obtain ⟨L1, L2, hL⟩ := List.append_of_mem hmem
      have hs := rem_sorted ops.size listed
      rw [hL] at hs r
      have hlt1 : ∀ j ∈ L1, j < i := fun j hj => (List.pairwise_append.1 hs).2.2 j hj i (by simp)
      obtain ⟨t2, r2, e2⟩ := runs_bubble hoi (fun j hj => by
        have hjm : j ∈ rem ops.size listed := by rw [hL]; simp [hj]
        obtain ⟨hj1, hj2⟩ := mem_rem.1 hjm
        have hoj : ops[j]? = some ops[j] := by simp [hj1]
        refine ⟨_, hoj, ?_⟩
        rcases hpair i j oi _ (hlt1 j hj) hoi hoj with hr | hr
        · have := reach_listed hcl hr oi hoi hpre
          rw [getD_false_true (by omega), this] at hj2
          cases hj2
        · exact hr) r
      cases r2 with
      | cons ho hev hc r3 =>
        rename_i o s1 c
        refine step_ok G ho S hev hc fun a' w' S' => ?_
        have hset := rem_set (n := ops.size) (listed := listed) (i := i) (by omega) hL
        refine any_ok G hB hQ fuel _ a' w' s1 t2 (by simpa using hsz) ?_ ?_ S' (by rw [hset]; exact r3) (e2.symm.trans e)
        · rw [hset]
          rw [hL] at hlen
          simp at hlen ⊢
          omega
        · intro k ok hk hlk e' he' hb'
          by_cases hki : k = i
          · subst hki
            rw [hoi] at hk; cases hk
            exact getD_set_true (hpre e' he' hb')
          · have hlk' : listed.getD k false = true := by
              rw [getD_set_ne false (Ne.symm hki)] at hlk; exact hlk
            exact getD_set_true (hcl k ok hk hlk' e' he' hb')
theorem runs_of {ops : Array Oper} {q : Orcs V} {allA : List Acc} : ∀ (os : List Oper) (i : Nat) (s s' : St V.E) (cs : List Prop) (acs : List Acc), ops.toList.drop i = os → allA.drop i = acs → evOps V ops.toList q i os s = some (s', cs, acs) → AllP cs →
    Runs V ops q (acAt allA) ((List.range ops.size).drop i) s s'
  | [], i, s, s', cs, acs, hi, ha, h, hc => by
    simp only [evOps, Option.some.injEq, Prod.mk.injEq] at h
    obtain ⟨rfl, _, _⟩ := h
    have : ops.size ≤ i := by simpa using hi
    have hn : (List.range ops.size).drop i = [] := by simpa using this
    rw [hn]; exact .nil
  | o :: os, i, s, s', cs, acs, hi, ha, h, hc => by
    have hlt : i < ops.size := by
      rcases Nat.lt_or_ge i ops.size with h | h
      · exact h
      · have : ops.toList.drop i = [] := by simpa using h
        rw [this] at hi; cases hi
    have hn : (List.range ops.size).drop i = i :: (List.range ops.size).drop (i + 1) := by
      rw [List.drop_eq_getElem_cons (by simpa using hlt)]; simp
    have ho : ops[i]? = some o := by
      have := congrArg (·[0]?) hi
      simpa using this
    have hi' : ops.toList.drop (i + 1) = os := by
      have := congrArg List.tail hi
      simpa using this
    rw [hn]
    simp only [evOps] at h
    split at h
    · rename_i s1 c1 a1 h1
      split at h
      · rename_i s2 c2 as h2
        cases h
        obtain ⟨hc1, hc2⟩ := AllP.append hc
        have ha1 : acAt allA i = a1 := by
          have := congrArg (·[0]?) ha
          unfold acAt
          rw [List.getD_eq_getElem?_getD]
          simp at this
          rw [this]; rfl
        have ha' : allA.drop (i + 1) = as := by
          have := congrArg List.tail ha
          simpa using this
        exact .cons ho (by rw [ha1]; exact h1) hc1 (runs_of os (i + 1) s1 _ c2 as hi' ha' h2 hc2)
      · cases h
    · cases h
theorem region_ok (G : Good V P) {id : Nat} {ops : Array Oper} {drawn : Bool} {q : Orcs V} {Q : Exit → Act → World → Prop} {s s' : St V.E} {cs : List Prop} {acs : List Acc} {a : Act} {w : World} (S : Sim V C s a w)
    (h : evOps V ops.toList q 0 ops.toList s = some (s', cs, acs)) (hc : AllP cs) (hd : drawn = true → anyB ops acs = true) (hQ : ∀ a' w', Sim V C s' a' w' → Q .normal a' w') :
    (Code.region id ops drawn).wp P Q a w := by
  cases drawn with
  | false => exact wp_region (by simpa using ops_ok G ops.toList 0 rfl s s' cs acs a w S h hc hQ)
  | true =>
    have r := runs_of (allA := acs) ops.toList 0 s s' cs acs rfl rfl h hc
    have hrem : rem ops.size (Array.replicate ops.size false) = List.range ops.size := by
      unfold rem
      rw [List.filter_eq_self]
      intro i hi
      simp only [List.mem_range] at hi
      simp [Array.getD_eq_getD_getElem?, hi]
    refine wp_region_any G.mixed (any_ok G (hd rfl) hQ ops.size _ a _ s s' (by simp) (by rw [hrem]; simp) ?_ S.drew (by rw [hrem]; simpa using r) (.refl _))
    intro i o ho hl
    simp only [Array.getD_eq_getD_getElem?, Array.getElem?_replicate] at hl
    split at hl <;> simp at hl
end
end Go.Ab
namespace Go.Ab
open Go
section
variable {T : Tab} {C : Ctx} {bx bx' : List (Nat × Box T.E)} {β β' : Nat → BI} {ok ok' : Nat → Prop} {w w' : World}
mutual
def leafIds {E : Nat → Type} : Leaf E → List Nat
  | .ar id _ | .row id _ _ _ | .ptr id _ | .ep id _ _ _ | .rp id _ _ _ _ _ | .win id _ _ _ => [id]
  | .bs ls => leavesIds ls
  | .clo _ ls => leavesIds ls
  | _ => []
def leavesIds {E : Nat → Type} : List (Leaf E) → List Nat
  | [] => []
  | l :: ls => leafIds l ++ leavesIds ls
end
def Alike {E : Nat → Type} (o o' : Option (Box E)) : Prop := o' = o ∨ ∃ ls ls', o = some (.cells ls) ∧ o' = some (.cells ls')
mutual
theorem LeafRep.agree (L : Later ok w ok' w') : ∀ (l : Leaf T.E) (v : Value), (∀ id ∈ leafIds l, Alike (look id bx) (look id bx') ∧ β' id = β id) → LeafRep T bx β ok w l v → LeafRep T bx' β' ok' w' l v
  | .int _ _, _, _, h => h
  | .bool _, _, _, h => h
  | .str _, _, _, h => h
  | .sl t st xs, v, _, h => AVRep.later L _ _ h
  | .ar id ver, v, A, h => by
    obtain ⟨a1, a2⟩ := A id (by simp [leafIds])
    simp only [LeafRep] at h ⊢; rw [a2]
    rcases a1 with a1 | ⟨ls, ls', a1, a3⟩
    · rw [a1]; exact h
    · rw [a1] at h; rw [a3]; exact h
  | .row id ver rv i, v, A, h => by
    obtain ⟨a1, a2⟩ := A id (by simp [leafIds])
    simp only [LeafRep] at h ⊢; rw [a2]
    rcases a1 with a1 | ⟨ls, ls', a1, a3⟩
    · rw [a1]; exact h
    · rw [a1] at h; rw [a3]; exact h
  | .ptr id off, v, A, h => by
    obtain ⟨a1, a2⟩ := A id (by simp [leafIds])
    simp only [LeafRep] at h ⊢; rw [a2]
    rcases a1 with a1 | ⟨ls, ls', a1, a3⟩
    · rw [a1]; exact h
    · rw [a1] at h; rw [a3]; exact h
  | .ep id ver i off, v, A, h => by
    obtain ⟨a1, a2⟩ := A id (by simp [leafIds])
    simp only [LeafRep] at h ⊢; rw [a2]
    rcases a1 with a1 | ⟨ls, ls', a1, a3⟩
    · rw [a1]; exact h
    · rw [a1] at h; rw [a3]; exact h
  | .rp id ver rv i k off, v, A, h => by
    obtain ⟨a1, a2⟩ := A id (by simp [leafIds])
    simp only [LeafRep] at h ⊢; rw [a2]
    rcases a1 with a1 | ⟨ls, ls', a1, a3⟩
    · rw [a1]; exact h
    · rw [a1] at h; rw [a3]; exact h
  | .win id ver i n, v, A, h => by
    obtain ⟨a1, a2⟩ := A id (by simp [leafIds])
    simp only [LeafRep] at h ⊢; rw [a2]
    rcases a1 with a1 | ⟨ls, ls', a1, a3⟩
    · rw [a1]; exact h
    · rw [a1] at h; rw [a3]; exact h
  | .cp t x off, v, _, h => by
    simp only [LeafRep] at h ⊢
    obtain ⟨b, o, cs, h1, h2, h3⟩ := h
    exact ⟨b, o, cs, h1, AVRep.later L _ _ h2, h3.later L⟩
  | .bs ls, v, A, h => by
    simp only [LeafRep] at h ⊢
    obtain ⟨b, vs, c, e, h1, h2, h3, h4, h5⟩ := h
    exact ⟨b, vs, c, e, h1, L.may _ h2, by rw [L.heap _ h2]; exact h3, h4, LeafReps.agree L ls vs (fun id hid => A id (by simpa [leafIds] using hid)) h5⟩
  | .clo f caps, v, A, h => by
    simp only [LeafRep] at h ⊢
    obtain ⟨vs, h1, h2⟩ := h
    exact ⟨vs, h1, LeafReps.agree L caps _ (fun id hid => A id (by simpa [leafIds] using hid)) h2⟩
  | .nptr, _, _, h => h
  | .nfn, _, _, h => h
theorem LeafReps.agree (L : Later ok w ok' w') : ∀ (ls : List (Leaf T.E)) (vs : List Value), (∀ id ∈ leavesIds ls, Alike (look id bx) (look id bx') ∧ β' id = β id) → LeafReps T bx β ok w ls vs → LeafReps T bx' β' ok' w' ls vs
  | [], _, _, h => h
  | l :: ls, vs, A, h => by
    simp only [LeafReps] at h ⊢
    obtain ⟨v, r, rfl, h1, h2⟩ := h
    exact ⟨v, r, rfl, LeafRep.agree L l v (fun id hid => A id (by simp [leavesIds, hid])) h1, LeafReps.agree L ls r (fun id hid => A id (by simp [leavesIds, hid])) h2⟩
end
def mapLs {E : Nat → Type} (m : Leaf E → Option (Leaf E)) : List (Leaf E) → Option (List (Leaf E))
  | [] => some []
  | l :: ls => match m l with
    | some l' => match mapLs m ls with
      | some r => some (l' :: r)
      | none => none
    | none => none
def mapCV {E : Nat → Type} (m : Leaf E → Option (Leaf E)) : CV E → Option (CV E)
  | .one l => match m l with
    | some l' => some (.one l')
    | none => none
  | .ag ls => match mapLs m ls with
    | some r => some (.ag r)
    | none => none
def mapCVs {E : Nat → Type} (m : Leaf E → Option (Leaf E)) : List (CV E) → Option (List (CV E))
  | [] => some []
  | c :: cs => match mapCV m c with
    | some c' => match mapCVs m cs with
      | some r => some (c' :: r)
      | none => none
    | none => none
def mapSV {E : Nat → Type} (m : Leaf E → Option (Leaf E)) : SV E → Option (SV E)
  | .cv c => match mapCV m c with
    | some c' => some (.cv c')
    | none => none
  | .tup cs => match mapCVs m cs with
    | some r => some (.tup r)
    | none => none
def mapSlots {E : Nat → Type} (m : Leaf E → Option (Leaf E)) : List (Nat × Option (SV E)) → List (Nat × Option (SV E))
  | [] => []
  | (k, some v) :: r => match mapSV m v with
    | some v' => (k, some v') :: mapSlots m r
    | none => mapSlots m r
  | (_, none) :: r => mapSlots m r
def mapBoxes {E : Nat → Type} (m : Leaf E → Option (Leaf E)) : List (Nat × Box E) → Option (List (Nat × Box E))
  | [] => some []
  | (k, .cells ls) :: r => match mapLs m ls with
    | some ls' => match mapBoxes m r with
      | some r' => some ((k, .cells ls') :: r')
      | none => none
    | none => none
  | (k, b) :: r => match mapBoxes m r with
    | some r' => some ((k, b) :: r')
    | none => none
section
variable {m : Leaf T.E → Option (Leaf T.E)} (hm : ∀ l l' v, m l = some l' → LeafRep T bx β ok w l v → LeafRep T bx' β' ok' w' l' v)
include hm
theorem mapLs_rep : ∀ {ls ls' : List (Leaf T.E)} {vs : List Value}, mapLs m ls = some ls' → All2 (LeafRep T bx β ok w) ls vs → All2 (LeafRep T bx' β' ok' w') ls' vs
  | [], ls', _, h, .nil => by simp [mapLs] at h; subst h; exact .nil
  | l :: ls, ls', _, h, .cons h1 h2 => by
    unfold mapLs at h
    split at h
    · rename_i l' hl
      split at h
      · rename_i r hr
        cases h
        exact .cons (hm _ _ _ hl h1) (mapLs_rep hr h2)
      · cases h
    · cases h
theorem mapCV_rep {c c' : CV T.E} {v : Value} (h : mapCV m c = some c') (k : CVRep T bx β ok w c v) : CVRep T bx' β' ok' w' c' v := by
  unfold mapCV at h
  split at h
  · split at h
    · rename_i l' hl
      cases h; exact hm _ _ _ hl k
    · cases h
  · split at h
    · rename_i r hr
      cases h
      obtain ⟨cs, rfl, k⟩ := k
      exact ⟨cs, rfl, mapLs_rep hm hr k⟩
    · cases h
theorem mapCVs_rep : ∀ {cs cs' : List (CV T.E)} {vs : List Value}, mapCVs m cs = some cs' → All2 (CVRep T bx β ok w) cs vs → All2 (CVRep T bx' β' ok' w') cs' vs
  | [], cs', _, h, .nil => by simp [mapCVs] at h; subst h; exact .nil
  | c :: cs, cs', _, h, .cons h1 h2 => by
    unfold mapCVs at h
    split at h
    · rename_i l' hl
      split at h
      · rename_i r hr
        cases h
        exact .cons (mapCV_rep hm hl h1) (mapCVs_rep hr h2)
      · cases h
    · cases h
theorem mapSV_rep {x x' : SV T.E} {v : Value} (h : mapSV m x = some x') (k : SVRep T bx β ok w x v) : SVRep T bx' β' ok' w' x' v := by
  unfold mapSV at h
  split at h
  · split at h
    · rename_i l' hl
      cases h; exact mapCV_rep hm hl k
    · cases h
  · split at h
    · rename_i r hr
      cases h
      obtain ⟨vs, rfl, k⟩ := k
      exact ⟨vs, rfl, mapCVs_rep hm hr k⟩
    · cases h
end
def sortedB {α : Type} : List (Nat × α) → Bool
  | [] => true
  | [_] => true
  | (j, _) :: (k, y) :: r => Nat.blt j k && sortedB ((k, y) :: r)
theorem sorted_lt {α : Type} : ∀ {l : List (Nat × α)} {j : Nat} {x : α}, sortedB ((j, x) :: l) = true → ∀ p ∈ l, j < p.1
  | [], _, _, _, p, hp => by simp at hp
  | (k, y) :: r, j, x, h, p, hp => by
    simp only [sortedB, Bool.and_eq_true] at h
    have h1 : j < k := (Nat.blt_eq).mp h.1
    rcases List.mem_cons.1 hp with rfl | hp
    · exact h1
    · exact Nat.lt_trans h1 (sorted_lt h.2 p hp)
theorem sorted_tail {α : Type} {l : List (Nat × α)} {p : Nat × α} (h : sortedB (p :: l) = true) : sortedB l = true := by
  cases l with
  | nil => rfl
  | cons q r => obtain ⟨j, x⟩ := p; obtain ⟨k, y⟩ := q; simp only [sortedB, Bool.and_eq_true] at h; exact h.2
theorem mapSlots_look {m : Leaf T.E → Option (Leaf T.E)} {k : Nat} {x' : SV T.E} : ∀ {l : List (Nat × Option (SV T.E))}, sortedB l = true → look k (mapSlots m l) = some (some x') → ∃ x, look k l = some (some x) ∧ mapSV m x = some x'
  | [], _, h => by simp [mapSlots, look] at h
  | (j, none) :: r, hs, h => by
    simp only [mapSlots] at h
    obtain ⟨x, h1, h2⟩ := mapSlots_look (sorted_tail hs) h
    refine ⟨x, ?_, h2⟩
    unfold look
    have hlt := sorted_lt hs (k, some x) (look_mem h1)
    rw [beq_of_ne (by simp at hlt; omega)]
    exact h1
  | (j, some v) :: r, hs, h => by
    simp only [mapSlots] at h
    have later : look k (mapSlots m r) = some (some x') → ∃ x, look k ((j, some v) :: r) = some (some x) ∧ mapSV m x = some x' := by
      intro h
      obtain ⟨x, h1, h2⟩ := mapSlots_look (sorted_tail hs) h
      refine ⟨x, ?_, h2⟩
      unfold look
      have hlt := sorted_lt hs (k, some x) (look_mem h1)
      rw [beq_of_ne (by simp at hlt; omega)]
      exact h1
    split at h
    · rename_i v' hv
      unfold look at h
      split at h
      · rename_i e
        cases h
        have := eq_of_beq' e; subst this
        exact ⟨v, by simp [look], hv⟩
      · exact later h
    · exact later h
theorem mapBoxes_look {m : Leaf T.E → Option (Leaf T.E)} : ∀ {l l' : List (Nat × Box T.E)}, mapBoxes m l = some l' → ∀ k,
    (look k l = none ∧ look k l' = none) ∨ (∃ ls ls', look k l = some (.cells ls) ∧ look k l' = some (.cells ls') ∧ mapLs m ls = some ls') ∨ (∃ b, look k l = some b ∧ look k l' = some b ∧ ∀ ls, b ≠ .cells ls)
  | [], l', h, k => by simp [mapBoxes] at h; subst h; exact .inl ⟨rfl, rfl⟩
  | (j, b) :: r, l', h, k => by
    unfold mapBoxes at h
    split at h
    · rename_i heq; cases heq
    · rename_i heq; cases heq
      split at h
      · rename_i ls' hls
        split at h
        · rename_i r' hr
          cases h
          by_cases hj : Nat.beq j k = true
          · exact .inr (.inl ⟨_, ls', by simp [look, hj], by simp [look, hj], hls⟩)
          · simp only [look, hj, Bool.false_eq_true, if_false]; exact mapBoxes_look hr k
        · cases h
      · cases h
    · rename_i hne heq
      cases heq
      split at h
      · rename_i r' hr
        cases h
        by_cases hj : Nat.beq j k = true
        · exact .inr (.inr ⟨_, by simp [look, hj], by simp [look, hj], fun ls e => hne _ e⟩)
        · simp only [look, hj, Bool.false_eq_true, if_false]; exact mapBoxes_look hr k
      · cases h
end
end Go.Ab
