/- A region whose order is drawn: the order as it stands in the text tells them all, where whatever touches is bound. A region whose order is drawn, told by the order as it stands. An abstract state told anew: less of it, other numbers, slices that nobody writes any more. What an abstract state may be told anew as, by small steps. Conditions: none beyond those that each theorem names. -/
import Derived.Test.YtgngflkahbpecaaGreatDoorU07
namespace Go.Ab
open Go
section
variable {V : Env} {P : Program} {C : Ctx}
def Same {α : Type} (l m : List (Nat × α)) : Prop := ∀ k, look k l = look k m
theorem Same.put {α : Type} {l m : List (Nat × α)} (h : Same l m) (k : Nat) (x : α) : Same (put k x l) (put k x m) := by
  intro j
  by_cases hj : j = k
  · subst hj; rw [look_put_same, look_put_same]
  · rw [look_put_other hj, look_put_other hj]; exact h j
theorem Same.comm {α : Type} (l : List (Nat × α)) {j k : Nat} (x y : α) (h : j ≠ k) : Same (Ab.put j x (Ab.put k y l)) (Ab.put k y (Ab.put j x l)) := by
  intro i
  by_cases hij : i = j
  · subst hij; rw [look_put_same, look_put_other h, look_put_same]
  · by_cases hik : i = k
    · subst hik; rw [look_put_other hij, look_put_same, look_put_same]
    · rw [look_put_other hij, look_put_other hik, look_put_other hik, look_put_other hij]
structure StEq (s t : St V.E) : Prop where
  n : s.n = t.n
  slots : Same s.slots t.slots
  boxes : Same s.boxes t.boxes
theorem StEq.refl (s : St V.E) : StEq s s := ⟨rfl, fun _ => rfl, fun _ => rfl⟩
theorem StEq.symm {s t : St V.E} (h : StEq s t) : StEq t s := ⟨h.n.symm, fun k => (h.slots k).symm, fun k => (h.boxes k).symm⟩
theorem StEq.trans {s t u : St V.E} (h : StEq s t) (k : StEq t u) : StEq s u := ⟨h.n.trans k.n, fun i => (h.slots i).trans (k.slots i), fun i => (h.boxes i).trans (k.boxes i)⟩
theorem interp_same : ∀ (t : Todo V.E) (bs bs' : List (Nat × Box V.E)) (rs ws : List Nat) {res : Option (SV V.E)} {c : List Cd} {b1 : List (Nat × Box V.E)} {ac : Acc},
    interp V bs t rs ws = some (res, c, b1, ac) → (∀ id ∈ ac.reads, id ∉ ws → look id bs = look id bs') → (∀ id ∈ ws, look id bs = look id bs') →
    ∃ b1', interp V bs' t rs ws = some (res, c, b1', ac) ∧ (∀ id ∈ ac.writes, look id b1' = look id b1) ∧ (∀ id, id ∉ ac.writes → look id b1' = look id bs' ∧ look id b1 = look id bs) ∧ (∀ id ∈ ws, id ∈ ac.writes) ∧ (∀ id ∈ rs, id ∈ ac.reads)
  | .fail, bs, bs', rs, ws, res, c, b1, ac, h, _, _ => by simp [interp] at h
  | .ret v c0, bs, bs', rs, ws, res, c, b1, ac, h, hr, hw => by
    simp only [interp, Option.some.injEq, Prod.mk.injEq] at h
    obtain ⟨rfl, rfl, rfl, rfl⟩ := h
    exact ⟨bs', rfl, fun id hid => (hw id hid).symm, fun id _ => ⟨rfl, rfl⟩, fun id h => h, fun id h => h⟩
  | .read i k, bs, bs', rs, ws, res, c, b1, ac, h, hr, hw => by
    simp only [interp] at h ⊢
    obtain ⟨b2, e1, e2, e3, e4, e5⟩ := interp_same (k (look i bs)) bs bs' (i :: rs) ws h hr hw
    have hi : look i bs = look i bs' := by
      by_cases hiw : i ∈ ws
      · exact hw i hiw
      · exact hr i (e5 i (by simp)) hiw
    rw [hi] at e1
    exact ⟨b2, e1, e2, e3, e4, fun id hid => e5 id (by simp [hid])⟩
  | .write i b k, bs, bs', rs, ws, res, c, b1, ac, h, hr, hw => by
    simp only [interp] at h ⊢
    obtain ⟨b2, e1, e2, e3, e4, e5⟩ := interp_same k (put i b bs) (put i b bs') rs (i :: ws) h
      (fun id hid hn => by
        simp only [List.mem_cons, not_or] at hn
        rw [look_put_other hn.1, look_put_other hn.1]; exact hr id hid hn.2)
      (fun id hid => by
        by_cases e : id = i
        · subst e; rw [look_put_same, look_put_same]
        · rw [look_put_other e, look_put_other e]
          exact hw id (by simpa [e] using hid))
    refine ⟨b2, e1, e2, fun id hid => ?_, fun id hid => e4 id (by simp [hid]), e5⟩
    have hne : id ≠ i := by rintro rfl; exact hid (e4 id (by simp))
    have := e3 id hid
    rw [look_put_other hne, look_put_other hne] at this
    exact this
theorem slotT_same {s s' : St V.E} {k : Nat} (h : slot V s k = slot V s' k) : slotT V s k = slotT V s' k := by unfold slotT; rw [h]
theorem opnd_same {s s' : St V.E} {t : TypeId} {x : Operand} (h : ∀ k, x = .tmp k → slot V s k = slot V s' k) : opnd V s t x = opnd V s' t x := by
  cases x with
  | tmp k => exact slotT_same (h k rfl)
  | _ => rfl
theorem opnds_same {s s' : St V.E} : ∀ {xs : List Operand} {ts : List TypeId}, (∀ k, Operand.tmp k ∈ xs → slot V s k = slot V s' k) → opnds V s ts xs = opnds V s' ts xs
  | [], ts, _ => by cases ts <;> rfl
  | x :: xs, [], h => by
    simp only [opnds]
    rw [opnd_same (s' := s') fun k hk => h k (by simp [hk]), opnds_same fun k hk => h k (by simp [hk])]
  | x :: xs, t :: ts, h => by
    simp only [opnds]
    rw [opnd_same (s' := s') fun k hk => h k (by simp [hk]), opnds_same fun k hk => h k (by simp [hk])]
theorem slot_same {s s' : St V.E} {k : Nat} (h : look k s.slots = look k s'.slots) : slot V s k = slot V s' k := by unfold slot; rw [h]
theorem wants_same {ops : Array Oper} {s s' : St V.E} {q : Orcs V} {o : Oper} (h : ∀ k ∈ o.looksAt ops, slot V s k = slot V s' k) : wants V ops.toList s q o = wants V ops.toList s' q o := by
  unfold wants
  cases hg : o.guard with
  | none => rfl
  | some jw =>
    obtain ⟨j, want⟩ := jw
    simp only
    cases hd : (ops.toList[j]?).bind (·.dst) with
    | none => rfl
    | some d =>
      simp only
      rw [Array.getElem?_toList] at hd
      rw [slotT_same (h d (by simp [Oper.looksAt, hg, hd]))]
theorem evOp_same {ops : Array Oper} {i : Nat} {o : Oper} {q : Orcs V} {s s' s1 : St V.E} {c : List Cd} {ac : Acc} (h : evOp V ops.toList i o q s = some (s1, c, ac)) (hn : s.n = s'.n)
    (hs : ∀ k ∈ o.looksAt ops, look k s.slots = look k s'.slots) (hb : ∀ id ∈ ac.reads, look id s.boxes = look id s'.boxes) :
    ∃ s1', evOp V ops.toList i o q s' = some (s1', c, ac) ∧ s1.n = s.n ∧ s1'.n = s'.n ∧
      (∃ v, s1.slots = putDst V o.dst v s.slots ∧ s1'.slots = putDst V o.dst v s'.slots) ∧
      (∀ id ∈ ac.writes, look id s1'.boxes = look id s1.boxes) ∧ (∀ id, id ∉ ac.writes → look id s1'.boxes = look id s'.boxes ∧ look id s1.boxes = look id s.boxes) := by
  have hsl : ∀ k ∈ o.looksAt ops, slot V s k = slot V s' k := fun k hk => slot_same (hs k hk)
  unfold evOp at h ⊢
  rw [← hn]
  split at h
  · rw [wants_same hsl] at h
    split at h
    · cases h
    · rename_i c0 hw
      cases h
      exact ⟨_, rfl, rfl, rfl, ⟨some (.tup []), rfl, rfl⟩, (fun id hid => by simp at hid), (fun id _ => ⟨rfl, rfl⟩)⟩
    · rename_i c0 hw
      have hop : opnds V s (opTypes V o) o.op.operands.toList = opnds V s' (opTypes V o) o.op.operands.toList :=
        opnds_same fun k hk => hsl k (List.mem_append_left _ (List.mem_filterMap.2 ⟨.tmp k, hk, rfl⟩))
      rw [hop] at h
      split at h
      · rename_i v c' bs acc hrun
        cases h
        obtain ⟨b1', e1, e2, e3, _, _⟩ := interp_same _ s.boxes s'.boxes [] [] hrun (fun id hid _ => hb id hid) (fun id hid => by simp at hid)
        rw [e1]
        exact ⟨_, rfl, rfl, rfl, ⟨v, rfl, rfl⟩, e2, e3⟩
      · cases h
  · cases h
inductive Runs (V : Env) (ops : Array Oper) (ac : Nat → Acc) : List Nat → St V.E → St V.E → Prop where
  | nil {s} : Runs V ops ac [] s s
  | cons {i o L s s1 s2 c} {q : Orcs V} : ops[i]? = some o → evOp V ops.toList i o q s = some (s1, c, ac i) → AllP c → Runs V ops ac L s1 s2 → Runs V ops ac (i :: L) s s2
theorem putDst_same {d : Option Tmp} {v : Option (SV V.E)} {l m : List (Nat × Option (SV V.E))} (h : Same l m) : Same (putDst V d v l) (putDst V d v m) := by
  cases d with
  | none => exact h
  | some d => exact h.put d v
theorem look_putDst {d : Option Tmp} {v : Option (SV V.E)} {l : List (Nat × Option (SV V.E))} {k : Nat} (h : d ≠ some k) : look k (putDst V d v l) = look k l := by
  cases d with
  | none => rfl
  | some d => exact look_put_other (fun e => h (by rw [e])) _ _
theorem runs_congr {ops : Array Oper} {ac : Nat → Acc} : ∀ {L : List Nat} {s s2 t : St V.E}, Runs V ops ac L s s2 → StEq s t → ∃ t2, Runs V ops ac L t t2 ∧ StEq s2 t2
  | _, _, _, t, .nil, e => ⟨t, .nil, e⟩
  | _, s, _, t, .cons (i := i) (s1 := s1) ho h hc r, e => by
    obtain ⟨t1, h1, n1, n2, ⟨v, e1, e2⟩, e3, e4⟩ := evOp_same h e.n (fun k _ => e.slots k) (fun id _ => e.boxes id)
    have e' : StEq s1 t1 := by
      refine ⟨by rw [n1, n2]; exact e.n, ?_, fun id => ?_⟩
      · rw [e1, e2]; exact putDst_same e.slots
      · by_cases hid : id ∈ (ac i).writes
        · exact (e3 id hid).symm
        · rw [(e4 id hid).1, (e4 id hid).2]; exact e.boxes id
    obtain ⟨t2, r2, e2⟩ := runs_congr r e'
    exact ⟨t2, .cons ho h1 hc r2, e2⟩
def AccApart (a b : Acc) : Prop := (∀ id ∈ a.writes, id ∉ b.reads ∧ id ∉ b.writes) ∧ (∀ id ∈ b.writes, id ∉ a.reads)
theorem runs_swap {ops : Array Oper} {ac : Nat → Acc} {i j : Nat} {oi oj : Oper} (hi : ops[i]? = some oi) (hj : ops[j]? = some oj) (hap : oi.apart ops oj = true) (hac : AccApart (ac i) (ac j)) {L : List Nat} {s s2 : St V.E}
    (r : Runs V ops ac (i :: j :: L) s s2) : ∃ t2, Runs V ops ac (j :: i :: L) s t2 ∧ StEq s2 t2 := by
  obtain ⟨p1, p2, p3⟩ := Oper.apart_spec hap
  cases r with
  | cons ho h hc r =>
    rename_i o s1 c q
    rw [hi] at ho; cases ho
    cases r with
    | cons ho' h' hc' r =>
      rename_i o' s3 c' q'
      rw [hj] at ho'; cases ho'
      obtain ⟨_, _, n1, _, ⟨v, e1, _⟩, _, e4⟩ := evOp_same h rfl (fun _ _ => rfl) (fun _ _ => rfl)
      -- j first
      obtain ⟨t1, g1, m1, m2, ⟨u, f1, f2⟩, f3, f4⟩ := evOp_same (s' := s) h' n1
        (fun k hk => by rw [e1]; exact look_putDst fun e => p1 k e hk)
        (fun id hid => (e4 id fun hw => (hac.1 id hw).1 hid).2)
      -- then i
      obtain ⟨t2, g2, m3, m4, ⟨v', f5, f6⟩, f7, f8⟩ := evOp_same (s' := t1) h m2.symm
        (fun k hk => by rw [f2]; exact (look_putDst fun e => p3 k e hk).symm)
        (fun id hid => ((f4 id fun hw => hac.2 id hw hid).1).symm)
      have e : StEq s3 t2 := by
        refine ⟨by rw [m1, n1, m4, m2], ?_, fun id => ?_⟩
        · rw [f1, e1, f6, f2]
          have hv : Same (putDst V oi.dst v s.slots) (putDst V oi.dst v' s.slots) := by
            rw [← e1, ← f5]; exact fun _ => rfl
          intro k
          have h1 := putDst_same (d := oj.dst) (v := u) hv k
          rw [h1]
          cases hdi : oi.dst with
          | none => rfl
          | some d =>
            cases hdj : oj.dst with
            | none => rfl
            | some d' =>
              have hne : d' ≠ d := fun e => p2 d hdi (by rw [hdj, e])
              exact Same.comm _ _ _ hne k
        · by_cases hiw : id ∈ (ac i).writes
          · rw [f7 id hiw, (f4 id (hac.1 id hiw).2).2]
          · rw [(f8 id hiw).1]
            by_cases hjw : id ∈ (ac j).writes
            · exact (f3 id hjw).symm
            · rw [(f4 id hjw).1, (f4 id hjw).2, (e4 id hiw).2]
      obtain ⟨t3, r3, e3⟩ := runs_congr r e
      exact ⟨t3, .cons hj g1 hc' (.cons hi g2 hc r3), e3⟩
theorem runs_bubble {ops : Array Oper} {ac : Nat → Acc} {i : Nat} {oi : Oper} (hi : ops[i]? = some oi) : ∀ {L1 L2 : List Nat} {s s2 : St V.E},
    (∀ j ∈ L1, ∃ oj, ops[j]? = some oj ∧ oj.apart ops oi = true ∧ AccApart (ac j) (ac i)) → Runs V ops ac (L1 ++ i :: L2) s s2 → ∃ t2, Runs V ops ac (i :: (L1 ++ L2)) s t2 ∧ StEq s2 t2
  | [], L2, s, s2, _, r => ⟨s2, r, .refl _⟩
  | j :: L1, L2, s, s2, h, r => by
    cases r with
    | cons ho hh hc r =>
      obtain ⟨t2, r1, e1⟩ := runs_bubble hi (fun k hk => h k (by simp [hk])) r
      obtain ⟨oj, hoj, h1, h2⟩ := h j (by simp)
      obtain ⟨t3, r2, e2⟩ := runs_swap hoj hi h1 h2 (.cons ho hh hc r1)
      exact ⟨t3, r2, e1.trans e2⟩
end
end Go.Ab
namespace Go.Ab
open Go
section
variable {V : Env} {P : Program} {C : Ctx}
theorem Sim.same {s t : St V.E} {a : Act} {w : World} (S : Sim V C s a w) (e : StEq s t) : Sim V C t a w := by
  obtain ⟨β, S⟩ := S
  obtain ⟨M, X⟩ := S.mem.step (bx' := t.boxes) (β' := β) (w' := w) (fun _ => False) rfl rfl rfl (Nat.le_refl _) (fun j _ => ⟨rfl, (e.boxes j).symm⟩) (fun _ _ _ => rfl) (fun j h => h.elim) (fun j h => h.elim)
    (fun j _ _ h => h.elim) (fun j h => h.elim) (fun j _ h => h.elim) (fun _ j _ h => h.elim)
  exact ⟨β, by rw [S.size, e.n], S.defers, fun k x hk => SVRep.ext X (S.slots k x ((slot_same (e.slots k)).trans hk)), M⟩
def memB : Nat → List Nat → Bool
  | _, [] => false
  | k, x :: xs => Nat.beq x k || memB k xs
def noneIn : List Nat → List Nat → Bool
  | [], _ => true
  | x :: xs, l => !(memB x l) && noneIn xs l
def accApartB (a b : Acc) : Bool := noneIn a.writes b.reads && noneIn a.writes b.writes && noneIn b.writes a.reads
theorem memB_of {k : Nat} : ∀ {l : List Nat}, k ∈ l → memB k l = true
  | x :: xs, h => by
    unfold memB
    rcases List.mem_cons.1 h with rfl | h
    · simp
    · rw [memB_of h]; simp
theorem noneIn_of : ∀ {l m : List Nat}, noneIn l m = true → ∀ k ∈ l, k ∉ m
  | x :: xs, m, h, k, hk, hm => by
    unfold noneIn at h
    simp only [Bool.and_eq_true, Bool.not_eq_true'] at h
    rcases List.mem_cons.1 hk with rfl | hk
    · rw [memB_of hm] at h; exact Bool.noConfusion h.1
    · exact noneIn_of h.2 k hk hm
theorem accApart_of {a b : Acc} (h : accApartB a b = true) : AccApart a b := by
  unfold accApartB at h
  simp only [Bool.and_eq_true] at h
  exact ⟨fun id hid => ⟨noneIn_of h.1.1 id hid, noneIn_of h.1.2 id hid⟩, fun id hid => noneIn_of h.2 id hid⟩
def preOf (masks : List Nat) (o : Oper) : Nat :=
  o.after.toList.foldl (fun m e => if Region.binds .any e then m ||| ((1 <<< e.on) ||| masks.getD e.on 0) else m) 0
def masksOf : List Oper → List Nat → List Nat
  | [], ms => ms
  | o :: os, ms => masksOf os (ms ++ [preOf ms o])
def backB : Nat → List Oper → Bool
  | _, [] => true
  | i, o :: os => o.after.toList.all (fun e => !Region.binds .any e || Nat.blt e.on i) && backB (i + 1) os
def pairB (ops : Array Oper) (oi : Oper) (ai : Acc) (mi : Nat) : Nat → List Oper → List Acc → Bool
  | _, [], _ => true
  | j, oj :: os, aj :: as => (mi.testBit j || (oj.apart ops oi && accApartB aj ai)) && pairB ops oi ai mi (j + 1) os as
  | _, _ :: _, [] => false
def pairsB (ops : Array Oper) (allO : List Oper) (allA : List Acc) : Nat → List Oper → List Acc → List Nat → Bool
  | _, [], _, _ => true
  | i, o :: os, a :: as, m :: ms => pairB ops o a m 0 (allO.take i) (allA.take i) && pairsB ops allO allA (i + 1) os as ms
  | _, _, _, _ => false
def anyB (ops : Array Oper) (acs : List Acc) : Bool :=
  backB 0 ops.toList && pairsB ops ops.toList acs 0 ops.toList acs (masksOf ops.toList [])
inductive Reach (ops : Array Oper) (j : Nat) : Nat → Prop where
  | one {i o e} : ops[i]? = some o → e ∈ o.after → Region.binds .any e = true → e.on = j → Reach ops j i
  | more {i o e} : ops[i]? = some o → e ∈ o.after → Region.binds .any e = true → Reach ops j e.on → Reach ops j i
def Masked (ops : Array Oper) (ms : List Nat) : Prop := ∀ i j, (ms.getD i 0).testBit j = true → Reach ops j i
theorem pre_reach {ops : Array Oper} {ms : List Nat} (hm : Masked ops ms) {i : Nat} {o : Oper} (ho : ops[i]? = some o) {j : Nat} (h : (preOf ms o).testBit j = true) : Reach ops j i := by
  unfold preOf at h
  have gen : ∀ (l : List Edge) (m : Nat), (∀ e ∈ l, e ∈ o.after) → (m.testBit j = true → Reach ops j i) →
      (l.foldl (fun m e => if Region.binds .any e then m ||| ((1 <<< e.on) ||| ms.getD e.on 0) else m) m).testBit j = true → Reach ops j i := by
    intro l
    induction l with
    | nil => intro m _ hm h; exact hm h
    | cons e l ih =>
      intro m hl h0 h
      simp only [List.foldl_cons] at h
      refine ih _ (fun e' he' => hl e' (by simp [he'])) ?_ h
      intro hb
      split at hb
      · rename_i hbind
        rw [Nat.testBit_or, Nat.testBit_or] at hb
        simp only [Bool.or_eq_true] at hb
        rcases hb with hb | hb | hb
        · exact h0 hb
        · rw [Nat.one_shiftLeft, Nat.testBit_two_pow] at hb
          exact .one ho (hl e (by simp)) hbind (by simpa using hb)
        · exact .more ho (hl e (by simp)) hbind (hm _ _ hb)
      · exact h0 hb
  exact gen _ 0 (fun e he => by simpa using he) (fun h => by simp at h) h
theorem masks_reach {ops : Array Oper} : ∀ (os : List Oper) (ms : List Nat), ops.toList.drop ms.length = os → Masked ops ms → Masked ops (masksOf os ms)
  | [], ms, _, hm => hm
  | o :: os, ms, hd, hm => by
    unfold masksOf
    have ho : ops[ms.length]? = some o := by
      have := congrArg (·[0]?) hd
      simpa using this
    refine masks_reach os _ ?_ ?_
    · have := congrArg List.tail hd
      simpa using this
    · intro i j h
      rw [List.getD_eq_getElem?_getD] at h
      rcases Nat.lt_trichotomy i ms.length with hl | he | hg
      · rw [List.getElem?_append_left hl] at h
        exact hm i j (by rw [List.getD_eq_getElem?_getD]; exact h)
      · subst he
        simp at h
        exact pre_reach hm ho h
      · rw [List.getElem?_eq_none (by simp; omega)] at h
        simp at h
theorem back_of {os : List Oper} : ∀ {i : Nat}, backB i os = true → ∀ k o, os[k]? = some o → ∀ e ∈ o.after, Region.binds .any e = true → e.on < i + k := by
  induction os with
  | nil => intro i _ k o hk; simp at hk
  | cons o os ih =>
    intro i h k o' hk e he hb
    unfold backB at h
    simp only [Bool.and_eq_true, List.all_eq_true] at h
    cases k with
    | zero =>
      simp at hk; subst hk
      have := h.1 e (by simpa using he)
      rw [hb] at this
      exact (Nat.blt_eq).mp (by simpa using this)
    | succ k =>
      have := ih h.2 k o' (by simpa using hk) e he hb
      omega
theorem pair_of {ops : Array Oper} {oi : Oper} {ai : Acc} {mi : Nat} {os : List Oper} : ∀ {as : List Acc} {j : Nat}, pairB ops oi ai mi j os as = true → ∀ k oj, os[k]? = some oj →
    ∃ aj, as[k]? = some aj ∧ (mi.testBit (j + k) = true ∨ (oj.apart ops oi = true ∧ AccApart aj ai)) := by
  induction os with
  | nil => intro as j _ k oj hk; simp at hk
  | cons o os ih =>
    intro as j h k oj hk
    cases as with
    | nil => simp [pairB] at h
    | cons a as =>
      unfold pairB at h
      simp only [Bool.and_eq_true, Bool.or_eq_true] at h
      cases k with
      | zero =>
        simp at hk; subst hk
        refine ⟨a, by simp, ?_⟩
        rcases h.1 with h | h
        · exact .inl h
        · exact .inr ⟨h.1, accApart_of h.2⟩
      | succ k =>
        obtain ⟨aj, h1, h2⟩ := ih h.2 k oj (by simpa using hk)
        exact ⟨aj, by simpa using h1, by rw [show j + (k + 1) = j + 1 + k by omega]; exact h2⟩
theorem pairs_of {ops : Array Oper} {allO : List Oper} {allA : List Acc} {os : List Oper} : ∀ {as : List Acc} {ms : List Nat} {i : Nat}, pairsB ops allO allA i os as ms = true → ∀ k o, os[k]? = some o →
    ∃ a m, as[k]? = some a ∧ ms[k]? = some m ∧ pairB ops o a m 0 (allO.take (i + k)) (allA.take (i + k)) = true := by
  induction os with
  | nil => intro as ms i _ k oj hk; simp at hk
  | cons o os ih =>
    intro as ms i h k o' hk
    cases as with
    | nil => simp [pairsB] at h
    | cons a as =>
      cases ms with
      | nil => simp [pairsB] at h
      | cons m ms =>
        unfold pairsB at h
        simp only [Bool.and_eq_true] at h
        cases k with
        | zero => simp at hk; subst hk; exact ⟨a, m, by simp, by simp, h.1⟩
        | succ k =>
          obtain ⟨a', m', h1, h2, h3⟩ := ih h.2 k o' (by simpa using hk)
          exact ⟨a', m', by simpa using h1, by simpa using h2, by rw [show i + (k + 1) = i + 1 + k by omega]; exact h3⟩
def acAt (acs : List Acc) (i : Nat) : Acc := acs.getD i ⟨[], []⟩
theorem any_spec {ops : Array Oper} {acs : List Acc} (h : anyB ops acs = true) : (∀ i o, ops[i]? = some o → ∀ e ∈ o.after, Region.binds .any e = true → e.on < i) ∧
    ∀ i j oi oj, j < i → ops[i]? = some oi → ops[j]? = some oj → Reach ops j i ∨ (oj.apart ops oi = true ∧ AccApart (acAt acs j) (acAt acs i)) := by
  unfold anyB at h
  simp only [Bool.and_eq_true] at h
  refine ⟨fun i o ho e he hb => ?_, fun i j oi oj hji hoi hoj => ?_⟩
  · have := back_of h.1 i o (by simpa using ho) e he hb
    simpa using this
  · obtain ⟨a, m, h1, h2, h3⟩ := pairs_of h.2 i oi (by simpa using hoi)
    rw [Nat.zero_add] at h3
    obtain ⟨aj, h4, h5⟩ := pair_of h3 j oj (by rw [List.getElem?_take]; simpa [hji] using hoj)
    rw [Nat.zero_add] at h5
    rw [List.getElem?_take] at h4
    simp only [hji, if_true] at h4
    have hm := masks_reach ops.toList [] rfl (ops := ops) (fun i j h => by simp at h)
    rcases h5 with h5 | h5
    · exact .inl (hm i j (by rw [List.getD_eq_getElem?_getD, h2]; exact h5))
    · refine .inr ?_
      have e1 : acAt acs i = a := by unfold acAt; rw [List.getD_eq_getElem?_getD, h1]; rfl
      have e2 : acAt acs j = aj := by unfold acAt; rw [List.getD_eq_getElem?_getD, h4]; rfl
      rw [e1, e2]; exact h5
def rem (n : Nat) (listed : Array Bool) : List Nat := (List.range n).filter fun i => !listed.getD i true
theorem mem_rem {n : Nat} {listed : Array Bool} {i : Nat} : i ∈ rem n listed ↔ i < n ∧ listed.getD i true = false := by
  simp [rem]
theorem rem_sorted (n : Nat) (listed : Array Bool) : (rem n listed).Pairwise (· < ·) := List.Pairwise.filter _ List.pairwise_lt_range
theorem getD_false_true {listed : Array Bool} {i : Nat} (h : i < listed.size) : listed.getD i true = listed.getD i false := by
  simp [Array.getD_eq_getD_getElem?, h]
def Closed (ops : Array Oper) (listed : Array Bool) : Prop := ∀ i o, ops[i]? = some o → listed.getD i false = true → ∀ e ∈ o.after, Region.binds .any e = true → listed.getD e.on false = true
theorem reach_listed {ops : Array Oper} {listed : Array Bool} (hc : Closed ops listed) {j i : Nat} (h : Reach ops j i) : ∀ o, ops[i]? = some o → (∀ e ∈ o.after, Region.binds .any e = true → listed.getD e.on false = true) → listed.getD j false = true := by
  induction h with
  | one ho he hb hj => intro o ho' hl; rw [ho] at ho'; cases ho'; rw [← hj]; exact hl _ he hb
  | more ho he hb hr ih =>
    intro o ho' hl
    rw [ho] at ho'; cases ho'
    have hl' := hl _ he hb
    rename_i i o e
    cases hoe : ops[e.on]? with
    | some oe => exact ih oe hoe (hc e.on oe hoe hl')
    | none =>
      cases hr with
      | one ho2 _ _ _ => rw [hoe] at ho2; cases ho2
      | more ho2 _ _ _ => rw [hoe] at ho2; cases ho2
theorem rem_set {n : Nat} {listed : Array Bool} {i : Nat} {L1 L2 : List Nat} (hi : i < listed.size) (h : rem n listed = L1 ++ i :: L2) : rem n (listed.setIfInBounds i true) = L1 ++ L2 := by
  have hs := rem_sorted n listed
  rw [h] at hs
  obtain ⟨p1, p2, p3⟩ := List.pairwise_append.1 hs
  have h1 : ∀ j ∈ L1, j ≠ i := fun j hj => Nat.ne_of_lt (p3 j hj i (by simp))
  have h2 : ∀ j ∈ L2, j ≠ i := fun j hj => Nat.ne_of_gt ((List.pairwise_cons.1 p2).1 j hj)
  have : rem n (listed.setIfInBounds i true) = (rem n listed).filter fun j => decide (j ≠ i) := by
    unfold rem
    rw [List.filter_filter]
    refine List.filter_congr fun j _ => ?_
    by_cases hji : j = i
    · subst hji
      simp [Array.getD_eq_getD_getElem?, hi]
    · rw [getD_set_ne true (Ne.symm hji)]
      simp [hji]
  rw [this, h, List.filter_append, List.filter_cons]
  simp only [ne_eq, not_true, decide_false, Bool.false_eq_true, if_false]
  rw [List.filter_eq_self.2 (fun j hj => by simpa using h1 j hj), List.filter_eq_self.2 (fun j hj => by simpa using h2 j hj)]
theorem any_ok (G : Good V P) {ops : Array Oper} {acs : List Acc} (hB : anyB ops acs = true) {Q : Exit → Act → World → Prop} {sf : St V.E} (hQ : ∀ a w, Sim V C sf a w → Q .normal a w) :
    ∀ (fuel : Nat) (listed : Array Bool) (a : Act) (w : World) (s s2 : St V.E), listed.size = ops.size → (rem ops.size listed).length = fuel → Closed ops listed → Sim V C s a w →
      Runs V ops (acAt acs) (rem ops.size listed) s s2 → StEq s2 sf → wpAny P .any ops Q fuel listed a w
  | 0, listed, a, w, s, s2, hsz, hlen, hcl, S, r, e => by
    have hnil : rem ops.size listed = [] := by simpa using hlen
    rw [hnil] at r
    cases r
    refine ⟨?_, hQ _ _ (S.same e)⟩
    cases hr : Region.ready .any ops listed with
    | nil => rfl
    | cons j js =>
      have hj : j ∈ Region.ready .any ops listed := by rw [hr]; simp
      obtain ⟨h1, o, h2, _⟩ := mem_ready.1 hj
      have : j ∈ rem ops.size listed := mem_rem.2 ⟨(Array.getElem?_eq_some_iff.1 h2).1, h1⟩
      rw [hnil] at this; cases this
  | fuel + 1, listed, a, w, s, s2, hsz, hlen, hcl, S, r, e => by
    obtain ⟨hback, hpair⟩ := any_spec hB
    refine ⟨fun h0 => ?_, fun i hi => ?_⟩
    · exfalso
      have key : ∀ i, i < ops.size → listed.getD i true = false → ∃ k, k ∈ Region.ready .any ops listed := by
        intro i
        induction i using Nat.strongRecOn with
        | _ i ih =>
          intro hi hu
          have ho : ops[i]? = some ops[i] := by simp [hi]
          by_cases hall : ∀ e ∈ ops[i].after, Region.binds .any e = true → listed.getD e.on false = true
          · exact ⟨i, mem_ready.2 ⟨hu, _, ho, hall⟩⟩
          · have : ∃ e, e ∈ ops[i].after ∧ Region.binds .any e = true ∧ listed.getD e.on false ≠ true := by
              refine Classical.byContradiction fun hno => hall fun e he hb => Classical.byContradiction fun hl => hno ⟨e, he, hb, hl⟩
            obtain ⟨e, he, hb, hl⟩ := this
            have hlt := hback i _ ho e he hb
            have : e.on < listed.size := by omega
            exact ih e.on hlt (by omega) (by rw [getD_false_true this]; simpa using hl)
      cases hrem : rem ops.size listed with
      | nil => rw [hrem] at hlen; simp at hlen
      | cons i L =>
        have : i ∈ rem ops.size listed := by rw [hrem]; simp
        obtain ⟨h1, h2⟩ := mem_rem.1 this
        obtain ⟨k, hk⟩ := key i h1 h2
        rw [h0] at hk; cases hk
    · obtain ⟨hu, oi, hoi, hpre⟩ := mem_ready.1 hi
      have hlt : i < ops.size := (Array.getElem?_eq_some_iff.1 hoi).1
      have hmem : i ∈ rem ops.size listed := mem_rem.2 ⟨hlt, hu⟩
      obtain ⟨L1, L2, hL⟩ := List.append_of_mem hmem
      have hs := rem_sorted ops.size listed
      rw [hL] at hs r
      have hlt1 : ∀ j ∈ L1, j < i := fun j hj => (List.pairwise_append.1 hs).2.2 j hj i (by simp)
      obtain ⟨t2, r2, e2⟩ := runs_bubble hoi (fun j hj => by
        have hjm : j ∈ rem ops.size listed := by rw [hL]; simp [hj]
        obtain ⟨hj1, hj2⟩ := mem_rem.1 hjm
        have hoj : ops[j]? = some ops[j] := by simp [hj1]
        refine ⟨_, hoj, ?_⟩
        rcases hpair i j oi _ (hlt1 j hj) hoi hoj with hr | hr
        · have := reach_listed hcl hr oi hoi hpre
          rw [getD_false_true (by omega), this] at hj2
          cases hj2
        · exact hr) r
      cases r2 with
      | cons ho hev hc r3 =>
        rename_i o s1 c q
        refine step_ok G ho S hev hc fun a' w' S' => ?_
        have hset := rem_set (n := ops.size) (listed := listed) (i := i) (by omega) hL
        refine any_ok G hB hQ fuel _ a' w' s1 t2 (by simpa using hsz) ?_ ?_ S' (by rw [hset]; exact r3) (e2.symm.trans e)
        · rw [hset]
          rw [hL] at hlen
          simp at hlen ⊢
          omega
        · intro k ok hk hlk e' he' hb'
          by_cases hki : k = i
          · subst hki
            rw [hoi] at hk; cases hk
            exact getD_set_true (hpre e' he' hb')
          · have hlk' : listed.getD k false = true := by
              rw [getD_set_ne false (Ne.symm hki)] at hlk; exact hlk
            exact getD_set_true (hcl k ok hk hlk' e' he' hb')
theorem runs_of {ops : Array Oper} {q : Orcs V} {allA : List Acc} : ∀ (os : List Oper) (i : Nat) (s s' : St V.E) (cs : List Cd) (acs : List Acc), ops.toList.drop i = os → allA.drop i = acs → evOps V ops.toList q i os s = some (s', cs, acs) → AllP cs →
    Runs V ops (acAt allA) ((List.range ops.size).drop i) s s'
  | [], i, s, s', cs, acs, hi, ha, h, hc => by
    simp only [evOps, Option.some.injEq, Prod.mk.injEq] at h
    obtain ⟨rfl, _, _⟩ := h
    have : ops.size ≤ i := by simpa using hi
    have hn : (List.range ops.size).drop i = [] := by simpa using this
    rw [hn]; exact .nil
  | o :: os, i, s, s', cs, acs, hi, ha, h, hc => by
    have hlt : i < ops.size := by
      rcases Nat.lt_or_ge i ops.size with h | h
      · exact h
      · have : ops.toList.drop i = [] := by simpa using h
        rw [this] at hi; cases hi
    have hn : (List.range ops.size).drop i = i :: (List.range ops.size).drop (i + 1) := by
      rw [List.drop_eq_getElem_cons (by simpa using hlt)]; simp
    have ho : ops[i]? = some o := by
      have := congrArg (·[0]?) hi
      simpa using this
    have hi' : ops.toList.drop (i + 1) = os := by
      have := congrArg List.tail hi
      simpa using this
    rw [hn]
    simp only [evOps] at h
    split at h
    · rename_i s1 c1 a1 h1
      split at h
      · rename_i s2 c2 as h2
        cases h
        obtain ⟨hc1, hc2⟩ := AllP.append hc
        have ha1 : acAt allA i = a1 := by
          have := congrArg (·[0]?) ha
          unfold acAt
          rw [List.getD_eq_getElem?_getD]
          simp at this
          rw [this]; rfl
        have ha' : allA.drop (i + 1) = as := by
          have := congrArg List.tail ha
          simpa using this
        exact .cons ho (by rw [ha1]; exact h1) hc1 (runs_of os (i + 1) s1 _ c2 as hi' ha' h2 hc2)
      · cases h
    · cases h
theorem region_ok (G : Good V P) {id : Nat} {ops : Array Oper} {drawn : Bool} {q : Orcs V} {Q : Exit → Act → World → Prop} {s s' : St V.E} {cs : List Cd} {acs : List Acc} {a : Act} {w : World} (S : Sim V C s a w)
    (h : evOps V ops.toList q 0 ops.toList s = some (s', cs, acs)) (hc : AllP cs) (hd : drawn = true → anyB ops acs = true) (hQ : ∀ a' w', Sim V C s' a' w' → Q .normal a' w') :
    (Code.region id ops drawn).wp P Q a w := by
  cases drawn with
  | false => exact wp_region (by simpa using ops_ok G ops.toList 0 rfl s s' cs acs a w S h hc hQ)
  | true =>
    have r := runs_of (allA := acs) ops.toList 0 s s' cs acs rfl rfl h hc
    have hrem : rem ops.size (Array.replicate ops.size false) = List.range ops.size := by
      unfold rem
      rw [List.filter_eq_self]
      intro i hi
      simp only [List.mem_range] at hi
      simp [Array.getD_eq_getD_getElem?, hi]
    refine wp_region_any G.mixed (any_ok G (hd rfl) hQ ops.size _ a _ s s' (by simp) (by rw [hrem]; simp) ?_ S.drew (by rw [hrem]; simpa using r) (.refl _))
    intro i o ho hl
    simp only [Array.getD_eq_getD_getElem?, Array.getElem?_replicate] at hl
    split at hl <;> simp at hl
end
end Go.Ab
namespace Go.Ab
open Go
section
variable {T : Tab} {C : Ctx} {bx bx' : List (Nat × Box T.E)} {β β' : Nat → BI} {ok ok' : Nat → Prop} {w w' : World}
def mapLs {E : Nat → Type} (m : Leaf E → Option (Leaf E)) : List (Leaf E) → Option (List (Leaf E))
  | [] => some []
  | l :: ls => match m l with
    | some l' => match mapLs m ls with
      | some r => some (l' :: r)
      | none => none
    | none => none
def mapCV {E : Nat → Type} (m : Leaf E → Option (Leaf E)) : CV E → Option (CV E)
  | .one l => match m l with
    | some l' => some (.one l')
    | none => none
  | .ag ls => match mapLs m ls with
    | some r => some (.ag r)
    | none => none
def mapCVs {E : Nat → Type} (m : Leaf E → Option (Leaf E)) : List (CV E) → Option (List (CV E))
  | [] => some []
  | c :: cs => match mapCV m c with
    | some c' => match mapCVs m cs with
      | some r => some (c' :: r)
      | none => none
    | none => none
def mapSV {E : Nat → Type} (m : Leaf E → Option (Leaf E)) : SV E → Option (SV E)
  | .cv c => match mapCV m c with
    | some c' => some (.cv c')
    | none => none
  | .tup cs => match mapCVs m cs with
    | some r => some (.tup r)
    | none => none
def mapSlots {E : Nat → Type} (m : Leaf E → Option (Leaf E)) : List (Nat × Option (SV E)) → List (Nat × Option (SV E))
  | [] => []
  | (k, some v) :: r => match mapSV m v with
    | some v' => (k, some v') :: mapSlots m r
    | none => mapSlots m r
  | (_, none) :: r => mapSlots m r
def mapBoxes {E : Nat → Type} (m : Leaf E → Option (Leaf E)) : List (Nat × Box E) → Option (List (Nat × Box E))
  | [] => some []
  | (k, .cells ls) :: r => match mapLs m ls with
    | some ls' => match mapBoxes m r with
      | some r' => some ((k, .cells ls') :: r')
      | none => none
    | none => none
  | (k, b) :: r => match mapBoxes m r with
    | some r' => some ((k, b) :: r')
    | none => none
section
variable {m : Leaf T.E → Option (Leaf T.E)} (hm : ∀ l l' v, m l = some l' → LeafRep T bx β ok w l v → LeafRep T bx' β' ok' w' l' v)
include hm
theorem mapLs_rep : ∀ {ls ls' : List (Leaf T.E)} {vs : List Value}, mapLs m ls = some ls' → All2 (LeafRep T bx β ok w) ls vs → All2 (LeafRep T bx' β' ok' w') ls' vs
  | [], ls', _, h, .nil => by simp [mapLs] at h; subst h; exact .nil
  | l :: ls, ls', _, h, .cons h1 h2 => by
    unfold mapLs at h
    split at h
    · rename_i l' hl
      split at h
      · rename_i r hr
        cases h
        exact .cons (hm _ _ _ hl h1) (mapLs_rep hr h2)
      · cases h
    · cases h
theorem mapCV_rep {c c' : CV T.E} {v : Value} (h : mapCV m c = some c') (k : CVRep T bx β ok w c v) : CVRep T bx' β' ok' w' c' v := by
  unfold mapCV at h
  split at h
  · split at h
    · rename_i l' hl
      cases h; exact hm _ _ _ hl k
    · cases h
  · split at h
    · rename_i r hr
      cases h
      obtain ⟨cs, rfl, k⟩ := k
      exact ⟨cs, rfl, mapLs_rep hm hr k⟩
    · cases h
theorem mapCVs_rep : ∀ {cs cs' : List (CV T.E)} {vs : List Value}, mapCVs m cs = some cs' → All2 (CVRep T bx β ok w) cs vs → All2 (CVRep T bx' β' ok' w') cs' vs
  | [], cs', _, h, .nil => by simp [mapCVs] at h; subst h; exact .nil
  | c :: cs, cs', _, h, .cons h1 h2 => by
    unfold mapCVs at h
    split at h
    · rename_i l' hl
      split at h
      · rename_i r hr
        cases h
        exact .cons (mapCV_rep hm hl h1) (mapCVs_rep hr h2)
      · cases h
    · cases h
theorem mapSV_rep {x x' : SV T.E} {v : Value} (h : mapSV m x = some x') (k : SVRep T bx β ok w x v) : SVRep T bx' β' ok' w' x' v := by
  unfold mapSV at h
  split at h
  · split at h
    · rename_i l' hl
      cases h; exact mapCV_rep hm hl k
    · cases h
  · split at h
    · rename_i r hr
      cases h
      obtain ⟨vs, rfl, k⟩ := k
      exact ⟨vs, rfl, mapCVs_rep hm hr k⟩
    · cases h
end
def sortedB {α : Type} : List (Nat × α) → Bool
  | [] => true
  | [_] => true
  | (j, _) :: (k, y) :: r => Nat.blt j k && sortedB ((k, y) :: r)
theorem sorted_lt {α : Type} : ∀ {l : List (Nat × α)} {j : Nat} {x : α}, sortedB ((j, x) :: l) = true → ∀ p ∈ l, j < p.1
  | [], _, _, _, p, hp => by simp at hp
  | (k, y) :: r, j, x, h, p, hp => by
    simp only [sortedB, Bool.and_eq_true] at h
    have h1 : j < k := (Nat.blt_eq).mp h.1
    rcases List.mem_cons.1 hp with rfl | hp
    · exact h1
    · exact Nat.lt_trans h1 (sorted_lt h.2 p hp)
theorem sorted_tail {α : Type} {l : List (Nat × α)} {p : Nat × α} (h : sortedB (p :: l) = true) : sortedB l = true := by
  cases l with
  | nil => rfl
  | cons q r => obtain ⟨j, x⟩ := p; obtain ⟨k, y⟩ := q; simp only [sortedB, Bool.and_eq_true] at h; exact h.2
theorem mapSlots_look {m : Leaf T.E → Option (Leaf T.E)} {k : Nat} {x' : SV T.E} : ∀ {l : List (Nat × Option (SV T.E))}, sortedB l = true → look k (mapSlots m l) = some (some x') → ∃ x, look k l = some (some x) ∧ mapSV m x = some x'
  | [], _, h => by simp [mapSlots, look] at h
  | (j, none) :: r, hs, h => by
    simp only [mapSlots] at h
    obtain ⟨x, h1, h2⟩ := mapSlots_look (sorted_tail hs) h
    refine ⟨x, ?_, h2⟩
    unfold look
    have hlt := sorted_lt hs (k, some x) (look_mem h1)
    rw [beq_of_ne (by simp at hlt; omega)]
    exact h1
  | (j, some v) :: r, hs, h => by
    simp only [mapSlots] at h
    have later : look k (mapSlots m r) = some (some x') → ∃ x, look k ((j, some v) :: r) = some (some x) ∧ mapSV m x = some x' := by
      intro h
      obtain ⟨x, h1, h2⟩ := mapSlots_look (sorted_tail hs) h
      refine ⟨x, ?_, h2⟩
      unfold look
      have hlt := sorted_lt hs (k, some x) (look_mem h1)
      rw [beq_of_ne (by simp at hlt; omega)]
      exact h1
    split at h
    · rename_i v' hv
      unfold look at h
      split at h
      · rename_i e
        cases h
        have := eq_of_beq' e; subst this
        exact ⟨v, by simp [look], hv⟩
      · exact later h
    · exact later h
theorem mapBoxes_look {m : Leaf T.E → Option (Leaf T.E)} : ∀ {l l' : List (Nat × Box T.E)}, mapBoxes m l = some l' → ∀ k,
    (look k l = none ∧ look k l' = none) ∨ (∃ ls ls', look k l = some (.cells ls) ∧ look k l' = some (.cells ls') ∧ mapLs m ls = some ls') ∨ (∃ b, look k l = some b ∧ look k l' = some b ∧ ∀ ls, b ≠ .cells ls)
  | [], l', h, k => by simp [mapBoxes] at h; subst h; exact .inl ⟨rfl, rfl⟩
  | (j, b) :: r, l', h, k => by
    unfold mapBoxes at h
    split at h
    · rename_i heq; cases heq
    · rename_i heq; cases heq
      split at h
      · rename_i ls' hls
        split at h
        · rename_i r' hr
          cases h
          by_cases hj : Nat.beq j k = true
          · exact .inr (.inl ⟨_, ls', by simp [look, hj], by simp [look, hj], hls⟩)
          · simp only [look, hj, Bool.false_eq_true, if_false]; exact mapBoxes_look hr k
        · cases h
      · cases h
    · rename_i hne heq
      cases heq
      split at h
      · rename_i r' hr
        cases h
        by_cases hj : Nat.beq j k = true
        · exact .inr (.inr ⟨_, by simp [look, hj], by simp [look, hj], fun ls e => hne _ e⟩)
        · simp only [look, hj, Bool.false_eq_true, if_false]; exact mapBoxes_look hr k
      · cases h
end
end Go.Ab
namespace Go.Ab
open Go
section
variable {V : Env} {C : Ctx}
def keepL {α : Type} (ks : List Nat) : List (Nat × α) → List (Nat × α)
  | [] => []
  | (k, x) :: r => if memB k ks then (k, x) :: keepL ks r else keepL ks r
theorem memB_mem {k : Nat} : ∀ {l : List Nat}, memB k l = true → k ∈ l
  | x :: xs, h => by
    unfold memB at h
    simp only [Bool.or_eq_true] at h
    rcases h with h | h
    · rw [eq_of_beq' h]; simp
    · exact List.mem_cons_of_mem _ (memB_mem h)
theorem look_keep {α : Type} (ks : List Nat) (k : Nat) : ∀ l : List (Nat × α), look k (keepL ks l) = if memB k ks then look k l else none
  | [] => by simp [keepL, look]
  | (j, x) :: r => by
    unfold keepL
    by_cases hj : Nat.beq j k = true
    · have := eq_of_beq' hj; subst this
      split
      · simp [look]
      · rename_i h; rw [look_keep ks j r]; simp [h]
    · split
      · simp only [look, hj, Bool.false_eq_true, if_false]; exact look_keep ks k r
      · rw [look_keep ks k r]; simp only [look, hj, Bool.false_eq_true, if_false]
def idsIn (keep ids : List Nat) : Bool := ids.all fun i => memB i keep
def slotsIn {E : Nat → Type} (keep : List Nat) : List (Nat × Option (SV E)) → Bool
  | [] => true
  | (_, some v) :: r => idsIn keep v.ids && slotsIn keep r
  | (_, none) :: r => slotsIn keep r
def boxesIn {E : Nat → Type} (keep : List Nat) : List (Nat × Box E) → Bool
  | [] => true
  | (_, .cells ls) :: r => idsIn keep (leavesIds ls) && boxesIn keep r
  | _ :: r => boxesIn keep r
theorem idsIn_of {keep ids : List Nat} (h : idsIn keep ids = true) : ∀ i ∈ ids, memB i keep = true := by
  unfold idsIn at h; exact List.all_eq_true.1 h
theorem slotsIn_of {E : Nat → Type} {keep : List Nat} : ∀ {l : List (Nat × Option (SV E))}, slotsIn keep l = true → ∀ {k x}, look k l = some (some x) → idsIn keep x.ids = true
  | [], _, _, _, h => by simp [look] at h
  | (j, none) :: r, h, k, x, hl => by
    simp only [slotsIn] at h
    unfold look at hl
    split at hl
    · cases hl
    · exact slotsIn_of h hl
  | (j, some v) :: r, h, k, x, hl => by
    simp only [slotsIn, Bool.and_eq_true] at h
    unfold look at hl
    split at hl
    · cases hl; exact h.1
    · exact slotsIn_of h.2 hl
theorem boxesIn_of {E : Nat → Type} {keep : List Nat} : ∀ {l : List (Nat × Box E)}, boxesIn keep l = true → ∀ {k ls}, look k l = some (.cells ls) → idsIn keep (leavesIds ls) = true
  | [], _, _, _, h => by simp [look] at h
  | (j, b) :: r, h, k, x, hl => by
    unfold boxesIn at h
    split at h
    · rename_i heq; cases heq
    · rename_i heq; cases heq
      simp only [Bool.and_eq_true] at h
      unfold look at hl
      split at hl
      · cases hl; exact h.1
      · exact boxesIn_of h.2 hl
    · rename_i hne heq
      cases heq
      unfold look at hl
      split at hl
      · cases hl; exact (hne _ _ rfl).elim
      · exact boxesIn_of h hl
def keepSt (ks ids : List Nat) (s : St V.E) : Option (St V.E) :=
  let sl := keepL ks s.slots
  let bx := keepL ids s.boxes
  if slotsIn ids sl && boxesIn ids bx then some ⟨s.n, sl, bx⟩ else none
theorem keep_ok {ks ids : List Nat} {s s' : St V.E} (h : keepSt ks ids s = some s') {a : Act} {w : World} (S : Sim V C s a w) : Sim V C s' a w := by
  obtain ⟨β, S⟩ := S
  unfold keepSt at h
  simp only at h
  split at h
  · rename_i hb
    cases h
    simp only [Bool.and_eq_true] at hb
    let β' : Nat → BI := fun j => if memB j ids then β j else { β j with own := [] }
    have hβ : ∀ j, memB j ids = true → β' j = β j := fun j hj => by show (if _ then _ else _) = _; rw [if_pos hj]
    have hβ' : ∀ j, memB j ids ≠ true → (β' j).own = [] := fun j hj => by show (if _ then _ else _ : BI).own = _; rw [if_neg hj]
    have hsub : ∀ j x, x ∈ (β' j).own → memB j ids = true ∧ x ∈ (β j).own := by
      intro j x hx
      by_cases hj : memB j ids = true
      · rw [hβ j hj] at hx; exact ⟨hj, hx⟩
      · rw [hβ' j hj] at hx; simp at hx
    have hlook : ∀ j, memB j ids = true → look j (keepL ids s.boxes) = look j s.boxes := fun j hj => by rw [look_keep, if_pos hj]
    have L : Later (okOf C β w) w (okOf C β' w) w := ⟨fun b hb => ⟨hb.1, hb.2.1, fun j hj => hb.2.2 j (hsub j b hj).2⟩, fun _ _ => rfl⟩
    refine ⟨β', S.size, S.defers, fun k x hk => ?_, ?_⟩
    · have hk' : look k (keepL ks s.slots) = some (some x) := by
        unfold slot at hk; simp only at hk
        split at hk
        · rename_i y hy; rw [hy, hk]
        · cases hk
      have hin := idsIn_of (slotsIn_of hb.1 hk')
      rw [look_keep] at hk'
      split at hk'
      · have : slot V s k = some x := by unfold slot; rw [hk']
        exact SVRep.agree L (fun id hid => ⟨.inl (hlook id (hin id hid)), hβ id (hin id hid)⟩) (S.slots k x this)
      · cases hk'
    · refine ⟨fun id b hid => ?_, fun id hid => ?_, fun id => ?_, fun id id' x hx hx' => ?_, fun id x hx => S.mem.mine id x (hsub id x hx).2, S.mem.kept⟩
      · have hid' := hid
        rw [look_keep] at hid'
        split at hid'
        · rename_i hm
          refine BoxRep.agree L (hβ id hm) (fun ls e i hi => ?_) (S.mem.boxes id b hid')
          subst e
          have := idsIn_of (boxesIn_of hb.2 hid) i hi
          exact ⟨.inl (hlook i this), hβ i this⟩
        · cases hid'
      · by_cases hm : memB id ids = true
        · rw [hβ id hm]; exact S.mem.nones id (by rw [← hlook id hm]; exact hid)
        · exact hβ' id hm
      · by_cases hm : memB id ids = true
        · rw [hβ id hm]; exact S.mem.nodup id
        · rw [hβ' id hm]; exact List.nodup_nil
      · exact S.mem.apart id id' x (hsub id x hx).2 (hsub id' x hx').2
  · cases h
inductive Pl where
  | slot (k : Nat)
  | cell (id : Nat)
def getPl (s : St V.E) : Pl → Option (Bool × List (Leaf V.E))
  | .slot k => match slot V s k with
    | some (.cv c) => some (c.isAg, c.leaves)
    | _ => none
  | .cell id => match look id s.boxes with
    | some (.cells ls) => some (true, ls)
    | _ => none
def setPl (s : St V.E) (bx : List (Nat × Box V.E)) (p : Pl) (ag : Bool) (ls : List (Leaf V.E)) : Option (St V.E) :=
  match p with
  | .slot k => match ofLeaves ag ls with
    | some c => some ⟨s.n, put k (some (.cv c)) s.slots, bx⟩
    | none => none
  | .cell id => match look id bx with
    | some (.cells _) => some ⟨s.n, s.slots, put id (.cells ls) bx⟩
    | _ => none
theorem SimB.turn {s : St V.E} {β β' : Nat → BI} {a : Act} {w : World} (S : SimB V C s β a w) {bx' : List (Nat × Box V.E)} (M : MemOk V.T C bx' β' w) (X : Ext V.T s.boxes β (okOf C β w) w bx' β' (okOf C β' w) w) {k : Nat} {x : SV V.E}
    (h : SVRep V.T bx' β' (okOf C β' w) w x (getV C a.tmps k)) : SimB V C ⟨s.n, Ab.put k (some x) s.slots, bx'⟩ β' a w := by
  refine ⟨S.size, S.defers, fun j y hj => ?_, M⟩
  simp only [slot] at hj
  by_cases hjk : j = k
  · subst hjk
    rw [look_put_same] at hj
    cases hj
    exact h
  · rw [look_put_other hjk] at hj
    exact SVRep.ext X (S.slots j y hj)
theorem setPl_ok {s s' : St V.E} {β : Nat → BI} {a : Act} {w : World} (S : SimB V C s β a w) {p : Pl} {ag : Bool} {ls : List (Leaf V.E)} (h : getPl s p = some (ag, ls)) :
    ∃ vs : List Value, All2 (LeafRep V.T s.boxes β (okOf C β w) w) ls vs ∧ ∀ (bx1 : List (Nat × Box V.E)) (β1 : Nat → BI) (ls' : List (Leaf V.E)), MemOk V.T C bx1 β1 w → Ext V.T s.boxes β (okOf C β w) w bx1 β1 (okOf C β1 w) w →
      All2 (LeafRep V.T bx1 β1 (okOf C β1 w) w) ls' vs → setPl s bx1 p ag ls' = some s' → Sim V C s' a w := by
  cases p with
  | slot k =>
    simp only [getPl] at h
    split at h
    · rename_i c hk
      cases h
      have hr' : CVRep V.T s.boxes β (okOf C β w) w c (getV C a.tmps k) := S.slots k _ hk
      refine ⟨_, CVRep.cells hr', fun bx1 β1 ls' M1 X1 R1 hs => ?_⟩
      simp only [setPl] at hs
      split at hs
      · rename_i c' hc'
        cases hs
        refine ⟨β1, S.turn M1 X1 ?_⟩
        have hci := CVRep.isAg hr'
        unfold ofLeaves at hc'
        split at hc'
        · rename_i hag
          cases hc'
          obtain ⟨vs, hv⟩ := hci.1 hag
          rw [hv] at R1 ⊢
          exact ⟨vs, rfl, R1⟩
        · rename_i l hag
          cases hc'
          rw [hci.2 hag] at R1
          cases R1 with
          | cons q1 q2 => exact q1
        · cases hc'
      · cases hs
    · cases h
  | cell id =>
    simp only [getPl] at h
    split at h
    · rename_i ls0 hid
      cases h
      obtain ⟨c, e, h1, h2, h3⟩ := S.mem.boxes id _ hid
      refine ⟨_, h3, fun bx1 β1 ls' M1 X1 R1 hs => ?_⟩
      simp only [setPl] at hs
      split at hs
      · rename_i ls1 hid1
        cases hs
        obtain ⟨b', hb', hc⟩ := X1.box id _ hid
        rw [hid1] at hb'; cases hb'
        simp only [compat] at hc
        obtain ⟨c', e', g1, g2, g3⟩ := M1.boxes id _ hid1
        rw [hc, h2] at g2
        cases g2
        obtain ⟨M2, X2⟩ := M1.set (w' := w) id (.cells ls') (β1 id) rfl rfl rfl (Nat.le_refl _) (fun _ _ _ => rfl) (fun x hx => .inl hx) (M1.nodup id)
          (fun b0 h0 => by rw [hid1] at h0; cases h0; simp only [compat]) (fun X => ⟨c, e, by rw [upd_same]; exact g1, by rw [upd_same, hc]; exact h2, All2.ext X R1⟩)
        exact ⟨_, S.size, S.defers, fun k x hk => SVRep.ext X2 (SVRep.ext X1 (S.slots k x hk)), M2⟩
      · cases hs
    · cases h
def fixSt (p : Pl) (s : St V.E) : Option (St V.E) :=
  match getPl s p with
  | some (ag, ls) =>
    match interp V s.boxes (frz V ls fun ls => .ret (some (.cv (.ag ls))) []) [] [] with
    | some (some (.cv (.ag ls)), _, bx, _) => setPl s bx p ag ls
    | _ => none
  | none => none
theorem fix_ok {p : Pl} {s s' : St V.E} (h : fixSt p s = some s') {a : Act} {w : World} (S : Sim V C s a w) : Sim V C s' a w := by
  obtain ⟨β, S⟩ := S
  unfold fixSt at h
  split at h
  · rename_i ag ls hp
    obtain ⟨vs, hr, hset⟩ := setPl_ok (s' := s') S hp
    split at h
    · rename_i ls1 cs bx ac hi
      obtain ⟨bx1, β1, ls', rs', ws', M1, X1, R1, I1, _⟩ := frz_ok ls _ _ β S.mem hr _ _ _ hi
      obtain ⟨e1, _, e3⟩ := interp_ret I1
      simp only [Option.some.injEq, SV.cv.injEq, CV.ag.injEq] at e1
      subst e1; subst e3
      exact hset _ _ _ M1 X1 R1 h
    · cases h
  · cases h
def ownSt (p : Pl) (j id e e2 : Nat) (s : St V.E) : Option (St V.E) :=
  match getPl s p, look id s.boxes with
  | some (ag, ls), none => match ls[j]? with
    | some (.sl t true []) =>
      match e2, t with
      | 0, t => setPl s (put id (.arr e t [] 0 false) s.boxes) p ag (ls.set j (.ar id 0))
      | e2, .sl t => setPl s (put id (.rows e e2 t [] 0 0 .opn) s.boxes) p ag (ls.set j (.ar id 0))
      | _, _ => none
    | _ => none
  | _, _ => none
theorem All2.set {α β : Type} {R : α → β → Prop} {l : List α} {m : List β} (h : All2 R l m) : ∀ {i : Nat} {x : α}, (∀ y, m[i]? = some y → R x y) → All2 R (l.set i x) m := by
  induction h with
  | nil => intro i x _; exact .nil
  | cons h t ih =>
    intro i x hx
    cases i with
    | zero => exact .cons (hx _ (by simp)) t
    | succ i => exact .cons h (ih fun y hy => hx y (by simpa using hy))
theorem own_st_ok {p : Pl} {j id e e2 : Nat} {s s' : St V.E} (h : ownSt p j id e e2 s = some s') {a : Act} {w : World} (S : Sim V C s a w) : Sim V C s' a w := by
  obtain ⟨β, S⟩ := S
  unfold ownSt at h
  split at h
  · rename_i ag ls hp hid
    obtain ⟨vs, hR, hset⟩ := setPl_ok (s' := s') S hp
    split at h
    · rename_i t hj
      obtain ⟨v, hv, hr⟩ := hR.get j _ hj
      simp only [LeafRep, SlRep, AVRep] at hr
      obtain ⟨ad, cap, hvv, _, hcap, hst, _⟩ := hr
      have had : ad = none := hst trivial rfl
      subst had
      have hcap := hcap rfl
      subst hcap
      have hvv : v = .slice none 0 0 := by simpa using hvv
      have key : ∀ b : Box V.E, (∀ bx1 β1 ok1, β1 id = { β id with hdr := .slice none 0 0, own := [], rows := [] } → BoxRep V.T bx1 β1 ok1 w id b) → ((∃ e t, b = .arr e t [] 0 false) ∨ (∃ e e2 t, b = .rows e e2 t [] 0 0 .opn)) →
          setPl s (put id b s.boxes) p ag (ls.set j (.ar id 0)) = some s' → Sim V C s' a w := by
        intro b hb hb' hs
        obtain ⟨M, X⟩ := S.mem.set (w' := w) id b { β id with hdr := .slice none 0 0, own := [], rows := [] } rfl rfl rfl (Nat.le_refl _) (fun _ _ _ => rfl) (fun x hx => by simp at hx) (by simp)
          (fun b0 h0 => by rw [hid] at h0; cases h0) (fun _ => hb _ _ _ (upd_same _ _ _))
        refine hset _ _ _ M X ?_ hs
        refine (All2.ext X hR).set fun y hy => ?_
        rw [hv] at hy; cases hy
        rw [hvv]
        simp only [LeafRep, look_put_same, upd_same]
        refine ⟨rfl, ?_⟩
        rcases hb' with ⟨e, t, rfl⟩ | ⟨e, e2, t, rfl⟩ <;> exact ⟨Nat.le_refl _, fun _ => by first | rfl | trivial⟩
      split at h
      · refine key _ (fun bx1 β1 ok1 hβ => ?_) (.inl ⟨_, _, rfl⟩) h
        simp only [BoxRep, ArrOwn]
        rw [hβ]
        exact ⟨rfl, [], ⟨by simp, .inl ⟨rfl, rfl⟩⟩, .nil⟩
      · refine key _ (fun bx1 β1 ok1 hβ => ?_) (.inr ⟨_, _, _, rfl⟩) h
        simp only [BoxRep, RowsOwn]
        rw [hβ]
        exact ⟨⟨by simp, .inl ⟨rfl, rfl⟩⟩, rfl, .nil⟩
      · cases h
    · cases h
  · cases h
def stL {E : Nat → Type} : List (Leaf E) → List (Leaf E)
  | [] => []
  | .sl t _ xs :: r => .sl t false xs :: stL r
  | l :: r => l :: stL r
def stSt (p : Pl) (s : St V.E) : Option (St V.E) :=
  match getPl s p with
  | some (ag, ls) => setPl s s.boxes p ag (stL ls)
  | none => none
theorem stL_rep {bx : List (Nat × Box V.E)} {β : Nat → BI} {ok : Nat → Prop} {w : World} : ∀ {ls : List (Leaf V.E)} {vs : List Value}, All2 (LeafRep V.T bx β ok w) ls vs → All2 (LeafRep V.T bx β ok w) (stL ls) vs
  | [], _, .nil => .nil
  | l :: ls, _, .cons h t => by
    unfold stL
    split
    · rename_i heq; cases heq
    · rename_i heq; cases heq
      exact .cons (coe_rep (.inr ⟨_, _, false, _, rfl, rfl, fun h => by cases h⟩) h) (stL_rep t)
    · rename_i heq; cases heq; exact .cons h (stL_rep t)
theorem st_ok {p : Pl} {s s' : St V.E} (h : stSt p s = some s') {a : Act} {w : World} (S : Sim V C s a w) : Sim V C s' a w := by
  obtain ⟨β, S⟩ := S
  unfold stSt at h
  split at h
  · rename_i ag ls hp
    obtain ⟨vs, hR, hset⟩ := setPl_ok (s' := s') S hp
    exact hset _ _ _ S.mem (Ext.refl _ _ _ _ _) (stL_rep hR) h
  · cases h
def neSt (p : Pl) (j : Nat) (s : St V.E) : Option (St V.E × List Cd) :=
  match getPl s p with
  | some (ag, ls) => match ls[j]? with
    | some (.sl t _ xs) => match setPl s s.boxes p ag (ls.set j (.sl t true xs)) with
      | some s' => some (s', [cd (xs ≠ [])])
      | none => none
    | _ => none
  | none => none
theorem ne_ok {p : Pl} {j : Nat} {s s' : St V.E} {cs : List Cd} (h : neSt p j s = some (s', cs)) (hc : AllP cs) {a : Act} {w : World} (S : Sim V C s a w) : Sim V C s' a w := by
  obtain ⟨β, S⟩ := S
  unfold neSt at h
  split at h
  · rename_i ag ls hp
    split at h
    · rename_i t st xs hj
      split at h
      · rename_i s1 hs
        cases h
        obtain ⟨vs, hR, hset⟩ := setPl_ok (s' := s') S hp
        refine hset _ _ _ S.mem (Ext.refl _ _ _ _ _) (hR.set fun y hy => ?_) hs
        obtain ⟨v, hv, hr⟩ := hR.get j _ hj
        rw [hv] at hy; cases hy
        exact coe_rep (bx := s.boxes) (β := β) (.inr ⟨t, st, true, xs, rfl, rfl, fun _ => .inr hc.1⟩) hr
      · cases h
    · cases h
  · cases h
def otherL {E : Nat → Type} (id id' : Nat) (l : Leaf E) : Option (Leaf E) := if noneIn (leafIds l) [id, id'] then some l else none
def reL {E : Nat → Type} (id cur crv id' nv : Nat) : Leaf E → Option (Leaf E)
  | .ar i ver => if Nat.beq i id && Nat.beq ver cur then some (.ar id' nv) else otherL id id' (.ar i ver)
  | .row i ver rv j => if Nat.beq i id && Nat.beq ver cur && Nat.beq rv crv then some (.row id' nv 0 j) else otherL id id' (.row i ver rv j)
  | .ptr i off => if Nat.beq i id then some (.ptr id' off) else otherL id id' (.ptr i off)
  | l => otherL id id' l
def reBox {E : Nat → Type} (nv : Nat) : Box E → Option (Box E × Nat × Nat)
  | .cells ls => some (.cells ls, 0, 0)
  | .arr e t xs v fz => some (.arr e t xs nv fz, v, 0)
  | .rows e e2 t xss v rv fz => some (.rows e e2 t xss nv 0 fz, v, rv)
  | .map .. => none
  | .gone => none
def delL {α : Type} (k : Nat) : List (Nat × α) → List (Nat × α)
  | [] => []
  | (j, x) :: r => if Nat.beq j k then delL k r else (j, x) :: delL k r
theorem look_del {α : Type} (k j : Nat) : ∀ l : List (Nat × α), look j (delL k l) = if j = k then none else look j l
  | [] => by simp [delL, look]
  | (i, x) :: r => by
    unfold delL
    by_cases hi : Nat.beq i k = true
    · have := eq_of_beq' hi; subst this
      simp only [hi, if_true]
      rw [look_del i j r]
      by_cases hj : j = i
      · simp [hj]
      · simp only [hj, if_false]
        show look j r = if Nat.beq i j then some x else look j r
        rw [beq_of_ne (Ne.symm hj)]
        rfl
    · simp only [hi, Bool.false_eq_true, if_false]
      unfold look
      by_cases hij : Nat.beq i j = true
      · have := eq_of_beq' hij; subst this
        have hne : i ≠ k := fun e => hi (by rw [e]; simp)
        simp [hne]
      · simp only [hij, Bool.false_eq_true, if_false]; exact look_del k j r
def reSt (id id' nv : Nat) (s : St V.E) : Option (St V.E) :=
  match look id s.boxes with
  | some b => match reBox nv b with
    | some (b', cur, crv) =>
      if Nat.beq id id' || (look id' s.boxes).isNone then
        if sortedB s.slots then
          match mapBoxes (reL id cur crv id' nv) (put id' b' (delL id s.boxes)) with
          | some bx => some ⟨s.n, mapSlots (reL id cur crv id' nv) s.slots, bx⟩
          | none => none
        else none
      else none
    | none => none
  | none => none
end
end Go.Ab
