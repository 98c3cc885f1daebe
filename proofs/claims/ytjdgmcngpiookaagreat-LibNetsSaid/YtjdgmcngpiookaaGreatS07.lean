/- A region whose order is drawn: the order as it stands in the text tells them all, where whatever touches is bound. A region whose order is drawn, told by the order as it stands. An abstract state told anew: less of it, other numbers, slices that nobody writes any more. Conditions: none beyond those that each theorem names. -/
import Derived.Test.YtjdgmcngpiookaaGreatS06
namespace Go.Ab
open Go
section
variable {V : Env} {P : Program} {C : Ctx}
def W6 {α : Type} (l m : List (Nat × α)) : Prop := ∀ k, A6 k l = A6 k m
theorem W6.put {α : Type} {l m : List (Nat × α)} (h : W6 l m) (k : Nat) (x : α) : W6 (put k x l) (put k x m) := by
 intro j
 by_cases hj : j = k
 · subst hj; rw [A2, A2]
 · rw [A4 hj, A4 hj]; exact h j
theorem W6.comm {α : Type} (l : List (Nat × α)) {j k : Nat} (x y : α) (h : j ≠ k) : W6 (Ab.put j x (Ab.put k y l)) (Ab.put k y (Ab.put j x l)) := by
 intro i
 by_cases hij : i = j
 · subst hij; rw [A2, A4 h, A2]
 · by_cases hik : i = k
   · subst hik; rw [A4 hij, A2, A2]
   · rw [A4 hij, A4 hik, A4 hik, A4 hij]
structure Qa (s t : St V.E) : Prop where
 n : s.n = t.n
 slots : W6 s.slots t.slots
 boxes : W6 s.boxes t.boxes
theorem Qa.refl (s : St V.E) : Qa s s := ⟨rfl, λ _ => rfl, λ _ => rfl⟩
theorem Qa.symm {s t : St V.E} (h : Qa s t) : Qa t s := ⟨h.n.symm, λ k => (h.slots k).symm, λ k => (h.boxes k).symm⟩
theorem Qa.trans {s t u : St V.E} (h : Qa s t) (k : Qa t u) : Qa s u := ⟨h.n.trans k.n, λ i => (h.slots i).trans (k.slots i), λ i => (h.boxes i).trans (k.boxes i)⟩
theorem Qo : ∀ (t : Er V.E) (bs bs' : List (Nat × Box V.E)) (rs ws : List Nat) {res : Option (SV V.E)} {c : List Prop} {b1 : List (Nat × Box V.E)} {ac : Acc},
   Aj V bs t rs ws = some (res, c, b1, ac) -> (∀ id ∈ ac.reads, id ∉ ws -> A6 id bs = A6 id bs') -> (∀ id ∈ ws, A6 id bs = A6 id bs') ->
   ∃ b1', Aj V bs' t rs ws = some (res, c, b1', ac) /\ (∀ id ∈ ac.writes, A6 id b1' = A6 id b1) /\ (∀ id, id ∉ ac.writes -> A6 id b1' = A6 id bs' /\ A6 id b1 = A6 id bs) /\ (∀ id ∈ ws, id ∈ ac.writes) /\ (∀ id ∈ rs, id ∈ ac.reads)
 | .fail, bs, bs', rs, ws, res, c, b1, ac, h, _, _ => by simp [Aj] at h
 | .ret v c0, bs, bs', rs, ws, res, c, b1, ac, h, hr, hw => by
   simp only [Aj, Option.some.injEq, Prod.mk.injEq] at h
   obtain ⟨rfl, rfl, rfl, rfl⟩ := h
   exact ⟨bs', rfl, λ id hid => (hw id hid).symm, λ id _ => ⟨rfl, rfl⟩, λ id h => h, λ id h => h⟩
 | .read i k, bs, bs', rs, ws, res, c, b1, ac, h, hr, hw => by
   simp only [Aj] at h ⊢
   obtain ⟨b2, e1, e2, e3, e4, e5⟩ := Qo (k (A6 i bs)) bs bs' (i :: rs) ws h hr hw
   have hi : A6 i bs = A6 i bs' := by
     by_cases hiw : i ∈ ws
     · exact hw i hiw
     · exact hr i (e5 i (by simp)) hiw
   rw [hi] at e1
   exact ⟨b2, e1, e2, e3, e4, λ id hid => e5 id (by simp [hid])⟩
 | .write i b k, bs, bs', rs, ws, res, c, b1, ac, h, hr, hw => by
   simp only [Aj] at h ⊢
   obtain ⟨b2, e1, e2, e3, e4, e5⟩ := Qo k (put i b bs) (put i b bs') rs (i :: ws) h
     (λ id hid hn => by
       simp only [List.mem_cons, not_or] at hn
       rw [A4 hn.1, A4 hn.1]; exact hr id hid hn.2)
     (λ id hid => by
       by_cases e : id = i
       · subst e; rw [A2, A2]
       · rw [A4 e, A4 e]
         exact hw id (by simpa [e] using hid))
   refine ⟨b2, e1, e2, λ id hid => ?_, λ id hid => e4 id (by simp [hid]), e5⟩
   have hne : id ≠ i := by rintro rfl; exact hid (e4 id (by simp))
   have := e3 id hid
   rw [A4 hne, A4 hne] at this
   exact this
theorem Aa4 {s s' : St V.E} {t : TypeId} {x : Operand} (h : ∀ k, x = .tmp k -> slot V s k = slot V s' k) : Aha V s t x = Aha V s' t x := by
 cases x with
 | tmp k => exact h k rfl
 | _ => rfl
theorem S0 {s s' : St V.E} : ∀ {xs : List Operand} {ts : List TypeId}, (∀ k, Operand.tmp k ∈ xs -> slot V s k = slot V s' k) -> Og V s ts xs = Og V s' ts xs
 | [], ts, _ => by cases ts <;> rfl
 | x :: xs, [], h => by
   simp only [Og]
   rw [Aa4 (s' := s') λ k hk => h k (by simp [hk]), S0 λ k hk => h k (by simp [hk])]
 | x :: xs, t :: ts, h => by
   simp only [Og]
   rw [Aa4 (s' := s') λ k hk => h k (by simp [hk]), S0 λ k hk => h k (by simp [hk])]
theorem Aaq {s s' : St V.E} {k : Nat} (h : A6 k s.slots = A6 k s'.slots) : slot V s k = slot V s' k := by unfold slot; rw [h]
theorem Aih {ops : Array Oper} {s s' : St V.E} {q : Ut V} {o : Oper} (h : ∀ k ∈ o.looksAt ops, slot V s k = slot V s' k) : Abh V ops.toList s q o = Abh V ops.toList s' q o := by
 unfold Abh
 cases hg : o.guard with
 | none => rfl
 | some jw =>
   obtain ⟨j, want⟩ := jw
   simp only
   cases hd : (ops.toList[j]?).bind (·.dst) with
   | none => rfl
   | some d =>
     simp only
     rw [Array.getElem?_toList] at hd
     rw [h d (by simp [Oper.looksAt, hg, hd])]
theorem Rg {ops : Array Oper} {i : Nat} {o : Oper} {q : Ut V} {s s' s1 : St V.E} {c : List Prop} {ac : Acc} (h : Ail V ops.toList i o q s = some (s1, c, ac)) (hn : s.n = s'.n)
   (hs : ∀ k ∈ o.looksAt ops, A6 k s.slots = A6 k s'.slots) (hb : ∀ id ∈ ac.reads, A6 id s.boxes = A6 id s'.boxes) :
   ∃ s1', Ail V ops.toList i o q s' = some (s1', c, ac) /\ s1.n = s.n /\ s1'.n = s'.n /\
     (∃ v, s1.slots = Mc V o.dst v s.slots /\ s1'.slots = Mc V o.dst v s'.slots) /\
     (∀ id ∈ ac.writes, A6 id s1'.boxes = A6 id s1.boxes) /\ (∀ id, id ∉ ac.writes -> A6 id s1'.boxes = A6 id s'.boxes /\ A6 id s1.boxes = A6 id s.boxes) := by
 have hsl : ∀ k ∈ o.looksAt ops, slot V s k = slot V s' k := λ k hk => Aaq (hs k hk)
 unfold Ail at h ⊢
 rw [<- hn]
 split at h
 · rw [Aih hsl] at h
   split at h
   · cases h
   · rename_i c0 hw
     cases h
     exact ⟨_, rfl, rfl, rfl, ⟨some (.tup []), rfl, rfl⟩, (λ id hid => by simp at hid), (λ id _ => ⟨rfl, rfl⟩)⟩
   · rename_i c0 hw
     have hop : Og V s (M7 V o) o.op.operands.toList = Og V s' (M7 V o) o.op.operands.toList :=
       S0 λ k hk => hsl k (List.mem_append_left _ (List.mem_filterMap.2 ⟨.tmp k, hk, rfl⟩))
     rw [hop] at h
     split at h
     · rename_i v c' bs acc hrun
       cases h
       obtain ⟨b1', e1, e2, e3, _, _⟩ := Qo _ s.boxes s'.boxes [] [] hrun (λ id hid _ => hb id hid) (λ id hid => by simp at hid)
       rw [e1]
       exact ⟨_, rfl, rfl, rfl, ⟨v, rfl, rfl⟩, e2, e3⟩
     · cases h
 · cases h
inductive Y4 (V : Env) (ops : Array Oper) (q : Ut V) (ac : Nat -> Acc) : List Nat -> St V.E -> St V.E -> Prop where
 | nil {s} : Y4 V ops q ac [] s s
 | cons {i o L s s1 s2 c} : ops[i]? = some o -> Ail V ops.toList i o q s = some (s1, c, ac i) -> Gw c -> Y4 V ops q ac L s1 s2 -> Y4 V ops q ac (i :: L) s s2
theorem Vt {d : Option Tmp} {v : Option (SV V.E)} {l m : List (Nat × Option (SV V.E))} (h : W6 l m) : W6 (Mc V d v l) (Mc V d v m) := by
 cases d with
 | none => exact h
 | some d => exact h.put d v
theorem Vy {d : Option Tmp} {v : Option (SV V.E)} {l : List (Nat × Option (SV V.E))} {k : Nat} (h : d ≠ some k) : A6 k (Mc V d v l) = A6 k l := by
 cases d with
 | none => rfl
 | some d => exact A4 (λ e => h (by rw [e])) _ _
theorem Yr {ops : Array Oper} {q : Ut V} {ac : Nat -> Acc} : ∀ {L : List Nat} {s s2 t : St V.E}, Y4 V ops q ac L s s2 -> Qa s t -> ∃ t2, Y4 V ops q ac L t t2 /\ Qa s2 t2
 | _, _, _, t, .nil, e => ⟨t, .nil, e⟩
 | _, s, _, t, .cons (i := i) (s1 := s1) ho h hc r, e => by
   obtain ⟨t1, h1, n1, n2, ⟨v, e1, e2⟩, e3, e4⟩ := Rg h e.n (λ k _ => e.slots k) (λ id _ => e.boxes id)
   have e' : Qa s1 t1 := by
     refine ⟨by rw [n1, n2]; exact e.n, ?_, λ id => ?_⟩
     · rw [e1, e2]; exact Vt e.slots
     · by_cases hid : id ∈ (ac i).writes
       · exact (e3 id hid).symm
       · rw [(e4 id hid).1, (e4 id hid).2]; exact e.boxes id
   obtain ⟨t2, r2, e2⟩ := Yr r e'
   exact ⟨t2, .cons ho h1 hc r2, e2⟩
def Qg (a b : Acc) : Prop := (∀ id ∈ a.writes, id ∉ b.reads /\ id ∉ b.writes) /\ (∀ id ∈ b.writes, id ∉ a.reads)
theorem Any {ops : Array Oper} {q : Ut V} {ac : Nat -> Acc} {i j : Nat} {oi oj : Oper} (hi : ops[i]? = some oi) (hj : ops[j]? = some oj) (hap : oi.apart ops oj = true) (hac : Qg (ac i) (ac j)) {L : List Nat} {s s2 : St V.E}
   (r : Y4 V ops q ac (i :: j :: L) s s2) : ∃ t2, Y4 V ops q ac (j :: i :: L) s t2 /\ Qa s2 t2 := by
 obtain ⟨p1, p2, p3⟩ := Oper.apart_spec hap
 cases r with
 | cons ho h hc r =>
   rename_i o s1 c
   rw [hi] at ho; cases ho
   cases r with
   | cons ho' h' hc' r =>
     rename_i o' s3 c'
     rw [hj] at ho'; cases ho'
     obtain ⟨_, _, n1, _, ⟨v, e1, _⟩, _, e4⟩ := Rg h rfl (λ _ _ => rfl) (λ _ _ => rfl)
     -- j first
     obtain ⟨t1, g1, m1, m2, ⟨u, f1, f2⟩, f3, f4⟩ := Rg (s' := s) h' n1
       (λ k hk => by rw [e1]; exact Vy λ e => p1 k e hk)
       (λ id hid => (e4 id λ hw => (hac.1 id hw).1 hid).2)
     -- then i
     obtain ⟨t2, g2, m3, m4, ⟨v', f5, f6⟩, f7, f8⟩ := Rg (s' := t1) h m2.symm
       (λ k hk => by rw [f2]; exact (Vy λ e => p3 k e hk).symm)
       (λ id hid => ((f4 id λ hw => hac.2 id hw hid).1).symm)
     have e : Qa s3 t2 := by
       refine ⟨by rw [m1, n1, m4, m2], ?_, λ id => ?_⟩
       · rw [f1, e1, f6, f2]
         have hv : W6 (Mc V oi.dst v s.slots) (Mc V oi.dst v' s.slots) := by
           rw [<- e1, <- f5]; exact λ _ => rfl
         intro k
         have h1 := Vt (d := oj.dst) (v := u) hv k
         rw [h1]
         cases hdi : oi.dst with
         | none => rfl
         | some d =>
           cases hdj : oj.dst with
           | none => rfl
           | some d' =>
             have hne : d' ≠ d := λ e => p2 d hdi (by rw [hdj, e])
             exact W6.comm _ _ _ hne k
       · by_cases hiw : id ∈ (ac i).writes
         · rw [f7 id hiw, (f4 id (hac.1 id hiw).2).2]
         · rw [(f8 id hiw).1]
           by_cases hjw : id ∈ (ac j).writes
           · exact (f3 id hjw).symm
           · rw [(f4 id hjw).1, (f4 id hjw).2, (e4 id hiw).2]
     obtain ⟨t3, r3, e3⟩ := Yr r e
     exact ⟨t3, .cons hj g1 hc' (.cons hi g2 hc r3), e3⟩
theorem Vn {ops : Array Oper} {q : Ut V} {ac : Nat -> Acc} {i : Nat} {oi : Oper} (hi : ops[i]? = some oi) : ∀ {L1 L2 : List Nat} {s s2 : St V.E},
   (∀ j ∈ L1, ∃ oj, ops[j]? = some oj /\ oj.apart ops oi = true /\ Qg (ac j) (ac i)) -> Y4 V ops q ac (L1 ++ i :: L2) s s2 -> ∃ t2, Y4 V ops q ac (i :: (L1 ++ L2)) s t2 /\ Qa s2 t2
 | [], L2, s, s2, _, r => ⟨s2, r, .refl _⟩
 | j :: L1, L2, s, s2, h, r => by
   cases r with
   | cons ho hh hc r =>
     obtain ⟨t2, r1, e1⟩ := Vn hi (λ k hk => h k (by simp [hk])) r
     obtain ⟨oj, hoj, h1, h2⟩ := h j (by simp)
     obtain ⟨t3, r2, e2⟩ := Any hoj hi h1 h2 (.cons ho hh hc r1)
     exact ⟨t3, r2, e1.trans e2⟩
end
section
variable {V : Env} {P : Program} {C : Ctx}
theorem Sim.same {s t : St V.E} {a : Act} {w : World} (S : Sim V C s a w) (e : Qa s t) : Sim V C t a w := by
 obtain ⟨β, S⟩ := S
 obtain ⟨M, X⟩ := S.mem.step (bx' := t.boxes) (β' := β) (w' := w) (λ _ => False) rfl rfl rfl (Nat.le_refl _) (λ j _ => ⟨rfl, (e.boxes j).symm⟩) (λ _ _ _ => rfl) (λ j h => h.elim) (λ j h => h.elim)
   (λ j _ _ h => h.elim) (λ j h => h.elim) (λ j _ h => h.elim) (λ _ j _ h => h.elim)
 exact ⟨β, by rw [S.size, e.n], S.defers, λ k x hk => Bb.ext X (S.slots k x ((Aaq (e.slots k)).trans hk)), M⟩
def Nn : Nat -> List Nat -> Bool
 | _, [] => false
 | k, x :: xs => Nat.beq x k || Nn k xs
def Sv : List Nat -> List Nat -> Bool
 | [], _ => true
 | x :: xs, l => !(Nn x l) && Sv xs l
def U2 (a b : Acc) : Bool := Sv a.writes b.reads && Sv a.writes b.writes && Sv b.writes a.reads
theorem Ac2 {k : Nat} : ∀ {l : List Nat}, k ∈ l -> Nn k l = true
 | x :: xs, h => by
   unfold Nn
   rcases List.mem_cons.1 h with rfl | h
   · simp
   · rw [Ac2 h]; simp
theorem Ns : ∀ {l m : List Nat}, Sv l m = true -> ∀ k ∈ l, k ∉ m
 | x :: xs, m, h, k, hk, hm => by
   unfold Sv at h
   simp only [Bool.and_eq_true, Bool.not_eq_true'] at h
   rcases List.mem_cons.1 hk with rfl | hk
   · rw [Ac2 hm] at h; exact Bool.noConfusion h.1
   · exact Ns h.2 k hk hm
theorem Ad9 {a b : Acc} (h : U2 a b = true) : Qg a b := by
 unfold U2 at h
 simp only [Bool.and_eq_true] at h
 exact ⟨λ id hid => ⟨Ns h.1.1 id hid, Ns h.1.2 id hid⟩, λ id hid => Ns h.2 id hid⟩
def Arj (masks : List Nat) (o : Oper) : Nat :=
 o.after.toList.foldl (λ m e => if Region.binds .any e then m ||| ((1 <<< e.on) ||| masks.getD e.on 0) else m) 0
def Wh : List Oper -> List Nat -> List Nat
 | [], ms => ms
 | o :: os, ms => Wh os (ms ++ [Arj ms o])
def Ami : Nat -> List Oper -> Bool
 | _, [] => true
 | i, o :: os => o.after.toList.all (λ e => !Region.binds .any e || Nat.blt e.on i) && Ami (i + 1) os
def Aa2 (ops : Array Oper) (oi : Oper) (ai : Acc) (mi : Nat) : Nat -> List Oper -> List Acc -> Bool
 | _, [], _ => true
 | j, oj :: os, aj :: as => (mi.testBit j || (oj.apart ops oi && U2 aj ai)) && Aa2 ops oi ai mi (j + 1) os as
 | _, _ :: _, [] => false
def U3 (ops : Array Oper) (allO : List Oper) (allA : List Acc) : Nat -> List Oper -> List Acc -> List Nat -> Bool
 | _, [], _, _ => true
 | i, o :: os, a :: as, m :: ms => Aa2 ops o a m 0 (allO.take i) (allA.take i) && U3 ops allO allA (i + 1) os as ms
 | _, _, _, _ => false
def Am9 (ops : Array Oper) (acs : List Acc) : Bool :=
 Ami 0 ops.toList && U3 ops ops.toList acs 0 ops.toList acs (Wh ops.toList [])
inductive T5 (ops : Array Oper) (j : Nat) : Nat -> Prop where
 | one {i o e} : ops[i]? = some o -> e ∈ o.after -> Region.binds .any e = true -> e.on = j -> T5 ops j i
 | more {i o e} : ops[i]? = some o -> e ∈ o.after -> Region.binds .any e = true -> T5 ops j e.on -> T5 ops j i
def Air (ops : Array Oper) (ms : List Nat) : Prop := ∀ i j, (ms.getD i 0).testBit j = true -> T5 ops j i
theorem Aof {ops : Array Oper} {ms : List Nat} (hm : Air ops ms) {i : Nat} {o : Oper} (ho : ops[i]? = some o) {j : Nat} (h : (Arj ms o).testBit j = true) : T5 ops j i := by
 unfold Arj at h
 have gen : ∀ (l : List Edge) (m : Nat), (∀ e ∈ l, e ∈ o.after) -> (m.testBit j = true -> T5 ops j i) ->
     (l.foldl (λ m e => if Region.binds .any e then m ||| ((1 <<< e.on) ||| ms.getD e.on 0) else m) m).testBit j = true -> T5 ops j i := by
   intro l
   induction l with
   | nil => intro m _ hm h; exact hm h
   | cons e l ih =>
     intro m hl h0 h
     simp only [List.foldl_cons] at h
     refine ih _ (λ e' he' => hl e' (by simp [he'])) ?_ h
     intro hb
     split at hb
     · rename_i hbind
       rw [Nat.testBit_or, Nat.testBit_or] at hb
       simp only [Bool.or_eq_true] at hb
       rcases hb with hb | hb | hb
       · exact h0 hb
       · rw [Nat.one_shiftLeft, Nat.testBit_two_pow] at hb
         exact .one ho (hl e (by simp)) hbind (by simpa using hb)
       · exact .more ho (hl e (by simp)) hbind (hm _ _ hb)
     · exact h0 hb
 exact gen _ 0 (λ e he => by simpa using he) (λ h => by simp at h) h
theorem Vk {ops : Array Oper} : ∀ (os : List Oper) (ms : List Nat), ops.toList.drop ms.length = os -> Air ops ms -> Air ops (Wh os ms)
 | [], ms, _, hm => hm
 | o :: os, ms, hd, hm => by
   unfold Wh
   have ho : ops[ms.length]? = some o := by
     have := congrArg (·[0]?) hd
     simpa using this
   refine Vk os _ ?_ ?_
   · have := congrArg List.tail hd
     simpa using this
   · intro i j h
     rw [List.getD_eq_getElem?_getD] at h
     rcases Nat.lt_trichotomy i ms.length with hl | he | hg
     · rw [List.getElem?_append_left hl] at h
       exact hm i j (by rw [List.getD_eq_getElem?_getD]; exact h)
     · subst he
       simp at h
       exact Aof hm ho h
     · rw [List.getElem?_eq_none (by simp; omega)] at h
       simp at h
theorem Awm {os : List Oper} : ∀ {i : Nat}, Ami i os = true -> ∀ k o, os[k]? = some o -> ∀ e ∈ o.after, Region.binds .any e = true -> e.on < i + k := by
 induction os with
 | nil => intro i _ k o hk; simp at hk
 | cons o os ih =>
   intro i h k o' hk e he hb
   unfold Ami at h
   simp only [Bool.and_eq_true, List.all_eq_true] at h
   cases k with
   | zero =>
     simp at hk; subst hk
     have := h.1 e (by simpa using he)
     rw [hb] at this
     exact (Nat.blt_eq).mp (by simpa using this)
   | succ k =>
     have := ih h.2 k o' (by simpa using hk) e he hb
     omega
theorem Aw6 {ops : Array Oper} {oi : Oper} {ai : Acc} {mi : Nat} {os : List Oper} : ∀ {as : List Acc} {j : Nat}, Aa2 ops oi ai mi j os as = true -> ∀ k oj, os[k]? = some oj ->
   ∃ aj, as[k]? = some aj /\ (mi.testBit (j + k) = true \/ (oj.apart ops oi = true /\ Qg aj ai)) := by
 induction os with
 | nil => intro as j _ k oj hk; simp at hk
 | cons o os ih =>
   intro as j h k oj hk
   cases as with
   | nil => simp [Aa2] at h
   | cons a as =>
     unfold Aa2 at h
     simp only [Bool.and_eq_true, Bool.or_eq_true] at h
     cases k with
     | zero =>
       simp at hk; subst hk
       refine ⟨a, by simp, ?_⟩
       rcases h.1 with h | h
       · exact .inl h
       · exact .inr ⟨h.1, Ad9 h.2⟩
     | succ k =>
       obtain ⟨aj, h1, h2⟩ := ih h.2 k oj (by simpa using hk)
       exact ⟨aj, by simpa using h1, by rw [show j + (k + 1) = j + 1 + k by omega]; exact h2⟩
theorem Att {ops : Array Oper} {allO : List Oper} {allA : List Acc} {os : List Oper} : ∀ {as : List Acc} {ms : List Nat} {i : Nat}, U3 ops allO allA i os as ms = true -> ∀ k o, os[k]? = some o ->
   ∃ a m, as[k]? = some a /\ ms[k]? = some m /\ Aa2 ops o a m 0 (allO.take (i + k)) (allA.take (i + k)) = true := by
 induction os with
 | nil => intro as ms i _ k oj hk; simp at hk
 | cons o os ih =>
   intro as ms i h k o' hk
   cases as with
   | nil => simp [U3] at h
   | cons a as =>
     cases ms with
     | nil => simp [U3] at h
     | cons m ms =>
       unfold U3 at h
       simp only [Bool.and_eq_true] at h
       cases k with
       | zero => simp at hk; subst hk; exact ⟨a, m, by simp, by simp, h.1⟩
       | succ k =>
         obtain ⟨a', m', h1, h2, h3⟩ := ih h.2 k o' (by simpa using hk)
         exact ⟨a', m', by simpa using h1, by simpa using h2, by rw [show i + (k + 1) = i + 1 + k by omega]; exact h3⟩
def Zw (acs : List Acc) (i : Nat) : Acc := acs.getD i ⟨[], []⟩
theorem Aq8 {ops : Array Oper} {acs : List Acc} (h : Am9 ops acs = true) : (∀ i o, ops[i]? = some o -> ∀ e ∈ o.after, Region.binds .any e = true -> e.on < i) /\
   ∀ i j oi oj, j < i -> ops[i]? = some oi -> ops[j]? = some oj -> T5 ops j i \/ (oj.apart ops oi = true /\ Qg (Zw acs j) (Zw acs i)) := by
 unfold Am9 at h
 simp only [Bool.and_eq_true] at h
 refine ⟨λ i o ho e he hb => ?_, λ i j oi oj hji hoi hoj => ?_⟩
 · have := Awm h.1 i o (by simpa using ho) e he hb
   simpa using this
 · obtain ⟨a, m, h1, h2, h3⟩ := Att h.2 i oi (by simpa using hoi)
   rw [Nat.zero_add] at h3
   obtain ⟨aj, h4, h5⟩ := Aw6 h3 j oj (by rw [List.getElem?_take]; simpa [hji] using hoj)
   rw [Nat.zero_add] at h5
   rw [List.getElem?_take] at h4
   simp only [hji, if_true] at h4
   have hm := Vk ops.toList [] rfl (ops := ops) (λ i j h => by simp at h)
   rcases h5 with h5 | h5
   · exact .inl (hm i j (by rw [List.getD_eq_getElem?_getD, h2]; exact h5))
   · refine .inr ?_
     have e1 : Zw acs i = a := by unfold Zw; rw [List.getD_eq_getElem?_getD, h1]; rfl
     have e2 : Zw acs j = aj := by unfold Zw; rw [List.getD_eq_getElem?_getD, h4]; rfl
     rw [e1, e2]; exact h5
def rem (n : Nat) (listed : Array Bool) : List Nat := (List.range n).filter λ i => !listed.getD i true
theorem Wr {n : Nat} {listed : Array Bool} {i : Nat} : i ∈ rem n listed ↔ i < n /\ listed.getD i true = false := by
 simp [rem]
theorem Y1 (n : Nat) (listed : Array Bool) : (rem n listed).Pairwise (· < ·) := List.Pairwise.filter _ List.pairwise_lt_range
theorem Pu {listed : Array Bool} {i : Nat} (h : i < listed.size) : listed.getD i true = listed.getD i false := by
 simp [Array.getD_eq_getD_getElem?, h]
def Aq7 (ops : Array Oper) (listed : Array Bool) : Prop := ∀ i o, ops[i]? = some o -> listed.getD i false = true -> ∀ e ∈ o.after, Region.binds .any e = true -> listed.getD e.on false = true
theorem Acn {ops : Array Oper} {listed : Array Bool} (hc : Aq7 ops listed) {j i : Nat} (h : T5 ops j i) : ∀ o, ops[i]? = some o -> (∀ e ∈ o.after, Region.binds .any e = true -> listed.getD e.on false = true) -> listed.getD j false = true := by
 induction h with
 | one ho he hb hj => intro o ho' hl; rw [ho] at ho'; cases ho'; rw [<- hj]; exact hl _ he hb
 | more ho he hb hr ih =>
   intro o ho' hl
   rw [ho] at ho'; cases ho'
   have hl' := hl _ he hb
   rename_i i o e
   cases hoe : ops[e.on]? with
   | some oe => exact ih oe hoe (hc e.on oe hoe hl')
   | none =>
     cases hr with
     | one ho2 _ _ _ => rw [hoe] at ho2; cases ho2
     | more ho2 _ _ _ => rw [hoe] at ho2; cases ho2
theorem A09 {n : Nat} {listed : Array Bool} {i : Nat} {L1 L2 : List Nat} (hi : i < listed.size) (h : rem n listed = L1 ++ i :: L2) : rem n (listed.setIfInBounds i true) = L1 ++ L2 := by
 have hs := Y1 n listed
 rw [h] at hs
 obtain ⟨p1, p2, p3⟩ := List.pairwise_append.1 hs
 have h1 : ∀ j ∈ L1, j ≠ i := λ j hj => Nat.ne_of_lt (p3 j hj i (by simp))
 have h2 : ∀ j ∈ L2, j ≠ i := λ j hj => Nat.ne_of_gt ((List.pairwise_cons.1 p2).1 j hj)
 have : rem n (listed.setIfInBounds i true) = (rem n listed).filter λ j => decide (j ≠ i) := by
   unfold rem
   rw [List.filter_filter]
   refine List.filter_congr λ j _ => ?_
   by_cases hji : j = i
   · subst hji
     simp [Array.getD_eq_getD_getElem?, hi]
   · rw [getD_set_ne true (Ne.symm hji)]
     simp [hji]
 rw [this, h, List.filter_append, List.filter_cons]
 simp only [ne_eq, not_true, decide_false, Bool.false_eq_true, if_false]
 rw [List.filter_eq_self.2 (λ j hj => by simpa using h1 j hj), List.filter_eq_self.2 (λ j hj => by simpa using h2 j hj)]
theorem Ap3 (G : Ay V P) {ops : Array Oper} {q : Ut V} {acs : List Acc} (hB : Am9 ops acs = true) {Q : Exit -> Act -> World -> Prop} {sf : St V.E} (hQ : ∀ a w, Sim V C sf a w -> Q .normal a w) :
   ∀ (fuel : Nat) (listed : Array Bool) (a : Act) (w : World) (s s2 : St V.E), listed.size = ops.size -> (rem ops.size listed).length = fuel -> Aq7 ops listed -> Sim V C s a w ->
     Y4 V ops q (Zw acs) (rem ops.size listed) s s2 -> Qa s2 sf -> wpAny P .any ops Q fuel listed a w
 | 0, listed, a, w, s, s2, hsz, hlen, hcl, S, r, e => by
   have hnil : rem ops.size listed = [] := by simpa using hlen
   rw [hnil] at r
   cases r
   refine ⟨?_, hQ _ _ (S.same e)⟩
   cases hr : Region.ready .any ops listed with
   | nil => rfl
   | cons j js =>
     have hj : j ∈ Region.ready .any ops listed := by rw [hr]; simp
     obtain ⟨h1, o, h2, _⟩ := mem_ready.1 hj
     have : j ∈ rem ops.size listed := Wr.2 ⟨(Array.getElem?_eq_some_iff.1 h2).1, h1⟩
     rw [hnil] at this; cases this
 | fuel + 1, listed, a, w, s, s2, hsz, hlen, hcl, S, r, e => by
   obtain ⟨hback, hpair⟩ := Aq8 hB
   refine ⟨λ h0 => ?_, λ i hi => ?_⟩
   · exfalso
     have key : ∀ i, i < ops.size -> listed.getD i true = false -> ∃ k, k ∈ Region.ready .any ops listed := by
       intro i
       induction i using Nat.strongRecOn with
       | _ i ih =>
         intro hi hu
         have ho : ops[i]? = some ops[i] := by simp [hi]
         by_cases hall : ∀ e ∈ ops[i].after, Region.binds .any e = true -> listed.getD e.on false = true
         · exact ⟨i, mem_ready.2 ⟨hu, _, ho, hall⟩⟩
         · have : ∃ e, e ∈ ops[i].after /\ Region.binds .any e = true /\ listed.getD e.on false ≠ true := by
             refine Classical.byContradiction λ hno => hall λ e he hb => Classical.byContradiction λ hl => hno ⟨e, he, hb, hl⟩
           obtain ⟨e, he, hb, hl⟩ := this
           have hlt := hback i _ ho e he hb
           have : e.on < listed.size := by omega
           exact ih e.on hlt (by omega) (by rw [Pu this]; simpa using hl)
     cases hrem : rem ops.size listed with
     | nil => rw [hrem] at hlen; simp at hlen
     | cons i L =>
       have : i ∈ rem ops.size listed := by rw [hrem]; simp
       obtain ⟨h1, h2⟩ := Wr.1 this
       obtain ⟨k, hk⟩ := key i h1 h2
       rw [h0] at hk; cases hk
   · obtain ⟨hu, oi, hoi, hpre⟩ := mem_ready.1 hi
     have hlt : i < ops.size := (Array.getElem?_eq_some_iff.1 hoi).1
     have hmem : i ∈ rem ops.size listed := Wr.2 ⟨hlt, hu⟩
     obtain ⟨L1, L2, hL⟩ := List.append_of_mem hmem
     have hs := Y1 ops.size listed
     rw [hL] at hs r
     have hlt1 : ∀ j ∈ L1, j < i := λ j hj => (List.pairwise_append.1 hs).2.2 j hj i (by simp)
     obtain ⟨t2, r2, e2⟩ := Vn hoi (λ j hj => by
       have hjm : j ∈ rem ops.size listed := by rw [hL]; simp [hj]
       obtain ⟨hj1, hj2⟩ := Wr.1 hjm
       have hoj : ops[j]? = some ops[j] := by simp [hj1]
       refine ⟨_, hoj, ?_⟩
       rcases hpair i j oi _ (hlt1 j hj) hoi hoj with hr | hr
       · have := Acn hcl hr oi hoi hpre
         rw [Pu (by omega), this] at hj2
         cases hj2
       · exact hr) r
     cases r2 with
     | cons ho hev hc r3 =>
       rename_i o s1 c
       refine Ajj G ho S hev hc λ a' w' S' => ?_
       have hset := A09 (n := ops.size) (listed := listed) (i := i) (by omega) hL
       refine Ap3 G hB hQ fuel _ a' w' s1 t2 (by simpa using hsz) ?_ ?_ S' (by rw [hset]; exact r3) (e2.symm.trans e)
       · rw [hset]
         rw [hL] at hlen
         simp at hlen ⊢
         omega
       · intro k ok hk hlk e' he' hb'
         by_cases hki : k = i
         · subst hki
           rw [hoi] at hk; cases hk
           exact getD_set_true (hpre e' he' hb')
         · have hlk' : listed.getD k false = true := by
             rw [getD_set_ne false (Ne.symm hki)] at hlk; exact hlk
           exact getD_set_true (hcl k ok hk hlk' e' he' hb')
theorem Ak4 {ops : Array Oper} {q : Ut V} {allA : List Acc} : ∀ (os : List Oper) (i : Nat) (s s' : St V.E) (cs : List Prop) (acs : List Acc), ops.toList.drop i = os -> allA.drop i = acs -> Tv V ops.toList q i os s = some (s', cs, acs) -> Gw cs ->
   Y4 V ops q (Zw allA) ((List.range ops.size).drop i) s s'
 | [], i, s, s', cs, acs, hi, ha, h, hc => by
   simp only [Tv, Option.some.injEq, Prod.mk.injEq] at h
   obtain ⟨rfl, _, _⟩ := h
   have : ops.size <= i := by simpa using hi
   have hn : (List.range ops.size).drop i = [] := by simpa using this
   rw [hn]; exact .nil
 | o :: os, i, s, s', cs, acs, hi, ha, h, hc => by
   have hlt : i < ops.size := by
     rcases Nat.lt_or_ge i ops.size with h | h
     · exact h
     · have : ops.toList.drop i = [] := by simpa using h
       rw [this] at hi; cases hi
   have hn : (List.range ops.size).drop i = i :: (List.range ops.size).drop (i + 1) := by
     rw [List.drop_eq_getElem_cons (by simpa using hlt)]; simp
   have ho : ops[i]? = some o := by
     have := congrArg (·[0]?) hi
     simpa using this
   have hi' : ops.toList.drop (i + 1) = os := by
     have := congrArg List.tail hi
     simpa using this
   rw [hn]
   simp only [Tv] at h
   split at h
   · rename_i s1 c1 a1 h1
     split at h
     · rename_i s2 c2 as h2
       cases h
       obtain ⟨hc1, hc2⟩ := Gw.append hc
       have ha1 : Zw allA i = a1 := by
         have := congrArg (·[0]?) ha
         unfold Zw
         rw [List.getD_eq_getElem?_getD]
         simp at this
         rw [this]; rfl
       have ha' : allA.drop (i + 1) = as := by
         have := congrArg List.tail ha
         simpa using this
       exact .cons ho (by rw [ha1]; exact h1) hc1 (Ak4 os (i + 1) s1 _ c2 as hi' ha' h2 hc2)
     · cases h
   · cases h
theorem Aoc (G : Ay V P) {id : Nat} {ops : Array Oper} {drawn : Bool} {q : Ut V} {Q : Exit -> Act -> World -> Prop} {s s' : St V.E} {cs : List Prop} {acs : List Acc} {a : Act} {w : World} (S : Sim V C s a w)
   (h : Tv V ops.toList q 0 ops.toList s = some (s', cs, acs)) (hc : Gw cs) (hd : drawn = true -> Am9 ops acs = true) (hQ : ∀ a' w', Sim V C s' a' w' -> Q .normal a' w') :
   (Code.region id ops drawn).wp P Q a w := by
 cases drawn with
 | false => exact wp_region (by simpa using Atu G ops.toList 0 rfl s s' cs acs a w S h hc hQ)
 | true =>
   have r := Ak4 (allA := acs) ops.toList 0 s s' cs acs rfl rfl h hc
   have hrem : rem ops.size (Array.replicate ops.size false) = List.range ops.size := by
     unfold rem
     rw [List.filter_eq_self]
     intro i hi
     simp only [List.mem_range] at hi
     simp [Array.getD_eq_getD_getElem?, hi]
   refine wp_region_any G.mixed (Ap3 G (hd rfl) hQ ops.size _ a _ s s' (by simp) (by rw [hrem]; simp) ?_ S.drew (by rw [hrem]; simpa using r) (.refl _))
   intro i o ho hl
   simp only [Array.getD_eq_getD_getElem?, Array.getElem?_replicate] at hl
   split at hl <;> simp at hl
end
section
variable {T : Tab} {C : Ctx} {bx bx' : List (Nat × Box T.E)} {β β' : Nat -> BI} {ok ok' : Nat -> Prop} {w w' : World}
mutual
def Hj {E : Nat -> Type} : A7 E -> List Nat
 | .ar id _ | .row id _ _ _ | .ptr id _ | .ep id _ _ _ | .rp id _ _ _ _ _ | .win id _ _ _ | .mp id => [id]
 | .bs ls => F3 ls
 | .clo _ ls => F3 ls
 | _ => []
def F3 {E : Nat -> Type} : List (A7 E) -> List Nat
 | [] => []
 | l :: ls => Hj l ++ F3 ls
end
def Y6 {E : Nat -> Type} (o o' : Option (Box E)) : Prop := o' = o \/ ∃ ls ls', o = some (.cells ls) /\ o' = some (.cells ls')
mutual
theorem Ak.agree (L : Fb ok w ok' w') : ∀ (l : A7 T.E) (v : Value), (∀ id ∈ Hj l, Y6 (A6 id bx) (A6 id bx') /\ β' id = β id) -> Ak T bx β ok w l v -> Ak T bx' β' ok' w' l v
 | .int _ _, _, _, h => h
 | .bool _, _, _, h => h
 | .str _, _, _, h => h
 | .sl t st xs, v, _, h => Br.later L _ _ h
 | .ar id ver, v, A, h => by
   obtain ⟨a1, a2⟩ := A id (by simp [Hj])
   simp only [Ak] at h ⊢; rw [a2]
   rcases a1 with a1 | ⟨ls, ls', a1, a3⟩
   · rw [a1]; exact h
   · rw [a1] at h; rw [a3]; exact h
 | .row id ver rv i, v, A, h => by
   obtain ⟨a1, a2⟩ := A id (by simp [Hj])
   simp only [Ak] at h ⊢; rw [a2]
   rcases a1 with a1 | ⟨ls, ls', a1, a3⟩
   · rw [a1]; exact h
   · rw [a1] at h; rw [a3]; exact h
 | .ptr id off, v, A, h => by
   obtain ⟨a1, a2⟩ := A id (by simp [Hj])
   simp only [Ak] at h ⊢; rw [a2]
   rcases a1 with a1 | ⟨ls, ls', a1, a3⟩
   · rw [a1]; exact h
   · rw [a1] at h; rw [a3]; exact h
 | .ep id ver i off, v, A, h => by
   obtain ⟨a1, a2⟩ := A id (by simp [Hj])
   simp only [Ak] at h ⊢; rw [a2]
   rcases a1 with a1 | ⟨ls, ls', a1, a3⟩
   · rw [a1]; exact h
   · rw [a1] at h; rw [a3]; exact h
 | .rp id ver rv i k off, v, A, h => by
   obtain ⟨a1, a2⟩ := A id (by simp [Hj])
   simp only [Ak] at h ⊢; rw [a2]
   rcases a1 with a1 | ⟨ls, ls', a1, a3⟩
   · rw [a1]; exact h
   · rw [a1] at h; rw [a3]; exact h
 | .win id ver i n, v, A, h => by
   obtain ⟨a1, a2⟩ := A id (by simp [Hj])
   simp only [Ak] at h ⊢; rw [a2]
   rcases a1 with a1 | ⟨ls, ls', a1, a3⟩
   · rw [a1]; exact h
   · rw [a1] at h; rw [a3]; exact h
 | .mp id, v, A, h => by
   obtain ⟨a1, a2⟩ := A id (by simp [Hj])
   simp only [Ak] at h ⊢; rw [a2]
   rcases a1 with a1 | ⟨ls, ls', a1, a3⟩
   · rw [a1]; exact h
   · rw [a1] at h; rw [a3]; exact h
 | .cp t x off, v, _, h => by
   simp only [Ak] at h ⊢
   obtain ⟨b, o, cs, h1, h2, h3⟩ := h
   exact ⟨b, o, cs, h1, Br.later L _ _ h2, h3.later L⟩
 | .bs ls, v, A, h => by
   simp only [Ak] at h ⊢
   obtain ⟨b, vs, c, e, h1, h2, h3, h4, h5⟩ := h
   exact ⟨b, vs, c, e, h1, L.may _ h2, by rw [L.heap _ h2]; exact h3, h4, Bx.agree L ls vs (λ id hid => A id (by simpa [Hj] using hid)) h5⟩
 | .clo f caps, v, A, h => by
   simp only [Ak] at h ⊢
   obtain ⟨vs, h1, h2⟩ := h
   exact ⟨vs, h1, Bx.agree L caps _ (λ id hid => A id (by simpa [Hj] using hid)) h2⟩
 | .nptr, _, _, h => h
 | .nfn, _, _, h => h
 | .nmp, _, _, h => h
theorem Bx.agree (L : Fb ok w ok' w') : ∀ (ls : List (A7 T.E)) (vs : List Value), (∀ id ∈ F3 ls, Y6 (A6 id bx) (A6 id bx') /\ β' id = β id) -> Bx T bx β ok w ls vs -> Bx T bx' β' ok' w' ls vs
 | [], _, _, h => h
 | l :: ls, vs, A, h => by
   simp only [Bx] at h ⊢
   obtain ⟨v, r, rfl, h1, h2⟩ := h
   exact ⟨v, r, rfl, Ak.agree L l v (λ id hid => A id (by simp [F3, hid])) h1, Bx.agree L ls r (λ id hid => A id (by simp [F3, hid])) h2⟩
end
def Yw {E : Nat -> Type} (m : A7 E -> Option (A7 E)) : List (A7 E) -> Option (List (A7 E))
 | [] => some []
 | l :: ls => match m l with
   | some l' => match Yw m ls with
     | some r => some (l' :: r)
     | none => none
   | none => none
def Am0 {E : Nat -> Type} (m : A7 E -> Option (A7 E)) : CV E -> Option (CV E)
 | .one l => match m l with
   | some l' => some (.one l')
   | none => none
 | .ag ls => match Yw m ls with
   | some r => some (.ag r)
   | none => none
def Yy {E : Nat -> Type} (m : A7 E -> Option (A7 E)) : List (CV E) -> Option (List (CV E))
 | [] => some []
 | c :: cs => match Am0 m c with
   | some c' => match Yy m cs with
     | some r => some (c' :: r)
     | none => none
   | none => none
def Afd {E : Nat -> Type} (m : A7 E -> Option (A7 E)) : SV E -> Option (SV E)
 | .cv c => match Am0 m c with
   | some c' => some (.cv c')
   | none => none
 | .tup cs => match Yy m cs with
   | some r => some (.tup r)
   | none => none
def Ir {E : Nat -> Type} (m : A7 E -> Option (A7 E)) : List (Nat × Option (SV E)) -> List (Nat × Option (SV E))
 | [] => []
 | (k, some v) :: r => match Afd m v with
   | some v' => (k, some v') :: Ir m r
   | none => Ir m r
 | (_, none) :: r => Ir m r
def Nw {E : Nat -> Type} (m : A7 E -> Option (A7 E)) : List (Nat × Box E) -> Option (List (Nat × Box E))
 | [] => some []
 | (k, .cells ls) :: r => match Yw m ls with
   | some ls' => match Nw m r with
     | some r' => some ((k, .cells ls') :: r')
     | none => none
   | none => none
 | (k, b) :: r => match Nw m r with
   | some r' => some ((k, b) :: r')
   | none => none
section
variable {m : A7 T.E -> Option (A7 T.E)} (hm : ∀ l l' v, m l = some l' -> Ak T bx β ok w l v -> Ak T bx' β' ok' w' l' v)
include hm
theorem Ra : ∀ {ls ls' : List (A7 T.E)} {vs : List Value}, Yw m ls = some ls' -> Bk (Ak T bx β ok w) ls vs -> Bk (Ak T bx' β' ok' w') ls' vs
 | [], ls', _, h, .nil => by simp [Yw] at h; subst h; exact .nil
 | l :: ls, ls', _, h, .cons h1 h2 => by
   unfold Yw at h
   split at h
   · rename_i l' hl
     split at h
     · rename_i r hr
       cases h
       exact .cons (hm _ _ _ hl h1) (Ra hr h2)
     · cases h
   · cases h
theorem Aar {c c' : CV T.E} {v : Value} (h : Am0 m c = some c') (k : A3 T bx β ok w c v) : A3 T bx' β' ok' w' c' v := by
 unfold Am0 at h
 split at h
 · split at h
   · rename_i l' hl
     cases h; exact hm _ _ _ hl k
   · cases h
 · split at h
   · rename_i r hr
     cases h
     obtain ⟨cs, rfl, k⟩ := k
     exact ⟨cs, rfl, Ra hm hr k⟩
   · cases h
theorem Zm : ∀ {cs cs' : List (CV T.E)} {vs : List Value}, Yy m cs = some cs' -> Bk (A3 T bx β ok w) cs vs -> Bk (A3 T bx' β' ok' w') cs' vs
 | [], cs', _, h, .nil => by simp [Yy] at h; subst h; exact .nil
 | c :: cs, cs', _, h, .cons h1 h2 => by
   unfold Yy at h
   split at h
   · rename_i l' hl
     split at h
     · rename_i r hr
       cases h
       exact .cons (Aar hm hl h1) (Zm hr h2)
     · cases h
   · cases h
theorem Aok {x x' : SV T.E} {v : Value} (h : Afd m x = some x') (k : Bb T bx β ok w x v) : Bb T bx' β' ok' w' x' v := by
 unfold Afd at h
 split at h
 · split at h
   · rename_i l' hl
     cases h; exact Aar hm hl k
   · cases h
 · split at h
   · rename_i r hr
     cases h
     obtain ⟨vs, rfl, k⟩ := k
     exact ⟨vs, rfl, Zm hm hr k⟩
   · cases h
end
def M6 {α : Type} : List (Nat × α) -> Bool
 | [] => true
 | [_] => true
 | (j, _) :: (k, y) :: r => Nat.blt j k && M6 ((k, y) :: r)
theorem Vi {α : Type} : ∀ {l : List (Nat × α)} {j : Nat} {x : α}, M6 ((j, x) :: l) = true -> ∀ p ∈ l, j < p.1
 | [], _, _, _, p, hp => by simp at hp
 | (k, y) :: r, j, x, h, p, hp => by
   simp only [M6, Bool.and_eq_true] at h
   have h1 : j < k := (Nat.blt_eq).mp h.1
   rcases List.mem_cons.1 hp with rfl | hp
   · exact h1
   · exact Nat.lt_trans h1 (Vi h.2 p hp)
theorem Vl {α : Type} {l : List (Nat × α)} {p : Nat × α} (h : M6 (p :: l) = true) : M6 l = true := by
 cases l with
 | nil => rfl
 | cons q r => obtain ⟨j, x⟩ := p; obtain ⟨k, y⟩ := q; simp only [M6, Bool.and_eq_true] at h; exact h.2
theorem Nq {m : A7 T.E -> Option (A7 T.E)} {k : Nat} {x' : SV T.E} : ∀ {l : List (Nat × Option (SV T.E))}, M6 l = true -> A6 k (Ir m l) = some (some x') -> ∃ x, A6 k l = some (some x) /\ Afd m x = some x'
 | [], _, h => by simp [Ir, A6] at h
 | (j, none) :: r, hs, h => by
   simp only [Ir] at h
   obtain ⟨x, h1, h2⟩ := Nq (Vl hs) h
   refine ⟨x, ?_, h2⟩
   unfold A6
   have hlt := Vi hs (k, some x) (Tz h1)
   rw [Jx (by simp at hlt; omega)]
   exact h1
 | (j, some v) :: r, hs, h => by
   simp only [Ir] at h
   have later : A6 k (Ir m r) = some (some x') -> ∃ x, A6 k ((j, some v) :: r) = some (some x) /\ Afd m x = some x' := by
     intro h
     obtain ⟨x, h1, h2⟩ := Nq (Vl hs) h
     refine ⟨x, ?_, h2⟩
     unfold A6
     have hlt := Vi hs (k, some x) (Tz h1)
     rw [Jx (by simp at hlt; omega)]
     exact h1
   split at h
   · rename_i v' hv
     unfold A6 at h
     split at h
     · rename_i e
       cases h
       have := Aq e; subst this
       exact ⟨v, by simp [A6], hv⟩
     · exact later h
   · exact later h
theorem Nl {m : A7 T.E -> Option (A7 T.E)} : ∀ {l l' : List (Nat × Box T.E)}, Nw m l = some l' -> ∀ k,
   (A6 k l = none /\ A6 k l' = none) \/ (∃ ls ls', A6 k l = some (.cells ls) /\ A6 k l' = some (.cells ls') /\ Yw m ls = some ls') \/ (∃ b, A6 k l = some b /\ A6 k l' = some b /\ ∀ ls, b ≠ .cells ls)
 | [], l', h, k => by simp [Nw] at h; subst h; exact .inl ⟨rfl, rfl⟩
 | (j, b) :: r, l', h, k => by
   unfold Nw at h
   split at h
   · rename_i heq; cases heq
   · rename_i heq; cases heq
     split at h
     · rename_i ls' hls
       split at h
       · rename_i r' hr
         cases h
         by_cases hj : Nat.beq j k = true
         · exact .inr (.inl ⟨_, ls', by simp [A6, hj], by simp [A6, hj], hls⟩)
         · simp only [A6, hj, Bool.false_eq_true, if_false]; exact Nl hr k
       · cases h
     · cases h
   · rename_i hne heq
     cases heq
     split at h
     · rename_i r' hr
       cases h
       by_cases hj : Nat.beq j k = true
       · exact .inr (.inr ⟨_, by simp [A6, hj], by simp [A6, hj], λ ls e => hne _ e⟩)
       · simp only [A6, hj, Bool.false_eq_true, if_false]; exact Nl hr k
     · cases h
end
end Go.Ab
