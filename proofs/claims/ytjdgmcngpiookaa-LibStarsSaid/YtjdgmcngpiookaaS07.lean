/- A region whose order is drawn, told by the order as it stands. An abstract state told anew: less of it, other numbers, slices that nobody writes any more. What an abstract state may be told anew as, by small steps. Conditions: none beyond those that each theorem names. -/
import Derived.Test.YtjdgmcngpiookaaS06
namespace Go.Ab
open Go
section
variable {V : Env} {P : Program} {C : Ctx}
theorem Sim.same {s t : St V.E} {a : Act} {w : World} (S : Sim V C s a w) (e : N8 s t) : Sim V C t a w := by
 obtain ⟨β, S⟩ := S
 obtain ⟨M, X⟩ := S.mem.step (bx' := t.boxes) (β' := β) (w' := w) (λ _ => False) rfl rfl rfl (Nat.le_refl _) (λ j _ => ⟨rfl, (e.boxes j).symm⟩) (λ _ _ _ => rfl) (λ j h => h.elim) (λ j h => h.elim)
   (λ j _ _ h => h.elim) (λ j h => h.elim) (λ j _ h => h.elim) (λ _ j _ h => h.elim)
 exact ⟨β, by rw [S.size, e.n], S.defers, λ k x hk => A8.ext X (S.slots k x ((Za (e.slots k)).trans hk)), M⟩
def Lr : Nat -> List Nat -> Bool
 | _, [] => false
 | k, x :: xs => Nat.beq x k || Lr k xs
def Qj : List Nat -> List Nat -> Bool
 | [], _ => true
 | x :: xs, l => !(Lr x l) && Qj xs l
def Td (a b : Acc) : Bool := Qj a.writes b.reads && Qj a.writes b.writes && Qj b.writes a.reads
theorem Zz {k : Nat} : ∀ {l : List Nat}, k ∈ l -> Lr k l = true
 | x :: xs, h => by
   unfold Lr
   rcases List.mem_cons.1 h with rfl | h
   · simp
   · rw [Zz h]; simp
theorem Mn : ∀ {l m : List Nat}, Qj l m = true -> ∀ k ∈ l, k ∉ m
 | x :: xs, m, h, k, hk, hm => by
   unfold Qj at h
   simp only [Bool.and_eq_true, Bool.not_eq_true'] at h
   rcases List.mem_cons.1 hk with rfl | hk
   · rw [Zz hm] at h; exact Bool.noConfusion h.1
   · exact Mn h.2 k hk hm
theorem Adk {a b : Acc} (h : Td a b = true) : Oe a b := by
 unfold Td at h
 simp only [Bool.and_eq_true] at h
 exact ⟨λ id hid => ⟨Mn h.1.1 id hid, Mn h.1.2 id hid⟩, λ id hid => Mn h.2 id hid⟩
def Asb (masks : List Nat) (o : Oper) : Nat :=
 o.after.toList.foldl (λ m e => if Region.binds .any e then m ||| ((1 <<< e.on) ||| masks.getD e.on 0) else m) 0
def Uu : List Oper -> List Nat -> List Nat
 | [], ms => ms
 | o :: os, ms => Uu os (ms ++ [Asb ms o])
def Aiw : Nat -> List Oper -> Bool
 | _, [] => true
 | i, o :: os => o.after.toList.all (λ e => !Region.binds .any e || Nat.blt e.on i) && Aiw (i + 1) os
def Yn (ops : Array Oper) (oi : Oper) (ai : Acc) (mi : Nat) : Nat -> List Oper -> List Acc -> Bool
 | _, [], _ => true
 | j, oj :: os, aj :: as => (mi.testBit j || (oj.apart ops oi && Td aj ai)) && Yn ops oi ai mi (j + 1) os as
 | _, _ :: _, [] => false
def Sx (ops : Array Oper) (allO : List Oper) (allA : List Acc) : Nat -> List Oper -> List Acc -> List Nat -> Bool
 | _, [], _, _ => true
 | i, o :: os, a :: as, m :: ms => Yn ops o a m 0 (allO.take i) (allA.take i) && Sx ops allO allA (i + 1) os as ms
 | _, _, _, _ => false
def Anp (ops : Array Oper) (acs : List Acc) : Bool :=
 Aiw 0 ops.toList && Sx ops ops.toList acs 0 ops.toList acs (Uu ops.toList [])
inductive Sc (ops : Array Oper) (j : Nat) : Nat -> Prop where
 | one {i o e} : ops[i]? = some o -> e ∈ o.after -> Region.binds .any e = true -> e.on = j -> Sc ops j i
 | more {i o e} : ops[i]? = some o -> e ∈ o.after -> Region.binds .any e = true -> Sc ops j e.on -> Sc ops j i
def Afq (ops : Array Oper) (ms : List Nat) : Prop := ∀ i j, (ms.getD i 0).testBit j = true -> Sc ops j i
theorem Ami {ops : Array Oper} {ms : List Nat} (hm : Afq ops ms) {i : Nat} {o : Oper} (ho : ops[i]? = some o) {j : Nat} (h : (Asb ms o).testBit j = true) : Sc ops j i := by
 unfold Asb at h
 have gen : ∀ (l : List Edge) (m : Nat), (∀ e ∈ l, e ∈ o.after) -> (m.testBit j = true -> Sc ops j i) ->
     (l.foldl (λ m e => if Region.binds .any e then m ||| ((1 <<< e.on) ||| ms.getD e.on 0) else m) m).testBit j = true -> Sc ops j i := by
   intro l
   induction l with
   | nil => intro m _ hm h; exact hm h
   | cons e l ih =>
     intro m hl h0 h
     simp only [List.foldl_cons] at h
     refine ih _ (λ e' he' => hl e' (by simp [he'])) ?_ h
     intro hb
     split at hb
     · rename_i hbind
       rw [Nat.testBit_or, Nat.testBit_or] at hb
       simp only [Bool.or_eq_true] at hb
       rcases hb with hb | hb | hb
       · exact h0 hb
       · rw [Nat.one_shiftLeft, Nat.testBit_two_pow] at hb
         exact .one ho (hl e (by simp)) hbind (by simpa using hb)
       · exact .more ho (hl e (by simp)) hbind (hm _ _ hb)
     · exact h0 hb
 exact gen _ 0 (λ e he => by simpa using he) (λ h => by simp at h) h
theorem Tt {ops : Array Oper} : ∀ (os : List Oper) (ms : List Nat), ops.toList.drop ms.length = os -> Afq ops ms -> Afq ops (Uu os ms)
 | [], ms, _, hm => hm
 | o :: os, ms, hd, hm => by
   unfold Uu
   have ho : ops[ms.length]? = some o := by
     have := congrArg (·[0]?) hd
     simpa using this
   refine Tt os _ ?_ ?_
   · have := congrArg List.tail hd
     simpa using this
   · intro i j h
     rw [List.getD_eq_getElem?_getD] at h
     rcases Nat.lt_trichotomy i ms.length with hl | he | hg
     · rw [List.getElem?_append_left hl] at h
       exact hm i j (by rw [List.getD_eq_getElem?_getD]; exact h)
     · subst he
       simp at h
       exact Ami hm ho h
     · rw [List.getElem?_eq_none (by simp; omega)] at h
       simp at h
theorem Atd {os : List Oper} : ∀ {i : Nat}, Aiw i os = true -> ∀ k o, os[k]? = some o -> ∀ e ∈ o.after, Region.binds .any e = true -> e.on < i + k := by
 induction os with
 | nil => intro i _ k o hk; simp at hk
 | cons o os ih =>
   intro i h k o' hk e he hb
   unfold Aiw at h
   simp only [Bool.and_eq_true, List.all_eq_true] at h
   cases k with
   | zero =>
     simp at hk; subst hk
     have := h.1 e (by simpa using he)
     rw [hb] at this
     exact (Nat.blt_eq).mp (by simpa using this)
   | succ k =>
     have := ih h.2 k o' (by simpa using hk) e he hb
     omega
theorem Avk {ops : Array Oper} {oi : Oper} {ai : Acc} {mi : Nat} {os : List Oper} : ∀ {as : List Acc} {j : Nat}, Yn ops oi ai mi j os as = true -> ∀ k oj, os[k]? = some oj ->
   ∃ aj, as[k]? = some aj /\ (mi.testBit (j + k) = true \/ (oj.apart ops oi = true /\ Oe aj ai)) := by
 induction os with
 | nil => intro as j _ k oj hk; simp at hk
 | cons o os ih =>
   intro as j h k oj hk
   cases as with
   | nil => simp [Yn] at h
   | cons a as =>
     unfold Yn at h
     simp only [Bool.and_eq_true, Bool.or_eq_true] at h
     cases k with
     | zero =>
       simp at hk; subst hk
       refine ⟨a, by simp, ?_⟩
       rcases h.1 with h | h
       · exact .inl h
       · exact .inr ⟨h.1, Adk h.2⟩
     | succ k =>
       obtain ⟨aj, h1, h2⟩ := ih h.2 k oj (by simpa using hk)
       exact ⟨aj, by simpa using h1, by rw [show j + (k + 1) = j + 1 + k by omega]; exact h2⟩
theorem Aqy {ops : Array Oper} {allO : List Oper} {allA : List Acc} {os : List Oper} : ∀ {as : List Acc} {ms : List Nat} {i : Nat}, Sx ops allO allA i os as ms = true -> ∀ k o, os[k]? = some o ->
   ∃ a m, as[k]? = some a /\ ms[k]? = some m /\ Yn ops o a m 0 (allO.take (i + k)) (allA.take (i + k)) = true := by
 induction os with
 | nil => intro as ms i _ k oj hk; simp at hk
 | cons o os ih =>
   intro as ms i h k o' hk
   cases as with
   | nil => simp [Sx] at h
   | cons a as =>
     cases ms with
     | nil => simp [Sx] at h
     | cons m ms =>
       unfold Sx at h
       simp only [Bool.and_eq_true] at h
       cases k with
       | zero => simp at hk; subst hk; exact ⟨a, m, by simp, by simp, h.1⟩
       | succ k =>
         obtain ⟨a', m', h1, h2, h3⟩ := ih h.2 k o' (by simpa using hk)
         exact ⟨a', m', by simpa using h1, by simpa using h2, by rw [show i + (k + 1) = i + 1 + k by omega]; exact h3⟩
def Xh (acs : List Acc) (i : Nat) : Acc := acs.getD i ⟨[], []⟩
theorem Asw {ops : Array Oper} {acs : List Acc} (h : Anp ops acs = true) : (∀ i o, ops[i]? = some o -> ∀ e ∈ o.after, Region.binds .any e = true -> e.on < i) /\
   ∀ i j oi oj, j < i -> ops[i]? = some oi -> ops[j]? = some oj -> Sc ops j i \/ (oj.apart ops oi = true /\ Oe (Xh acs j) (Xh acs i)) := by
 unfold Anp at h
 simp only [Bool.and_eq_true] at h
 refine ⟨λ i o ho e he hb => ?_, λ i j oi oj hji hoi hoj => ?_⟩
 · have := Atd h.1 i o (by simpa using ho) e he hb
   simpa using this
 · obtain ⟨a, m, h1, h2, h3⟩ := Aqy h.2 i oi (by simpa using hoi)
   rw [Nat.zero_add] at h3
   obtain ⟨aj, h4, h5⟩ := Avk h3 j oj (by rw [List.getElem?_take]; simpa [hji] using hoj)
   rw [Nat.zero_add] at h5
   rw [List.getElem?_take] at h4
   simp only [hji, if_true] at h4
   have hm := Tt ops.toList [] rfl (ops := ops) (λ i j h => by simp at h)
   rcases h5 with h5 | h5
   · exact .inl (hm i j (by rw [List.getD_eq_getElem?_getD, h2]; exact h5))
   · refine .inr ?_
     have e1 : Xh acs i = a := by unfold Xh; rw [List.getD_eq_getElem?_getD, h1]; rfl
     have e2 : Xh acs j = aj := by unfold Xh; rw [List.getD_eq_getElem?_getD, h4]; rfl
     rw [e1, e2]; exact h5
def rem (n : Nat) (listed : Array Bool) : List Nat := (List.range n).filter λ i => !listed.getD i true
theorem Up {n : Nat} {listed : Array Bool} {i : Nat} : i ∈ rem n listed ↔ i < n /\ listed.getD i true = false := by
 simp [rem]
theorem Vg (n : Nat) (listed : Array Bool) : (rem n listed).Pairwise (· < ·) := List.Pairwise.filter _ List.pairwise_lt_range
theorem Nv {listed : Array Bool} {i : Nat} (h : i < listed.size) : listed.getD i true = listed.getD i false := by
 simp [Array.getD_eq_getD_getElem?, h]
def Arw (ops : Array Oper) (listed : Array Bool) : Prop := ∀ i o, ops[i]? = some o -> listed.getD i false = true -> ∀ e ∈ o.after, Region.binds .any e = true -> listed.getD e.on false = true
theorem Zx {ops : Array Oper} {listed : Array Bool} (hc : Arw ops listed) {j i : Nat} (h : Sc ops j i) : ∀ o, ops[i]? = some o -> (∀ e ∈ o.after, Region.binds .any e = true -> listed.getD e.on false = true) -> listed.getD j false = true := by
 induction h with
 | one ho he hb hj => intro o ho' hl; rw [ho] at ho'; cases ho'; rw [<- hj]; exact hl _ he hb
 | more ho he hb hr ih =>
   intro o ho' hl
   rw [ho] at ho'; cases ho'
   have hl' := hl _ he hb
   rename_i i o e
   cases hoe : ops[e.on]? with
   | some oe => exact ih oe hoe (hc e.on oe hoe hl')
   | none =>
     cases hr with
     | one ho2 _ _ _ => rw [hoe] at ho2; cases ho2
     | more ho2 _ _ _ => rw [hoe] at ho2; cases ho2
theorem As8 {n : Nat} {listed : Array Bool} {i : Nat} {L1 L2 : List Nat} (hi : i < listed.size) (h : rem n listed = L1 ++ i :: L2) : rem n (listed.setIfInBounds i true) = L1 ++ L2 := by
 have hs := Vg n listed
 rw [h] at hs
 obtain ⟨p1, p2, p3⟩ := List.pairwise_append.1 hs
 have h1 : ∀ j ∈ L1, j ≠ i := λ j hj => Nat.ne_of_lt (p3 j hj i (by simp))
 have h2 : ∀ j ∈ L2, j ≠ i := λ j hj => Nat.ne_of_gt ((List.pairwise_cons.1 p2).1 j hj)
 have : rem n (listed.setIfInBounds i true) = (rem n listed).filter λ j => decide (j ≠ i) := by
   unfold rem
   rw [List.filter_filter]
   refine List.filter_congr λ j _ => ?_
   by_cases hji : j = i
   · subst hji
     simp [Array.getD_eq_getD_getElem?, hi]
   · rw [getD_set_ne true (Ne.symm hji)]
     simp [hji]
 rw [this, h, List.filter_append, List.filter_cons]
 simp only [ne_eq, not_true, decide_false, Bool.false_eq_true, if_false]
 rw [List.filter_eq_self.2 (λ j hj => by simpa using h1 j hj), List.filter_eq_self.2 (λ j hj => by simpa using h2 j hj)]
theorem Aol (G : Ay V P) {ops : Array Oper} {q : Su V} {acs : List Acc} (hB : Anp ops acs = true) {Q : Exit -> Act -> World -> Prop} {sf : St V.E} (hQ : ∀ a w, Sim V C sf a w -> Q .normal a w) :
   ∀ (fuel : Nat) (listed : Array Bool) (a : Act) (w : World) (s s2 : St V.E), listed.size = ops.size -> (rem ops.size listed).length = fuel -> Arw ops listed -> Sim V C s a w ->
     W5 V ops q (Xh acs) (rem ops.size listed) s s2 -> N8 s2 sf -> wpAny P .any ops Q fuel listed a w
 | 0, listed, a, w, s, s2, hsz, hlen, hcl, S, r, e => by
   have hnil : rem ops.size listed = [] := by simpa using hlen
   rw [hnil] at r
   cases r
   refine ⟨?_, hQ _ _ (S.same e)⟩
   cases hr : Region.ready .any ops listed with
   | nil => rfl
   | cons j js =>
     have hj : j ∈ Region.ready .any ops listed := by rw [hr]; simp
     obtain ⟨h1, o, h2, _⟩ := mem_ready.1 hj
     have : j ∈ rem ops.size listed := Up.2 ⟨(Array.getElem?_eq_some_iff.1 h2).1, h1⟩
     rw [hnil] at this; cases this
 | fuel + 1, listed, a, w, s, s2, hsz, hlen, hcl, S, r, e => by
   obtain ⟨hback, hpair⟩ := Asw hB
   refine ⟨λ h0 => ?_, λ i hi => ?_⟩
   · exfalso
     have key : ∀ i, i < ops.size -> listed.getD i true = false -> ∃ k, k ∈ Region.ready .any ops listed := by
       intro i
       induction i using Nat.strongRecOn with
       | _ i ih =>
         intro hi hu
         have ho : ops[i]? = some ops[i] := by simp [hi]
         by_cases hall : ∀ e ∈ ops[i].after, Region.binds .any e = true -> listed.getD e.on false = true
         · exact ⟨i, mem_ready.2 ⟨hu, _, ho, hall⟩⟩
         · have : ∃ e, e ∈ ops[i].after /\ Region.binds .any e = true /\ listed.getD e.on false ≠ true := by
             refine Classical.byContradiction λ hno => hall λ e he hb => Classical.byContradiction λ hl => hno ⟨e, he, hb, hl⟩
           obtain ⟨e, he, hb, hl⟩ := this
           have hlt := hback i _ ho e he hb
           have : e.on < listed.size := by omega
           exact ih e.on hlt (by omega) (by rw [Nv this]; simpa using hl)
     cases hrem : rem ops.size listed with
     | nil => rw [hrem] at hlen; simp at hlen
     | cons i L =>
       have : i ∈ rem ops.size listed := by rw [hrem]; simp
       obtain ⟨h1, h2⟩ := Up.1 this
       obtain ⟨k, hk⟩ := key i h1 h2
       rw [h0] at hk; cases hk
   · obtain ⟨hu, oi, hoi, hpre⟩ := mem_ready.1 hi
     have hlt : i < ops.size := (Array.getElem?_eq_some_iff.1 hoi).1
     have hmem : i ∈ rem ops.size listed := Up.2 ⟨hlt, hu⟩
     obtain ⟨L1, L2, hL⟩ := List.append_of_mem hmem
     have hs := Vg ops.size listed
     rw [hL] at hs r
     have hlt1 : ∀ j ∈ L1, j < i := λ j hj => (List.pairwise_append.1 hs).2.2 j hj i (by simp)
     obtain ⟨t2, r2, e2⟩ := Tj hoi (λ j hj => by
       have hjm : j ∈ rem ops.size listed := by rw [hL]; simp [hj]
       obtain ⟨hj1, hj2⟩ := Up.1 hjm
       have hoj : ops[j]? = some ops[j] := by simp [hj1]
       refine ⟨_, hoj, ?_⟩
       rcases hpair i j oi _ (hlt1 j hj) hoi hoj with hr | hr
       · have := Zx hcl hr oi hoi hpre
         rw [Nv (by omega), this] at hj2
         cases hj2
       · exact hr) r
     cases r2 with
     | cons ho hev hc r3 =>
       rename_i o s1 c
       refine Alf G ho S hev hc λ a' w' S' => ?_
       have hset := As8 (n := ops.size) (listed := listed) (i := i) (by omega) hL
       refine Aol G hB hQ fuel _ a' w' s1 t2 (by simpa using hsz) ?_ ?_ S' (by rw [hset]; exact r3) (e2.symm.trans e)
       · rw [hset]
         rw [hL] at hlen
         simp at hlen ⊢
         omega
       · intro k ok hk hlk e' he' hb'
         by_cases hki : k = i
         · subst hki
           rw [hoi] at hk; cases hk
           exact getD_set_true (hpre e' he' hb')
         · have hlk' : listed.getD k false = true := by
             rw [getD_set_ne false (Ne.symm hki)] at hlk; exact hlk
           exact getD_set_true (hcl k ok hk hlk' e' he' hb')
theorem Akz {ops : Array Oper} {q : Su V} {allA : List Acc} : ∀ (os : List Oper) (i : Nat) (s s' : St V.E) (cs : List Prop) (acs : List Acc), ops.toList.drop i = os -> allA.drop i = acs -> Rb V ops.toList q i os s = some (s', cs, acs) -> Ff cs ->
   W5 V ops q (Xh allA) ((List.range ops.size).drop i) s s'
 | [], i, s, s', cs, acs, hi, ha, h, hc => by
   simp only [Rb, Option.some.injEq, Prod.mk.injEq] at h
   obtain ⟨rfl, _, _⟩ := h
   have : ops.size <= i := by simpa using hi
   have hn : (List.range ops.size).drop i = [] := by simpa using this
   rw [hn]; exact .nil
 | o :: os, i, s, s', cs, acs, hi, ha, h, hc => by
   have hlt : i < ops.size := by
     rcases Nat.lt_or_ge i ops.size with h | h
     · exact h
     · have : ops.toList.drop i = [] := by simpa using h
       rw [this] at hi; cases hi
   have hn : (List.range ops.size).drop i = i :: (List.range ops.size).drop (i + 1) := by
     rw [List.drop_eq_getElem_cons (by simpa using hlt)]; simp
   have ho : ops[i]? = some o := by
     have := congrArg (·[0]?) hi
     simpa using this
   have hi' : ops.toList.drop (i + 1) = os := by
     have := congrArg List.tail hi
     simpa using this
   rw [hn]
   simp only [Rb] at h
   split at h
   · rename_i s1 c1 a1 h1
     split at h
     · rename_i s2 c2 as h2
       cases h
       obtain ⟨hc1, hc2⟩ := Ff.append hc
       have ha1 : Xh allA i = a1 := by
         have := congrArg (·[0]?) ha
         unfold Xh
         rw [List.getD_eq_getElem?_getD]
         simp at this
         rw [this]; rfl
       have ha' : allA.drop (i + 1) = as := by
         have := congrArg List.tail ha
         simpa using this
       exact .cons ho (by rw [ha1]; exact h1) hc1 (Akz os (i + 1) s1 _ c2 as hi' ha' h2 hc2)
     · cases h
   · cases h
theorem Am8 (G : Ay V P) {id : Nat} {ops : Array Oper} {drawn : Bool} {q : Su V} {Q : Exit -> Act -> World -> Prop} {s s' : St V.E} {cs : List Prop} {acs : List Acc} {a : Act} {w : World} (S : Sim V C s a w)
   (h : Rb V ops.toList q 0 ops.toList s = some (s', cs, acs)) (hc : Ff cs) (hd : drawn = true -> Anp ops acs = true) (hQ : ∀ a' w', Sim V C s' a' w' -> Q .normal a' w') :
   (Code.region id ops drawn).wp P Q a w := by
 cases drawn with
 | false => exact wp_region (by simpa using Aq4 G ops.toList 0 rfl s s' cs acs a w S h hc hQ)
 | true =>
   have r := Akz (allA := acs) ops.toList 0 s s' cs acs rfl rfl h hc
   have hrem : rem ops.size (Array.replicate ops.size false) = List.range ops.size := by
     unfold rem
     rw [List.filter_eq_self]
     intro i hi
     simp only [List.mem_range] at hi
     simp [Array.getD_eq_getD_getElem?, hi]
   refine wp_region_any G.mixed (Aol G (hd rfl) hQ ops.size _ a _ s s' (by simp) (by rw [hrem]; simp) ?_ S.drew (by rw [hrem]; simpa using r) (.refl _))
   intro i o ho hl
   simp only [Array.getD_eq_getD_getElem?, Array.getElem?_replicate] at hl
   split at hl <;> simp at hl
end
section
variable {T : Tab} {C : Ctx} {bx bx' : List (Nat × Box T.E)} {β β' : Nat -> BI} {ok ok' : Nat -> Prop} {w w' : World}
mutual
def Gj {E : Nat -> Type} : A5 E -> List Nat
 | .ar id _ | .row id _ _ _ | .ptr id _ | .ep id _ _ _ | .rp id _ _ _ _ _ | .win id _ _ _ => [id]
 | .bs ls => Ex ls
 | .clo _ ls => Ex ls
 | _ => []
def Ex {E : Nat -> Type} : List (A5 E) -> List Nat
 | [] => []
 | l :: ls => Gj l ++ Ex ls
end
def Wy {E : Nat -> Type} (o o' : Option (Box E)) : Prop := o' = o \/ ∃ ls ls', o = some (.cells ls) /\ o' = some (.cells ls')
mutual
theorem Ak.agree (L : D8 ok w ok' w') : ∀ (l : A5 T.E) (v : Value), (∀ id ∈ Gj l, Wy (A3 id bx) (A3 id bx') /\ β' id = β id) -> Ak T bx β ok w l v -> Ak T bx' β' ok' w' l v
 | .int _ _, _, _, h => h
 | .bool _, _, _, h => h
 | .str _, _, _, h => h
 | .sl t st xs, v, _, h => Bx.later L _ _ h
 | .ar id ver, v, A, h => by
   obtain ⟨a1, a2⟩ := A id (by simp [Gj])
   simp only [Ak] at h ⊢; rw [a2]
   rcases a1 with a1 | ⟨ls, ls', a1, a3⟩
   · rw [a1]; exact h
   · rw [a1] at h; rw [a3]; exact h
 | .row id ver rv i, v, A, h => by
   obtain ⟨a1, a2⟩ := A id (by simp [Gj])
   simp only [Ak] at h ⊢; rw [a2]
   rcases a1 with a1 | ⟨ls, ls', a1, a3⟩
   · rw [a1]; exact h
   · rw [a1] at h; rw [a3]; exact h
 | .ptr id off, v, A, h => by
   obtain ⟨a1, a2⟩ := A id (by simp [Gj])
   simp only [Ak] at h ⊢; rw [a2]
   rcases a1 with a1 | ⟨ls, ls', a1, a3⟩
   · rw [a1]; exact h
   · rw [a1] at h; rw [a3]; exact h
 | .ep id ver i off, v, A, h => by
   obtain ⟨a1, a2⟩ := A id (by simp [Gj])
   simp only [Ak] at h ⊢; rw [a2]
   rcases a1 with a1 | ⟨ls, ls', a1, a3⟩
   · rw [a1]; exact h
   · rw [a1] at h; rw [a3]; exact h
 | .rp id ver rv i k off, v, A, h => by
   obtain ⟨a1, a2⟩ := A id (by simp [Gj])
   simp only [Ak] at h ⊢; rw [a2]
   rcases a1 with a1 | ⟨ls, ls', a1, a3⟩
   · rw [a1]; exact h
   · rw [a1] at h; rw [a3]; exact h
 | .win id ver i n, v, A, h => by
   obtain ⟨a1, a2⟩ := A id (by simp [Gj])
   simp only [Ak] at h ⊢; rw [a2]
   rcases a1 with a1 | ⟨ls, ls', a1, a3⟩
   · rw [a1]; exact h
   · rw [a1] at h; rw [a3]; exact h
 | .cp t x off, v, _, h => by
   simp only [Ak] at h ⊢
   obtain ⟨b, o, cs, h1, h2, h3⟩ := h
   exact ⟨b, o, cs, h1, Bx.later L _ _ h2, h3.later L⟩
 | .bs ls, v, A, h => by
   simp only [Ak] at h ⊢
   obtain ⟨b, vs, c, e, h1, h2, h3, h4, h5⟩ := h
   exact ⟨b, vs, c, e, h1, L.may _ h2, by rw [L.heap _ h2]; exact h3, h4, Bs.agree L ls vs (λ id hid => A id (by simpa [Gj] using hid)) h5⟩
 | .clo f caps, v, A, h => by
   simp only [Ak] at h ⊢
   obtain ⟨vs, h1, h2⟩ := h
   exact ⟨vs, h1, Bs.agree L caps _ (λ id hid => A id (by simpa [Gj] using hid)) h2⟩
 | .nptr, _, _, h => h
 | .nfn, _, _, h => h
theorem Bs.agree (L : D8 ok w ok' w') : ∀ (ls : List (A5 T.E)) (vs : List Value), (∀ id ∈ Ex ls, Wy (A3 id bx) (A3 id bx') /\ β' id = β id) -> Bs T bx β ok w ls vs -> Bs T bx' β' ok' w' ls vs
 | [], _, _, h => h
 | l :: ls, vs, A, h => by
   simp only [Bs] at h ⊢
   obtain ⟨v, r, rfl, h1, h2⟩ := h
   exact ⟨v, r, rfl, Ak.agree L l v (λ id hid => A id (by simp [Ex, hid])) h1, Bs.agree L ls r (λ id hid => A id (by simp [Ex, hid])) h2⟩
end
def Vh {E : Nat -> Type} (m : A5 E -> Option (A5 E)) : List (A5 E) -> Option (List (A5 E))
 | [] => some []
 | l :: ls => match m l with
   | some l' => match Vh m ls with
     | some r => some (l' :: r)
     | none => none
   | none => none
def Ak5 {E : Nat -> Type} (m : A5 E -> Option (A5 E)) : CV E -> Option (CV E)
 | .one l => match m l with
   | some l' => some (.one l')
   | none => none
 | .ag ls => match Vh m ls with
   | some r => some (.ag r)
   | none => none
def Xb {E : Nat -> Type} (m : A5 E -> Option (A5 E)) : List (CV E) -> Option (List (CV E))
 | [] => some []
 | c :: cs => match Ak5 m c with
   | some c' => match Xb m cs with
     | some r => some (c' :: r)
     | none => none
   | none => none
def Adj {E : Nat -> Type} (m : A5 E -> Option (A5 E)) : SV E -> Option (SV E)
 | .cv c => match Ak5 m c with
   | some c' => some (.cv c')
   | none => none
 | .tup cs => match Xb m cs with
   | some r => some (.tup r)
   | none => none
def Hb {E : Nat -> Type} (m : A5 E -> Option (A5 E)) : List (Nat × Option (SV E)) -> List (Nat × Option (SV E))
 | [] => []
 | (k, some v) :: r => match Adj m v with
   | some v' => (k, some v') :: Hb m r
   | none => Hb m r
 | (_, none) :: r => Hb m r
def L9 {E : Nat -> Type} (m : A5 E -> Option (A5 E)) : List (Nat × Box E) -> Option (List (Nat × Box E))
 | [] => some []
 | (k, .cells ls) :: r => match Vh m ls with
   | some ls' => match L9 m r with
     | some r' => some ((k, .cells ls') :: r')
     | none => none
   | none => none
 | (k, b) :: r => match L9 m r with
   | some r' => some ((k, b) :: r')
   | none => none
section
variable {m : A5 T.E -> Option (A5 T.E)} (hm : ∀ l l' v, m l = some l' -> Ak T bx β ok w l v -> Ak T bx' β' ok' w' l' v)
include hm
theorem Pd : ∀ {ls ls' : List (A5 T.E)} {vs : List Value}, Vh m ls = some ls' -> Bj (Ak T bx β ok w) ls vs -> Bj (Ak T bx' β' ok' w') ls' vs
 | [], ls', _, h, .nil => by simp [Vh] at h; subst h; exact .nil
 | l :: ls, ls', _, h, .cons h1 h2 => by
   unfold Vh at h
   split at h
   · rename_i l' hl
     split at h
     · rename_i r hr
       cases h
       exact .cons (hm _ _ _ hl h1) (Pd hr h2)
     · cases h
   · cases h
theorem Yk {c c' : CV T.E} {v : Value} (h : Ak5 m c = some c') (k : A2 T bx β ok w c v) : A2 T bx' β' ok' w' c' v := by
 unfold Ak5 at h
 split at h
 · split at h
   · rename_i l' hl
     cases h; exact hm _ _ _ hl k
   · cases h
 · split at h
   · rename_i r hr
     cases h
     obtain ⟨cs, rfl, k⟩ := k
     exact ⟨cs, rfl, Pd hm hr k⟩
   · cases h
theorem Vr : ∀ {cs cs' : List (CV T.E)} {vs : List Value}, Xb m cs = some cs' -> Bj (A2 T bx β ok w) cs vs -> Bj (A2 T bx' β' ok' w') cs' vs
 | [], cs', _, h, .nil => by simp [Xb] at h; subst h; exact .nil
 | c :: cs, cs', _, h, .cons h1 h2 => by
   unfold Xb at h
   split at h
   · rename_i l' hl
     split at h
     · rename_i r hr
       cases h
       exact .cons (Yk hm hl h1) (Vr hr h2)
     · cases h
   · cases h
theorem Anh {x x' : SV T.E} {v : Value} (h : Adj m x = some x') (k : A8 T bx β ok w x v) : A8 T bx' β' ok' w' x' v := by
 unfold Adj at h
 split at h
 · split at h
   · rename_i l' hl
     cases h; exact Yk hm hl k
   · cases h
 · split at h
   · rename_i r hr
     cases h
     obtain ⟨vs, rfl, k⟩ := k
     exact ⟨vs, rfl, Vr hm hr k⟩
   · cases h
end
def Lh {α : Type} : List (Nat × α) -> Bool
 | [] => true
 | [_] => true
 | (j, _) :: (k, y) :: r => Nat.blt j k && Lh ((k, y) :: r)
theorem Sq {α : Type} : ∀ {l : List (Nat × α)} {j : Nat} {x : α}, Lh ((j, x) :: l) = true -> ∀ p ∈ l, j < p.1
 | [], _, _, _, p, hp => by simp at hp
 | (k, y) :: r, j, x, h, p, hp => by
   simp only [Lh, Bool.and_eq_true] at h
   have h1 : j < k := (Nat.blt_eq).mp h.1
   rcases List.mem_cons.1 hp with rfl | hp
   · exact h1
   · exact Nat.lt_trans h1 (Sq h.2 p hp)
theorem Tn {α : Type} {l : List (Nat × α)} {p : Nat × α} (h : Lh (p :: l) = true) : Lh l = true := by
 cases l with
 | nil => rfl
 | cons q r => obtain ⟨j, x⟩ := p; obtain ⟨k, y⟩ := q; simp only [Lh, Bool.and_eq_true] at h; exact h.2
theorem Lx {m : A5 T.E -> Option (A5 T.E)} {k : Nat} {x' : SV T.E} : ∀ {l : List (Nat × Option (SV T.E))}, Lh l = true -> A3 k (Hb m l) = some (some x') -> ∃ x, A3 k l = some (some x) /\ Adj m x = some x'
 | [], _, h => by simp [Hb, A3] at h
 | (j, none) :: r, hs, h => by
   simp only [Hb] at h
   obtain ⟨x, h1, h2⟩ := Lx (Tn hs) h
   refine ⟨x, ?_, h2⟩
   unfold A3
   have hlt := Sq hs (k, some x) (Ra h1)
   rw [H8 (by simp at hlt; omega)]
   exact h1
 | (j, some v) :: r, hs, h => by
   simp only [Hb] at h
   have later : A3 k (Hb m r) = some (some x') -> ∃ x, A3 k ((j, some v) :: r) = some (some x) /\ Adj m x = some x' := by
     intro h
     obtain ⟨x, h1, h2⟩ := Lx (Tn hs) h
     refine ⟨x, ?_, h2⟩
     unfold A3
     have hlt := Sq hs (k, some x) (Ra h1)
     rw [H8 (by simp at hlt; omega)]
     exact h1
   split at h
   · rename_i v' hv
     unfold A3 at h
     split at h
     · rename_i e
       cases h
       have := Ap e; subst this
       exact ⟨v, by simp [A3], hv⟩
     · exact later h
   · exact later h
theorem Lw {m : A5 T.E -> Option (A5 T.E)} : ∀ {l l' : List (Nat × Box T.E)}, L9 m l = some l' -> ∀ k,
   (A3 k l = none /\ A3 k l' = none) \/ (∃ ls ls', A3 k l = some (.cells ls) /\ A3 k l' = some (.cells ls') /\ Vh m ls = some ls') \/ (∃ b, A3 k l = some b /\ A3 k l' = some b /\ ∀ ls, b ≠ .cells ls)
 | [], l', h, k => by simp [L9] at h; subst h; exact .inl ⟨rfl, rfl⟩
 | (j, b) :: r, l', h, k => by
   unfold L9 at h
   split at h
   · rename_i heq; cases heq
   · rename_i heq; cases heq
     split at h
     · rename_i ls' hls
       split at h
       · rename_i r' hr
         cases h
         by_cases hj : Nat.beq j k = true
         · exact .inr (.inl ⟨_, ls', by simp [A3, hj], by simp [A3, hj], hls⟩)
         · simp only [A3, hj, Bool.false_eq_true, if_false]; exact Lw hr k
       · cases h
     · cases h
   · rename_i hne heq
     cases heq
     split at h
     · rename_i r' hr
       cases h
       by_cases hj : Nat.beq j k = true
       · exact .inr (.inr ⟨_, by simp [A3, hj], by simp [A3, hj], λ ls e => hne _ e⟩)
       · simp only [A3, hj, Bool.false_eq_true, if_false]; exact Lw hr k
     · cases h
end
section
variable {V : Env} {C : Ctx}
def Q2 {α : Type} (ks : List Nat) : List (Nat × α) -> List (Nat × α)
 | [] => []
 | (k, x) :: r => if Lr k ks then (k, x) :: Q2 ks r else Q2 ks r
theorem Ada {k : Nat} : ∀ {l : List Nat}, Lr k l = true -> k ∈ l
 | x :: xs, h => by
   unfold Lr at h
   simp only [Bool.or_eq_true] at h
   rcases h with h | h
   · rw [Ap h]; simp
   · exact List.mem_cons_of_mem _ (Ada h)
theorem J7 {α : Type} (ks : List Nat) (k : Nat) : ∀ l : List (Nat × α), A3 k (Q2 ks l) = if Lr k ks then A3 k l else none
 | [] => by simp [Q2, A3]
 | (j, x) :: r => by
   unfold Q2
   by_cases hj : Nat.beq j k = true
   · have := Ap hj; subst this
     split
     · simp [A3]
     · rename_i h; rw [J7 ks j r]; simp [h]
   · split
     · simp only [A3, hj, Bool.false_eq_true, if_false]; exact J7 ks k r
     · rw [J7 ks k r]; simp only [A3, hj, Bool.false_eq_true, if_false]
def X7 (keep ids : List Nat) : Bool := ids.all λ i => Lr i keep
def SV.ids {E : Nat -> Type} : SV E -> List Nat
 | .cv c => Ex c.leaves
 | .tup cs => cs.flatMap λ c => Ex c.leaves
def O3 {E : Nat -> Type} (keep : List Nat) : List (Nat × Option (SV E)) -> Bool
 | [] => true
 | (_, some v) :: r => X7 keep v.ids && O3 keep r
 | (_, none) :: r => O3 keep r
def R8 {E : Nat -> Type} (keep : List Nat) : List (Nat × Box E) -> Bool
 | [] => true
 | (_, .cells ls) :: r => X7 keep (Ex ls) && R8 keep r
 | _ :: r => R8 keep r
theorem Aei {keep ids : List Nat} (h : X7 keep ids = true) : ∀ i ∈ ids, Lr i keep = true := by
 unfold X7 at h; exact List.all_eq_true.1 h
theorem Qb {E : Nat -> Type} {keep : List Nat} : ∀ {l : List (Nat × Option (SV E))}, O3 keep l = true -> ∀ {k x}, A3 k l = some (some x) -> X7 keep x.ids = true
 | [], _, _, _, h => by simp [A3] at h
 | (j, none) :: r, h, k, x, hl => by
   simp only [O3] at h
   unfold A3 at hl
   split at hl
   · cases hl
   · exact Qb h hl
 | (j, some v) :: r, h, k, x, hl => by
   simp only [O3, Bool.and_eq_true] at h
   unfold A3 at hl
   split at hl
   · cases hl; exact h.1
   · exact Qb h.2 hl
theorem Qr {E : Nat -> Type} {keep : List Nat} : ∀ {l : List (Nat × Box E)}, R8 keep l = true -> ∀ {k ls}, A3 k l = some (.cells ls) -> X7 keep (Ex ls) = true
 | [], _, _, _, h => by simp [A3] at h
 | (j, b) :: r, h, k, x, hl => by
   unfold R8 at h
   split at h
   · rename_i heq; cases heq
   · rename_i heq; cases heq
     simp only [Bool.and_eq_true] at h
     unfold A3 at hl
     split at hl
     · cases hl; exact h.1
     · exact Qr h.2 hl
   · rename_i hne heq
     cases heq
     unfold A3 at hl
     split at hl
     · cases hl; exact (hne _ _ rfl).elim
     · exact Qr h hl
theorem A2.agree {bx bx' : List (Nat × Box V.E)} {β β' : Nat -> BI} {ok ok' : Nat -> Prop} {w w' : World} (L : D8 ok w ok' w') {c : CV V.E} {v : Value} (A : ∀ id ∈ Ex c.leaves, Wy (A3 id bx) (A3 id bx') /\ β' id = β id) (h : A2 V.T bx β ok w c v) : A2 V.T bx' β' ok' w' c v := by
 cases c with
 | one l => exact Ak.agree L l v (λ id hid => A id (by simpa [CV.leaves, Ex] using hid)) h
 | ag ls =>
   obtain ⟨cs, rfl, h⟩ := h
   exact ⟨cs, rfl, (Bs.iff V.T ls _).1 (Bs.agree L ls _ A ((Bs.iff V.T ls _).2 h))⟩
theorem A8.agree {bx bx' : List (Nat × Box V.E)} {β β' : Nat -> BI} {ok ok' : Nat -> Prop} {w w' : World} (L : D8 ok w ok' w') {c : SV V.E} {v : Value} (A : ∀ id ∈ c.ids, Wy (A3 id bx) (A3 id bx') /\ β' id = β id) (h : A8 V.T bx β ok w c v) : A8 V.T bx' β' ok' w' c v := by
 cases c with
 | cv c => exact A2.agree L A h
 | tup cs =>
   obtain ⟨vs, rfl, h⟩ := h
   exact ⟨vs, rfl, h.imp_mem λ c v hc k => A2.agree L (λ id hid => A id (List.mem_flatMap.2 ⟨c, hc, hid⟩)) k⟩
theorem Cu.agree {bx bx' : List (Nat × Box V.E)} {β β' : Nat -> BI} {ok ok' : Nat -> Prop} {w : World} (L : D8 ok w ok' w) {id id' : Nat} (hβ : β' id' = β id) {b : Box V.E} (A : ∀ ls, b = .cells ls -> ∀ i ∈ Ex ls, Wy (A3 i bx) (A3 i bx') /\ β' i = β i)
   (h : Cu V.T bx β ok w id b) : Cu V.T bx' β' ok' w id' b := by
 cases b with
 | cells ls =>
   obtain ⟨c, e, h1, h2, h3⟩ := h
   refine ⟨c, e, by rw [hβ]; exact h1, by rw [hβ]; exact h2, ?_⟩
   exact (Bs.iff V.T ls _).1 (Bs.agree L ls _ (A ls rfl) ((Bs.iff V.T ls _).2 h3))
 | arr e t xs v fz =>
   cases fz with
   | false => obtain ⟨h1, h2⟩ := h; refine ⟨by rw [hβ]; exact h1, ?_⟩; rw [hβ]; exact h2.later L λ _ _ => rfl
   | true => obtain ⟨h1, h2, h3⟩ := h; exact ⟨by rw [hβ]; exact h1, by rw [hβ]; exact Bx.later L _ _ h2, by rw [hβ]; exact h3⟩
 | rows e e2 t xss v rv fz =>
   cases fz with
   | opn =>
     obtain ⟨h1, h2, h3⟩ := h
     simp only [Cu, Ju]
     rw [hβ]
     exact ⟨h1, h2, h3.imp λ _ _ k => k.later L λ _ _ => rfl⟩
   | shut => obtain ⟨h1, h2, h3⟩ := h; exact ⟨by rw [hβ]; exact h1, by rw [hβ]; exact Bx.later L _ _ h2, by rw [hβ]; exact h3⟩
   | mix p q =>
     obtain ⟨k1, k2, k3, k4, rb, k5, h1, h2, h3⟩ := h
     simp only [Cu, Z1]
     rw [hβ]
     exact ⟨k1, k2, k3, k4, rb, k5, h1, h2, h3.imp λ _ _ k => k.later L λ _ _ => rfl⟩
 | gone => trivial
def Afx (ks ids : List Nat) (s : St V.E) : Option (St V.E) :=
 let sl := Q2 ks s.slots
 let bx := Q2 ids s.boxes
 if O3 ids sl && R8 ids bx then some ⟨s.n, sl, bx⟩ else none
theorem Auu {ks ids : List Nat} {s s' : St V.E} (h : Afx ks ids s = some s') {a : Act} {w : World} (S : Sim V C s a w) : Sim V C s' a w := by
 obtain ⟨β, S⟩ := S
 unfold Afx at h
 simp only at h
 split at h
 · rename_i hb
   cases h
   simp only [Bool.and_eq_true] at hb
   let β' : Nat -> BI := λ j => if Lr j ids then β j else { β j with own := [] }
   have hβ : ∀ j, Lr j ids = true -> β' j = β j := λ j hj => by show (if _ then _ else _) = _; rw [if_pos hj]
   have hβ' : ∀ j, Lr j ids ≠ true -> (β' j).own = [] := λ j hj => by show (if _ then _ else _ : BI).own = _; rw [if_neg hj]
   have hsub : ∀ j x, x ∈ (β' j).own -> Lr j ids = true /\ x ∈ (β j).own := by
     intro j x hx
     by_cases hj : Lr j ids = true
     · rw [hβ j hj] at hx; exact ⟨hj, hx⟩
     · rw [hβ' j hj] at hx; simp at hx
   have hlook : ∀ j, Lr j ids = true -> A3 j (Q2 ids s.boxes) = A3 j s.boxes := λ j hj => by rw [J7, if_pos hj]
   have L : D8 (Bb C β w) w (Bb C β' w) w := ⟨λ b hb => ⟨hb.1, hb.2.1, λ j hj => hb.2.2 j (hsub j b hj).2⟩, λ _ _ => rfl⟩
   refine ⟨β', S.size, S.defers, λ k x hk => ?_, ?_⟩
   · have hk' : A3 k (Q2 ks s.slots) = some (some x) := by
       unfold slot at hk; simp only at hk
       split at hk
       · rename_i y hy; rw [hy, hk]
       · cases hk
     have hin := Aei (Qb hb.1 hk')
     rw [J7] at hk'
     split at hk'
     · have : slot V s k = some x := by unfold slot; rw [hk']
       exact A8.agree L (λ id hid => ⟨.inl (hlook id (hin id hid)), hβ id (hin id hid)⟩) (S.slots k x this)
     · cases hk'
   · refine ⟨λ id b hid => ?_, λ id hid => ?_, λ id => ?_, λ id id' x hx hx' => ?_, λ id x hx => S.mem.mine id x (hsub id x hx).2, S.mem.kept⟩
     · have hid' := hid
       rw [J7] at hid'
       split at hid'
       · rename_i hm
         refine Cu.agree L (hβ id hm) (λ ls e i hi => ?_) (S.mem.boxes id b hid')
         subst e
         have := Aei (Qr hb.2 hid) i hi
         exact ⟨.inl (hlook i this), hβ i this⟩
       · cases hid'
     · by_cases hm : Lr id ids = true
       · rw [hβ id hm]; exact S.mem.nones id (by rw [<- hlook id hm]; exact hid)
       · exact hβ' id hm
     · by_cases hm : Lr id ids = true
       · rw [hβ id hm]; exact S.mem.nodup id
       · rw [hβ' id hm]; exact List.nodup_nil
     · exact S.mem.apart id id' x (hsub id x hx).2 (hsub id' x hx').2
 · cases h
inductive Pl where
 | slot (k : Nat)
 | cell (id : Nat)
def U6 (s : St V.E) : Pl -> Option (Bool × List (A5 V.E))
 | .slot k => match slot V s k with
   | some (.cv c) => some (c.isAg, c.leaves)
   | _ => none
 | .cell id => match A3 id s.boxes with
   | some (.cells ls) => some (true, ls)
   | _ => none
def Rs (s : St V.E) (bx : List (Nat × Box V.E)) (p : Pl) (ag : Bool) (ls : List (A5 V.E)) : Option (St V.E) :=
 match p with
 | .slot k => match B5 ag ls with
   | some c => some ⟨s.n, put k (some (.cv c)) s.slots, bx⟩
   | none => none
 | .cell id => match A3 id bx with
   | some (.cells _) => some ⟨s.n, s.slots, put id (.cells ls) bx⟩
   | _ => none
theorem Rv.turn {s : St V.E} {β β' : Nat -> BI} {a : Act} {w : World} (S : Rv V C s β a w) {bx' : List (Nat × Box V.E)} (M : Bo V.T C bx' β' w) (X : Ext V.T s.boxes β (Bb C β w) w bx' β' (Bb C β' w) w) {k : Nat} {x : SV V.E}
   (h : A8 V.T bx' β' (Bb C β' w) w x (a.tmps.getD k undef)) : Rv V C ⟨s.n, Ab.put k (some x) s.slots, bx'⟩ β' a w := by
 refine ⟨S.size, S.defers, λ j y hj => ?_, M⟩
 simp only [slot] at hj
 by_cases hjk : j = k
 · subst hjk
   rw [A1] at hj
   cases hj
   exact h
 · rw [A4 hjk] at hj
   exact A8.ext X (S.slots j y hj)
theorem Rq {s s' : St V.E} {β : Nat -> BI} {a : Act} {w : World} (S : Rv V C s β a w) {p : Pl} {ag : Bool} {ls : List (A5 V.E)} (h : U6 s p = some (ag, ls)) :
   ∃ vs : List Value, Bj (Ak V.T s.boxes β (Bb C β w) w) ls vs /\ ∀ (bx1 : List (Nat × Box V.E)) (β1 : Nat -> BI) (ls' : List (A5 V.E)), Bo V.T C bx1 β1 w -> Ext V.T s.boxes β (Bb C β w) w bx1 β1 (Bb C β1 w) w ->
     Bj (Ak V.T bx1 β1 (Bb C β1 w) w) ls' vs -> Rs s bx1 p ag ls' = some s' -> Sim V C s' a w := by
 cases p with
 | slot k =>
   simp only [U6] at h
   split at h
   · rename_i c hk
     cases h
     have hr' : A2 V.T s.boxes β (Bb C β w) w c (a.tmps.getD k undef) := S.slots k _ hk
     refine ⟨_, A2.cells hr', λ bx1 β1 ls' M1 X1 R1 hs => ?_⟩
     simp only [Rs] at hs
     split at hs
     · rename_i c' hc'
       cases hs
       refine ⟨β1, S.turn M1 X1 ?_⟩
       have hci := A2.isAg hr'
       unfold B5 at hc'
       split at hc'
       · rename_i hag
         cases hc'
         obtain ⟨vs, hv⟩ := hci.1 hag
         rw [hv] at R1 ⊢
         exact ⟨vs, rfl, R1⟩
       · rename_i l hag
         cases hc'
         rw [hci.2 hag] at R1
         cases R1 with
         | cons q1 q2 => exact q1
       · cases hc'
     · cases hs
   · cases h
 | cell id =>
   simp only [U6] at h
   split at h
   · rename_i ls0 hid
     cases h
     obtain ⟨c, e, h1, h2, h3⟩ := S.mem.boxes id _ hid
     refine ⟨_, h3, λ bx1 β1 ls' M1 X1 R1 hs => ?_⟩
     simp only [Rs] at hs
     split at hs
     · rename_i ls1 hid1
       cases hs
       obtain ⟨b', hb', hc⟩ := X1.box id _ hid
       rw [hid1] at hb'; cases hb'
       simp only [E2] at hc
       obtain ⟨c', e', g1, g2, g3⟩ := M1.boxes id _ hid1
       rw [hc, h2] at g2
       cases g2
       obtain ⟨M2, X2⟩ := M1.set (w' := w) id (.cells ls') (β1 id) rfl rfl rfl (Nat.le_refl _) (λ _ _ _ => rfl) (λ x hx => .inl hx) (M1.nodup id)
         (λ b0 h0 => by rw [hid1] at h0; cases h0; simp only [E2]) (λ X => ⟨c, e, by rw [A9]; exact g1, by rw [A9, hc]; exact h2, Bj.ext X R1⟩)
       exact ⟨_, S.size, S.defers, λ k x hk => A8.ext X2 (A8.ext X1 (S.slots k x hk)), M2⟩
     · cases hs
   · cases h
def Aps (p : Pl) (s : St V.E) : Option (St V.E) :=
 match U6 s p with
 | some (ag, ls) =>
   match Al V s.boxes (frz V ls λ ls => .ret (some (.cv (.ag ls))) []) [] [] with
   | some (some (.cv (.ag ls)), _, bx, _) => Rs s bx p ag ls
   | _ => none
 | none => none
theorem A15 {p : Pl} {s s' : St V.E} (h : Aps p s = some s') {a : Act} {w : World} (S : Sim V C s a w) : Sim V C s' a w := by
 obtain ⟨β, S⟩ := S
 unfold Aps at h
 split at h
 · rename_i ag ls hp
   obtain ⟨vs, hr, hset⟩ := Rq (s' := s') S hp
   split at h
   · rename_i ls1 cs bx ac hi
     obtain ⟨bx1, β1, ls', rs', ws', M1, X1, R1, I1, _⟩ := On ls _ _ β S.mem hr _ _ _ hi
     obtain ⟨e1, _, e3⟩ := Ax I1
     simp only [Option.some.injEq, SV.cv.injEq, CV.ag.injEq] at e1
     subst e1; subst e3
     exact hset _ _ _ M1 X1 R1 h
   · cases h
 · cases h
def Aqv (p : Pl) (j id e e2 : Nat) (s : St V.E) : Option (St V.E) :=
 match U6 s p, A3 id s.boxes with
 | some (ag, ls), none => match ls[j]? with
   | some (.sl t true []) =>
     match e2, t with
     | 0, t => Rs s (put id (.arr e t [] 0 false) s.boxes) p ag (ls.set j (.ar id 0))
     | e2, .sl t => Rs s (put id (.rows e e2 t [] 0 0 .opn) s.boxes) p ag (ls.set j (.ar id 0))
     | _, _ => none
   | _ => none
 | _, _ => none
theorem Bj.set {α β : Type} {R : α -> β -> Prop} {l : List α} {m : List β} (h : Bj R l m) : ∀ {i : Nat} {x : α}, (∀ y, m[i]? = some y -> R x y) -> Bj R (l.set i x) m := by
 induction h with
 | nil => intro i x _; exact .nil
 | cons h t ih =>
   intro i x hx
   cases i with
   | zero => exact .cons (hx _ (by simp)) t
   | succ i => exact .cons h (ih λ y hy => hx y (by simpa using hy))
theorem Am1 {p : Pl} {j id e e2 : Nat} {s s' : St V.E} (h : Aqv p j id e e2 s = some s') {a : Act} {w : World} (S : Sim V C s a w) : Sim V C s' a w := by
 obtain ⟨β, S⟩ := S
 unfold Aqv at h
 split at h
 · rename_i ag ls hp hid
   obtain ⟨vs, hR, hset⟩ := Rq (s' := s') S hp
   split at h
   · rename_i t hj
     obtain ⟨v, hv, hr⟩ := hR.get j _ hj
     simp only [Ak, P6, Bx] at hr
     obtain ⟨ad, cap, hvv, _, hcap, hst, _⟩ := hr
     have had : ad = none := hst trivial rfl
     subst had
     have hcap := hcap rfl
     subst hcap
     have hvv : v = .slice none 0 0 := by simpa using hvv
     have key : ∀ b : Box V.E, (∀ bx1 β1 ok1, β1 id = { β id with hdr := .slice none 0 0, own := [], rows := [] } -> Cu V.T bx1 β1 ok1 w id b) -> ((∃ e t, b = .arr e t [] 0 false) \/ (∃ e e2 t, b = .rows e e2 t [] 0 0 .opn)) ->
         Rs s (put id b s.boxes) p ag (ls.set j (.ar id 0)) = some s' -> Sim V C s' a w := by
       intro b hb hb' hs
       obtain ⟨M, X⟩ := S.mem.set (w' := w) id b { β id with hdr := .slice none 0 0, own := [], rows := [] } rfl rfl rfl (Nat.le_refl _) (λ _ _ _ => rfl) (λ x hx => by simp at hx) (by simp)
         (λ b0 h0 => by rw [hid] at h0; cases h0) (λ _ => hb _ _ _ (A9 _ _ _))
       refine hset _ _ _ M X ?_ hs
       refine (Bj.ext X hR).set λ y hy => ?_
       rw [hv] at hy; cases hy
       rw [hvv]
       simp only [Ak, A1, A9]
       refine ⟨rfl, ?_⟩
       rcases hb' with ⟨e, t, rfl⟩ | ⟨e, e2, t, rfl⟩ <;> exact ⟨Nat.le_refl _, λ _ => by first | rfl | trivial⟩
     split at h
     · refine key _ (λ bx1 β1 ok1 hβ => ?_) (.inl ⟨_, _, rfl⟩) h
       simp only [Cu, Fy]
       rw [hβ]
       exact ⟨rfl, [], ⟨by simp, .inl ⟨rfl, rfl⟩⟩, .nil⟩
     · refine key _ (λ bx1 β1 ok1 hβ => ?_) (.inr ⟨_, _, _, rfl⟩) h
       simp only [Cu, Ju]
       rw [hβ]
       exact ⟨⟨by simp, .inl ⟨rfl, rfl⟩⟩, rfl, .nil⟩
     · cases h
   · cases h
 · cases h
def stL {E : Nat -> Type} : List (A5 E) -> List (A5 E)
 | [] => []
 | .sl t _ xs :: r => .sl t false xs :: stL r
 | l :: r => l :: stL r
def A3d (p : Pl) (s : St V.E) : Option (St V.E) :=
 match U6 s p with
 | some (ag, ls) => Rs s s.boxes p ag (stL ls)
 | none => none
theorem Aap {bx : List (Nat × Box V.E)} {β : Nat -> BI} {ok : Nat -> Prop} {w : World} : ∀ {ls : List (A5 V.E)} {vs : List Value}, Bj (Ak V.T bx β ok w) ls vs -> Bj (Ak V.T bx β ok w) (stL ls) vs
 | [], _, .nil => .nil
 | l :: ls, _, .cons h t => by
   unfold stL
   split
   · rename_i heq; cases heq
   · rename_i heq; cases heq
     exact .cons (Ug (.inr ⟨_, _, false, _, rfl, rfl, λ h => by cases h⟩) h) (Aap t)
   · rename_i heq; cases heq; exact .cons h (Aap t)
theorem A5l {p : Pl} {s s' : St V.E} (h : A3d p s = some s') {a : Act} {w : World} (S : Sim V C s a w) : Sim V C s' a w := by
 obtain ⟨β, S⟩ := S
 unfold A3d at h
 split at h
 · rename_i ag ls hp
   obtain ⟨vs, hR, hset⟩ := Rq (s' := s') S hp
   exact hset _ _ _ S.mem (Ext.refl _ _ _ _ _) (Aap hR) h
 · cases h
def A1e (p : Pl) (j : Nat) (s : St V.E) : Option (St V.E × List Prop) :=
 match U6 s p with
 | some (ag, ls) => match ls[j]? with
   | some (.sl t _ xs) => match Rs s s.boxes p ag (ls.set j (.sl t true xs)) with
     | some s' => some (s', [xs ≠ []])
     | none => none
   | _ => none
 | none => none
theorem Bbr {p : Pl} {j : Nat} {s s' : St V.E} {cs : List Prop} (h : A1e p j s = some (s', cs)) (hc : Ff cs) {a : Act} {w : World} (S : Sim V C s a w) : Sim V C s' a w := by
 obtain ⟨β, S⟩ := S
 unfold A1e at h
 split at h
 · rename_i ag ls hp
   split at h
   · rename_i t st xs hj
     split at h
     · rename_i s1 hs
       cases h
       obtain ⟨vs, hR, hset⟩ := Rq (s' := s') S hp
       refine hset _ _ _ S.mem (Ext.refl _ _ _ _ _) (hR.set λ y hy => ?_) hs
       obtain ⟨v, hv, hr⟩ := hR.get j _ hj
       rw [hv] at hy; cases hy
       exact Ug (bx := s.boxes) (β := β) (.inr ⟨t, st, true, xs, rfl, rfl, λ _ => .inr hc.1⟩) hr
     · cases h
   · cases h
 · cases h
def Qs {E : Nat -> Type} (id id' : Nat) (l : A5 E) : Option (A5 E) := if Qj (Gj l) [id, id'] then some l else none
def reL {E : Nat -> Type} (id cur crv id' nv : Nat) : A5 E -> Option (A5 E)
 | .ar i ver => if Nat.beq i id && Nat.beq ver cur then some (.ar id' nv) else Qs id id' (.ar i ver)
 | .row i ver rv j => if Nat.beq i id && Nat.beq ver cur && Nat.beq rv crv then some (.row id' nv 0 j) else Qs id id' (.row i ver rv j)
 | .ptr i off => if Nat.beq i id then some (.ptr id' off) else Qs id id' (.ptr i off)
 | l => Qs id id' l
def I9 {E : Nat -> Type} (nv : Nat) : Box E -> Option (Box E × Nat × Nat)
 | .cells ls => some (.cells ls, 0, 0)
 | .arr e t xs v fz => some (.arr e t xs nv fz, v, 0)
 | .rows e e2 t xss v rv fz => some (.rows e e2 t xss nv 0 fz, v, rv)
 | .gone => none
def Agf {α : Type} (k : Nat) : List (Nat × α) -> List (Nat × α)
 | [] => []
 | (j, x) :: r => if Nat.beq j k then Agf k r else (j, x) :: Agf k r
theorem Wr {α : Type} (k j : Nat) : ∀ l : List (Nat × α), A3 j (Agf k l) = if j = k then none else A3 j l
 | [] => by simp [Agf, A3]
 | (i, x) :: r => by
   unfold Agf
   by_cases hi : Nat.beq i k = true
   · have := Ap hi; subst this
     simp only [hi, if_true]
     rw [Wr i j r]
     by_cases hj : j = i
     · simp [hj]
     · simp only [hj, if_false]
       show A3 j r = if Nat.beq i j then some x else A3 j r
       rw [H8 (Ne.symm hj)]
       rfl
   · simp only [hi, Bool.false_eq_true, if_false]
     unfold A3
     by_cases hij : Nat.beq i j = true
     · have := Ap hij; subst this
       have hne : i ≠ k := λ e => hi (by rw [e]; simp)
       simp [hne]
     · simp only [hij, Bool.false_eq_true, if_false]; exact Wr k j r
def A4f (id id' nv : Nat) (s : St V.E) : Option (St V.E) :=
 match A3 id s.boxes with
 | some b => match I9 nv b with
   | some (b', cur, crv) =>
     if Nat.beq id id' || (A3 id' s.boxes).isNone then
       if Lh s.slots then
         match L9 (reL id cur crv id' nv) (put id' b' (Agf id s.boxes)) with
         | some bx => some ⟨s.n, Hb (reL id cur crv id' nv) s.slots, bx⟩
         | none => none
       else none
     else none
   | none => none
 | none => none
end
end Go.Ab
