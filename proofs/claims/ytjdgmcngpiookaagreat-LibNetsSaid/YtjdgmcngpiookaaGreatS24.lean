/- Determinants and solutions in package qm. Networks of package lib: what is valid, conductances, numbers told. Networks of package lib: the joined parts. Conditions: none beyond those that each theorem names. -/
import Derived.Test.YtjdgmcngpiookaaGreatS23
import Derived.Test.YtjdgmcngpiookaaGreatS22
namespace Go.Ab
open Go
set_option linter.unusedVariables false
set_option linter.unusedSimpArgs false
theorem U4 {piv : List Int} {p : Nat} (h0 : ∀ k, k < p -> 0 <= piv.getD k 0) (hm : ∀ k k', k < k' -> k' < p -> piv.getD k 0 < piv.getD k' 0) : ∀ k, k < p -> (k : Int) <= piv.getD k 0
 | 0, h => by have := h0 0 h; omega
 | k + 1, h => by
   have := U4 h0 hm k (by omega)
   have := hm k (k + 1) (by omega) h
   omega
theorem Abj {piv : List Int} {p n : Nat} (h1 : ∀ k, k < p -> piv.getD k 0 < (n : Int)) (hm : ∀ k k', k < k' -> k' < p -> piv.getD k 0 < piv.getD k' 0) : ∀ d k, k + d + 1 = p -> piv.getD k 0 + d < (n : Int)
 | 0, k, h => by have := h1 k (by omega); omega
 | d + 1, k, h => by
   have := Abj h1 hm d (k + 1) (by omega)
   have := hm k (k + 1) (by omega) (by omega)
   omega
theorem Adj {piv : List Int} {n : Nat} (h0 : ∀ k, k < n -> 0 <= piv.getD k 0 /\ piv.getD k 0 < (n : Int)) (hm : ∀ k k', k < k' -> k' < n -> piv.getD k 0 < piv.getD k' 0) {k : Nat} (hk : k < n) : piv.getD k 0 = (k : Int) := by
 have h1 := U4 (λ k hk => (h0 k hk).1) hm k hk
 have h2 := Abj (n := n) (λ k hk => (h0 k hk).2) hm (n - 1 - k) k (by omega)
 omega
theorem Vd {piv : List Int} (p : Nat) : ∀ k, k <= p -> (∀ i, i < k -> piv.getD i 0 = (i : Int)) \/ ∃ k', k' < k /\ piv.getD k' 0 ≠ (k' : Int)
 | 0, _ => .inl λ i hi => by omega
 | k + 1, h => by
   rcases Vd p k (by omega) with h1 | ⟨k', h1, h2⟩
   · by_cases hk : piv.getD k 0 = (k : Int)
     · exact .inl λ i hi => by
         by_cases hik : i = k
         · subst hik; exact hk
         · exact h1 i (by omega)
     · exact .inr ⟨k, by omega, hk⟩
   · exact .inr ⟨k', by omega, h2⟩
theorem Ar3 {piv : List Int} {p n : Nat} (hp : p < n) (h0 : ∀ k, k < p -> 0 <= piv.getD k 0 /\ piv.getD k 0 < (n : Int)) (hm : ∀ k k', k < k' -> k' < p -> piv.getD k 0 < piv.getD k' 0) : ∃ j, j < n /\ ∀ k, k < p -> piv.getD k 0 ≠ (j : Int) := by
 have hlow := U4 (λ k hk => (h0 k hk).1) hm
 rcases Classical.em (∀ i, i < p -> piv.getD i 0 = (i : Int)) with h | h
 · exact ⟨p, hp, λ k hk => by rw [h k hk]; omega⟩
 · -- the first one that is not in its place
   have : ∃ k, k < p /\ piv.getD k 0 ≠ (k : Int) /\ ∀ i, i < k -> piv.getD i 0 = (i : Int) := by
     have hex : ∃ k, k < p /\ piv.getD k 0 ≠ (k : Int) := by
       rcases Vd (piv := piv) p p (Nat.le_refl _) with h1 | h1
       · exact (h h1).elim
       · exact h1
     obtain ⟨k, hk⟩ := hex
     induction k using Nat.strongRecOn with
     | _ k ih =>
       rcases Vd (piv := piv) k k (Nat.le_refl _) with h1 | ⟨k', h1, h2⟩
       · exact ⟨k, hk.1, hk.2, h1⟩
       · exact ih k' h1 ⟨by omega, h2⟩
   obtain ⟨k, hk, hk2, hk3⟩ := this
   refine ⟨k, by omega, λ i hi => ?_⟩
   rcases Nat.lt_trichotomy i k with h1 | h1 | h1
   · rw [hk3 i h1]; omega
   · subst h1; exact hk2
   · have := hm k i h1 hi
     have := hlow k hk
     omega
theorem D3 (k : Nat) : Sz 0 (k + 1) := by
 have : (4294967296 : Int) ^ 1 <= 4294967296 ^ (k + 1) := Dg (by omega)
 unfold Sz
 simp at this ⊢
 omega
theorem G6 (k : Nat) : Sz 1 (k + 1) := by
 have : (4294967296 : Int) ^ 1 <= 4294967296 ^ (k + 1) := Dg (by omega)
 unfold Sz
 simp at this ⊢
 omega
theorem Anb {m : QmM} {n : Nat} {A0 : Nat -> Nat -> Rat} (M : E4 m.V n n A0) (hC : m.C = (n : Int)) (hn : n <= 12) {g0 : Nat} (S : MSz n n A0 g0) (hg : 3 <= g0) (hg2 : g0 <= 290) :
   Ar (Vg m) λ q => Cc q (det n A0) /\ Sz (det n A0) 5000000000 := by
 unfold Vg
 rw [hC]
 refine (Tq M hn (by omega) (Nat.le_refl _) S hg hg2).bind ?_
 rintro ⟨o, piv, d⟩ ⟨D, A, cc, h1, h2, h3, I, h4⟩
 simp only at h1 h2 h3 I h4
 have hm := M.rows
 simp only [Ai, At, Ae, decide_eq_true_eq]
 refine ⟨λ h => ?_, λ h => ?_⟩
 · have hp : piv.length < n := by omega
   have hcc : cc = n := by rcases h4 with h4 | h4 <;> omega
   subst hcc
   have hz : det cc A0 = 0 := by
     rw [I.det, Pe hp λ j hj => ?_]
     · grind
     · rcases Classical.em (∃ k, k < piv.length /\ piv.getD k 0 = (j : Int)) with ⟨k, hk, he⟩ | hno
       · have := I.unit piv.length k hp hk
         rw [he, Int.toNat_natCast, if_neg (by omega)] at this
         exact this
       · exact I.zero _ j (Nat.le_refl _) hp hj λ k hk he => hno ⟨k, hk, he⟩
   rw [hz]
   refine (Dj (n := 0) (by omega) (by omega)).mono ?_
   rintro y hy
   exact ⟨hy, D3 _⟩
 · have hp : piv.length = n := by have := I.ler; omega
   have hpv : ∀ k, k < n -> piv.getD k 0 = (k : Int) := λ k hk => Adj (λ k hk => by have := I.inc k (by omega); have := I.lec; omega) (λ k k' h1 h2 => I.mono k k' h1 (by omega)) hk
   have h1 : det n A = 1 := Am2 λ i j hi hj => by
     have := I.unit i j hi (by omega)
     rw [hpv j hj, Int.toNat_natCast] at this
     exact this
   have hd : det n A0 = D := by rw [I.det, h1]; grind
   rw [hd]
   exact ⟨h3, I.szD.mono (Ak9 (by omega) hg2)⟩
def QZ0 : Al := ⟨⟨0, [], false⟩, ⟨0, [], false⟩⟩
theorem Zr {n : Nat} {v : List Al} (hv : v.length = n) (hn : n <= 1000) {f : Int -> Int -> List Al -> Option ((Int × Int × List Al) ⊕ List Al)}
   (hf : ∀ (i : Nat) (w : List Al) (Q : (Int × Int × List Al) ⊕ List Al -> Prop), w.length = n -> i <= n -> (i < n -> ∀ q, Cc q 0 -> Q (.inl ((n : Int), (i : Int) + 1, w.set i q))) -> (i = n -> Q (.inr w)) -> Ar (f (n : Int) (i : Int) w) Q) :
   Ar (Bj (λ v : (Int × Int × List Al) => f v.1 v.2.1 v.2.2) ((n : Int), (0 : Int), v)) λ o => o.length = n /\ ∀ i, i < n -> Cc (o.getD i Bd) 0 := by
 refine As (I := λ s : Int × Int × List Al => ∃ i : Nat, s.1 = (n : Int) /\ s.2.1 = (i : Int) /\ i <= n /\ s.2.2.length = n /\ ∀ k, k < i -> Cc (s.2.2.getD k Bd) 0) (μ := λ s : Int × Int × List Al => n - s.2.1.toNat)
   ⟨0, rfl, rfl, Nat.zero_le _, hv, λ k hk => by omega⟩ ?_
 rintro ⟨n', i', w⟩ ⟨i, h1, h2, h3, h4, h5⟩
 simp only at h1 h2 h4 h5
 subst h1 h2
 refine hf i w _ h4 h3 (λ hi q hq => ?_) (λ hi => ?_)
 · rw [Av]
   refine ⟨⟨i + 1, rfl, by simp, by omega, by simp [h4], λ k hk => ?_⟩, by simp; omega⟩
   show Cc ((w.set i q).getD k Bd) 0
   rw [Bf]
   split
   · exact hq
   · exact h5 k (by omega)
 · rw [Aw]
   subst hi
   exact ⟨h4, h5⟩
theorem Aci {a1 v1 : Int} {k c r : Nat} (hc : c <= 1000) (hk : k < r) {m : List (List Al)} (hm : m.length = r) (hl : (m.getD k []).length = c) :
   Ar (Bj (λ v : (Int × Int × (List (List Al))) => Uw a1 v1 (k : Int) v.1 v.2.1 v.2.2) ((c : Int), (0 : Int), m)) λ o => o.length = r /\ (o.getD k []).length = c /\ (∀ i, i ≠ k -> o.getD i [] = m.getD i []) /\ ∀ j, j < c -> Cc (mg o k j) 0 := by
 refine As (I := λ s : Int × Int × List (List Al) => ∃ n : Nat, s.1 = (c : Int) /\ s.2.1 = (n : Int) /\ n <= c /\ s.2.2.length = r /\ (s.2.2.getD k []).length = c /\ (∀ i, i ≠ k -> s.2.2.getD i [] = m.getD i []) /\ ∀ j, j < n -> Cc (mg s.2.2 k j) 0)
   (μ := λ s : Int × Int × List (List Al) => c - s.2.1.toNat) ⟨0, rfl, rfl, Nat.zero_le _, hm, hl, λ i _ => rfl, λ j hj => by omega⟩ ?_
 rintro ⟨c', n', w⟩ ⟨n, h1, h2, h3, h4, h5, h6, h7⟩
 simp only at h1 h2 h4 h5 h6 h7
 subst h1 h2
 unfold Uw
 simp only [Ai, Ah, At, Ae, decide_eq_true_eq, Av, Aw, Af, Int.toNat_natCast]
 refine ⟨λ h => ⟨by omega, ?_⟩, λ h => ?_⟩
 · refine (Dj (n := 0) (by omega) (by omega)).mono ?_
   rintro y hy
   rw [Bg (by omega) (by omega)]
   refine ⟨by omega, ⟨n + 1, trivial, by simp, by omega, by simp [h4], ?_, λ i hi => ?_, λ j hj => ?_⟩, by omega⟩
   · rw [Bf, if_pos ⟨rfl, by omega⟩, List.length_set]; exact h5
   · rw [Bf, if_neg (by omega)]; exact h6 i hi
   · unfold mg
     rw [Bf, if_pos ⟨rfl, by omega⟩, Bf]
     split
     · exact hy
     · exact h7 j (by omega)
 · have : n = c := by omega
   subst this
   exact ⟨h4, h5, h6, h7⟩
theorem Abl {r c : Nat} (hr : r <= 1000) (hc : c <= 1000) : Ar (W3 (r : Int) (c : Int)) λ o => o.C = (c : Int) /\ E4 o.V r c λ _ _ => 0 := by
 unfold W3
 simp only [Ah, At, Int.toNat_natCast, List.length_replicate]
 refine ⟨by omega, by omega, by unfold Ap; omega, ?_⟩
 refine (As (I := λ s : Int × Int × List (List Al) => ∃ n : Nat, s.1 = (r : Int) /\ s.2.1 = (n : Int) /\ n <= r /\ s.2.2.length = r /\ ∀ i, i < n -> (s.2.2.getD i []).length = c /\ ∀ j, j < c -> Cc (mg s.2.2 i j) 0)
   (μ := λ s : Int × Int × List (List Al) => r - s.2.1.toNat) (Q := λ o => E4 o r c λ _ _ => 0) ⟨0, rfl, rfl, Nat.zero_le _, by simp, λ i hi => by omega⟩ ?_).mono ?_
 · rintro ⟨r', n', w⟩ ⟨n, h1, h2, h3, h4, h5⟩
   simp only at h1 h2 h4 h5
   subst h1 h2
   unfold Ws
   simp only [Ai, Ah, At, Ae, decide_eq_true_eq, Av, Aw, Af, Int.toNat_natCast, List.length_set]
   refine ⟨λ h => ⟨by omega, by omega, by unfold Ap; omega, by omega, by omega, ?_⟩, λ h => ?_⟩
   · have eg : (w.set n (List.replicate c QZ0)).getD n [] = List.replicate c QZ0 := by rw [Bf, if_pos ⟨rfl, by omega⟩]
     have el : ((w.set n (List.replicate c QZ0)).getD n []).length = c := by rw [eg]; simp
     have := Aci (a1 := (c : Int)) (v1 := (r : Int)) (k := n) (c := c) (r := r) hc (by omega) (m := w.set n (List.replicate c QZ0)) (by simp [h4]) el
     unfold QZ0 at this el
     rw [el]
     refine this.mono ?_
     rintro o ⟨o1, o2, o3, o4⟩
     rw [Bg (by omega) (by omega)]
     refine ⟨⟨n + 1, trivial, by simp, by omega, o1, λ i hi => ?_⟩, by omega⟩
     by_cases hin : i = n
     · subst hin; exact ⟨o2, o4⟩
     · have e : o.getD i [] = w.getD i [] := by rw [o3 i hin, Bf, if_neg (by omega)]
       have := h5 i (by omega)
       refine ⟨by rw [e]; exact this.1, λ j hj => ?_⟩
       unfold mg
       rw [e]; exact this.2 j hj
   · have : n = r := by omega
     subst this
     exact ⟨h4, λ i hi => (h5 i hi).1, λ i j hi hj => (h5 i hi).2 j hj⟩
 · rintro o ho
   rw [Ae]
   exact ⟨rfl, ho⟩
theorem Ab1 {b : List Al} {n : Nat} (hb : b.length = n) (hn : n <= 1000) : Ar (Oh b) λ o => o.C = 1 /\ o.V.length = n /\ ∀ i, i < n -> o.V.getD i [] = [b.getD i Bd] := by
 unfold Oh
 rw [At]
 refine (As (I := λ s : Int × List (List Al) => ∃ k : Nat, s.1 = (k : Int) /\ k <= n /\ s.2.length = k /\ ∀ i, i < k -> s.2.getD i [] = [b.getD i Bd]) (μ := λ s : Int × List (List Al) => n - s.1.toNat)
   (Q := λ o => o.length = n /\ ∀ i, i < n -> o.getD i [] = [b.getD i Bd]) ⟨0, rfl, Nat.zero_le _, rfl, λ i hi => by omega⟩ ?_).mono ?_
 · rintro ⟨i, w⟩ ⟨k, h1, h2, h3, h4⟩
   simp only at h1 h3 h4
   subst h1
   unfold Ol
   simp only [Ai, Ah, Ae, decide_eq_true_eq, Av, Aw, Af, Int.toNat_natCast]
   refine ⟨λ h => ?_, λ h => ?_⟩
   · rw [Bg (by omega) (by omega)]
     refine ⟨by omega, by unfold Ap; simp; omega, ⟨k + 1, by simp, by omega, by simp [h3], λ i hi => ?_⟩, by omega⟩
     rw [Eg]
     split
     · exact h4 i (by omega)
     · rw [if_pos (by omega)]
       have : i = k := by omega
       subst this
       rfl
   · have : k = n := by omega
     subst this
     exact ⟨h3, h4⟩
 · rintro o ⟨o1, o2⟩
   rw [Ae]
   exact ⟨rfl, o1, o2⟩
theorem Adl {m y : QmM} {n : Nat} {A : Nat -> Nat -> Rat} (M : E4 m.V n n A) (hC : m.C = (n : Int)) (hn : n <= 12) (hyC : y.C = 1) (hyl : y.V.length = n) {b : List Al} {x : Nat -> Rat} (hy : ∀ i, i < n -> y.V.getD i [] = [b.getD i Bd]) (hb : ∀ i, i < n -> Cc (b.getD i Bd) (x i)) :
   Ar (Lr m y) λ o => E4 o.V n (n + 1) λ i j => if j < n then A i j else x i := by
 have hm := M.rows
 unfold Lr
 rw [At]
 refine (As (I := λ s : Int × List (List Al) => ∃ k : Nat, s.1 = (k : Int) /\ k <= n /\ s.2.length = k /\ ∀ i, i < k -> s.2.getD i [] = m.V.getD i [] ++ [b.getD i Bd]) (μ := λ s : Int × List (List Al) => n - s.1.toNat)
   (Q := λ o => o.length = n /\ ∀ i, i < n -> o.getD i [] = m.V.getD i [] ++ [b.getD i Bd]) ⟨0, rfl, Nat.zero_le _, rfl, λ i hi => by omega⟩ ?_).mono ?_
 · rintro ⟨i, w⟩ ⟨k, h1, h2, h3, h4⟩
   simp only at h1 h3 h4
   subst h1
   unfold M9
   simp only [Ai, Ah, Ae, decide_eq_true_eq, Av, Aw, Af, Int.toNat_natCast]
   refine ⟨λ h => ?_, λ h => ?_⟩
   · have hk : k < n := by omega
     have hl := M.cols k hk
     rw [Bg (by omega) (by omega), hy k hk]
     refine ⟨by omega, by rw [hl]; unfold Ap; omega, by omega, by rw [hl]; unfold Ap; simp; omega, by unfold Ap; omega, ⟨k + 1, by simp, by omega, by simp [h3], λ i hi => ?_⟩, by omega⟩
     rw [Eg]
     split
     · exact h4 i (by omega)
     · rw [if_pos (by omega)]
       have : i = k := by omega
       subst this
       rfl
   · have : k = n := by omega
     subst this
     exact ⟨h3, h4⟩
 · rintro o ⟨o1, o2⟩
   rw [Ae]
   refine ⟨o1, λ i hi => ?_, λ i j hi hj => ?_⟩
   · show (o.getD i []).length = _
     rw [o2 i hi]; simp only [List.length_append, List.length_singleton, M.cols i hi]
   · unfold mg
     show Cc ((o.getD i []).getD j Bd) _
     rw [o2 i hi, Eg, M.cols i hi]
     by_cases hjn : j < n
     · rw [if_pos hjn, if_pos hjn]; exact M.rep i j hi hjn
     · rw [if_neg hjn, if_neg hjn, if_pos (by omega)]; exact hb i hi
theorem Acg {m : QmM} {piv : List Int} {n : Nat} (hp : piv.length = n) (hn : n <= 12) (hpv : ∀ k, k < n -> piv.getD k 0 = (k : Int)) : Ar (N2 m piv (n : Int)) λ _ => True := by
 unfold N2
 simp only [Ah, At, Int.toNat_natCast]
 refine ⟨by omega, by omega, by unfold Ap; omega, ?_⟩
 refine (As (I := λ s : Int × List Bool => ∃ k : Nat, s.1 = (k : Int) /\ k <= n /\ s.2.length = n /\ ∀ i, i < k -> s.2.getD i false = true) (μ := λ s : Int × List Bool => n - s.1.toNat)
   (Q := λ o => o.length = n /\ ∀ i, i < n -> o.getD i false = true) ⟨0, rfl, Nat.zero_le _, by simp, λ i hi => by omega⟩ ?_).mono ?_
 · rintro ⟨i, w⟩ ⟨k, h1, h2, h3, h4⟩
   simp only at h1 h3 h4
   subst h1
   unfold On
   simp only [Ai, Ah, Ae, decide_eq_true_eq, Av, Aw, Af, Int.toNat_natCast]
   refine ⟨λ h => ?_, λ h => ?_⟩
   · rw [Bg (by omega) (by omega), hpv k (by omega)]
     refine ⟨by omega, by omega, ⟨k + 1, by simp, by omega, by simp [h3], λ i hi => ?_⟩, by omega⟩
     rw [Int.toNat_natCast, Bf]
     split
     · rfl
     · exact h4 i (by omega)
   · have : k = n := by omega
     subst this
     exact ⟨h3, h4⟩
 · rintro is ⟨o1, o2⟩
   refine (As (I := λ s : Int × List (List Al) => ∃ k : Nat, s.1 = (k : Int) /\ k <= n) (μ := λ s : Int × List (List Al) => n - s.1.toNat) (Q := λ _ => True) ⟨0, rfl, Nat.zero_le _⟩ ?_).mono λ _ _ => Ae.2 trivial
   rintro ⟨i, w⟩ ⟨k, h1, h2⟩
   simp only at h1
   subst h1
   unfold O0
   rw [Ai]
   simp only [decide_eq_true_eq]
   refine ⟨λ h => ?_, λ h => by rw [Ae, Aw]; trivial⟩
   rw [Ah, Ai, Int.toNat_natCast, o2 k (by omega)]
   refine ⟨⟨by omega, by rw [o1]; omega⟩, λ _ => ?_, λ h => (h rfl).elim⟩
   rw [Ae, Av, Bg (by omega) (by omega)]
   exact ⟨⟨k + 1, by simp, by omega⟩, by simp; omega⟩
theorem Ab9 {n : Nat} {A : Nat -> Nat -> Rat} {y : Nat -> Rat} (x : Nat -> Rat) (i : Nat) : sm (n + 1) (λ j => (if j < n then A i j else y i) * x j) = sm n (λ j => A i j * x j) + y i * x n := by
 rw [sm, if_neg (by omega)]
 congr 1
 exact Bl λ j hj => by rw [if_pos hj]
theorem Agk {n r : Nat} {A : Nat -> Nat -> Rat} {y : Nat -> Rat} {g0 cc : Nat} {D : Rat} {piv : List Int} {A' : Nat -> Nat -> Rat} (I : N1 r (n + 1) n (λ i j => if j < n then A i j else y i) g0 cc D piv A') (h4 : cc = n \/ piv.length = r) (hr : n <= r)
   (htriv : ∀ x, Ker n r A x -> ∀ i, i < n -> x i = 0) : piv.length = n := by
 have hinc : ∀ k, k < piv.length -> 0 <= piv.getD k 0 /\ piv.getD k 0 < (n : Int) := λ k hk => by have := I.inc k hk; have := I.lec; omega
 have hle := I.le
 have hlec := I.lec
 rcases Nat.lt_or_ge piv.length n with hlt | hge
 · exfalso
   have hcc : cc = n := by rcases h4 with h4 | h4 <;> omega
   subst hcc
   obtain ⟨j0, hj0, hfree⟩ := Ar3 hlt hinc I.mono
   let s : Nat -> Rat := λ j => sm piv.length λ k => if piv.getD k 0 = (j : Int) then A' k j0 else 0
   let x : Nat -> Rat := λ j => (if j = j0 then 1 else 0) - s j
   have hs : ∀ j : Nat, (∀ k, k < piv.length -> piv.getD k 0 ≠ (j : Int)) -> s j = 0 := λ j h => Ij λ k hk => if_neg (h k hk)
   have hker : Ker (cc + 1) r A' x := by
     intro i hi
     have e1 : sm (cc + 1) (λ j => A' i j * x j) = sm (cc + 1) (λ j => A' i j * (if j = j0 then 1 else 0)) - sm (cc + 1) (λ j => A' i j * s j) := by
       rw [<- Sn]
       exact Bl λ j _ => by show A' i j * ((if j = j0 then 1 else 0) - s j) = _; grind
     have e2 : sm (cc + 1) (λ j => A' i j * (if j = j0 then 1 else 0)) = A' i j0 := by
       rw [H8 (k := j0) (by omega) (λ j _ hne => by rw [if_neg hne]; grind), if_pos rfl]; grind
     have e3 : sm (cc + 1) (λ j => A' i j * s j) = sm piv.length (λ k => (if i = k then 1 else 0) * A' k j0) := by
       have : sm (cc + 1) (λ j => A' i j * s j) = sm (cc + 1) (λ j => sm piv.length λ k => A' i j * (if piv.getD k 0 = (j : Int) then A' k j0 else 0)) := Bl λ j _ => (Gu _ _ _).symm
       rw [this, My]
       refine Bl λ k hk => ?_
       have hik := hinc k hk
       rw [H8 (k := (piv.getD k 0).toNat) (by omega) (λ j _ hne => by rw [if_neg (by omega)]; grind), if_pos (by omega), I.unit i k hi hk]
     rw [e1, e2, e3]
     rcases Nat.lt_or_ge i piv.length with hip | hip
     · rw [H8 (k := i) hip (λ k _ hne => by rw [if_neg (Ne.symm hne)]; grind), if_pos rfl]; grind
     · rw [Ij (λ k hk => by rw [if_neg (by omega)]; grind), I.zero i j0 hip hi hj0 hfree]; grind
   have hk0 := (I.ker x).2 hker
   have hxn : x cc = 0 := by
     show (if cc = j0 then 1 else 0) - s cc = 0
     rw [if_neg (by omega), hs cc λ k hk => by have := hinc k hk; omega]; grind
   have hx0 := htriv x (λ i hi => by
     have := hk0 i hi
     rw [Ab9, hxn] at this
     grind) j0 hj0
   have : (if j0 = j0 then (1 : Rat) else 0) - s j0 = 0 := hx0
   rw [if_pos rfl, hs j0 hfree] at this
   grind
 · omega
theorem Afn {m : QmM} {n : Nat} {A : Nat -> Nat -> Rat} (M : E4 m.V n n A) (hC : m.C = (n : Int)) (hn : n <= 12) {g0 : Nat} (S : MSz n n A g0) (hg : 3 <= g0) (hg2 : g0 <= 290) {b : List Al} {y : Nat -> Rat} (hbl : b.length = n) (hb : ∀ i, i < n -> Cc (b.getD i Bd) (y i)) (hbs : ∀ i, i < n -> Sz (y i) g0)
   (htriv : ∀ x, Ker n n A x -> ∀ i, i < n -> x i = 0) :
   Ar (Oc m b) λ o => ∃ x : Nat -> Rat, o.1.length = n /\ (∀ i, i < n -> Cc (o.1.getD i Bd) (x i) /\ Sz (x i) 5000000000) /\ ∀ i, i < n -> sm n (λ j => A i j * x j) = y i := by
 unfold Oc
 refine (Ab1 hbl (by omega)).bind ?_
 rintro y1 ⟨y1C, y1l, y1e⟩
 refine (Adl M hC hn y1C y1l y1e hb).bind ?_
 rintro y2 hy2
 have S2 : MSz n (n + 1) (λ i j => if j < n then A i j else y i) g0 := λ i j hi hj => by
   show Sz (if j < n then A i j else y i) g0
   split
   · rename_i h; exact S i j hi h
   · exact hbs i hi
 rw [hC]
 refine (Tq hy2 hn (by omega) (Nat.le_succ n) S2 hg hg2).bind ?_
 rintro ⟨o, piv, d⟩ ⟨D, A', cc, h1, h2, h3, I, h4⟩
 simp only at h1 h2 h3 I h4
 have hinc : ∀ k, k < piv.length -> 0 <= piv.getD k 0 /\ piv.getD k 0 < (n : Int) := λ k hk => by have := I.inc k hk; have := I.lec; omega
 have hp := Agk I h4 (Nat.le_refl _) htriv
 have hpv : ∀ k, k < n -> piv.getD k 0 = (k : Int) := λ k hk => Adj (λ k hk => hinc k (by omega)) (λ k k' h1 h2 => I.mono k k' h1 (by omega)) hk
 have hunit : ∀ i j, i < n -> j < n -> A' i j = if i = j then 1 else 0 := λ i j hi hj => by
   have := I.unit i j hi (by omega)
   rw [hpv j hj, Int.toNat_natCast] at this
   exact this
 have hro := h2.rows
 simp only [At]
 have L1 : Ar (Bj (λ v : Int => L4 m (o, piv, d) v) ((piv.length : Nat) : Int)) λ r => ∃ u, r = .inl u := by
   refine V4 ?_
   unfold L4
   rw [Ai]
   refine ⟨λ h => ?_, λ h => by rw [Ae]; exact ⟨(), rfl⟩⟩
   simp only [decide_eq_true_eq] at h
   have h : (piv.length : Int) < (o.V.length : Int) := h
   omega
 refine L1.mono ?_
 rintro r ⟨u, rfl⟩
 simp only [Ah, At, Int.toNat_natCast, List.length_replicate]
 refine ⟨by omega, by omega, by unfold Ap; omega, ?_⟩
 have F := Zr (n := n) (v := List.replicate n QZ0) (by simp) (by omega) (f := λ a b c => Mm m (o, piv, d) a b c) (λ i w Q hw hi hQ hE => by
   unfold Mm
   simp only [Ai, At, Ah, Ae, decide_eq_true_eq, Af, Int.toNat_natCast]
   refine ⟨λ h => ?_, λ h => hE (by omega)⟩
   refine (Dj (n := 0) (by omega) (by omega)).mono ?_
   rintro q hq
   rw [Bg (by omega) (by omega)]
   exact ⟨by omega, hQ (by omega) q hq⟩)
 unfold QZ0 at F
 refine F.mono ?_
 rintro z ⟨z1, z2⟩
 refine (As (I := λ s : Int × List Al => ∃ k : Nat, s.1 = (k : Int) /\ k <= n /\ s.2.length = n /\ ∀ i, i < k -> Cc (s.2.getD i Bd) (A' i n)) (μ := λ s : Int × List Al => n - s.1.toNat)
   (Q := λ w => w.length = n /\ ∀ i, i < n -> Cc (w.getD i Bd) (A' i n)) ⟨0, rfl, Nat.zero_le _, z1, λ i hi => by omega⟩ ?_).mono ?_
 · rintro ⟨i, w⟩ ⟨k, g1, g2, g3, g4⟩
   simp only at g1 g3 g4
   subst g1
   unfold Pc
   simp only [Ai, Ah, Ae, decide_eq_true_eq, Av, Aw, Af, Int.toNat_natCast, hC]
   refine ⟨λ h => ?_, λ h => ?_⟩
   · have hk : k < n := by omega
     have hcl := h2.cols k hk
     rw [Bg (by omega) (by omega), hpv k hk]
     refine ⟨by omega, by omega, by omega, by omega, ⟨k + 1, by simp, by omega, by simp [g3], λ i hi => ?_⟩, by omega⟩
     rw [Int.toNat_natCast, Bf]
     split
     · rename_i hik; rw [hik.1]; exact h2.rep k n hk (by omega)
     · exact g4 i (by omega)
   · have : k = n := by omega
     subst this
     exact ⟨g3, g4⟩
 · rintro w ⟨w1, w2⟩
   refine (Acg (m := o) hp hn hpv).mono ?_
   rintro y6 _
   rw [Ae]
   refine ⟨λ i => A' i n, w1, λ i hi => ⟨w2 i hi, (I.sz i n hi (by omega)).mono (Ak9 (by omega) hg2)⟩, λ i hi => ?_⟩
   let x : Nat -> Rat := λ j => if j < n then A' j n else -1
   have hker : Ker (n + 1) n A' x := by
     intro a ha
     rw [sm, H8 (k := a) ha (λ j hj hne => by rw [hunit a j ha hj, if_neg (Ne.symm hne)]; grind), hunit a a ha ha, if_pos rfl]
     show 1 * (if a < n then A' a n else -1) + A' a n * (if n < n then A' n n else -1) = 0
     rw [if_pos ha, if_neg (by omega)]; grind
   have := (I.ker x).2 hker i hi
   rw [Ab9] at this
   have e : sm n (λ j => A i j * x j) = sm n (λ j => A i j * A' j n) := Bl λ j hj => by show A i j * (if j < n then A' j n else -1) = _; rw [if_pos hj]
   rw [e] at this
   have e2 : x n = -1 := by show (if n < n then A' n n else -1) = (-1 : Rat); rw [if_neg (by omega)]
   rw [e2] at this
   grind
theorem Aav (a b : Int) : Int.gcd b (a.tmod b) = Int.gcd a b := by
 rw [Int.gcd_eq_natAbs_gcd_natAbs, Int.gcd_eq_natAbs_gcd_natAbs, Int.natAbs_tmod, Nat.gcd_comm a.natAbs, Nat.gcd_rec b.natAbs a.natAbs, Nat.gcd_comm]
def ROk (x : Au) : Prop := Pz x /\ Int.gcd x.N x.D = 1
theorem Vz (x : Au) : Ar (Mj x) λ b => (b = true -> ROk x) /\ (ROk x -> b = true) := by
 unfold Mj Jg
 simp only [Ai, Ae, At, decide_eq_true_eq]
 refine ⟨λ h => ⟨λ h => (by cases h), λ h' => by have := h'.1; unfold Pz at this; omega⟩, λ h1 => ⟨λ h => ⟨λ h => (by cases h), λ h' => by have := h'.1; unfold Pz at this; omega⟩, λ h2 => ⟨λ h => ⟨λ h => (by cases h), λ h' => by have := h'.1; unfold Pz at this; omega⟩, λ h3 => ⟨λ h => ⟨λ h => (by cases h), λ h' => by have := h'.1; unfold Pz at this; omega⟩, λ h4 => ?_⟩⟩⟩⟩
 refine (As (I := λ s : Int × Int => Int.gcd s.1 s.2 = Int.gcd x.N x.D) (μ := λ s : Int × Int => s.2.natAbs) (Q := λ r => r.natAbs = Int.gcd x.N x.D) rfl ?_).mono ?_
 · rintro ⟨a, b⟩ h
   simp only at h
   unfold O2
   simp only [Ai, Ah, Ae, Bool.not_eq_true', decide_eq_false_iff_not, Av, Aw]
   refine ⟨λ hb => ⟨hb, by rw [Aav]; exact h, ?_⟩, λ hb => ?_⟩
   · rw [Int.natAbs_tmod]; exact Nat.mod_lt _ (by omega)
   · have hb : b = 0 := by omega
     subst hb
     rw [<- h, Int.gcd_zero_right]
 · intro r hr
   have hs : Pz x := by unfold Pz; omega
   refine ⟨λ h => ⟨λ _ => ⟨hs, by rw [<- hr]; omega⟩, λ _ => trivial⟩, λ h => ⟨λ h' => ⟨hs, by rw [<- hr]; omega⟩, λ h' => by have := h'.2; omega⟩⟩
theorem Ab0 {x : Au} (h : ROk x) : (Ed x).num = x.N /\ ((Ed x).den : Int) = x.D := by
 obtain ⟨⟨_, _, h3, _⟩, hg⟩ := h
 unfold Ed
 rw [Rat.num_divInt, Rat.den_divInt, if_neg (by omega), Int.gcd_comm, hg, Int.sign_eq_one_of_pos h3]
 simp
 omega
theorem Qn {x : Au} (h : ROk x) : Ar (R0 x) λ q => Cc q (Ed x) := by
 obtain ⟨e1, e2⟩ := Ab0 h
 obtain ⟨h1, h2, h3, h4⟩ := h.1
 unfold R0 Xk
 simp only [At, Ae]
 exact ⟨ZOk.small (by omega) (by omega), ZOk.small (by omega) (by omega), by rw [Cz, e1], by rw [Cz, e2]⟩
theorem Fv {x : Au} (h : ROk x) : Sz (Ed x) 2 := sz2 h.1.1 h.1.2.1 h.1.2.2.1 h.1.2.2.2
theorem O5 {x : Au} (h : ROk x) (hp : 1 <= x.N) : 0 < Ed x := by
 have h1 : 0 <= Ed x := Rat.num_nonneg.1 (by rw [(Ab0 h).1]; omega)
 have h2 : Ed x ≠ 0 := λ e => by
   have := (Ab0 h).1
   rw [e] at this
   simp at this
   omega
 exact Rat.lt_of_le_of_ne h1 (Ne.symm h2)
structure Ke (n : Nat) (a : D4) : Prop where
 a0 : 0 <= a.A
 a1 : a.A < (n : Int)
 b0 : 0 <= a.B
 b1 : a.B < (n : Int)
 r : ROk a.R
 rpos : 1 <= a.R.N
 e : ROk a.E
structure GOk (g : An) (n : Nat) : Prop where
 nodes : g.Nodes = (n : Int)
 n1 : 1 <= n
 n12 : n <= 12
 arms : g.Arms.length <= 40
 arm : ∀ e, e < g.Arms.length -> Ke n (g.Arms.getD e Ac)
theorem Me (g : An) : Ar (J7 g) λ e => (e = 0 -> ∃ n, GOk g n) /\ ((∃ n, GOk g n) -> e = 0) /\ (e ≠ 0 -> e = if 40 < g.Arms.length then 3 else 1) := by
 unfold J7 Nx
 simp only [Ai, Ae, At, decide_eq_true_eq]
 refine ⟨λ h => ⟨λ h => by omega, λ ⟨n, h'⟩ => by have := h'.arms; omega, λ _ => by rw [if_pos (by omega)]⟩, λ h1 => ⟨λ h => ⟨λ h => by omega, λ ⟨n, h'⟩ => by have := h'.nodes; have := h'.n1; omega, λ _ => by rw [if_neg (by omega)]⟩, λ h2 => ⟨λ h => ⟨λ h => by omega, λ ⟨n, h'⟩ => by have := h'.nodes; have := h'.n12; omega, λ _ => by rw [if_neg (by omega)]⟩, λ h3 => ?_⟩⟩⟩
 obtain ⟨n, hn⟩ : ∃ n : Nat, g.Nodes = (n : Int) := ⟨g.Nodes.toNat, by omega⟩
 refine (As (I := λ v : Int => ∃ k : Nat, v = (k : Int) /\ k <= g.Arms.length /\ ∀ e, e < k -> Ke n (g.Arms.getD e Ac)) (μ := λ v : Int => g.Arms.length - v.toNat)
   (Q := λ r => match r with | .inl _ => GOk g n | .inr e => e = 1 /\ ¬ ∃ n, GOk g n) ⟨0, rfl, Nat.zero_le _, λ e he => by omega⟩ ?_).mono ?_
 · rintro v ⟨k, rfl, hk, hall⟩
   have bad : (k < g.Arms.length) -> ¬ Ke n (g.Arms.getD k Ac) -> Ar Ha (Id (λ v : Int => ∃ k : Nat, v = (k : Int) /\ k <= g.Arms.length /\ ∀ e, e < k -> Ke n (g.Arms.getD e Ac)) (λ v : Int => g.Arms.length - v.toNat) (k : Int)
       (λ r : Unit ⊕ Int => match r with | .inl _ => GOk g n | .inr e => e = 1 /\ ¬ ∃ n, GOk g n)) := by
     intro hk hb
     unfold Ha
     rw [Ae, Aw]
     refine ⟨rfl, λ ⟨n', h'⟩ => hb ?_⟩
     have e : n' = n := by have := h'.nodes; omega
     subst e
     exact h'.arm k hk
   unfold Q2
   simp only [Ai, Ah, Ae, At, decide_eq_true_eq, Af, Int.toNat_natCast, Av, Aw]
   refine ⟨λ hlt => ⟨by omega, ?_⟩, λ hge => ?_⟩
   · have hk : k < g.Arms.length := by omega
     refine ⟨λ h => bad hk λ h' => by have := h'.a0; omega, λ a0 => ⟨λ h => bad hk λ h' => by have := h'.a1; omega, λ a1 => ⟨λ h => bad hk λ h' => by have := h'.b0; omega, λ b0 => ⟨λ h => bad hk λ h' => by have := h'.b1; omega, λ b1 => ?_⟩⟩⟩⟩
     refine (Vz _).mono ?_
     rintro v1 ⟨hv1, hv1'⟩
     refine ⟨λ h => bad hk λ h' => ?_, λ h => ⟨λ h5 => bad hk λ h' => by have := h'.rpos; omega, λ h5 => ?_⟩⟩
     · have := hv1' h'.r; rw [this] at h; simp at h
     · refine (Vz _).mono ?_
       rintro v2 ⟨hv2, hv2'⟩
       refine ⟨λ h6 => bad hk λ h' => ?_, λ h6 => ?_⟩
       · have := hv2' h'.e; rw [this] at h6; simp at h6
       · rw [Bg (by omega) (by omega)]
         refine ⟨⟨k + 1, by simp, by omega, λ e he => ?_⟩, by omega⟩
         by_cases hek : e = k
         · subst hek
           exact ⟨by omega, by omega, by omega, by omega, hv1 (by simpa using h), by omega, hv2 (by simpa using h6)⟩
         · exact hall e (by omega)
   · exact ⟨hn, by omega, by omega, by omega, λ e he => hall e (by omega)⟩
 · intro r hr
   cases r with
   | inl u => rw [Ae]; exact ⟨λ _ => ⟨n, hr⟩, λ _ => rfl, λ h => (h rfl).elim⟩
   | inr e => rw [Ae]; exact ⟨λ h => by have := hr.1; omega, λ h => (hr.2 h).elim, λ _ => by rw [if_neg (by omega)]; exact hr.1⟩
def cond (a : D4) : Rat := 1 / Ed a.R
theorem Qc {n : Nat} {a : D4} (h : Ke n a) : 0 < cond a := by
 have := O5 h.r h.rpos
 unfold cond
 rw [Rat.div_def, Rat.one_mul]
 exact Rat.inv_pos.2 this
theorem Aqk {n : Nat} {a : D4} (h : Ke n a) : cond a * Ed a.R = 1 := by
 have := Rat.ne_of_gt (O5 h.r h.rpos)
 unfold cond
 exact Rat.div_mul_cancel this
theorem Nf {n : Nat} {a : D4} (h : Ke n a) : Sz (cond a) 3 := by
 have h0 := Rat.ne_of_gt (O5 h.r h.rpos)
 have := (G6 0).div (Fv h.r) h0
 unfold cond
 exact this
theorem Qu {n : Nat} {a : D4} (h : Ke n a) : Ar (K5 a) λ q => Cc q (cond a) := by
 unfold K5
 refine (Dj (n := 1) (by omega) (by omega)).bind ?_
 rintro x hx
 refine (Qn h.r).bind ?_
 rintro y hy
 refine (Zo hx hy (k := 1) (m := 2) (G6 0) (Fv h.r) (by omega) (Rat.ne_of_gt (O5 h.r h.rpos))).bind ?_
 rintro q hq
 rw [Ae]
 exact hq
def Jf (x : Rat) : Prop := -1000000000000 <= x.num /\ x.num <= 1000000000000 /\ (x.den : Int) <= 1000000000000
theorem Abg {q : Al} {x : Rat} (h : Cc q x) : Ar (Oy q) λ r => (r.2 = true ↔ Jf x) /\ (r.2 = true -> r.1 = ⟨x.num, x.den⟩) := by
 unfold Oy Ny
 refine (Y5 h.okN (most := 1000000000000) (by omega) (by omega)).bind ?_
 rintro ⟨n, bn⟩ ⟨n1, n2, n3⟩
 refine (Y5 h.okD (most := 1000000000000) (by omega) (by omega)).bind ?_
 rintro ⟨d, bd⟩ ⟨d1, d2, d3⟩
 simp only at n1 n2 n3 d1 d2 d3
 have hd := x.den_pos
 rw [h.num] at n1 n2
 rw [h.den] at d1 d2
 unfold Jf
 cases bn <;> cases bd <;> simp [Ai, Ae] at n1 n2 n3 d1 d2 d3 ⊢
 · omega
 · omega
 · omega
 · exact ⟨by omega, n2, d2⟩
theorem O6 {q : Al} {x : Rat} (h : Cc q x) : Ar (Hx q) λ r => (r.2 = 0 ↔ Jf x) /\ (r.2 = 0 -> r.1 = ⟨x.num, x.den⟩) /\ (r.2 ≠ 0 -> r = (⟨0, 0⟩, 3)) := by
 unfold Hx
 refine (Abg h).bind ?_
 rintro ⟨a, b⟩ ⟨h1, h2⟩
 simp only at h1 h2
 simp only [Ai, Ae, Bool.not_eq_true']
 refine ⟨λ hb => ⟨⟨λ h => by omega, λ h => by rw [h1.2 h] at hb; cases hb⟩, λ h => by omega, λ _ => trivial⟩, λ hb => ?_⟩
 have hb : b = true := by simpa using hb
 exact ⟨⟨λ _ => h1.1 hb, λ _ => trivial⟩, λ _ => h2 hb, λ h => (h rfl).elim⟩
def am (g : An) (e : Nat) : D4 := g.Arms.getD e Ac
def nA (g : An) (e : Nat) : Nat := (am g e).A.toNat
def nB (g : An) (e : Nat) : Nat := (am g e).B.toNat
def Eqv (g : An) (i j : Nat) : Prop := ∀ f : Nat -> Int, (∀ e, e < g.Arms.length -> f (nA g e) = f (nB g e)) -> f i = f j
theorem Eqv.refl (g : An) (i : Nat) : Eqv g i i := λ _ _ => rfl
theorem Eqv.symm {g : An} {i j : Nat} (h : Eqv g i j) : Eqv g j i := λ f hf => (h f hf).symm
theorem Eqv.trans {g : An} {i j k : Nat} (h : Eqv g i j) (h' : Eqv g j k) : Eqv g i k := λ f hf => (h f hf).trans (h' f hf)
theorem Eqv.arm {g : An} {e : Nat} (he : e < g.Arms.length) : Eqv g (nA g e) (nB g e) := λ f hf => hf e he
theorem GOk.ab {g : An} {n : Nat} (G : GOk g n) {e : Nat} (he : e < g.Arms.length) : nA g e < n /\ nB g e < n /\ (am g e).A = (nA g e : Int) /\ (am g e).B = (nB g e : Int) := by
 have h := G.arm e he
 have h0 := h.a0; have h1 := h.a1; have h2 := h.b0; have h3 := h.b1
 unfold nA nB am
 omega
def cnt : Nat -> (Nat -> Bool) -> Nat
 | 0, _ => 0
 | n + 1, p => cnt n p + if p n then 1 else 0
theorem Aur (p : Nat -> Bool) : ∀ n, cnt n p <= n
 | 0 => Nat.le_refl _
 | n + 1 => by have := Aur p n; rw [cnt]; split <;> omega
theorem Ad8 {p q : Nat -> Bool} : ∀ {n}, (∀ i, i < n -> p i = true -> q i = true) -> cnt n p <= cnt n q
 | 0, _ => Nat.le_refl _
 | n + 1, h => by
   have := Ad8 (n := n) (λ i hi => h i (by omega))
   have h1 := h n (by omega)
   rw [cnt, cnt]
   cases hp : p n
   · simp; omega
   · rw [h1 hp]; simp; omega
theorem Yn {p q : Nat -> Bool} : ∀ {n}, (∀ i, i < n -> p i = true -> q i = true) -> (∃ i, i < n /\ p i = false /\ q i = true) -> cnt n p + 1 <= cnt n q
 | 0, _, ⟨i, hi, _⟩ => by omega
 | n + 1, h, ⟨i, hi, h1, h2⟩ => by
   rw [cnt, cnt]
   by_cases hin : i = n
   · subst hin
     have := Ad8 (n := i) (λ j hj => h j (by omega))
     rw [h1, h2]; simp; omega
   · have := Yn (n := n) (λ j hj => h j (by omega)) ⟨i, by omega, h1, h2⟩
     have h3 := h n (by omega)
     cases hp : p n
     · simp; omega
     · rw [h3 hp]; simp; omega
theorem Awt {p : Nat -> Bool} {n i : Nat} (hi : i < n) (h : p i = true) : 1 <= cnt n p := by
 have := Yn (p := λ _ => false) (q := p) (n := n) (λ _ _ h => by cases h) ⟨i, hi, rfl, h⟩
 omega
theorem Bak {P : Nat -> Prop} (m : Nat) (h : P m) : ∃ k, P k /\ k <= m /\ ∀ j, j < k -> ¬ P j := by
 induction m using Nat.strongRecOn with
 | _ m ih =>
   rcases Classical.em (∃ j, j < m /\ P j) with ⟨j, hj, hp⟩ | hno
   · obtain ⟨k, h1, h2, h3⟩ := ih j hj hp
     exact ⟨k, h1, by omega, h3⟩
   · exact ⟨m, h, Nat.le_refl _, λ j hj hp => hno ⟨j, hj, hp⟩⟩
structure LOk (g : An) (n : Nat) (l : List Int) : Prop where
 len : l.length = n
 rng : ∀ i, i < n -> 0 <= l.getD i 0 /\ l.getD i 0 <= (i : Int)
 eqv : ∀ i, i < n -> Eqv g i (l.getD i 0).toNat
theorem LOk.ge {g : An} {n : Nat} {l : List Int} (L : LOk g n l) {μ : Nat} (hμ : ∀ m, m < μ -> ¬ Eqv g m μ) {i : Nat} (hi : i < n) (he : Eqv g i μ) : (μ : Int) <= l.getD i 0 := by
 have h1 := L.rng i hi
 have h2 := L.eqv i hi
 by_cases h : l.getD i 0 < (μ : Int)
 · exact (hμ _ (by omega) (h2.symm.trans he)).elim
 · omega
theorem Ad1 {g : An} {n : Nat} (G : GOk g n) (v5 : Int) {l : List Int} (L : LOk g n l) :
   Ar (Bj (λ v : (Int × (List Int)) => Kx g v5 v.1 v.2) ((0 : Int), l)) λ l' => LOk g n l' /\ (∀ i, i < n -> l'.getD i 0 <= l.getD i 0) /\ ∀ e, e < g.Arms.length -> l'.getD (nA g e) 0 <= l.getD (nB g e) 0 /\ l'.getD (nB g e) 0 <= l.getD (nA g e) 0 := by
 refine As (I := λ s : Int × List Int => ∃ k : Nat, s.1 = (k : Int) /\ k <= g.Arms.length /\ LOk g n s.2 /\ (∀ i, i < n -> s.2.getD i 0 <= l.getD i 0) /\ ∀ e, e < k -> s.2.getD (nA g e) 0 <= l.getD (nB g e) 0 /\ s.2.getD (nB g e) 0 <= l.getD (nA g e) 0)
   (μ := λ s : Int × List Int => g.Arms.length - s.1.toNat) ⟨0, rfl, Nat.zero_le _, L, λ i _ => Int.le_refl _, λ e he => by omega⟩ ?_
 rintro ⟨i, w⟩ ⟨k, h1, h2, h3, h4, h5⟩
 simp only at h1 h3 h4 h5
 subst h1
 have hw := h3.len
 have h40 := G.arms
 unfold Kx
 simp only [Ai, Ah, Ae, decide_eq_true_eq, Av, Aw, Af, Int.toNat_natCast, List.length_set]
 refine ⟨λ h => ?_, λ h => ?_⟩
 · have hk : k < g.Arms.length := by omega
   obtain ⟨a1, a2, a3, a4⟩ := G.ab hk
   have eA : (List.getD g.Arms k Ac).A = (nA g k : Int) := a3
   have eB : (List.getD g.Arms k Ac).B = (nB g k : Int) := a4
   rw [eA, eB, Bg (by omega) (by omega)]
   simp only [Int.toNat_natCast]
   obtain ⟨m, hm⟩ : ∃ m, m = (if w.getD (nB g k) 0 < w.getD (nA g k) 0 then w.getD (nB g k) 0 else w.getD (nA g k) 0) := ⟨_, rfl⟩
   rw [<- hm]
   have m1 : m <= w.getD (nA g k) 0 /\ m <= w.getD (nB g k) 0 /\ (m = w.getD (nA g k) 0 \/ m = w.getD (nB g k) 0) := by rw [hm]; split <;> omega
   have hget : ∀ i, ((w.set (nA g k) m).set (nB g k) m).getD i 0 = if i = nA g k \/ i = nB g k then m else w.getD i 0 := by
     intro i
     rw [getD_set, getD_set, List.length_set]
     by_cases hi : i = nB g k
     · rw [if_pos ⟨hi, by omega⟩, if_pos (.inr hi)]
     · rw [if_neg (by omega)]
       by_cases hi2 : i = nA g k
       · rw [if_pos ⟨hi2, by omega⟩, if_pos (.inl hi2)]
       · rw [if_neg (by omega), if_neg (by omega)]
   have rA := h3.rng _ a1
   have rB := h3.rng _ a2
   refine ⟨by omega, by omega, by omega, by omega, by omega, ⟨k + 1, by simp, by omega, ⟨by simp [hw], λ i hi => ?_, λ i hi => ?_⟩, λ i hi => ?_, λ e he => ?_⟩, by omega⟩
   · rw [hget]
     split
     · rename_i h; rcases h with h | h <;> subst h <;> omega
     · exact h3.rng i hi
   · rw [hget]
     split
     · rename_i h
       have e1 : Eqv g i (nA g k) := by
         rcases h with h | h
         · rw [h]; exact Eqv.refl _ _
         · rw [h]; exact (Eqv.arm hk).symm
       rcases m1.2.2 with h' | h'
       · rw [h']; exact e1.trans (h3.eqv _ a1)
       · rw [h']; exact (e1.trans (Eqv.arm hk)).trans (h3.eqv _ a2)
     · exact h3.eqv i hi
   · rw [hget]
     have q1 := h4 _ a1; have q2 := h4 _ a2
     split
     · rename_i h; rcases h with h | h <;> subst h <;> omega
     · exact h4 i hi
   · have q1 := h4 _ a1; have q2 := h4 _ a2
     have dec : ∀ i, i < n -> ((w.set (nA g k) m).set (nB g k) m).getD i 0 <= w.getD i 0 := by
       intro i hi
       rw [hget]
       split
       · rename_i h; rcases h with h | h <;> subst h <;> omega
       · exact Int.le_refl _
     by_cases hek : e = k
     · subst hek
       rw [hget, if_pos (.inl rfl), hget, if_pos (.inr rfl)]
       omega
     · obtain ⟨b1, b2, _, _⟩ := G.ab (show e < g.Arms.length by omega)
       have := h5 e (by omega)
       have := dec _ b1; have := dec _ b2
       omega
 · have : k = g.Arms.length := by omega
   subst this
   exact ⟨h3, h4, h5⟩
structure JOk (g : An) (n : Nat) (l : List Int) : Prop where
 lok : LOk g n l
 arm : ∀ e, e < g.Arms.length -> l.getD (nA g e) 0 = l.getD (nB g e) 0
theorem Uh {g : An} {n : Nat} (G : GOk g n) : Ar (Km g) λ l => JOk g n l := by
 have hn := G.nodes
 have hn12 := G.n12
 unfold Km
 simp only [Ah, At, hn, Int.toNat_natCast, List.length_replicate]
 refine ⟨by omega, by omega, by unfold Ap; omega, ?_⟩
 refine (As (I := λ s : Int × Int × List Int => ∃ k : Nat, s.1 = (n : Int) /\ s.2.1 = (k : Int) /\ k <= n /\ s.2.2.length = n /\ ∀ i, i < k -> s.2.2.getD i 0 = (i : Int)) (μ := λ s : Int × Int × List Int => n - s.2.1.toNat)
   (Q := λ l => l.length = n /\ ∀ i, i < n -> l.getD i 0 = (i : Int)) ⟨0, rfl, rfl, Nat.zero_le _, by simp, λ i hi => by omega⟩ ?_).mono ?_
 · rintro ⟨n', k', w⟩ ⟨k, h1, h2, h3, h4, h5⟩
   simp only at h1 h2 h4 h5
   subst h1 h2
   unfold Nh
   simp only [Ai, Ah, Ae, decide_eq_true_eq, Av, Aw, Af, Int.toNat_natCast]
   refine ⟨λ h => ?_, λ h => ?_⟩
   · rw [Bg (by omega) (by omega)]
     refine ⟨by omega, ⟨k + 1, trivial, by simp, by omega, by simp [h4], λ i hi => ?_⟩, by omega⟩
     rw [getD_set]
     split
     · rename_i h; rw [h.1]
     · exact h5 i (by omega)
   · have : k = n := by omega
     subst this
     exact ⟨h4, h5⟩
 · rintro l0 ⟨l1, l2⟩
   refine (As (I := λ s : Int × List Int => ∃ k : Nat, s.1 = (k : Int) /\ k <= n /\ LOk g n s.2 /\ ∀ μ, μ < n -> (∀ m, m < μ -> ¬ Eqv g m μ) -> (∀ i, i < n -> Eqv g i μ -> s.2.getD i 0 = (μ : Int)) \/ k + 1 <= cnt n λ i => decide (s.2.getD i 0 = (μ : Int)))
     (μ := λ s : Int × List Int => n - s.1.toNat) (Q := λ l => JOk g n l) ⟨0, rfl, Nat.zero_le _, ⟨l1, λ i hi => by show 0 <= l0.getD i 0 /\ _; rw [l2 i hi]; omega, λ i hi => by show Eqv g i (l0.getD i 0).toNat; rw [l2 i hi, Int.toNat_natCast]; exact Eqv.refl _ _⟩, λ μ hμ _ => .inr (Awt hμ (by show decide (l0.getD μ 0 = (μ : Int)) = true; rw [l2 μ hμ]; simp))⟩ ?_).mono λ l hl => Ae.2 hl
   rintro ⟨k', l⟩ ⟨k, h1, h2, h3, h4⟩
   simp only at h1 h3 h4
   subst h1
   unfold Mz
   rw [Ai, hn]
   simp only [decide_eq_true_eq, At, Ae, Aw]
   refine ⟨λ h => ?_, λ h => ?_⟩
   · refine (Ad1 G (k : Int) h3).mono ?_
     rintro l' ⟨L', dec, cross⟩
     rw [Av, Bg (by omega) (by omega)]
     refine ⟨⟨k + 1, by simp, by omega, L', λ μ hμ hmin => ?_⟩, by simp; omega⟩
     show (∀ i, i < n -> Eqv g i μ -> l'.getD i 0 = (μ : Int)) \/ _
     have keep : ∀ i, i < n -> l.getD i 0 = (μ : Int) -> l'.getD i 0 = (μ : Int) := by
       intro i hi he
       have e1 := h3.eqv i hi
       rw [he, Int.toNat_natCast] at e1
       have := L'.ge hmin hi e1
       have := dec i hi
       omega
     rcases h4 μ hμ hmin with h5 | h5
     · exact .inl λ i hi he => keep i hi (h5 i hi he)
     · rcases Classical.em (∀ i, i < n -> Eqv g i μ -> l.getD i 0 = (μ : Int)) with h6 | h6
       · exact .inl λ i hi he => keep i hi (h6 i hi he)
       · refine .inr ?_
         have hlμ : l.getD μ 0 = (μ : Int) := by
           have := h3.ge hmin hμ (Eqv.refl _ _)
           have := h3.rng μ hμ
           omega
         -- an arm with one end in
         have : ∃ e, e < g.Arms.length /\ ¬ ((l.getD (nA g e) 0 = (μ : Int)) ↔ (l.getD (nB g e) 0 = (μ : Int))) := by
           refine Classical.byContradiction λ hno => h6 λ i hi he => ?_
           have hf := he (λ j => if l.getD j 0 = (μ : Int) then 1 else 0) λ e hel => by
             have : (l.getD (nA g e) 0 = (μ : Int)) ↔ (l.getD (nB g e) 0 = (μ : Int)) := Classical.byContradiction λ hc => hno ⟨e, hel, hc⟩
             simp only [this]
           simp only [hlμ, if_true] at hf
           refine Classical.byContradiction λ hc => ?_
           rw [if_neg hc] at hf
           omega
         obtain ⟨e, hel, hne⟩ := this
         obtain ⟨b1, b2, _, _⟩ := G.ab hel
         have hc := cross e hel
         have more : ∃ i, i < n /\ decide (l.getD i 0 = (μ : Int)) = false /\ decide (l'.getD i 0 = (μ : Int)) = true := by
           by_cases hA : l.getD (nA g e) 0 = (μ : Int)
           · have hB : l.getD (nB g e) 0 ≠ (μ : Int) := λ h => hne ⟨λ _ => h, λ _ => hA⟩
             have e1 := h3.eqv _ b1
             rw [hA, Int.toNat_natCast] at e1
             have := L'.ge hmin b2 ((Eqv.arm hel).symm.trans e1)
             exact ⟨nB g e, b2, by simpa using hB, by simp only [decide_eq_true_eq]; omega⟩
           · have hB : l.getD (nB g e) 0 = (μ : Int) := Classical.byContradiction λ h => hne ⟨λ h' => (hA h').elim, λ h' => (h h').elim⟩
             have e1 := h3.eqv _ b2
             rw [hB, Int.toNat_natCast] at e1
             have := L'.ge hmin b1 ((Eqv.arm hel).trans e1)
             exact ⟨nA g e, b1, by simpa using hA, by simp only [decide_eq_true_eq]; omega⟩
         have := Yn (n := n) (p := λ i => decide (l.getD i 0 = (μ : Int))) (q := λ i => decide (l'.getD i 0 = (μ : Int))) (λ i hi h => by
           simp only [decide_eq_true_eq] at h ⊢; exact keep i hi h) more
         show k + 1 + 1 <= cnt n λ i => decide (l'.getD i 0 = (μ : Int))
         omega
   · have hk : k = n := by omega
     subst hk
     refine ⟨h3, λ e he => ?_⟩
     obtain ⟨b1, b2, _, _⟩ := G.ab he
     obtain ⟨μ, m1, m2, m3⟩ := Bak (P := λ m => Eqv g m (nA g e)) (nA g e) (Eqv.refl _ _)
     rcases h4 μ (by omega) (λ m hm h => m3 m hm (h.trans m1)) with h5 | h5
     · rw [h5 _ b1 m1.symm, h5 _ b2 ((Eqv.arm he).symm.trans m1.symm)]
     · have := Aur (λ i => decide (l.getD i 0 = (μ : Int))) k
       omega
end Go.Ab
