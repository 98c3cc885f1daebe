/- Determinants and solutions in package qm. Networks of package lib: what is valid, conductances, numbers told. Networks of package lib: the joined parts. Conditions: none beyond those that each theorem names. -/
import Derived.Test.YtjdgmcngpiookaaK23
import Derived.Test.YtjdgmcngpiookaaK22
namespace Go.Ab
open Go
set_option linter.unusedVariables false
set_option linter.unusedSimpArgs false
theorem piv_lower {piv : List Int} {p : Nat} (h0 : ∀ k, k < p → 0 ≤ piv.getD k 0) (hm : ∀ k k', k < k' → k' < p → piv.getD k 0 < piv.getD k' 0) : ∀ k, k < p → (k : Int) ≤ piv.getD k 0
  | 0, h => by have := h0 0 h; omega
  | k + 1, h => by
    have := piv_lower h0 hm k (by omega)
    have := hm k (k + 1) (by omega) h
    omega
theorem piv_upper {piv : List Int} {p n : Nat} (h1 : ∀ k, k < p → piv.getD k 0 < (n : Int)) (hm : ∀ k k', k < k' → k' < p → piv.getD k 0 < piv.getD k' 0) : ∀ d k, k + d + 1 = p → piv.getD k 0 + d < (n : Int)
  | 0, k, h => by have := h1 k (by omega); omega
  | d + 1, k, h => by
    have := piv_upper h1 hm d (k + 1) (by omega)
    have := hm k (k + 1) (by omega) (by omega)
    omega
theorem piv_all {piv : List Int} {n : Nat} (h0 : ∀ k, k < n → 0 ≤ piv.getD k 0 ∧ piv.getD k 0 < (n : Int)) (hm : ∀ k k', k < k' → k' < n → piv.getD k 0 < piv.getD k' 0) {k : Nat} (hk : k < n) : piv.getD k 0 = (k : Int) := by
  have h1 := piv_lower (fun k hk => (h0 k hk).1) hm k hk
  have h2 := piv_upper (n := n) (fun k hk => (h0 k hk).2) hm (n - 1 - k) k (by omega)
  omega
theorem piv_first {piv : List Int} (p : Nat) : ∀ k, k ≤ p → (∀ i, i < k → piv.getD i 0 = (i : Int)) ∨ ∃ k', k' < k ∧ piv.getD k' 0 ≠ (k' : Int)
  | 0, _ => .inl fun i hi => by omega
  | k + 1, h => by
    rcases piv_first p k (by omega) with h1 | ⟨k', h1, h2⟩
    · by_cases hk : piv.getD k 0 = (k : Int)
      · exact .inl fun i hi => by
          by_cases hik : i = k
          · subst hik; exact hk
          · exact h1 i (by omega)
      · exact .inr ⟨k, by omega, hk⟩
    · exact .inr ⟨k', by omega, h2⟩
theorem piv_free {piv : List Int} {p n : Nat} (hp : p < n) (h0 : ∀ k, k < p → 0 ≤ piv.getD k 0 ∧ piv.getD k 0 < (n : Int)) (hm : ∀ k k', k < k' → k' < p → piv.getD k 0 < piv.getD k' 0) : ∃ j, j < n ∧ ∀ k, k < p → piv.getD k 0 ≠ (j : Int) := by
  have hlow := piv_lower (fun k hk => (h0 k hk).1) hm
  rcases Classical.em (∀ i, i < p → piv.getD i 0 = (i : Int)) with h | h
  · exact ⟨p, hp, fun k hk => by rw [h k hk]; omega⟩
  · -- the first one that is not in its place
    have : ∃ k, k < p ∧ piv.getD k 0 ≠ (k : Int) ∧ ∀ i, i < k → piv.getD i 0 = (i : Int) := by
      have hex : ∃ k, k < p ∧ piv.getD k 0 ≠ (k : Int) := by
        rcases piv_first (piv := piv) p p (Nat.le_refl _) with h1 | h1
        · exact (h h1).elim
        · exact h1
      obtain ⟨k, hk⟩ := hex
      induction k using Nat.strongRecOn with
      | _ k ih =>
        rcases piv_first (piv := piv) k k (Nat.le_refl _) with h1 | ⟨k', h1, h2⟩
        · exact ⟨k, hk.1, hk.2, h1⟩
        · exact ih k' h1 ⟨by omega, h2⟩
    obtain ⟨k, hk, hk2, hk3⟩ := this
    refine ⟨k, by omega, fun i hi => ?_⟩
    rcases Nat.lt_trichotomy i k with h1 | h1 | h1
    · rw [hk3 i h1]; omega
    · subst h1; exact hk2
    · have := hm k i h1 hi
      have := hlow k hk
      omega
theorem sz_zero (k : Nat) : Sz 0 (k + 1) := by
  have : (4294967296 : Int) ^ 1 ≤ 4294967296 ^ (k + 1) := pow_mono' (by omega)
  unfold Sz
  simp at this ⊢
  omega
theorem sz_one (k : Nat) : Sz 1 (k + 1) := by
  have : (4294967296 : Int) ^ 1 ≤ 4294967296 ^ (k + 1) := pow_mono' (by omega)
  unfold Sz
  simp at this ⊢
  omega
theorem pow5 {p g0 : Nat} (hp : p ≤ 12) (hg2 : g0 ≤ 400) : 5 ^ p * g0 ≤ 100000000000 := by
  have h1 : 5 ^ p ≤ 5 ^ 12 := Nat.pow_le_pow_right (by omega) hp
  have h2 := Nat.mul_le_mul h1 hg2
  have h3 : (5 : Nat) ^ 12 * 400 ≤ 100000000000 := by decide
  omega
theorem det_gives {m : QmM} {n : Nat} {A0 : Nat → Nat → Rat} (M : MRep m.V n n A0) (hC : m.C = (n : Int)) (hn : n ≤ 12) {g0 : Nat} (S : MSz n n A0 g0) (hg : 3 ≤ g0) (hg2 : g0 ≤ 400) :
    Gives (qmMDet m) fun q => QRep q (det n A0) ∧ Sz (det n A0) 100000000000 := by
  unfold qmMDet
  rw [hC]
  refine (reduce_gives M hn (by omega) (Nat.le_refl _) S hg hg2).bind ?_
  rintro ⟨o, piv, d⟩ ⟨D, A, cc, h1, h2, h3, I, h4⟩
  simp only at h1 h2 h3 I h4
  have hm := M.rows
  simp only [gives_ite, gives_bind, gives_some, decide_eq_true_eq]
  refine ⟨fun h => ?_, fun h => ?_⟩
  · have hp : piv.length < n := by omega
    have hcc : cc = n := by rcases h4 with h4 | h4 <;> omega
    subst hcc
    have hz : det cc A0 = 0 := by
      rw [I.det, det_zero_row hp fun j hj => ?_]
      · grind
      · rcases Classical.em (∃ k, k < piv.length ∧ piv.getD k 0 = (j : Int)) with ⟨k, hk, he⟩ | hno
        · have := I.unit piv.length k hp hk
          rw [he, Int.toNat_natCast, if_neg (by omega)] at this
          exact this
        · exact I.zero _ j (Nat.le_refl _) hp hj fun k hk he => hno ⟨k, hk, he⟩
    rw [hz]
    refine (qint_gives (n := 0) (by omega) (by omega)).mono ?_
    rintro y hy
    exact ⟨hy, sz_zero _⟩
  · have hp : piv.length = n := by have := I.ler; omega
    have hpv : ∀ k, k < n → piv.getD k 0 = (k : Int) := fun k hk => piv_all (fun k hk => by have := I.inc k (by omega); have := I.lec; omega) (fun k k' h1 h2 => I.mono k k' h1 (by omega)) hk
    have h1 : det n A = 1 := det_one fun i j hi hj => by
      have := I.unit i j hi (by omega)
      rw [hpv j hj, Int.toNat_natCast] at this
      exact this
    have hd : det n A0 = D := by rw [I.det, h1]; grind
    rw [hd]
    exact ⟨h3, I.szD.mono (pow5 (by omega) hg2)⟩
def QZ0 : NumQ := ⟨⟨0, [], false⟩, ⟨0, [], false⟩⟩
theorem fill_gives {n : Nat} {v : List NumQ} (hv : v.length = n) (hn : n ≤ 1000) {f : Int → Int → List NumQ → Option ((Int × Int × List NumQ) ⊕ List NumQ)}
    (hf : ∀ (i : Nat) (w : List NumQ) (Q : (Int × Int × List NumQ) ⊕ List NumQ → Prop), w.length = n → i ≤ n → (i < n → ∀ q, QRep q 0 → Q (.inl ((n : Int), (i : Int) + 1, w.set i q))) → (i = n → Q (.inr w)) → Gives (f (n : Int) (i : Int) w) Q) :
    Gives (iter (fun v : (Int × Int × List NumQ) => f v.1 v.2.1 v.2.2) ((n : Int), (0 : Int), v)) fun o => o.length = n ∧ ∀ i, i < n → QRep (o.getD i NumQZ) 0 := by
  refine gives_iter (I := fun s : Int × Int × List NumQ => ∃ i : Nat, s.1 = (n : Int) ∧ s.2.1 = (i : Int) ∧ i ≤ n ∧ s.2.2.length = n ∧ ∀ k, k < i → QRep (s.2.2.getD k NumQZ) 0) (μ := fun s : Int × Int × List NumQ => n - s.2.1.toNat)
    ⟨0, rfl, rfl, Nat.zero_le _, hv, fun k hk => by omega⟩ ?_
  rintro ⟨n', i', w⟩ ⟨i, h1, h2, h3, h4, h5⟩
  simp only at h1 h2 h4 h5
  subst h1 h2
  refine hf i w _ h4 h3 (fun hi q hq => ?_) (fun hi => ?_)
  · rw [round_inl]
    refine ⟨⟨i + 1, rfl, by simp, by omega, by simp [h4], fun k hk => ?_⟩, by simp; omega⟩
    show QRep ((w.set i q).getD k NumQZ) 0
    rw [getD_setG]
    split
    · exact hq
    · exact h5 k (by omega)
  · rw [round_inr]
    subst hi
    exact ⟨h4, h5⟩
theorem newRow_gives {a1 v1 : Int} {k c r : Nat} (hc : c ≤ 1000) (hk : k < r) {m : List (List NumQ)} (hm : m.length = r) (hl : (m.getD k []).length = c) :
    Gives (iter (fun v : (Int × Int × (List (List NumQ))) => qmNewL2 a1 v1 (k : Int) v.1 v.2.1 v.2.2) ((c : Int), (0 : Int), m)) fun o => o.length = r ∧ (o.getD k []).length = c ∧ (∀ i, i ≠ k → o.getD i [] = m.getD i []) ∧ ∀ j, j < c → QRep (mg o k j) 0 := by
  refine gives_iter (I := fun s : Int × Int × List (List NumQ) => ∃ n : Nat, s.1 = (c : Int) ∧ s.2.1 = (n : Int) ∧ n ≤ c ∧ s.2.2.length = r ∧ (s.2.2.getD k []).length = c ∧ (∀ i, i ≠ k → s.2.2.getD i [] = m.getD i []) ∧ ∀ j, j < n → QRep (mg s.2.2 k j) 0)
    (μ := fun s : Int × Int × List (List NumQ) => c - s.2.1.toNat) ⟨0, rfl, rfl, Nat.zero_le _, hm, hl, fun i _ => rfl, fun j hj => by omega⟩ ?_
  rintro ⟨c', n', w⟩ ⟨n, h1, h2, h3, h4, h5, h6, h7⟩
  simp only at h1 h2 h4 h5 h6 h7
  subst h1 h2
  unfold qmNewL2
  simp only [gives_ite, gives_need, gives_bind, gives_some, decide_eq_true_eq, round_inl, round_inr, inRange, Int.toNat_natCast]
  refine ⟨fun h => ⟨by omega, ?_⟩, fun h => ?_⟩
  · refine (qint_gives (n := 0) (by omega) (by omega)).mono ?_
    rintro y hy
    rw [wi64 (by omega) (by omega)]
    refine ⟨by omega, ⟨n + 1, trivial, by simp, by omega, by simp [h4], ?_, fun i hi => ?_, fun j hj => ?_⟩, by omega⟩
    · rw [getD_setG, if_pos ⟨rfl, by omega⟩, List.length_set]; exact h5
    · rw [getD_setG, if_neg (by omega)]; exact h6 i hi
    · unfold mg
      rw [getD_setG, if_pos ⟨rfl, by omega⟩, getD_setG]
      split
      · exact hy
      · exact h7 j (by omega)
  · have : n = c := by omega
    subst this
    exact ⟨h4, h5, h6, h7⟩
theorem new_gives {r c : Nat} (hr : r ≤ 1000) (hc : c ≤ 1000) : Gives (qmNew (r : Int) (c : Int)) fun o => o.C = (c : Int) ∧ MRep o.V r c fun _ _ => 0 := by
  unfold qmNew
  simp only [gives_need, gives_bind, Int.toNat_natCast, List.length_replicate]
  refine ⟨by omega, by omega, by unfold maxBytes; omega, ?_⟩
  refine (gives_iter (I := fun s : Int × Int × List (List NumQ) => ∃ n : Nat, s.1 = (r : Int) ∧ s.2.1 = (n : Int) ∧ n ≤ r ∧ s.2.2.length = r ∧ ∀ i, i < n → (s.2.2.getD i []).length = c ∧ ∀ j, j < c → QRep (mg s.2.2 i j) 0)
    (μ := fun s : Int × Int × List (List NumQ) => r - s.2.1.toNat) (Q := fun o => MRep o r c fun _ _ => 0) ⟨0, rfl, rfl, Nat.zero_le _, by simp, fun i hi => by omega⟩ ?_).mono ?_
  · rintro ⟨r', n', w⟩ ⟨n, h1, h2, h3, h4, h5⟩
    simp only at h1 h2 h4 h5
    subst h1 h2
    unfold qmNewL1
    simp only [gives_ite, gives_need, gives_bind, gives_some, decide_eq_true_eq, round_inl, round_inr, inRange, Int.toNat_natCast, List.length_set]
    refine ⟨fun h => ⟨by omega, by omega, by unfold maxBytes; omega, by omega, by omega, ?_⟩, fun h => ?_⟩
    · have eg : (w.set n (List.replicate c QZ0)).getD n [] = List.replicate c QZ0 := by rw [getD_setG, if_pos ⟨rfl, by omega⟩]
      have el : ((w.set n (List.replicate c QZ0)).getD n []).length = c := by rw [eg]; simp
      have := newRow_gives (a1 := (c : Int)) (v1 := (r : Int)) (k := n) (c := c) (r := r) hc (by omega) (m := w.set n (List.replicate c QZ0)) (by simp [h4]) el
      unfold QZ0 at this el
      rw [el]
      refine this.mono ?_
      rintro o ⟨o1, o2, o3, o4⟩
      rw [wi64 (by omega) (by omega)]
      refine ⟨⟨n + 1, trivial, by simp, by omega, o1, fun i hi => ?_⟩, by omega⟩
      by_cases hin : i = n
      · subst hin; exact ⟨o2, o4⟩
      · have e : o.getD i [] = w.getD i [] := by rw [o3 i hin, getD_setG, if_neg (by omega)]
        have := h5 i (by omega)
        refine ⟨by rw [e]; exact this.1, fun j hj => ?_⟩
        unfold mg
        rw [e]; exact this.2 j hj
    · have : n = r := by omega
      subst this
      exact ⟨h4, fun i hi => (h5 i hi).1, fun i j hi hj => (h5 i hi).2 j hj⟩
  · rintro o ho
    rw [gives_some]
    exact ⟨rfl, ho⟩
theorem column_gives {b : List NumQ} {n : Nat} (hb : b.length = n) (hn : n ≤ 1000) : Gives (qmColumn b) fun o => o.C = 1 ∧ o.V.length = n ∧ ∀ i, i < n → o.V.getD i [] = [b.getD i NumQZ] := by
  unfold qmColumn
  rw [gives_bind]
  refine (gives_iter (I := fun s : Int × List (List NumQ) => ∃ k : Nat, s.1 = (k : Int) ∧ k ≤ n ∧ s.2.length = k ∧ ∀ i, i < k → s.2.getD i [] = [b.getD i NumQZ]) (μ := fun s : Int × List (List NumQ) => n - s.1.toNat)
    (Q := fun o => o.length = n ∧ ∀ i, i < n → o.getD i [] = [b.getD i NumQZ]) ⟨0, rfl, Nat.zero_le _, rfl, fun i hi => by omega⟩ ?_).mono ?_
  · rintro ⟨i, w⟩ ⟨k, h1, h2, h3, h4⟩
    simp only at h1 h3 h4
    subst h1
    unfold qmColumnL1
    simp only [gives_ite, gives_need, gives_some, decide_eq_true_eq, round_inl, round_inr, inRange, Int.toNat_natCast]
    refine ⟨fun h => ?_, fun h => ?_⟩
    · rw [wi64 (by omega) (by omega)]
      refine ⟨by omega, by unfold maxBytes; simp; omega, ⟨k + 1, by simp, by omega, by simp [h3], fun i hi => ?_⟩, by omega⟩
      rw [getD_appendG]
      split
      · exact h4 i (by omega)
      · rw [if_pos (by omega)]
        have : i = k := by omega
        subst this
        rfl
    · have : k = n := by omega
      subst this
      exact ⟨h3, h4⟩
  · rintro o ⟨o1, o2⟩
    rw [gives_some]
    exact ⟨rfl, o1, o2⟩
theorem beside_gives {m y : QmM} {n : Nat} {A : Nat → Nat → Rat} (M : MRep m.V n n A) (hC : m.C = (n : Int)) (hn : n ≤ 12) (hyC : y.C = 1) (hyl : y.V.length = n) {b : List NumQ} {x : Nat → Rat} (hy : ∀ i, i < n → y.V.getD i [] = [b.getD i NumQZ]) (hb : ∀ i, i < n → QRep (b.getD i NumQZ) (x i)) :
    Gives (qmMBeside m y) fun o => MRep o.V n (n + 1) fun i j => if j < n then A i j else x i := by
  have hm := M.rows
  unfold qmMBeside
  rw [gives_bind]
  refine (gives_iter (I := fun s : Int × List (List NumQ) => ∃ k : Nat, s.1 = (k : Int) ∧ k ≤ n ∧ s.2.length = k ∧ ∀ i, i < k → s.2.getD i [] = m.V.getD i [] ++ [b.getD i NumQZ]) (μ := fun s : Int × List (List NumQ) => n - s.1.toNat)
    (Q := fun o => o.length = n ∧ ∀ i, i < n → o.getD i [] = m.V.getD i [] ++ [b.getD i NumQZ]) ⟨0, rfl, Nat.zero_le _, rfl, fun i hi => by omega⟩ ?_).mono ?_
  · rintro ⟨i, w⟩ ⟨k, h1, h2, h3, h4⟩
    simp only at h1 h3 h4
    subst h1
    unfold qmMBesideL1
    simp only [gives_ite, gives_need, gives_some, decide_eq_true_eq, round_inl, round_inr, inRange, Int.toNat_natCast]
    refine ⟨fun h => ?_, fun h => ?_⟩
    · have hk : k < n := by omega
      have hl := M.cols k hk
      rw [wi64 (by omega) (by omega), hy k hk]
      refine ⟨by omega, by rw [hl]; unfold maxBytes; omega, by omega, by rw [hl]; unfold maxBytes; simp; omega, by unfold maxBytes; omega, ⟨k + 1, by simp, by omega, by simp [h3], fun i hi => ?_⟩, by omega⟩
      rw [getD_appendG]
      split
      · exact h4 i (by omega)
      · rw [if_pos (by omega)]
        have : i = k := by omega
        subst this
        rfl
    · have : k = n := by omega
      subst this
      exact ⟨h3, h4⟩
  · rintro o ⟨o1, o2⟩
    rw [gives_some]
    refine ⟨o1, fun i hi => ?_, fun i j hi hj => ?_⟩
    · show (o.getD i []).length = _
      rw [o2 i hi]; simp only [List.length_append, List.length_singleton, M.cols i hi]
    · unfold mg
      show QRep ((o.getD i []).getD j NumQZ) _
      rw [o2 i hi, getD_appendG, M.cols i hi]
      by_cases hjn : j < n
      · rw [if_pos hjn, if_pos hjn]; exact M.rep i j hi hjn
      · rw [if_neg hjn, if_neg hjn, if_pos (by omega)]; exact hb i hi
theorem kernel_gives {m : QmM} {piv : List Int} {n : Nat} (hp : piv.length = n) (hn : n ≤ 12) (hpv : ∀ k, k < n → piv.getD k 0 = (k : Int)) : Gives (qmKernel m piv (n : Int)) fun _ => True := by
  unfold qmKernel
  simp only [gives_need, gives_bind, Int.toNat_natCast]
  refine ⟨by omega, by omega, by unfold maxBytes; omega, ?_⟩
  refine (gives_iter (I := fun s : Int × List Bool => ∃ k : Nat, s.1 = (k : Int) ∧ k ≤ n ∧ s.2.length = n ∧ ∀ i, i < k → s.2.getD i false = true) (μ := fun s : Int × List Bool => n - s.1.toNat)
    (Q := fun o => o.length = n ∧ ∀ i, i < n → o.getD i false = true) ⟨0, rfl, Nat.zero_le _, by simp, fun i hi => by omega⟩ ?_).mono ?_
  · rintro ⟨i, w⟩ ⟨k, h1, h2, h3, h4⟩
    simp only at h1 h3 h4
    subst h1
    unfold qmKernelL1
    simp only [gives_ite, gives_need, gives_some, decide_eq_true_eq, round_inl, round_inr, inRange, Int.toNat_natCast]
    refine ⟨fun h => ?_, fun h => ?_⟩
    · rw [wi64 (by omega) (by omega), hpv k (by omega)]
      refine ⟨by omega, by omega, ⟨k + 1, by simp, by omega, by simp [h3], fun i hi => ?_⟩, by omega⟩
      rw [Int.toNat_natCast, getD_setG]
      split
      · rfl
      · exact h4 i (by omega)
    · have : k = n := by omega
      subst this
      exact ⟨h3, h4⟩
  · rintro is ⟨o1, o2⟩
    refine (gives_iter (I := fun s : Int × List (List NumQ) => ∃ k : Nat, s.1 = (k : Int) ∧ k ≤ n) (μ := fun s : Int × List (List NumQ) => n - s.1.toNat) (Q := fun _ => True) ⟨0, rfl, Nat.zero_le _⟩ ?_).mono fun _ _ => gives_some.2 trivial
    rintro ⟨i, w⟩ ⟨k, h1, h2⟩
    simp only at h1
    subst h1
    unfold qmKernelL2
    rw [gives_ite]
    simp only [decide_eq_true_eq]
    refine ⟨fun h => ?_, fun h => by rw [gives_some, round_inr]; trivial⟩
    rw [gives_need, gives_ite, Int.toNat_natCast, o2 k (by omega)]
    refine ⟨⟨by omega, by rw [o1]; omega⟩, fun _ => ?_, fun h => (h rfl).elim⟩
    rw [gives_some, round_inl, wi64 (by omega) (by omega)]
    exact ⟨⟨k + 1, by simp, by omega⟩, by simp; omega⟩
theorem solve_gives {m : QmM} {n : Nat} {A : Nat → Nat → Rat} (M : MRep m.V n n A) (hC : m.C = (n : Int)) (hn : n ≤ 12) {g0 : Nat} (S : MSz n n A g0) (hg : 3 ≤ g0) (hg2 : g0 ≤ 400) {b : List NumQ} {y : Nat → Rat} (hbl : b.length = n) (hb : ∀ i, i < n → QRep (b.getD i NumQZ) (y i)) (hbs : ∀ i, i < n → Sz (y i) g0)
    (htriv : ∀ x, Ker n n A x → ∀ i, i < n → x i = 0) :
    Gives (qmMSolve m b) fun o => ∃ x : Nat → Rat, o.1.length = n ∧ (∀ i, i < n → QRep (o.1.getD i NumQZ) (x i) ∧ Sz (x i) 100000000000) ∧ ∀ i, i < n → sm n (fun j => A i j * x j) = y i := by
  unfold qmMSolve
  refine (column_gives hbl (by omega)).bind ?_
  rintro y1 ⟨y1C, y1l, y1e⟩
  refine (beside_gives M hC hn y1C y1l y1e hb).bind ?_
  rintro y2 hy2
  have S2 : MSz n (n + 1) (fun i j => if j < n then A i j else y i) g0 := fun i j hi hj => by
    show Sz (if j < n then A i j else y i) g0
    split
    · rename_i h; exact S i j hi h
    · exact hbs i hi
  rw [hC]
  refine (reduce_gives hy2 hn (by omega) (Nat.le_succ n) S2 hg hg2).bind ?_
  rintro ⟨o, piv, d⟩ ⟨D, A', cc, h1, h2, h3, I, h4⟩
  simp only at h1 h2 h3 I h4
  have hinc : ∀ k, k < piv.length → 0 ≤ piv.getD k 0 ∧ piv.getD k 0 < (n : Int) := fun k hk => by have := I.inc k hk; have := I.lec; omega
  have row : ∀ (x : Nat → Rat) (i : Nat), sm (n + 1) (fun j => (if j < n then A i j else y i) * x j) = sm n (fun j => A i j * x j) + y i * x n := by
    intro x i
    rw [sm, if_neg (by omega)]
    congr 1
    exact sm_congr fun j hj => by rw [if_pos hj]
  -- all columns have a pivot
  have hp : piv.length = n := by
    rcases Nat.lt_or_ge piv.length n with hlt | hge
    · exfalso
      have hcc : cc = n := by rcases h4 with h4 | h4 <;> omega
      subst hcc
      obtain ⟨j0, hj0, hfree⟩ := piv_free hlt hinc I.mono
      let s : Nat → Rat := fun j => sm piv.length fun k => if piv.getD k 0 = (j : Int) then A' k j0 else 0
      let x : Nat → Rat := fun j => (if j = j0 then 1 else 0) - s j
      have hs : ∀ j : Nat, (∀ k, k < piv.length → piv.getD k 0 ≠ (j : Int)) → s j = 0 := fun j h => sm_zero fun k hk => if_neg (h k hk)
      have hker : Ker (cc + 1) cc A' x := by
        intro i hi
        have e1 : sm (cc + 1) (fun j => A' i j * x j) = sm (cc + 1) (fun j => A' i j * (if j = j0 then 1 else 0)) - sm (cc + 1) (fun j => A' i j * s j) := by
          rw [← sm_sub]
          exact sm_congr fun j _ => by show A' i j * ((if j = j0 then 1 else 0) - s j) = _; grind
        have e2 : sm (cc + 1) (fun j => A' i j * (if j = j0 then 1 else 0)) = A' i j0 := by
          rw [sm_one (k := j0) (by omega) (fun j _ hne => by rw [if_neg hne]; grind), if_pos rfl]; grind
        have e3 : sm (cc + 1) (fun j => A' i j * s j) = sm piv.length (fun k => (if i = k then 1 else 0) * A' k j0) := by
          have : sm (cc + 1) (fun j => A' i j * s j) = sm (cc + 1) (fun j => sm piv.length fun k => A' i j * (if piv.getD k 0 = (j : Int) then A' k j0 else 0)) := sm_congr fun j _ => (sm_mul _ _ _).symm
          rw [this, sm_swap]
          refine sm_congr fun k hk => ?_
          have hik := hinc k hk
          rw [sm_one (k := (piv.getD k 0).toNat) (by omega) (fun j _ hne => by rw [if_neg (by omega)]; grind), if_pos (by omega), I.unit i k hi hk]
        rw [e1, e2, e3]
        rcases Nat.lt_or_ge i piv.length with hip | hip
        · rw [sm_one (k := i) hip (fun k _ hne => by rw [if_neg (Ne.symm hne)]; grind), if_pos rfl]; grind
        · rw [sm_zero (fun k hk => by rw [if_neg (by omega)]; grind), I.zero i j0 hip hi hj0 hfree]; grind
      have hk0 := (I.ker x).2 hker
      have hxn : x cc = 0 := by
        show (if cc = j0 then 1 else 0) - s cc = 0
        rw [if_neg (by omega), hs cc fun k hk => by have := hinc k hk; omega]; grind
      have hx0 := htriv x (fun i hi => by
        have := hk0 i hi
        rw [row, hxn] at this
        grind) j0 hj0
      have : (if j0 = j0 then (1 : Rat) else 0) - s j0 = 0 := hx0
      rw [if_pos rfl, hs j0 hfree] at this
      grind
    · have := I.ler; omega
  have hpv : ∀ k, k < n → piv.getD k 0 = (k : Int) := fun k hk => piv_all (fun k hk => hinc k (by omega)) (fun k k' h1 h2 => I.mono k k' h1 (by omega)) hk
  have hunit : ∀ i j, i < n → j < n → A' i j = if i = j then 1 else 0 := fun i j hi hj => by
    have := I.unit i j hi (by omega)
    rw [hpv j hj, Int.toNat_natCast] at this
    exact this
  have hro := h2.rows
  simp only [gives_bind]
  have L1 : Gives (iter (fun v : Int => qmMSolveL1 m (o, piv, d) v) ((piv.length : Nat) : Int)) fun r => ∃ u, r = .inl u := by
    refine gives_iter_step ?_
    unfold qmMSolveL1
    rw [gives_ite]
    refine ⟨fun h => ?_, fun h => by rw [gives_some]; exact ⟨(), rfl⟩⟩
    simp only [decide_eq_true_eq] at h
    have h : (piv.length : Int) < (o.V.length : Int) := h
    omega
  refine L1.mono ?_
  rintro r ⟨u, rfl⟩
  simp only [gives_need, gives_bind, Int.toNat_natCast, List.length_replicate]
  refine ⟨by omega, by omega, by unfold maxBytes; omega, ?_⟩
  have F := fill_gives (n := n) (v := List.replicate n QZ0) (by simp) (by omega) (f := fun a b c => qmMSolveL2 m (o, piv, d) a b c) (fun i w Q hw hi hQ hE => by
    unfold qmMSolveL2
    simp only [gives_ite, gives_bind, gives_need, gives_some, decide_eq_true_eq, inRange, Int.toNat_natCast]
    refine ⟨fun h => ?_, fun h => hE (by omega)⟩
    refine (qint_gives (n := 0) (by omega) (by omega)).mono ?_
    rintro q hq
    rw [wi64 (by omega) (by omega)]
    exact ⟨by omega, hQ (by omega) q hq⟩)
  unfold QZ0 at F
  refine F.mono ?_
  rintro z ⟨z1, z2⟩
  refine (gives_iter (I := fun s : Int × List NumQ => ∃ k : Nat, s.1 = (k : Int) ∧ k ≤ n ∧ s.2.length = n ∧ ∀ i, i < k → QRep (s.2.getD i NumQZ) (A' i n)) (μ := fun s : Int × List NumQ => n - s.1.toNat)
    (Q := fun w => w.length = n ∧ ∀ i, i < n → QRep (w.getD i NumQZ) (A' i n)) ⟨0, rfl, Nat.zero_le _, z1, fun i hi => by omega⟩ ?_).mono ?_
  · rintro ⟨i, w⟩ ⟨k, g1, g2, g3, g4⟩
    simp only at g1 g3 g4
    subst g1
    unfold qmMSolveL3
    simp only [gives_ite, gives_need, gives_some, decide_eq_true_eq, round_inl, round_inr, inRange, Int.toNat_natCast, hC]
    refine ⟨fun h => ?_, fun h => ?_⟩
    · have hk : k < n := by omega
      have hcl := h2.cols k hk
      rw [wi64 (by omega) (by omega), hpv k hk]
      refine ⟨by omega, by omega, by omega, by omega, ⟨k + 1, by simp, by omega, by simp [g3], fun i hi => ?_⟩, by omega⟩
      rw [Int.toNat_natCast, getD_setG]
      split
      · rename_i hik; rw [hik.1]; exact h2.rep k n hk (by omega)
      · exact g4 i (by omega)
    · have : k = n := by omega
      subst this
      exact ⟨g3, g4⟩
  · rintro w ⟨w1, w2⟩
    refine (kernel_gives (m := o) hp hn hpv).mono ?_
    rintro y6 _
    rw [gives_some]
    refine ⟨fun i => A' i n, w1, fun i hi => ⟨w2 i hi, (I.sz i n hi (by omega)).mono (pow5 (by omega) hg2)⟩, fun i hi => ?_⟩
    let x : Nat → Rat := fun j => if j < n then A' j n else -1
    have hker : Ker (n + 1) n A' x := by
      intro a ha
      rw [sm, sm_one (k := a) ha (fun j hj hne => by rw [hunit a j ha hj, if_neg (Ne.symm hne)]; grind), hunit a a ha ha, if_pos rfl]
      show 1 * (if a < n then A' a n else -1) + A' a n * (if n < n then A' n n else -1) = 0
      rw [if_pos ha, if_neg (by omega)]; grind
    have := (I.ker x).2 hker i hi
    rw [row] at this
    have e : sm n (fun j => A i j * x j) = sm n (fun j => A i j * A' j n) := sm_congr fun j hj => by show A i j * (if j < n then A' j n else -1) = _; rw [if_pos hj]
    rw [e] at this
    have e2 : x n = -1 := by show (if n < n then A' n n else -1) = (-1 : Rat); rw [if_neg (by omega)]
    rw [e2] at this
    grind
end Go.Ab
namespace Go.Ab
open Go
set_option linter.unusedVariables false
set_option linter.unusedSimpArgs false
theorem gcd_step' (a b : Int) : Int.gcd b (a.tmod b) = Int.gcd a b := by
  rw [Int.gcd_eq_natAbs_gcd_natAbs, Int.gcd_eq_natAbs_gcd_natAbs, Int.natAbs_tmod, Nat.gcd_comm a.natAbs, Nat.gcd_rec b.natAbs a.natAbs, Nat.gcd_comm]
def ROk (x : ApiRat) : Prop := Small x ∧ Int.gcd x.N x.D = 1
theorem valid_gives (x : ApiRat) : Gives (numValid x) fun b => (b = true → ROk x) ∧ (ROk x → b = true) := by
  unfold numValid numValidJ1
  simp only [gives_ite, gives_some, gives_bind, decide_eq_true_eq]
  refine ⟨fun h => ⟨fun h => (by cases h), fun h' => by have := h'.1; unfold Small at this; omega⟩, fun h1 => ⟨fun h => ⟨fun h => (by cases h), fun h' => by have := h'.1; unfold Small at this; omega⟩, fun h2 => ⟨fun h => ⟨fun h => (by cases h), fun h' => by have := h'.1; unfold Small at this; omega⟩, fun h3 => ⟨fun h => ⟨fun h => (by cases h), fun h' => by have := h'.1; unfold Small at this; omega⟩, fun h4 => ?_⟩⟩⟩⟩
  refine (gives_iter (I := fun s : Int × Int => Int.gcd s.1 s.2 = Int.gcd x.N x.D) (μ := fun s : Int × Int => s.2.natAbs) (Q := fun r => r.natAbs = Int.gcd x.N x.D) rfl ?_).mono ?_
  · rintro ⟨a, b⟩ h
    simp only at h
    unfold numValidL1
    simp only [gives_ite, gives_need, gives_some, Bool.not_eq_true', decide_eq_false_iff_not, round_inl, round_inr]
    refine ⟨fun hb => ⟨hb, by rw [gcd_step']; exact h, ?_⟩, fun hb => ?_⟩
    · rw [Int.natAbs_tmod]; exact Nat.mod_lt _ (by omega)
    · have hb : b = 0 := by omega
      subst hb
      rw [← h, Int.gcd_zero_right]
  · intro r hr
    have hs : Small x := by unfold Small; omega
    refine ⟨fun h => ⟨fun _ => ⟨hs, by rw [← hr]; omega⟩, fun _ => trivial⟩, fun h => ⟨fun h' => ⟨hs, by rw [← hr]; omega⟩, fun h' => by have := h'.2; omega⟩⟩
theorem api_num {x : ApiRat} (h : ROk x) : (apiRat x).num = x.N ∧ ((apiRat x).den : Int) = x.D := by
  obtain ⟨⟨_, _, h3, _⟩, hg⟩ := h
  unfold apiRat
  rw [Rat.num_divInt, Rat.den_divInt, if_neg (by omega), Int.gcd_comm, hg, Int.sign_eq_one_of_pos h3]
  simp
  omega
theorem of_gives {x : ApiRat} (h : ROk x) : Gives (numOf x) fun q => QRep q (apiRat x) := by
  obtain ⟨e1, e2⟩ := api_num h
  obtain ⟨h1, h2, h3, h4⟩ := h.1
  unfold numOf numI
  simp only [gives_bind, gives_some]
  exact ⟨ZOk.small (by omega) (by omega), ZOk.small (by omega) (by omega), by rw [zval_small, e1], by rw [zval_small, e2]⟩
theorem api_sz {x : ApiRat} (h : ROk x) : Sz (apiRat x) 2 := sz2 h.1.1 h.1.2.1 h.1.2.2.1 h.1.2.2.2
theorem api_pos {x : ApiRat} (h : ROk x) (hp : 1 ≤ x.N) : 0 < apiRat x := by
  have h1 : 0 ≤ apiRat x := Rat.num_nonneg.1 (by rw [(api_num h).1]; omega)
  have h2 : apiRat x ≠ 0 := fun e => by
    have := (api_num h).1
    rw [e] at this
    simp at this
    omega
  exact Rat.lt_of_le_of_ne h1 (Ne.symm h2)
structure ArmOk (n : Nat) (a : ApiArm) : Prop where
  a0 : 0 ≤ a.A
  a1 : a.A < (n : Int)
  b0 : 0 ≤ a.B
  b1 : a.B < (n : Int)
  r : ROk a.R
  rpos : 1 ≤ a.R.N
  e : ROk a.E
structure GOk (g : ApiGrid) (n : Nat) : Prop where
  nodes : g.Nodes = (n : Int)
  n1 : 1 ≤ n
  n12 : n ≤ 12
  arms : g.Arms.length ≤ 40
  arm : ∀ e, e < g.Arms.length → ArmOk n (g.Arms.getD e ApiArmZ)
theorem grid_gives (g : ApiGrid) : Gives (libGrid g) fun e => (e = 0 → ∃ n, GOk g n) ∧ ((∃ n, GOk g n) → e = 0) := by
  unfold libGrid libGridJ1
  simp only [gives_ite, gives_some, gives_bind, decide_eq_true_eq]
  refine ⟨fun h => ⟨fun h => by omega, fun ⟨n, h'⟩ => by have := h'.arms; omega⟩, fun h1 => ⟨fun h => ⟨fun h => by omega, fun ⟨n, h'⟩ => by have := h'.nodes; have := h'.n1; omega⟩, fun h2 => ⟨fun h => ⟨fun h => by omega, fun ⟨n, h'⟩ => by have := h'.nodes; have := h'.n12; omega⟩, fun h3 => ?_⟩⟩⟩
  obtain ⟨n, hn⟩ : ∃ n : Nat, g.Nodes = (n : Int) := ⟨g.Nodes.toNat, by omega⟩
  refine (gives_iter (I := fun v : Int => ∃ k : Nat, v = (k : Int) ∧ k ≤ g.Arms.length ∧ ∀ e, e < k → ArmOk n (g.Arms.getD e ApiArmZ)) (μ := fun v : Int => g.Arms.length - v.toNat)
    (Q := fun r => match r with | .inl _ => GOk g n | .inr e => e = 1 ∧ ¬ ∃ n, GOk g n) ⟨0, rfl, Nat.zero_le _, fun e he => by omega⟩ ?_).mono ?_
  · rintro v ⟨k, rfl, hk, hall⟩
    have bad : (k < g.Arms.length) → ¬ ArmOk n (g.Arms.getD k ApiArmZ) → Gives libGridJ2 (Round (fun v : Int => ∃ k : Nat, v = (k : Int) ∧ k ≤ g.Arms.length ∧ ∀ e, e < k → ArmOk n (g.Arms.getD e ApiArmZ)) (fun v : Int => g.Arms.length - v.toNat) (k : Int)
        (fun r : Unit ⊕ Int => match r with | .inl _ => GOk g n | .inr e => e = 1 ∧ ¬ ∃ n, GOk g n)) := by
      intro hk hb
      unfold libGridJ2
      rw [gives_some, round_inr]
      refine ⟨rfl, fun ⟨n', h'⟩ => hb ?_⟩
      have e : n' = n := by have := h'.nodes; omega
      subst e
      exact h'.arm k hk
    unfold libGridL1
    simp only [gives_ite, gives_need, gives_some, gives_bind, decide_eq_true_eq, inRange, Int.toNat_natCast, round_inl, round_inr]
    refine ⟨fun hlt => ⟨by omega, ?_⟩, fun hge => ?_⟩
    · have hk : k < g.Arms.length := by omega
      refine ⟨fun h => bad hk fun h' => by have := h'.a0; omega, fun a0 => ⟨fun h => bad hk fun h' => by have := h'.a1; omega, fun a1 => ⟨fun h => bad hk fun h' => by have := h'.b0; omega, fun b0 => ⟨fun h => bad hk fun h' => by have := h'.b1; omega, fun b1 => ?_⟩⟩⟩⟩
      refine (valid_gives _).mono ?_
      rintro v1 ⟨hv1, hv1'⟩
      refine ⟨fun h => bad hk fun h' => ?_, fun h => ⟨fun h5 => bad hk fun h' => by have := h'.rpos; omega, fun h5 => ?_⟩⟩
      · have := hv1' h'.r; rw [this] at h; simp at h
      · refine (valid_gives _).mono ?_
        rintro v2 ⟨hv2, hv2'⟩
        refine ⟨fun h6 => bad hk fun h' => ?_, fun h6 => ?_⟩
        · have := hv2' h'.e; rw [this] at h6; simp at h6
        · rw [wi64 (by omega) (by omega)]
          refine ⟨⟨k + 1, by simp, by omega, fun e he => ?_⟩, by omega⟩
          by_cases hek : e = k
          · subst hek
            exact ⟨by omega, by omega, by omega, by omega, hv1 (by simpa using h), by omega, hv2 (by simpa using h6)⟩
          · exact hall e (by omega)
    · exact ⟨hn, by omega, by omega, by omega, fun e he => hall e (by omega)⟩
  · intro r hr
    cases r with
    | inl u => rw [gives_some]; exact ⟨fun _ => ⟨n, hr⟩, fun _ => rfl⟩
    | inr e => rw [gives_some]; exact ⟨fun h => by have := hr.1; omega, fun h => (hr.2 h).elim⟩
def cond (a : ApiArm) : Rat := 1 / apiRat a.R
theorem cond_pos {n : Nat} {a : ApiArm} (h : ArmOk n a) : 0 < cond a := by
  have := api_pos h.r h.rpos
  unfold cond
  rw [Rat.div_def, Rat.one_mul]
  exact Rat.inv_pos.2 this
theorem cond_mul {n : Nat} {a : ApiArm} (h : ArmOk n a) : cond a * apiRat a.R = 1 := by
  have := Rat.ne_of_gt (api_pos h.r h.rpos)
  unfold cond
  exact Rat.div_mul_cancel this
theorem cond_sz {n : Nat} {a : ApiArm} (h : ArmOk n a) : Sz (cond a) 3 := by
  have h0 := Rat.ne_of_gt (api_pos h.r h.rpos)
  have := (sz_one 0).div (api_sz h.r) h0
  unfold cond
  exact this
theorem guide_gives {n : Nat} {a : ApiArm} (h : ArmOk n a) : Gives (libGuide a) fun q => QRep q (cond a) := by
  unfold libGuide
  refine (qint_gives (n := 1) (by omega) (by omega)).bind ?_
  rintro x hx
  refine (of_gives h.r).bind ?_
  rintro y hy
  refine (qdiv_gives hx hy (k := 1) (m := 2) (sz_one 0) (api_sz h.r) (by omega) (Rat.ne_of_gt (api_pos h.r h.rpos))).bind ?_
  rintro q hq
  rw [gives_some]
  exact hq
def Tell (x : Rat) : Prop := -1000000000000 ≤ x.num ∧ x.num ≤ 1000000000000 ∧ (x.den : Int) ≤ 1000000000000
theorem tell_api {x : Rat} (h : Tell x) : ROk ⟨x.num, x.den⟩ ∧ apiRat ⟨x.num, x.den⟩ = x := by
  have hd := x.den_pos
  refine ⟨⟨⟨h.1, h.2.1, by show 0 < (x.den : Int); omega, h.2.2⟩, ?_⟩, ?_⟩
  · have := x.reduced
    rw [Int.gcd_eq_natAbs_gcd_natAbs]
    exact this
  · show Rat.divInt x.num (x.den : Int) = x
    exact Rat.num_divInt_den x
theorem out_gives {q : NumQ} {x : Rat} (h : QRep q x) : Gives (numQOut q) fun r => (r.2 = true ↔ Tell x) ∧ (r.2 = true → r.1 = ⟨x.num, x.den⟩) := by
  unfold numQOut numQOutJ1
  refine (zint_gives h.okN (most := 1000000000000) (by omega) (by omega)).bind ?_
  rintro ⟨n, bn⟩ ⟨n1, n2, n3⟩
  refine (zint_gives h.okD (most := 1000000000000) (by omega) (by omega)).bind ?_
  rintro ⟨d, bd⟩ ⟨d1, d2, d3⟩
  simp only at n1 n2 n3 d1 d2 d3
  have hd := x.den_pos
  rw [h.num] at n1 n2
  rw [h.den] at d1 d2
  unfold Tell
  cases bn <;> cases bd <;> simp [gives_ite, gives_some] at n1 n2 n3 d1 d2 d3 ⊢
  · omega
  · omega
  · omega
  · exact ⟨by omega, n2, d2⟩
theorem number_gives {q : NumQ} {x : Rat} (h : QRep q x) : Gives (libNumber q) fun r => (r.2 = 0 ↔ Tell x) ∧ (r.2 = 0 → r.1 = ⟨x.num, x.den⟩) := by
  unfold libNumber
  refine (out_gives h).bind ?_
  rintro ⟨a, b⟩ ⟨h1, h2⟩
  simp only at h1 h2
  simp only [gives_ite, gives_some, Bool.not_eq_true']
  refine ⟨fun hb => ⟨⟨fun h => by omega, fun h => by rw [h1.2 h] at hb; cases hb⟩, fun h => by omega⟩, fun hb => ?_⟩
  have hb : b = true := by simpa using hb
  exact ⟨⟨fun _ => h1.1 hb, fun _ => trivial⟩, fun _ => h2 hb⟩
end Go.Ab
namespace Go.Ab
open Go
set_option linter.unusedVariables false
set_option linter.unusedSimpArgs false
def am (g : ApiGrid) (e : Nat) : ApiArm := g.Arms.getD e ApiArmZ
def nA (g : ApiGrid) (e : Nat) : Nat := (am g e).A.toNat
def nB (g : ApiGrid) (e : Nat) : Nat := (am g e).B.toNat
def Eqv (g : ApiGrid) (i j : Nat) : Prop := ∀ f : Nat → Int, (∀ e, e < g.Arms.length → f (nA g e) = f (nB g e)) → f i = f j
theorem Eqv.refl (g : ApiGrid) (i : Nat) : Eqv g i i := fun _ _ => rfl
theorem Eqv.symm {g : ApiGrid} {i j : Nat} (h : Eqv g i j) : Eqv g j i := fun f hf => (h f hf).symm
theorem Eqv.trans {g : ApiGrid} {i j k : Nat} (h : Eqv g i j) (h' : Eqv g j k) : Eqv g i k := fun f hf => (h f hf).trans (h' f hf)
theorem Eqv.arm {g : ApiGrid} {e : Nat} (he : e < g.Arms.length) : Eqv g (nA g e) (nB g e) := fun f hf => hf e he
theorem GOk.ab {g : ApiGrid} {n : Nat} (G : GOk g n) {e : Nat} (he : e < g.Arms.length) : nA g e < n ∧ nB g e < n ∧ (am g e).A = (nA g e : Int) ∧ (am g e).B = (nB g e : Int) := by
  have h := G.arm e he
  have h0 := h.a0; have h1 := h.a1; have h2 := h.b0; have h3 := h.b1
  unfold nA nB am
  omega
def cnt : Nat → (Nat → Bool) → Nat
  | 0, _ => 0
  | n + 1, p => cnt n p + if p n then 1 else 0
theorem cnt_le (p : Nat → Bool) : ∀ n, cnt n p ≤ n
  | 0 => Nat.le_refl _
  | n + 1 => by have := cnt_le p n; rw [cnt]; split <;> omega
theorem cnt_mono {p q : Nat → Bool} : ∀ {n}, (∀ i, i < n → p i = true → q i = true) → cnt n p ≤ cnt n q
  | 0, _ => Nat.le_refl _
  | n + 1, h => by
    have := cnt_mono (n := n) (fun i hi => h i (by omega))
    have h1 := h n (by omega)
    rw [cnt, cnt]
    cases hp : p n
    · simp; omega
    · rw [h1 hp]; simp; omega
theorem cnt_more {p q : Nat → Bool} : ∀ {n}, (∀ i, i < n → p i = true → q i = true) → (∃ i, i < n ∧ p i = false ∧ q i = true) → cnt n p + 1 ≤ cnt n q
  | 0, _, ⟨i, hi, _⟩ => by omega
  | n + 1, h, ⟨i, hi, h1, h2⟩ => by
    rw [cnt, cnt]
    by_cases hin : i = n
    · subst hin
      have := cnt_mono (n := i) (fun j hj => h j (by omega))
      rw [h1, h2]; simp; omega
    · have := cnt_more (n := n) (fun j hj => h j (by omega)) ⟨i, by omega, h1, h2⟩
      have h3 := h n (by omega)
      cases hp : p n
      · simp; omega
      · rw [h3 hp]; simp; omega
theorem cnt_pos {p : Nat → Bool} {n i : Nat} (hi : i < n) (h : p i = true) : 1 ≤ cnt n p := by
  have := cnt_more (p := fun _ => false) (q := p) (n := n) (fun _ _ h => by cases h) ⟨i, hi, rfl, h⟩
  omega
theorem least {P : Nat → Prop} (m : Nat) (h : P m) : ∃ k, P k ∧ k ≤ m ∧ ∀ j, j < k → ¬ P j := by
  induction m using Nat.strongRecOn with
  | _ m ih =>
    rcases Classical.em (∃ j, j < m ∧ P j) with ⟨j, hj, hp⟩ | hno
    · obtain ⟨k, h1, h2, h3⟩ := ih j hj hp
      exact ⟨k, h1, by omega, h3⟩
    · exact ⟨m, h, Nat.le_refl _, fun j hj hp => hno ⟨j, hj, hp⟩⟩
structure LOk (g : ApiGrid) (n : Nat) (l : List Int) : Prop where
  len : l.length = n
  rng : ∀ i, i < n → 0 ≤ l.getD i 0 ∧ l.getD i 0 ≤ (i : Int)
  eqv : ∀ i, i < n → Eqv g i (l.getD i 0).toNat
theorem LOk.ge {g : ApiGrid} {n : Nat} {l : List Int} (L : LOk g n l) {μ : Nat} (hμ : ∀ m, m < μ → ¬ Eqv g m μ) {i : Nat} (hi : i < n) (he : Eqv g i μ) : (μ : Int) ≤ l.getD i 0 := by
  have h1 := L.rng i hi
  have h2 := L.eqv i hi
  by_cases h : l.getD i 0 < (μ : Int)
  · exact (hμ _ (by omega) (h2.symm.trans he)).elim
  · omega
theorem round_gives {g : ApiGrid} {n : Nat} (G : GOk g n) (v5 : Int) {l : List Int} (L : LOk g n l) :
    Gives (iter (fun v : (Int × (List Int)) => libJoinedL3 g v5 v.1 v.2) ((0 : Int), l)) fun l' => LOk g n l' ∧ (∀ i, i < n → l'.getD i 0 ≤ l.getD i 0) ∧ ∀ e, e < g.Arms.length → l'.getD (nA g e) 0 ≤ l.getD (nB g e) 0 ∧ l'.getD (nB g e) 0 ≤ l.getD (nA g e) 0 := by
  refine gives_iter (I := fun s : Int × List Int => ∃ k : Nat, s.1 = (k : Int) ∧ k ≤ g.Arms.length ∧ LOk g n s.2 ∧ (∀ i, i < n → s.2.getD i 0 ≤ l.getD i 0) ∧ ∀ e, e < k → s.2.getD (nA g e) 0 ≤ l.getD (nB g e) 0 ∧ s.2.getD (nB g e) 0 ≤ l.getD (nA g e) 0)
    (μ := fun s : Int × List Int => g.Arms.length - s.1.toNat) ⟨0, rfl, Nat.zero_le _, L, fun i _ => Int.le_refl _, fun e he => by omega⟩ ?_
  rintro ⟨i, w⟩ ⟨k, h1, h2, h3, h4, h5⟩
  simp only at h1 h3 h4 h5
  subst h1
  have hw := h3.len
  have h40 := G.arms
  unfold libJoinedL3
  simp only [gives_ite, gives_need, gives_some, decide_eq_true_eq, round_inl, round_inr, inRange, Int.toNat_natCast, List.length_set]
  refine ⟨fun h => ?_, fun h => ?_⟩
  · have hk : k < g.Arms.length := by omega
    obtain ⟨a1, a2, a3, a4⟩ := G.ab hk
    have eA : (List.getD g.Arms k ApiArmZ).A = (nA g k : Int) := a3
    have eB : (List.getD g.Arms k ApiArmZ).B = (nB g k : Int) := a4
    rw [eA, eB, wi64 (by omega) (by omega)]
    simp only [Int.toNat_natCast]
    obtain ⟨m, hm⟩ : ∃ m, m = (if w.getD (nB g k) 0 < w.getD (nA g k) 0 then w.getD (nB g k) 0 else w.getD (nA g k) 0) := ⟨_, rfl⟩
    rw [← hm]
    have m1 : m ≤ w.getD (nA g k) 0 ∧ m ≤ w.getD (nB g k) 0 ∧ (m = w.getD (nA g k) 0 ∨ m = w.getD (nB g k) 0) := by rw [hm]; split <;> omega
    have hget : ∀ i, ((w.set (nA g k) m).set (nB g k) m).getD i 0 = if i = nA g k ∨ i = nB g k then m else w.getD i 0 := by
      intro i
      rw [getD_set, getD_set, List.length_set]
      by_cases hi : i = nB g k
      · rw [if_pos ⟨hi, by omega⟩, if_pos (.inr hi)]
      · rw [if_neg (by omega)]
        by_cases hi2 : i = nA g k
        · rw [if_pos ⟨hi2, by omega⟩, if_pos (.inl hi2)]
        · rw [if_neg (by omega), if_neg (by omega)]
    have rA := h3.rng _ a1
    have rB := h3.rng _ a2
    refine ⟨by omega, by omega, by omega, by omega, by omega, ⟨k + 1, by simp, by omega, ⟨by simp [hw], fun i hi => ?_, fun i hi => ?_⟩, fun i hi => ?_, fun e he => ?_⟩, by omega⟩
    · rw [hget]
      split
      · rename_i h; rcases h with h | h <;> subst h <;> omega
      · exact h3.rng i hi
    · rw [hget]
      split
      · rename_i h
        have e1 : Eqv g i (nA g k) := by
          rcases h with h | h
          · rw [h]; exact Eqv.refl _ _
          · rw [h]; exact (Eqv.arm hk).symm
        rcases m1.2.2 with h' | h'
        · rw [h']; exact e1.trans (h3.eqv _ a1)
        · rw [h']; exact (e1.trans (Eqv.arm hk)).trans (h3.eqv _ a2)
      · exact h3.eqv i hi
    · rw [hget]
      have q1 := h4 _ a1; have q2 := h4 _ a2
      split
      · rename_i h; rcases h with h | h <;> subst h <;> omega
      · exact h4 i hi
    · have q1 := h4 _ a1; have q2 := h4 _ a2
      have dec : ∀ i, i < n → ((w.set (nA g k) m).set (nB g k) m).getD i 0 ≤ w.getD i 0 := by
        intro i hi
        rw [hget]
        split
        · rename_i h; rcases h with h | h <;> subst h <;> omega
        · exact Int.le_refl _
      by_cases hek : e = k
      · subst hek
        rw [hget, if_pos (.inl rfl), hget, if_pos (.inr rfl)]
        omega
      · obtain ⟨b1, b2, _, _⟩ := G.ab (show e < g.Arms.length by omega)
        have := h5 e (by omega)
        have := dec _ b1; have := dec _ b2
        omega
  · have : k = g.Arms.length := by omega
    subst this
    exact ⟨h3, h4, h5⟩
structure JOk (g : ApiGrid) (n : Nat) (l : List Int) : Prop where
  lok : LOk g n l
  arm : ∀ e, e < g.Arms.length → l.getD (nA g e) 0 = l.getD (nB g e) 0
theorem joined_gives {g : ApiGrid} {n : Nat} (G : GOk g n) : Gives (libJoined g) fun l => JOk g n l := by
  have hn := G.nodes
  have hn12 := G.n12
  unfold libJoined
  simp only [gives_need, gives_bind, hn, Int.toNat_natCast, List.length_replicate]
  refine ⟨by omega, by omega, by unfold maxBytes; omega, ?_⟩
  refine (gives_iter (I := fun s : Int × Int × List Int => ∃ k : Nat, s.1 = (n : Int) ∧ s.2.1 = (k : Int) ∧ k ≤ n ∧ s.2.2.length = n ∧ ∀ i, i < k → s.2.2.getD i 0 = (i : Int)) (μ := fun s : Int × Int × List Int => n - s.2.1.toNat)
    (Q := fun l => l.length = n ∧ ∀ i, i < n → l.getD i 0 = (i : Int)) ⟨0, rfl, rfl, Nat.zero_le _, by simp, fun i hi => by omega⟩ ?_).mono ?_
  · rintro ⟨n', k', w⟩ ⟨k, h1, h2, h3, h4, h5⟩
    simp only at h1 h2 h4 h5
    subst h1 h2
    unfold libJoinedL1
    simp only [gives_ite, gives_need, gives_some, decide_eq_true_eq, round_inl, round_inr, inRange, Int.toNat_natCast]
    refine ⟨fun h => ?_, fun h => ?_⟩
    · rw [wi64 (by omega) (by omega)]
      refine ⟨by omega, ⟨k + 1, trivial, by simp, by omega, by simp [h4], fun i hi => ?_⟩, by omega⟩
      rw [getD_set]
      split
      · rename_i h; rw [h.1]
      · exact h5 i (by omega)
    · have : k = n := by omega
      subst this
      exact ⟨h4, h5⟩
  · rintro l0 ⟨l1, l2⟩
    refine (gives_iter (I := fun s : Int × List Int => ∃ k : Nat, s.1 = (k : Int) ∧ k ≤ n ∧ LOk g n s.2 ∧ ∀ μ, μ < n → (∀ m, m < μ → ¬ Eqv g m μ) → (∀ i, i < n → Eqv g i μ → s.2.getD i 0 = (μ : Int)) ∨ k + 1 ≤ cnt n fun i => decide (s.2.getD i 0 = (μ : Int)))
      (μ := fun s : Int × List Int => n - s.1.toNat) (Q := fun l => JOk g n l) ⟨0, rfl, Nat.zero_le _, ⟨l1, fun i hi => by show 0 ≤ l0.getD i 0 ∧ _; rw [l2 i hi]; omega, fun i hi => by show Eqv g i (l0.getD i 0).toNat; rw [l2 i hi, Int.toNat_natCast]; exact Eqv.refl _ _⟩, fun μ hμ _ => .inr (cnt_pos hμ (by show decide (l0.getD μ 0 = (μ : Int)) = true; rw [l2 μ hμ]; simp))⟩ ?_).mono fun l hl => gives_some.2 hl
    rintro ⟨k', l⟩ ⟨k, h1, h2, h3, h4⟩
    simp only at h1 h3 h4
    subst h1
    unfold libJoinedL2
    rw [gives_ite, hn]
    simp only [decide_eq_true_eq, gives_bind, gives_some, round_inr]
    refine ⟨fun h => ?_, fun h => ?_⟩
    · refine (round_gives G (k : Int) h3).mono ?_
      rintro l' ⟨L', dec, cross⟩
      rw [round_inl, wi64 (by omega) (by omega)]
      refine ⟨⟨k + 1, by simp, by omega, L', fun μ hμ hmin => ?_⟩, by simp; omega⟩
      show (∀ i, i < n → Eqv g i μ → l'.getD i 0 = (μ : Int)) ∨ _
      have keep : ∀ i, i < n → l.getD i 0 = (μ : Int) → l'.getD i 0 = (μ : Int) := by
        intro i hi he
        have e1 := h3.eqv i hi
        rw [he, Int.toNat_natCast] at e1
        have := L'.ge hmin hi e1
        have := dec i hi
        omega
      rcases h4 μ hμ hmin with h5 | h5
      · exact .inl fun i hi he => keep i hi (h5 i hi he)
      · rcases Classical.em (∀ i, i < n → Eqv g i μ → l.getD i 0 = (μ : Int)) with h6 | h6
        · exact .inl fun i hi he => keep i hi (h6 i hi he)
        · refine .inr ?_
          have hlμ : l.getD μ 0 = (μ : Int) := by
            have := h3.ge hmin hμ (Eqv.refl _ _)
            have := h3.rng μ hμ
            omega
          -- an arm with one end in
          have : ∃ e, e < g.Arms.length ∧ ¬ ((l.getD (nA g e) 0 = (μ : Int)) ↔ (l.getD (nB g e) 0 = (μ : Int))) := by
            refine Classical.byContradiction fun hno => h6 fun i hi he => ?_
            have hf := he (fun j => if l.getD j 0 = (μ : Int) then 1 else 0) fun e hel => by
              have : (l.getD (nA g e) 0 = (μ : Int)) ↔ (l.getD (nB g e) 0 = (μ : Int)) := Classical.byContradiction fun hc => hno ⟨e, hel, hc⟩
              simp only [this]
            simp only [hlμ, if_true] at hf
            refine Classical.byContradiction fun hc => ?_
            rw [if_neg hc] at hf
            omega
          obtain ⟨e, hel, hne⟩ := this
          obtain ⟨b1, b2, _, _⟩ := G.ab hel
          have hc := cross e hel
          have more : ∃ i, i < n ∧ decide (l.getD i 0 = (μ : Int)) = false ∧ decide (l'.getD i 0 = (μ : Int)) = true := by
            by_cases hA : l.getD (nA g e) 0 = (μ : Int)
            · have hB : l.getD (nB g e) 0 ≠ (μ : Int) := fun h => hne ⟨fun _ => h, fun _ => hA⟩
              have e1 := h3.eqv _ b1
              rw [hA, Int.toNat_natCast] at e1
              have := L'.ge hmin b2 ((Eqv.arm hel).symm.trans e1)
              exact ⟨nB g e, b2, by simpa using hB, by simp only [decide_eq_true_eq]; omega⟩
            · have hB : l.getD (nB g e) 0 = (μ : Int) := Classical.byContradiction fun h => hne ⟨fun h' => (hA h').elim, fun h' => (h h').elim⟩
              have e1 := h3.eqv _ b2
              rw [hB, Int.toNat_natCast] at e1
              have := L'.ge hmin b1 ((Eqv.arm hel).trans e1)
              exact ⟨nA g e, b1, by simpa using hA, by simp only [decide_eq_true_eq]; omega⟩
          have := cnt_more (n := n) (p := fun i => decide (l.getD i 0 = (μ : Int))) (q := fun i => decide (l'.getD i 0 = (μ : Int))) (fun i hi h => by
            simp only [decide_eq_true_eq] at h ⊢; exact keep i hi h) more
          show k + 1 + 1 ≤ cnt n fun i => decide (l'.getD i 0 = (μ : Int))
          omega
    · have hk : k = n := by omega
      subst hk
      refine ⟨h3, fun e he => ?_⟩
      obtain ⟨b1, b2, _, _⟩ := G.ab he
      obtain ⟨μ, m1, m2, m3⟩ := least (P := fun m => Eqv g m (nA g e)) (nA g e) (Eqv.refl _ _)
      rcases h4 μ (by omega) (fun m hm h => m3 m hm (h.trans m1)) with h5 | h5
      · rw [h5 _ b1 m1.symm, h5 _ b2 ((Eqv.arm he).symm.trans m1.symm)]
      · have := cnt_le (fun i => decide (l.getD i 0 = (μ : Int))) k
        omega
end Go.Ab
