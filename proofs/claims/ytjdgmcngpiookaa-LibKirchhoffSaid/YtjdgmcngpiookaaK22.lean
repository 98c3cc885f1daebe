/- Long division in package isoclineref01, and its fractions. The fractions of package isoclineref01. Conditions: none beyond those that each theorem names. -/
import Derived.Test.YtjdgmcngpiookaaK21
namespace Go.Ab
open Go
set_option linter.unusedVariables false
set_option linter.unusedSimpArgs false
theorem sm3 {s : Nat} (hs : s ≤ 32) : min s (IntKind.bits .u64) = s := by simp only [IntKind.bits]; omega
theorem or_lo {s : Nat} (hs : s ≤ 31) {c x : Int} (h0 : 0 ≤ c) (h1 : c < 2 ^ s) :
    IntKind.wrap .u32 ((((BitVec.ofInt (IntKind.bits .u32) c ||| BitVec.ofInt (IntKind.bits .u32) ((x * 2 ^ s) % 4294967296)).toNat : Nat) : Int)) = (x * 2 ^ s) % 4294967296 + c := by
  obtain ⟨a1, a2⟩ := shl_low_le hs x
  rw [BitVec.or_comm]
  have := lor_add (n := IntKind.bits .u32) (k := s) (a := (x * 2 ^ s) % 4294967296) (b := c) a1 h0 h1 (by show _ < (2 : Int) ^ 32; omega) (by rw [shl_low hs]; exact Int.mul_emod_right _ _)
  rw [this, w32]
  omega
theorem pow_le31 {s : Nat} (hs : s ≤ 31) : (2 : Int) ^ s ≤ 2147483648 := by
  rcases Nat.lt_or_eq_of_le hs with h | h
  · have := Int.pow_lt_pow_of_lt (a := 2) (by decide) h
    have e : (2 : Int) ^ 31 = 2147483648 := by decide
    omega
  · subst h; decide
theorem shifted_gives {a : List Int} (ha : WW a) {s : Nat} (hs : s ≤ 31) (la : a.length ≤ 1099511627776) :
    Gives (isoclineref01Shifted a (s : Int)) fun r => WW r ∧ r.length = a.length + 1 ∧ val r = val a * 2 ^ s := by
  unfold isoclineref01Shifted
  simp only [gives_need]
  rw [wi64 (by omega) (by omega)]
  have e1 : ((a.length : Int) + 1).toNat = a.length + 1 := by omega
  rw [e1]
  refine ⟨by omega, by omega, by unfold maxBytes; omega, ?_⟩
  rw [gives_bind]
  have carry : ∀ n : Nat, 0 ≤ (if n = 0 then 0 else a.getD (n - 1) 0 * 2 ^ s / 4294967296) ∧ (if n = 0 then 0 else a.getD (n - 1) 0 * 2 ^ s / 4294967296) < 2 ^ s := by
    intro n
    split
    · exact ⟨Int.le_refl _, p2pos s⟩
    · exact shr_lt hs (ha (n - 1)).1 (ha (n - 1)).2
  refine (gives_iter (I := fun t : Int × List Int => ∃ n : Nat, t.1 = (n : Int) ∧ n ≤ a.length ∧ WW t.2 ∧ t.2.length = a.length + 1 ∧ t.2.getD n 0 = (if n = 0 then 0 else a.getD (n - 1) 0 * 2 ^ s / 4294967296) ∧ ∀ j, j < n → t.2.getD j 0 = sd (fun i => a.getD i 0) s j)
    (μ := fun t : Int × List Int => a.length - t.1.toNat) (Q := fun r => WW r ∧ r.length = a.length + 1 ∧ ∀ j, j < a.length + 1 → r.getD j 0 = sd (fun i => a.getD i 0) s j) ⟨0, rfl, by omega, WW.replicate _, by simp, by rw [getD_replicate]; simp, fun j hj => by omega⟩ ?_).mono ?_
  · rintro ⟨i, w⟩ ⟨n, h1, h2, h4, h5, h7, h6⟩
    simp only at h1 h4 h5 h6 h7
    subst h1
    have han := ha n
    have hP := p2pos s
    have hP31 := pow_le31 hs
    have hsw := sd_word hs (f := fun i => a.getD i 0) ha n
    unfold isoclineref01ShiftedL1
    simp only [gives_ite, gives_need, gives_some, decide_eq_true_eq, round_inl, round_inr, inRange, Int.toNat_natCast, List.length_set, sm3 (show s ≤ 32 by omega), sh32]
    rw [wi64 (by omega) (by omega), u64_small (x := a.getD n 0) (by omega) (by omega)]
    have m0 : 0 ≤ a.getD n 0 * 2 ^ s := Int.mul_nonneg han.1 (by omega)
    have m1 : a.getD n 0 * 2 ^ s ≤ 4294967296 * 2147483648 := Int.mul_le_mul (by omega) hP31 (by omega) (by decide)
    rw [u64_small m0 (by omega), h7, w32 (a.getD n 0 * 2 ^ s), or_lo hs (carry n).1 (carry n).2]
    have e2 : ((n : Int) + 1).toNat = n + 1 := by omega
    have eS : a.getD n 0 * 2 ^ s % 4294967296 + (if n = 0 then 0 else a.getD (n - 1) 0 * 2 ^ s / 4294967296) = sd (fun i => a.getD i 0) s n := rfl
    rw [e2, eS]
    have hd : IntKind.wrap .u32 (a.getD n 0 * 2 ^ s / 4294967296) = a.getD n 0 * 2 ^ s / 4294967296 := by rw [w32]; omega
    rw [hd]
    refine ⟨fun hn => ⟨by omega, by omega, by omega, by omega, by decide, by omega, ⟨n + 1, by simp, by omega, (h4.set hsw.1 hsw.2).set (by omega) (by omega), by simp [h5], ?_, fun j hj => ?_⟩, by omega⟩, fun hn => ?_⟩
    · rw [getD_set, if_pos ⟨rfl, by simp; omega⟩, if_neg (by omega)]; rfl
    · rw [getD_set, if_neg (by omega), getD_set]
      split
      · rename_i h; rw [h.1]
      · exact h6 j (by omega)
    · have : n = a.length := by omega
      subst this
      refine ⟨h4, h5, fun j hj => ?_⟩
      by_cases hj2 : j = a.length
      · subst hj2
        have : a.getD a.length 0 = 0 := by rw [List.getD_eq_getElem?_getD, List.getElem?_eq_none (by omega)]; rfl
        rw [h7, ← eS, this]; simp
      · exact h6 j (by omega)
  · rintro r ⟨r1, r2, r3⟩
    rw [gives_some]
    refine ⟨r1, r2, ?_⟩
    have h1 := sd_vl (fun i => a.getD i 0) s (a.length + 1)
    have h0 : a.getD a.length 0 = 0 := by rw [List.getD_eq_getElem?_getD, List.getElem?_eq_none (by omega)]; rfl
    rw [if_neg (by omega), Nat.add_sub_cancel, h0] at h1
    have h2 : vl (sd (fun i => a.getD i 0) s) (a.length + 1) = val r := by
      unfold val; rw [r2]; exact vl_congr fun j hj => (r3 j hj).symm
    have h3 : vl (fun i => a.getD i 0) (a.length + 1) = val a := val_of_le (by omega)
    rw [h2, h3] at h1
    simp only [Int.zero_mul] at h1
    omega
theorem parts1_gives {a b : List Int} (ha : WW a) (hb : WW b) (la : a.length ≤ 1099511627776) (lb : b.length = 1) (hb0 : 0 < b.getD 0 0) :
    Gives (iter (fun v : (Int × Int × (List Int)) => isoclineref01PartsL1 a b v.1 v.2.1 v.2.2) ((0 : Int), (a.length : Int) - 1, List.replicate a.length (0 : Int)))
      fun r => WW r.2 ∧ r.2.length = a.length ∧ 0 ≤ r.1 ∧ r.1 < b.getD 0 0 ∧ val a = val r.2 * b.getD 0 0 + r.1 := by
  have e : (fun v : (Int × Int × (List Int)) => isoclineref01PartsL1 a b v.1 v.2.1 v.2.2) = (fun v : (Int × Int × (List Int)) => numQuoWordsL1 a b v.1 v.2.1 v.2.2) := by
    funext v; rfl
  rw [e]
  exact quo1_gives ha hb la lb hb0
theorem shiftP_gives {x : List Int} (hx : WW x) {s : Nat} (hs : s ≤ 31) (r2 : List Int × List Int) (hb : x.length ≤ 1099511627777) :
    Gives (iter (fun v : (Int × (List Int)) => isoclineref01PartsL3 r2 (s : Int) v.1 v.2) ((0 : Int), x))
      fun r => WW r ∧ r.length = x.length ∧ ∀ j, j < x.length → r.getD j 0 = rd (fun i => x.getD i 0) s j := by
  refine gives_iter (I := fun t : Int × List Int => ∃ n : Nat, t.1 = (n : Int) ∧ n ≤ x.length ∧ WW t.2 ∧ t.2.length = x.length ∧ (∀ j, n ≤ j → t.2.getD j 0 = x.getD j 0) ∧ ∀ j, j < n → t.2.getD j 0 = rd (fun i => x.getD i 0) s j)
    (μ := fun t : Int × List Int => x.length - t.1.toNat) ⟨0, rfl, by omega, hx, rfl, fun j _ => rfl, fun j hj => by omega⟩ ?_
  rintro ⟨i, w⟩ ⟨n, h1, h2, h4, h5, h7, h6⟩
  simp only at h1 h4 h5 h6 h7
  subst h1
  have e0 : IntKind.wrap .u64 (s : Int) = (s : Int) := by rw [w64]; omega
  have fin : ∀ y : Int, n < x.length → y = rd (fun i => x.getD i 0) s n →
      Gives (isoclineref01PartsJ1 (n : Int) (w.set n y) r2 (s : Int)) (Round (fun t : Int × List Int => ∃ n : Nat, t.1 = (n : Int) ∧ n ≤ x.length ∧ WW t.2 ∧ t.2.length = x.length ∧ (∀ j, n ≤ j → t.2.getD j 0 = x.getD j 0) ∧ ∀ j, j < n → t.2.getD j 0 = rd (fun i => x.getD i 0) s j)
        (fun t : Int × List Int => x.length - t.1.toNat) ((n : Int), w) (fun r => WW r ∧ r.length = x.length ∧ ∀ j, j < x.length → r.getD j 0 = rd (fun i => x.getD i 0) s j)) := by
    rintro y hn rfl
    obtain ⟨k1, k2⟩ := rd_word hs (f := fun i => x.getD i 0) hx n
    unfold isoclineref01PartsJ1
    rw [gives_some, round_inl, wi64 (by omega) (by omega)]
    refine ⟨⟨n + 1, by simp, by omega, h4.set k1 k2, by simp [h5], fun j hj => by rw [getD_set, if_neg (by omega)]; exact h7 j (by omega), fun j hj => ?_⟩, by simp; omega⟩
    rw [getD_set]
    split
    · rename_i h; rw [h.1]
    · exact h6 j (by omega)
  have hun := hx n
  have hu1 := hx (n + 1)
  have hp := p2pos s
  have e32 : min (IntKind.wrap .u64 ((32 : Int) - (s : Int))).toNat (IntKind.bits .u64) = 32 - s := by rw [w64]; simp only [IntKind.bits]; omega
  unfold isoclineref01PartsL3
  simp only [gives_ite, gives_need, gives_some, decide_eq_true_eq, round_inr, inRange, List.length_set, Int.toNat_natCast, e0, sm1 hs, e32]
  rw [wi64 (by omega) (by omega)]
  have en : ((n : Int) + 1).toNat = n + 1 := by omega
  rw [en, h7 n (by omega)]
  refine ⟨fun hn => ⟨by omega, by omega, by omega, fun hlt => ?_, fun hge => ?_⟩, fun hn => ?_⟩
  · have eg : (w.set n (Int.fdiv (x.getD n 0) (2 ^ s))).getD n 0 = Int.fdiv (x.getD n 0) (2 ^ s) := by rw [getD_set, if_pos ⟨rfl, by omega⟩]
    have eg2 : (w.set n (Int.fdiv (x.getD n 0) (2 ^ s))).getD (n + 1) 0 = x.getD (n + 1) 0 := by rw [getD_set, if_neg (by omega)]; exact h7 _ (by omega)
    have hq := p2pos (32 - s)
    have hq32 : (2 : Int) ^ (32 - s) ≤ 4294967296 := by have := pq hs; have : 1 * (2 : Int) ^ (32 - s) ≤ 2 ^ s * 2 ^ (32 - s) := Int.mul_le_mul_of_nonneg_right (by omega) (by omega); omega
    have m0 : 0 ≤ x.getD (n + 1) 0 * 2 ^ (32 - s) := Int.mul_nonneg hu1.1 (by omega)
    have m1 : x.getD (n + 1) 0 * 2 ^ (32 - s) ≤ 4294967295 * 4294967296 := Int.mul_le_mul (by omega) hq32 (by omega) (by decide)
    have em : IntKind.wrap .u32 (IntKind.wrap .u64 (IntKind.wrap .u64 (x.getD (n + 1) 0) * 2 ^ (32 - s))) = x.getD (n + 1) 0 * 2 ^ (32 - s) % 4294967296 := by
      rw [u64_small (x := x.getD (n + 1) 0) (by omega) (by omega), u64_small m0 (by omega), w32]
    rw [eg, eg2, em, or_rd hs hun.1 hun.2, List.set_set]
    exact ⟨by omega, by omega, by rw [w64]; omega, by omega, fin _ (by omega) rfl⟩
  · refine fin _ (by omega) ?_
    unfold rd
    have h0 : x.getD (n + 1) 0 = 0 := by rw [List.getD_eq_getElem?_getD, List.getElem?_eq_none (by omega)]; rfl
    rw [Int.fdiv_eq_ediv_of_nonneg _ (by omega)]
    show x.getD n 0 / 2 ^ s = x.getD n 0 / 2 ^ s + x.getD (n + 1) 0 * 2 ^ (32 - s) % 4294967296
    rw [h0]
    simp
  · have : n = x.length := by omega
    subst this
    exact ⟨h4, h5, h6⟩
theorem parts_gives {a b : List Int} (ha : WW a) (hb : WW b) (ta : Top a) (tb : Top b) (hne : b ≠ []) (la : a.length ≤ 1099511627776) (lb : b.length ≤ 1099511627776) :
    Gives (isoclineref01Parts a b) fun r => WW r.1 ∧ Top r.1 ∧ WW r.2 ∧ Top r.2 ∧ val a = val r.1 * val b + val r.2 ∧ val r.2 < val b := by
  have hbv := top_le hb tb hne
  have hb0 : 0 < val b := by have := pow_pos' (b.length - 1); omega
  have hlb : 0 < b.length := List.length_pos_iff.2 hne
  have hav := ha.val
  unfold isoclineref01Parts
  refine (order_gives ha hb ta tb (by omega) (by omega)).bind ?_
  rintro c rfl
  simp only [gives_ite, decide_eq_true_eq, gives_need, gives_some, gives_bind]
  refine ⟨fun hlt => ⟨WW.nil, fun h => (h rfl).elim, ha, ta, by rw [val_nil]; omega, ?_⟩, fun hge => ⟨fun h1 => ?_, fun h1 => ?_⟩⟩
  · have := Int.sign_neg_iff.1 hlt; omega
  · have h1 : b.length = 1 := by omega
    have eb : val b = b.getD 0 0 := by unfold val; rw [h1]; simp [vl]
    rw [wi64 (by omega) (by omega)]
    refine ⟨by omega, by omega, by unfold maxBytes; omega, ?_⟩
    have el : ((a.length : Int)).toNat = a.length := by omega
    rw [el]
    refine (parts1_gives ha hb la h1 (by omega)).mono ?_
    rintro ⟨c, q⟩ ⟨q1, q2, q3, q4, q5⟩
    simp only at q1 q2 q3 q4 q5
    have hb1 := hb 0
    refine (trim_gives q1 (by omega)).mono ?_
    rintro y ⟨y1, y2, y3, _⟩
    rw [w32, show c % 4294967296 = c by omega]
    have hc : WW [c] := fun i => by
      cases i <;> simp
      omega
    refine (trim_gives hc (by simp)).mono ?_
    rintro z ⟨z1, z2, z3, _⟩
    rw [val_single] at z3
    exact ⟨y1, y2, z1, z2, by show val a = val y * val b + val z; rw [y3, z3, eb]; exact q5, by show val z < _; omega⟩
  · have hge : val b ≤ val a := by
      have : ¬ val a - val b < 0 := fun hc => hge (Int.sign_neg_iff.2 hc)
      omega
    have hlen : b.length ≤ a.length := by
      rcases Nat.lt_or_ge a.length b.length with hc | hc
      · have := val_lt_of_length ha hb tb hc; omega
      · exact hc
    obtain ⟨t, ht⟩ : ∃ t, b.length = t + 2 := ⟨b.length - 2, by omega⟩
    have etop : b.getD (t + 1) 0 = b.getD (b.length - 1) 0 := by congr 1; omega
    have htop : 0 < b.getD (t + 1) 0 := by
      have h1 := tb hne
      have h2 := hb (t + 1)
      rw [← etop] at h1
      omega
    rw [wi64 (x := (b.length : Int) - 1) (by omega) (by omega)]
    have e1 : ((b.length : Int) - 1).toNat = t + 1 := by omega
    rw [e1]
    refine ⟨⟨by omega, by omega⟩, ?_⟩
    refine (lz_gives htop (hb (t + 1)).2).mono ?_
    rintro y2 ⟨s, rfl, hs, s1, s2⟩
    have e0 : IntKind.wrap .u64 (s : Int) = (s : Int) := by rw [w64]; omega
    rw [e0]
    refine (shifted_gives ha hs la).mono ?_
    rintro u ⟨u1, u2, eA⟩
    refine (shifted_gives hb hs lb).mono ?_
    rintro v0 ⟨v01, v02, eV0⟩
    refine (trim_gives v01 (by omega)).mono ?_
    rintro v ⟨v2, v4, v5, _⟩
    have eV : val v = val b * 2 ^ s := by rw [v5, eV0]
    have hP := p2pos s
    have hPB := pow_pos' (t + 1)
    -- its length and top
    have hVge : 2147483648 * 4294967296 ^ (t + 1) ≤ val v := by
      have h1 : val b = vl (fun i => b.getD i 0) (t + 1) + b.getD (t + 1) 0 * 4294967296 ^ (t + 1) := by unfold val; rw [ht]; rfl
      have h2 := (vl_bound (f := fun i => b.getD i 0) (t + 1) fun i _ => hb i).1
      have h3 : 2147483648 * 4294967296 ^ (t + 1) ≤ (b.getD (t + 1) 0 * 2 ^ s) * 4294967296 ^ (t + 1) := Int.mul_le_mul_of_nonneg_right s1 (by omega)
      have h4 : 0 ≤ vl (fun i => b.getD i 0) (t + 1) * 2 ^ s := Int.mul_nonneg h2 (by omega)
      rw [eV, h1, Int.add_mul]
      have h5 : b.getD (t + 1) 0 * 4294967296 ^ (t + 1) * 2 ^ s = (b.getD (t + 1) 0 * 2 ^ s) * 4294967296 ^ (t + 1) := by grind
      omega
    have hVlt : val v < 4294967296 ^ (t + 2) := by
      have h1 : val b = vl (fun i => b.getD i 0) (t + 1) + b.getD (t + 1) 0 * 4294967296 ^ (t + 1) := by unfold val; rw [ht]; rfl
      have h2 := (vl_bound (f := fun i => b.getD i 0) (t + 1) fun i _ => hb i).2
      have h3 : (b.getD (t + 1) 0 + 1) * 2 ^ s ≤ 4294967296 := by
        obtain ⟨_, k2⟩ := shl_low_le hs (b.getD (t + 1) 0)
        rw [Int.add_mul, Int.one_mul]
        have : b.getD (t + 1) 0 * 2 ^ s % 4294967296 = b.getD (t + 1) 0 * 2 ^ s := Int.emod_eq_of_lt (by omega) s2
        omega
      have h4 : val b * 2 ^ s < ((b.getD (t + 1) 0 + 1) * 4294967296 ^ (t + 1)) * 2 ^ s := Int.mul_lt_mul_of_pos_right (by rw [Int.add_mul]; omega) hP
      have h5 : ((b.getD (t + 1) 0 + 1) * 4294967296 ^ (t + 1)) * 2 ^ s = ((b.getD (t + 1) 0 + 1) * 2 ^ s) * 4294967296 ^ (t + 1) := by grind
      have h6 : ((b.getD (t + 1) 0 + 1) * 2 ^ s) * 4294967296 ^ (t + 1) ≤ 4294967296 * 4294967296 ^ (t + 1) := Int.mul_le_mul_of_nonneg_right h3 (by omega)
      have h7 : (4294967296 : Int) ^ (t + 2) = 4294967296 ^ (t + 1) * 4294967296 := Int.pow_succ _ _
      rw [eV]; omega
    have hvt : v.length = t + 2 := by
      have h1 := length_le_of_val v2 v4 hVlt
      have h2 : t + 1 < v.length := by
        rcases Nat.lt_or_ge (t + 1) v.length with h | h
        · exact h
        · have h3 := v2.val.2
          have h4 := pow_mono' h
          omega
      omega
    have hv1 : 0 < v.getD (t + 1) 0 := by
      have h1 := v4 (by rintro rfl; simp at hvt)
      rw [hvt] at h1
      have h2 := v2 (t + 1)
      have : v.getD (t + 2 - 1) 0 = v.getD (t + 1) 0 := rfl
      omega
    have hVpos : 0 < val v := by omega
    rw [hvt, u2, wi64 (x := ((a.length + 1 : Nat) : Int) - ((t + 2 : Nat) : Int)) (by omega) (by omega), wi64 (x := ((t + 2 : Nat) : Int) - 1) (by omega) (by omega), wi64 (x := ((t + 2 : Nat) : Int) - 2) (by omega) (by omega)]
    have e5 : (((a.length + 1 : Nat) : Int) - ((t + 2 : Nat) : Int)).toNat = a.length - (t + 2) + 1 := by omega
    have e6 : (((t + 2 : Nat) : Int) - 1).toNat = t + 1 := by omega
    have e7 : (((t + 2 : Nat) : Int) - 2).toNat = t := by omega
    rw [e5, e6, e7, List.length_replicate, wi64 (x := ((a.length - (t + 2) + 1 : Nat) : Int) - 1) (by omega) (by omega)]
    have wv1 := v2 (t + 1); have wv2 := v2 t
    rw [u64_small (x := v.getD (t + 1) 0) (by omega) (by omega), u64_small (x := v.getD t 0) (by omega) (by omega)]
    refine ⟨by omega, by omega, by unfold maxBytes; omega, ⟨by omega, by omega⟩, ⟨by omega, by omega⟩, ?_⟩
    have L : Gives (iter (fun q : (Int × Int × Int × (List Int) × (List Int)) => isoclineref01PartsL2 (s : Int) v q.1 q.2.1 q.2.2.1 q.2.2.2.1 q.2.2.2.2) (v.getD (t + 1) 0, v.getD t 0, ((a.length - (t + 2) + 1 : Nat) : Int) - 1, u, List.replicate (a.length - (t + 2) + 1) (0 : Int)))
        fun r => WW r.1 ∧ r.1.length = a.length + 1 ∧ WW r.2 ∧ r.2.length = a.length - (t + 2) + 1 ∧ val r.1 < val v ∧ val r.2 * val v + val r.1 = val u := by
      refine gives_iter (I := fun q : Int × Int × Int × List Int × List Int => q.1 = v.getD (t + 1) 0 ∧ q.2.1 = v.getD t 0 ∧ ∃ n : Nat, q.2.2.1 = (n : Int) - 1 ∧ n ≤ a.length - (t + 2) + 1 ∧ WW q.2.2.2.1 ∧ q.2.2.2.1.length = a.length + 1 ∧ WW q.2.2.2.2 ∧ q.2.2.2.2.length = a.length - (t + 2) + 1 ∧ (∀ k, k < n → q.2.2.2.2.getD k 0 = 0) ∧
          val q.2.2.2.1 < val v * 4294967296 ^ n ∧ val q.2.2.2.2 * val v + val q.2.2.2.1 = val u) (μ := fun q : Int × Int × Int × List Int × List Int => (q.2.2.1 + 1).toNat) ⟨rfl, rfl, a.length - (t + 2) + 1, rfl, by omega, u1, u2, WW.replicate _, by simp, fun k _ => getD_replicate _ k, ?_, ?_⟩ ?_
      · show val u < _
        have h1 : (4294967296 : Int) ^ (t + 1) * 4294967296 ^ (a.length - (t + 2) + 1) = 4294967296 ^ a.length := by rw [← Int.pow_add]; congr 1; omega
        have h2 : 2147483648 * 4294967296 ^ (t + 1) * 4294967296 ^ (a.length - (t + 2) + 1) ≤ val v * 4294967296 ^ (a.length - (t + 2) + 1) := Int.mul_le_mul_of_nonneg_right hVge (by have := pow_pos' (a.length - (t + 2) + 1); omega)
        rw [Int.mul_assoc, h1] at h2
        have h4 : val a * 2 ^ s < 4294967296 ^ a.length * 2 ^ s := Int.mul_lt_mul_of_pos_right hav.2 hP
        have h5 : (4294967296 : Int) ^ a.length * 2 ^ s ≤ 4294967296 ^ a.length * 2147483648 := Int.mul_le_mul_of_nonneg_left (pow_le31 hs) (Int.le_of_lt (pow_pos' a.length))
        rw [eA]
        omega
      · show val (List.replicate _ 0) * _ + val u = _
        have : val (List.replicate (a.length - (t + 2) + 1) 0) = 0 := by rw [val, vl_zero fun j _ => getD_replicate _ j]
        rw [this]; simp
      · rintro ⟨p, p', i, x, o⟩ ⟨hp, hp', n, h1, h2, h3, h4, h5, h6, h7, h8, h9⟩
        simp only at hp hp' h1 h3 h4 h5 h6 h7 h8 h9
        subst h1 hp hp'
        unfold isoclineref01PartsL2
        simp only [gives_ite, gives_need, gives_bind, gives_some, decide_eq_true_eq, round_inl, round_inr, inRange]
        refine ⟨fun hn => ?_, fun hn => ?_⟩
        · obtain ⟨j, rfl⟩ : ∃ j, n = j + 1 := ⟨n - 1, by omega⟩
          have ej : (((j + 1 : Nat) : Int) - 1) = (j : Int) := by omega
          rw [hvt, ej, wi64 (x := (j : Int) + ((t + 2 : Nat) : Int)) (by omega) (by omega), wi64 (x := (j : Int) + ((t + 2 : Nat) : Int) + 1) (by omega) (by omega), wi64 (x := (j : Int) - 1) (by omega) (by omega)]
          refine ⟨by omega, by omega, by omega, ?_⟩
          refine (word_gives h3 v2 hvt (by omega) (j := j) (by omega) (by omega) hv1 h8).mono ?_
          rintro ⟨u', q⟩ ⟨k1, k2, k3, k4, k5, k6⟩
          simp only at k1 k2 k3 k4 k5 k6
          simp only [Int.toNat_natCast]
          refine ⟨k2, by omega, ⟨trivial, trivial, j, rfl, by omega, k1, by omega, h5.set k3 k4, by simp [h6], fun k hk => by rw [getD_set, if_neg (by omega)]; exact h7 k (by omega), k6, ?_⟩, by omega⟩
          rw [val_set (by omega), h7 j (by omega), k5, ← h9]
          generalize val v = V at *
          generalize (4294967296 : Int) ^ j = Wj at *
          grind
        · have : n = 0 := by omega
          subst this
          exact ⟨h3, h4, h5, h6, by simpa using h8, h9⟩
    refine L.mono ?_
    rintro ⟨x, o⟩ ⟨x1, x2, x3, x4, x5, x6⟩
    simp only at x1 x2 x3 x4 x5 x6
    refine (trim_gives x1 (by omega)).mono ?_
    rintro y ⟨y1, y2, y3, y4⟩
    refine (shiftP_gives y1 hs (x, o) (by omega)).mono ?_
    rintro r ⟨r1, r2, r3⟩
    refine (trim_gives x3 (by omega)).mono ?_
    rintro q ⟨q1, q2, q3, _⟩
    refine (trim_gives r1 (by omega)).mono ?_
    rintro z ⟨z1, z2, z3, _⟩
    have hval : val r = vl (rd (fun i => y.getD i 0) s) y.length := by
      unfold val; rw [r2]; exact vl_congr fun j hj => r3 j hj
    have hrd := rd_vl (fun i => y.getD i 0) hs y.length
    have hy0 : y.getD y.length 0 = 0 := by rw [List.getD_eq_getElem?_getD, List.getElem?_eq_none (by omega)]; rfl
    have hyv : vl (fun i => y.getD i 0) y.length = val y := rfl
    rw [← hval, hyv, hy0] at hrd
    have hmul : val y = (val a - val o * val b) * 2 ^ s := by
      rw [eA, eV] at x6
      rw [y3, Int.sub_mul]
      have : val o * (val b * 2 ^ s) = val o * val b * 2 ^ s := by rw [Int.mul_assoc]
      omega
    have hmod : y.getD 0 0 % 2 ^ s = 0 := by
      rcases Nat.eq_zero_or_pos y.length with h | h
      · have : y.getD 0 0 = 0 := by rw [List.getD_eq_getElem?_getD, List.getElem?_eq_none (by omega)]; rfl
        rw [this]; simp
      · have h1 : val y = y.getD 0 0 + 4294967296 * hi (fun i => y.getD i 0) 1 y.length := by
          have := hi_succ (fun i => y.getD i 0) (n := 0) (L := y.length) h
          rw [hi_zero] at this
          exact this
        have h2 : y.getD 0 0 = (val a - val o * val b - 2 ^ (32 - s) * hi (fun i => y.getD i 0) 1 y.length) * 2 ^ s := by
          have h3 := qp hs
          rw [hmul] at h1
          generalize hi (fun i => y.getD i 0) 1 y.length = hh at *
          generalize (2 : Int) ^ s = P at *
          generalize (2 : Int) ^ (32 - s) = R at *
          grind
        rw [h2]
        exact Int.mul_emod_left _ _
    rw [hmod] at hrd
    simp only [Int.zero_emod, Int.zero_mul, Int.add_zero, Int.sub_zero] at hrd
    have hrest : val r = val a - val o * val b := by
      rw [hmul] at hrd
      exact Int.eq_of_mul_eq_mul_right (by omega) hrd
    have hzr : val z = val a - val o * val b := by rw [z3]; exact hrest
    refine ⟨q1, q2, z1, z2, by show val a = val q * val b + val z; rw [q3, hzr]; omega, ?_⟩
    have h1 : val r * 2 ^ s < val b * 2 ^ s := by rw [hrd, ← eV, y3]; exact x5
    have := lt_of_mul_lt h1 hP
    show val z < _
    omega
end Go.Ab
namespace Go.Ab
open Go
set_option linter.unusedVariables false
set_option linter.unusedSimpArgs false
theorem divisor_gives {a b : List Int} (ha : WW a) (hb : WW b) (ta : Top a) (tb : Top b) (la : a.length ≤ 1099511627776) (lb : b.length ≤ 1099511627776) :
    Gives (isoclineref01Divisor a b) fun g => WW g ∧ Top g ∧ val g = (Int.gcd (val a) (val b) : Int) := by
  unfold isoclineref01Divisor
  rw [gives_bind]
  refine (gives_iter (I := fun s : List Int × List Int => WW s.1 ∧ WW s.2 ∧ Top s.1 ∧ Top s.2 ∧ s.1.length ≤ 1099511627776 ∧ s.2.length ≤ 1099511627776 ∧ Int.gcd (val s.1) (val s.2) = Int.gcd (val a) (val b)) (μ := fun s : List Int × List Int => (val s.2).toNat)
    (Q := fun g => WW g ∧ Top g ∧ val g = (Int.gcd (val a) (val b) : Int)) ⟨ha, hb, ta, tb, la, lb, rfl⟩ ?_).mono fun r hr => gives_some.2 hr
  rintro ⟨x, y⟩ ⟨x1, y1, x2, y2, x3, y3, h⟩
  simp only at x1 y1 x2 y2 x3 y3 h
  unfold isoclineref01DivisorL1
  simp only [gives_ite, gives_bind, gives_some, decide_eq_true_eq, round_inl, round_inr]
  refine ⟨fun hl => ?_, fun hl => ?_⟩
  · have hne : y ≠ [] := by rintro rfl; simp at hl
    have hy0 := top_le y1 y2 hne
    have hyp := pow_pos' (y.length - 1)
    refine (parts_gives x1 y1 x2 y2 hne x3 y3).mono ?_
    rintro ⟨q, r⟩ ⟨q1, q2, r1, r2, e, hlt⟩
    simp only at q1 q2 r1 r2 e hlt
    have hr := r1.val.1
    obtain ⟨_, hm⟩ := quo_unique (show 0 < val y by omega) e hr hlt x1.val.1
    refine ⟨⟨y1, r1, y2, r2, y3, ?_, ?_⟩, by show (val r).toNat < (val y).toNat; omega⟩
    · show r.length ≤ _
      rcases Nat.lt_or_ge y.length r.length with hc | hc
      · have := val_lt_of_length y1 r1 r2 hc; omega
      · omega
    · show Int.gcd (val y) (val r) = _
      rw [← hm, gcd_step _ _ x1.val.1 y1.val.1]; exact h
  · have hy : y = [] := by
      rcases y with _ | ⟨z, l⟩
      · rfl
      · simp at hl
    subst hy
    rw [val_nil, Int.gcd_zero_right] at h
    have := x1.val.1
    exact ⟨x1, x2, by rw [← h]; omega⟩
theorem isOne_gives {w : Isoclineref01Whole} (h : WOk w) : Gives (isoclineref01IsOne w) fun b => b = true ↔ wval w = 1 := by
  unfold isoclineref01IsOne
  simp only [gives_ite, gives_need, gives_some, decide_eq_true_eq, inRange, Int.toNat_zero]
  refine ⟨fun hl => ?_, fun hl => ?_⟩
  · have hl1 : w.d.length = 1 := by omega
    have hv : val w.d = w.d.getD 0 0 := by unfold val; rw [hl1]; simp [vl]
    have hw := h.ww 0
    refine ⟨by omega, fun h1 => ?_, fun h1 => ?_⟩
    · unfold wval sgn
      rw [hv, h1]
      cases w.minus <;> simp
    · unfold wval sgn
      rw [hv]
      simp only [Bool.false_eq_true, false_iff]
      split <;> omega
  · simp only [Bool.false_eq_true, false_iff]
    intro h1
    have hv : val w.d = 1 := by
      unfold wval sgn at h1
      have := h.ww.val.1
      split at h1 <;> omega
    have hle := length_le_of_val h.ww h.top (k := 1) (by rw [hv]; decide)
    have : w.d.length ≠ 0 := fun h0 => by
      have : w.d = [] := List.eq_nil_of_length_eq_zero h0
      rw [this, val_nil] at hv; omega
    omega
structure RRep (q : Isoclineref01Q) (r : Rat) : Prop where
  okN : WOk q.n
  okD : WOk q.d
  num : wval q.n = r.num
  den0 : q.d.d = [] → r.den = 1
  den1 : q.d.d ≠ [] → wval q.d = (r.den : Int)
theorem den_gives {q : Isoclineref01Q} {r : Rat} (h : RRep q r) : Gives (isoclineref01QDen q) fun w => WOk w ∧ wval w = (r.den : Int) ∧ w.d ≠ [] := by
  unfold isoclineref01QDen isoclineref01WholeIsNought isoclineref01One
  simp only [gives_bind, gives_some, gives_ite, decide_eq_true_eq]
  refine ⟨fun h0 => ?_, fun h0 => ?_⟩
  · have : q.d.d = [] := List.eq_nil_of_length_eq_zero (by omega)
    refine ⟨⟨fun i => ?_, fun _ => by simp, fun h => by cases h⟩, ?_, by simp⟩
    · cases i <;> simp
    · rw [h.den0 this]; unfold wval sgn; simp [val_single]
  · have hne : q.d.d ≠ [] := by rintro e; rw [e] at h0; simp at h0
    exact ⟨h.okD, h.den1 hne, hne⟩
theorem RRep.of {q : Isoclineref01Q} {r : Rat} (h1 : WOk q.n) (h2 : WOk q.d) (h3 : wval q.n = r.num) (h4 : wval q.d = (r.den : Int)) : RRep q r := by
  refine ⟨h1, h2, h3, fun e => ?_, fun _ => h4⟩
  have := r.den_pos
  unfold wval sgn at h4
  rw [e, val_nil] at h4
  split at h4 <;> omega
theorem ratio_gives {n d : Isoclineref01Whole} (hn : WOk n) (hd : WOk d) {K : Nat} (hK : K ≤ 1099511627776) (ln : WLt n K) (ld : WLt d K) (h0 : wval d ≠ 0) : Gives (isoclineref01Ratio n d) fun q => RRep q (Rat.divInt (wval n) (wval d)) := by
  have J : ∀ {n d : Isoclineref01Whole}, WOk n → WOk d → WLt n K → WLt d K → d.minus = false → wval d ≠ 0 → Gives (isoclineref01RatioJ1 n.d n.minus d.d d.minus) fun q => RRep q (Rat.divInt (wval n) (wval d)) := by
    intro n d hn hd ln ld hm h0
    have ev : wval d = val d.d := by unfold wval sgn; rw [hm]; rfl
    have hdp : 0 < val d.d := by have := hd.ww.val.1; omega
    have nl := hn.len ln
    have dl := hd.len ld
    unfold isoclineref01RatioJ1
    refine (isOne_gives (w := ⟨d.d, d.minus⟩) hd).bind ?_
    rintro b hb
    rw [gives_ite]
    refine ⟨fun h1 => ?_, fun h1 => ?_⟩
    · have e1 : wval d = 1 := hb.1 h1
      rw [gives_some]
      refine RRep.of hn hd ?_ ?_
      · rw [e1, Rat.num_divInt]; simp
      · show wval d = _
        rw [e1, Rat.den_divInt]; simp
    · refine (divisor_gives hn.ww hd.ww hn.top hd.top (by omega) (by omega)).bind ?_
      rintro g ⟨g1, g2, g3⟩
      have eg : Int.gcd (val n.d) (val d.d) = Int.gcd (wval n) (wval d) := by
        rw [ev]; unfold wval sgn; split <;> simp
      rw [eg] at g3
      have hgp : 0 < Int.gcd (wval n) (wval d) := Int.gcd_pos_of_ne_zero_right _ h0
      have hdn := Int.gcd_dvd_left (wval n) (wval d)
      have hdd := Int.gcd_dvd_right (wval n) (wval d)
      have eN : (Rat.divInt (wval n) (wval d)).num = wval n / (Int.gcd (wval n) (wval d) : Int) := by
        rw [Rat.num_divInt, Int.sign_eq_one_of_pos (by omega), Int.one_mul, Int.gcd_comm]
      have eD : ((Rat.divInt (wval n) (wval d)).den : Int) = wval d / (Int.gcd (wval n) (wval d) : Int) := by
        rw [Rat.den_divInt, if_neg h0, Int.gcd_comm, Int.natCast_ediv, Int.natAbs_of_nonneg (by omega)]
      have hgne : g ≠ [] := by rintro rfl; rw [val_nil] at g3; omega
      have hgl : g.length ≤ 1099511627776 := by
        have h1 : (Int.gcd (wval n) (wval d) : Int) ≤ wval d := Int.le_of_dvd (by omega) hdd
        rcases Nat.lt_or_ge d.d.length g.length with hc | hc
        · have := val_lt_of_length hd.ww g1 g2 hc; omega
        · omega
      have J2 : Gives (isoclineref01RatioJ2 n.d n.minus d.d d.minus g) fun q => RRep q (Rat.divInt (wval n) (wval d)) := by
        have exact : ∀ {x q r : Int}, 0 ≤ x → x = q * val g + r → 0 ≤ r → r < val g → val g ∣ x → q = x / val g := by
          intro x q r hx e r0 r1 hdv
          exact ((Int.ediv_emod_unique (by omega)).2 ⟨by rw [e, Int.mul_comm]; omega, r0, r1⟩).1.symm
        have hgn : val g ∣ val n.d := by
          rw [g3]
          have : wval n = val n.d ∨ wval n = -val n.d := by unfold wval sgn; split <;> simp
          rcases this with h | h
          · rw [← h]; exact hdn
          · have := hdn; rw [h] at this ⊢; exact Int.dvd_neg.1 this
        have hgd : val g ∣ val d.d := by rw [g3, ← ev]; exact hdd
        unfold isoclineref01RatioJ2
        refine (parts_gives hn.ww g1 hn.top g2 hgne (by omega) hgl).bind ?_
        rintro x ⟨x1, x2, x3, x4, x5, x6⟩
        refine (parts_gives hd.ww g1 hd.top g2 hgne (by omega) hgl).bind ?_
        rintro y ⟨y1, y2, y3, y4, y5, y6⟩
        refine (signed_gives x1 x2 n.minus).bind ?_
        rintro z ⟨z1, z2, z3⟩
        refine (signed_gives y1 y2 false).bind ?_
        rintro w ⟨w1, w2, w3⟩
        unfold isoclineref01RatioJ3
        rw [gives_some]
        have ex := exact hn.ww.val.1 x5 x3.val.1 x6 hgn
        have ey := exact hd.ww.val.1 y5 y3.val.1 y6 hgd
        refine RRep.of z1 w1 ?_ ?_
        · show wval z = _
          rw [z2, eN, ← g3, ex]
          unfold wval sgn
          split
          · rw [Int.neg_ediv_of_dvd hgn]
          · rfl
        · show wval w = _
          rw [w2, eD, ← g3, ev, ey]; rfl
      simp only [gives_ite, gives_need, decide_eq_true_eq, Bool.not_eq_true', decide_eq_false_iff_not, inRange, Int.toNat_zero]
      refine ⟨fun _ => J2, fun hl => ⟨by omega, fun _ => J2, fun hg1 => ?_⟩⟩
      have hg0 : val g = 1 := by
        unfold val
        rw [show g.length = 1 by omega]
        simp only [vl, Int.zero_add, Int.pow_zero, Int.mul_one]
        omega
      unfold isoclineref01RatioJ3
      rw [gives_some]
      refine RRep.of hn hd ?_ ?_
      · show wval n = _
        rw [eN, ← g3, hg0, Int.ediv_one]
      · show wval d = _
        rw [eD, ← g3, hg0, Int.ediv_one]
  unfold isoclineref01Ratio isoclineref01WholeIsNought
  simp only [gives_bind, gives_some, gives_ite, decide_eq_true_eq]
  refine ⟨fun he => ?_, fun he => ⟨fun hm => ?_, fun hm => ?_⟩⟩
  · have : d.d = [] := List.eq_nil_of_length_eq_zero (by omega)
    exact (h0 (by unfold wval sgn; rw [this, val_nil]; simp)).elim
  · refine (wneg_gives hn).mono ?_
    rintro x ⟨x1, x2⟩
    refine (wneg_gives hd).mono ?_
    rintro y ⟨y1, y2⟩
    have hym : y.minus = false := by
      cases hy : y.minus with
      | false => rfl
      | true =>
        have h1 := y1.pos hy
        have h2 := hd.pos hm
        unfold wval sgn at y2
        rw [hy, hm] at y2
        simp at y2
        omega
    have := J x1 y1 (by unfold WLt at *; omega) (by unfold WLt at *; omega) hym (by omega)
    rw [x2, y2, Rat.neg_divInt_neg] at this
    exact this
  · exact J hn hd ln ld (by simpa using hm) h0
theorem ofInt_gives {n : Int} (h1 : -9223372036854775808 ≤ n) (h2 : n < 9223372036854775808) : Gives (isoclineref01OfInt n) fun w => WOk w ∧ wval w = n := by
  have J : ∀ u : Int, 0 ≤ u → u ≤ 9223372036854775808 → (n < 0 ∧ u = -n ∨ 0 ≤ n ∧ u = n) → Gives (isoclineref01OfIntJ1 n u) fun w => WOk w ∧ wval w = n := by
    intro u u0 u1 hu
    unfold isoclineref01OfIntJ1
    simp only [gives_need, gives_bind, sh32, w32]
    refine ⟨by decide, ?_⟩
    have hw : WW [u % 4294967296, u / 4294967296 % 4294967296] := by
      intro i
      rcases i with _ | _ | i <;> simp <;> omega
    refine (trim_gives hw (by simp)).mono ?_
    rintro y ⟨y1, y2, y3, _⟩
    rw [val_pair] at y3
    have ey : val y = u := by omega
    rw [gives_some]
    refine ⟨⟨y1, y2, fun hm => ?_⟩, ?_⟩
    · rintro rfl
      rw [val_nil] at ey
      simp at hm
      omega
    · unfold wval sgn
      simp only [decide_eq_true_eq]
      split <;> omega
  unfold isoclineref01OfInt
  simp only [gives_ite, decide_eq_true_eq, w64]
  exact ⟨fun h => J _ (by omega) (by omega) (by omega), fun h => J _ (by omega) (by omega) (by omega)⟩
theorem rof_gives {x : ApiRat} (h1 : -9223372036854775808 < x.N) (h2 : x.N < 9223372036854775808) (h3 : -9223372036854775808 < x.D) (h4 : x.D < 9223372036854775808) (h0 : x.D ≠ 0) : Gives (isoclineref01Of x) fun q => RRep q (Rat.divInt x.N x.D) := by
  unfold isoclineref01Of
  refine (ofInt_gives (by omega) h2).bind ?_
  rintro n ⟨n1, n2⟩
  refine (ofInt_gives (by omega) h4).bind ?_
  rintro d ⟨d1, d2⟩
  have p2 : (4294967296 : Int) ^ 2 = 18446744073709551616 := by decide
  refine (ratio_gives n1 d1 (K := 2) (by omega) (by unfold WLt; rw [n2, p2]; omega) (by unfold WLt; rw [d2, p2]; omega) (by rw [d2]; exact h0)).bind ?_
  rintro q hq
  rw [gives_some, ← n2, ← d2]
  exact hq
theorem WLt.mono {z : Isoclineref01Whole} {k m : Nat} (h : WLt z k) (hk : k ≤ m) : WLt z m := by have := pow_mono' hk; unfold WLt at *; omega
theorem RRep.ltN {q : Isoclineref01Q} {r : Rat} {k : Nat} (h : RRep q r) (s : Sz r k) : WLt q.n k := by have := s.pos; unfold WLt; rw [h.num]; omega
theorem wlt_den {w : Isoclineref01Whole} {r : Rat} {k : Nat} (h : wval w = (r.den : Int)) (s : Sz r k) : WLt w k := by have := s.pos; unfold WLt; rw [h]; omega
theorem rmul_gives {a b : Isoclineref01Q} {x y : Rat} (ha : RRep a x) (hb : RRep b y) {k m : Nat} (sx : Sz x k) (sy : Sz y m) (hkm : k + m + 1 ≤ 1099511627776) : Gives (isoclineref01QMul a b) fun c => RRep c (x * y) := by
  have lxN := ha.ltN sx; have lyN := hb.ltN sy
  obtain ⟨a1, a2, a3, a4⟩ := sx.pos
  obtain ⟨b1, b2, b3, b4⟩ := sy.pos
  have N := wmul_gives ha.okN hb.okN (K := k + m) (by omega) (lxN.mono (by omega)) (lyN.mono (by omega))
  unfold isoclineref01QMul
  refine (den_gives ha).bind ?_
  rintro d ⟨d1, d2, d3⟩
  refine (den_gives hb).bind ?_
  rintro e ⟨e1, e2, e3⟩
  have J : Gives (isoclineref01QMulJ1 a b d e) fun c => RRep c (x * y) := by
    unfold isoclineref01QMulJ1
    refine N.bind ?_
    rintro p ⟨p1, p2⟩
    refine (wmul_gives d1 e1 (K := k + m) (by omega) ((wlt_den d2 sx).mono (by omega)) ((wlt_den e2 sy).mono (by omega))).bind ?_
    rintro q ⟨q1, q2⟩
    rw [ha.num, hb.num] at p2
    rw [d2, e2] at q2
    refine (ratio_gives p1 q1 (K := k + m) (by omega) (by unfold WLt; rw [p2]; exact mul_lt_pow a1 a2 b1 b2) (by unfold WLt; rw [q2]; exact denMul_lt sx sy) (by rw [q2]; exact den_ne x y)).bind ?_
    rintro c hc
    rw [gives_some, mul_divInt, ← p2, ← q2]
    exact hc
  refine (isOne_gives d1).bind ?_
  rintro b1' hb1
  rw [gives_ite]
  refine ⟨fun h1 => ?_, fun _ => J⟩
  refine (isOne_gives e1).bind ?_
  rintro b2' hb2
  rw [gives_ite]
  refine ⟨fun h2 => ?_, fun _ => J⟩
  refine N.bind ?_
  rintro s ⟨s1, s2⟩
  rw [gives_some]
  have f1 : x.den = 1 := by have := hb1.1 h1; omega
  have f2 : y.den = 1 := by have := hb2.1 h2; omega
  have es : x * y = Rat.divInt (x.num * y.num) 1 := by rw [mul_divInt, f1, f2]; simp
  have en : (x * y).num = x.num * y.num := by rw [es, Rat.num_divInt]; simp
  have ed : (x * y).den = 1 := by rw [es, Rat.den_divInt]; simp
  exact RRep.of s1 d1 (by rw [en, ← ha.num, ← hb.num]; exact s2) (by rw [ed]; show wval d = _; rw [d2, f1])
theorem radd_gives {a b : Isoclineref01Q} {x y : Rat} (ha : RRep a x) (hb : RRep b y) {k m : Nat} (sx : Sz x k) (sy : Sz y m) (hkm : k + m + 1 ≤ 1099511627776) : Gives (isoclineref01QAdd a b) fun c => RRep c (x + y) := by
  have lxN := ha.ltN sx; have lyN := hb.ltN sy
  obtain ⟨a1, a2, a3, a4⟩ := sx.pos
  obtain ⟨b1, b2, b3, b4⟩ := sy.pos
  unfold isoclineref01QAdd
  refine (den_gives ha).bind ?_
  rintro d ⟨d1, d2, d3⟩
  refine (den_gives hb).bind ?_
  rintro e ⟨e1, e2, e3⟩
  have ld := wlt_den d2 sx
  have le := wlt_den e2 sy
  have J : Gives (isoclineref01QAddJ1 a b d e) fun c => RRep c (x + y) := by
    unfold isoclineref01QAddJ1
    refine (wmul_gives ha.okN e1 (K := k + m) (by omega) (lxN.mono (by omega)) (le.mono (by omega))).bind ?_
    rintro p ⟨p1, p2⟩
    refine (wmul_gives hb.okN d1 (K := k + m) (by omega) (lyN.mono (by omega)) (ld.mono (by omega))).bind ?_
    rintro q ⟨q1, q2⟩
    rw [ha.num, e2] at p2
    rw [hb.num, d2] at q2
    have lp : WLt p (k + m) := by unfold WLt; rw [p2]; exact mul_lt_pow a1 a2 (by omega) b4
    have lq : WLt q (k + m) := by unfold WLt; rw [q2, Nat.add_comm k m]; exact mul_lt_pow b1 b2 (by omega) a4
    refine (wadd_gives p1 q1 (by omega) lp lq).bind ?_
    rintro s ⟨s1, s2⟩
    refine (wmul_gives d1 e1 (K := k + m) (by omega) (ld.mono (by omega)) (le.mono (by omega))).bind ?_
    rintro r ⟨r1, r2⟩
    rw [d2, e2] at r2
    rw [p2, q2] at s2
    refine (ratio_gives s1 r1 (K := k + m + 1) hkm (by unfold WLt; rw [s2]; exact addNum_lt sx sy) ((show WLt r (k + m) by unfold WLt; rw [r2]; exact denMul_lt sx sy).mono (by omega)) (by rw [r2]; exact den_ne x y)).bind ?_
    rintro c hc
    rw [gives_some, add_divInt, ← s2, ← r2]
    exact hc
  refine (isOne_gives d1).bind ?_
  rintro b1' hb1
  rw [gives_ite]
  refine ⟨fun h1 => ?_, fun _ => J⟩
  refine (isOne_gives e1).bind ?_
  rintro b2' hb2
  rw [gives_ite]
  refine ⟨fun h2 => ?_, fun _ => J⟩
  refine (wadd_gives ha.okN hb.okN (K := k + m) (by omega) (lxN.mono (by omega)) (lyN.mono (by omega))).bind ?_
  rintro s ⟨s1, s2⟩
  rw [gives_some]
  have f1 : x.den = 1 := by have := hb1.1 h1; omega
  have f2 : y.den = 1 := by have := hb2.1 h2; omega
  have es : x + y = Rat.divInt (x.num + y.num) 1 := by rw [add_divInt, f1, f2]; simp
  have en : (x + y).num = x.num + y.num := by rw [es, Rat.num_divInt]; simp
  have ed : (x + y).den = 1 := by rw [es, Rat.den_divInt]; simp
  exact RRep.of s1 d1 (by rw [en, ← ha.num, ← hb.num]; exact s2) (by rw [ed]; show wval d = _; rw [d2, f1])
theorem rneg_gives {a : Isoclineref01Q} {x : Rat} (ha : RRep a x) : Gives (isoclineref01QNeg a) fun c => RRep c (-x) := by
  unfold isoclineref01QNeg
  refine (wneg_gives ha.okN).bind ?_
  rintro n ⟨n1, n2⟩
  refine (den_gives ha).bind ?_
  rintro d ⟨d1, d2, d3⟩
  rw [gives_some]
  exact RRep.of n1 d1 (by rw [Rat.neg_num, ← ha.num]; exact n2) (by rw [Rat.neg_den]; exact d2)
theorem rsub_gives {a b : Isoclineref01Q} {x y : Rat} (ha : RRep a x) (hb : RRep b y) {k m : Nat} (sx : Sz x k) (sy : Sz y m) (hkm : k + m + 1 ≤ 1099511627776) : Gives (isoclineref01QSub a b) fun c => RRep c (x - y) := by
  unfold isoclineref01QSub
  refine (rneg_gives hb).bind ?_
  rintro n hn
  refine (radd_gives ha hn sx sy.neg hkm).bind ?_
  rintro c hc
  rw [gives_some, Rat.sub_eq_add_neg]
  exact hc
theorem rcmp_gives {a b : Isoclineref01Q} {x y : Rat} (ha : RRep a x) (hb : RRep b y) {k m : Nat} (sx : Sz x k) (sy : Sz y m) (hkm : k + m + 1 ≤ 1099511627776) : Gives (isoclineref01QCmp a b) fun c => c = Int.sign (x.num * y.den - y.num * x.den) := by
  have lxN := ha.ltN sx; have lyN := hb.ltN sy
  obtain ⟨a1, a2, a3, a4⟩ := sx.pos
  obtain ⟨b1, b2, b3, b4⟩ := sy.pos
  unfold isoclineref01QCmp
  refine (den_gives hb).bind ?_
  rintro e ⟨e1, e2, e3⟩
  refine (wmul_gives ha.okN e1 (K := k + m) (by omega) (lxN.mono (by omega)) ((wlt_den e2 sy).mono (by omega))).bind ?_
  rintro p ⟨p1, p2⟩
  refine (den_gives ha).bind ?_
  rintro d ⟨d1, d2, d3⟩
  refine (wmul_gives hb.okN d1 (K := k + m) (by omega) (lyN.mono (by omega)) ((wlt_den d2 sx).mono (by omega))).bind ?_
  rintro q ⟨q1, q2⟩
  rw [ha.num, e2] at p2
  rw [hb.num, d2] at q2
  have lp : WLt p (k + m) := by unfold WLt; rw [p2]; exact mul_lt_pow a1 a2 (by omega) b4
  have lq : WLt q (k + m) := by unfold WLt; rw [q2, Nat.add_comm k m]; exact mul_lt_pow b1 b2 (by omega) a4
  refine (wcmp_gives p1 q1 (by omega) lp lq).bind ?_
  rintro c rfl
  rw [gives_some, p2, q2]
theorem rcmp0 {x y : Rat} : Int.sign (x.num * y.den - y.num * x.den) = 0 ↔ x = y := by
  rw [Int.sign_eq_zero_iff_zero, Rat.eq_iff_mul_eq_mul]; omega
def apiRat (x : ApiRat) : Rat := Rat.divInt x.N x.D
theorem sz2 {x : ApiRat} (h1 : -1000000000000 ≤ x.N) (h2 : x.N ≤ 1000000000000) (h3 : 0 < x.D) (h4 : x.D ≤ 1000000000000) : Sz (apiRat x) 2 := by
  have p2 : (4294967296 : Int) ^ 2 = 18446744073709551616 := by decide
  exact divInt_sz (by omega) (by rw [p2]; omega) (by rw [p2]; omega)
def Small (x : ApiRat) : Prop := -1000000000000 ≤ x.N ∧ x.N ≤ 1000000000000 ∧ 0 < x.D ∧ x.D ≤ 1000000000000
theorem isPart_gives {x r a b : ApiRat} (hx : Small x) (hr : Small r) (ha : Small a) (hb : Small b) : Gives (isoclineref32IsPart x r a b) fun o => o = true ↔ apiRat x * apiRat a = (apiRat a - apiRat b) * apiRat r := by
  obtain ⟨x1, x2, x3, x4⟩ := hx
  obtain ⟨r1, r2, r3, r4⟩ := hr
  obtain ⟨a1, a2, a3, a4⟩ := ha
  obtain ⟨b1, b2, b3, b4⟩ := hb
  have sx := sz2 x1 x2 x3 x4
  have sr := sz2 r1 r2 r3 r4
  have sa := sz2 a1 a2 a3 a4
  have sb := sz2 b1 b2 b3 b4
  unfold isoclineref32IsPart
  refine (rof_gives (x := a) (by omega) (by omega) (by omega) (by omega) (by omega)).bind ?_
  rintro qa ha
  refine (rof_gives (x := b) (by omega) (by omega) (by omega) (by omega) (by omega)).bind ?_
  rintro qb hb
  refine (rof_gives (x := x) (by omega) (by omega) (by omega) (by omega) (by omega)).bind ?_
  rintro qx hx
  refine (rmul_gives hx ha sx sa (by omega)).bind ?_
  rintro p hp
  refine (rsub_gives ha hb sa sb (by omega)).bind ?_
  rintro d hd
  refine (rof_gives (x := r) (by omega) (by omega) (by omega) (by omega) (by omega)).bind ?_
  rintro qr hr
  refine (rmul_gives hd hr (sa.sub sb) sr (by omega)).bind ?_
  rintro e he
  refine (rcmp_gives hp he (sx.mul sa) ((sa.sub sb).mul sr) (by omega)).bind ?_
  rintro c rfl
  rw [gives_some, decide_eq_true_eq, rcmp0]
  rfl
end Go.Ab
