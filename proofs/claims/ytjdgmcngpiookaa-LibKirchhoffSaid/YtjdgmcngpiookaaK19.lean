/- The integers of package num: sum, opposite, difference, amount, comparison, product. Long division of amounts: what its steps rest on. Long division of amounts in package num: by one word; shifts. Long division of amounts in package num: the words of the quotient. Conditions: none beyond those that each theorem names. -/
import Derived.Test.YtjdgmcngpiookaaK18
namespace Go.Ab
open Go
set_option linter.unusedVariables false
set_option linter.unusedSimpArgs false
def ZLt (z : NumZ) (K : Nat) : Prop := -(4294967296 ^ K) < zval z ∧ zval z < 4294967296 ^ K
theorem words_len {z : NumZ} (h : ZOk z) {K : Nat} (hK : ZLt z K) : Gives (numZWords z) fun r => WW r.1 ∧ Top r.1 ∧ sgn r.2 (val r.1) = zval z ∧ (r.2 = true → 0 < val r.1) ∧ r.1.length ≤ K := by
  refine (words_gives h).mono ?_
  rintro r ⟨a1, a2, a3, a4⟩
  refine ⟨a1, a2, a3, a4, length_le_of_val a1 a2 ?_⟩
  obtain ⟨k1, k2⟩ := hK
  rw [← a3] at k1 k2
  unfold sgn at k1 k2
  split at k1
  · omega
  · rename_i h; rw [if_neg h] at k2; exact k2
theorem zaddJ_gives {a b : NumZ} (ha : ZOk a) (hb : ZOk b) {K : Nat} (hK : K ≤ 1099511627776) (la : ZLt a K) (lb : ZLt b K) : Gives (numZAddJ1 a b) fun c => ZOk c ∧ zval c = zval a + zval b := by
  unfold numZAddJ1
  refine (words_len ha la).bind ?_
  rintro x ⟨x1, x2, x3, x4, x5⟩
  refine (words_len hb lb).bind ?_
  rintro y ⟨y1, y2, y3, y4, y5⟩
  have hx := x1.val
  have hy := y1.val
  simp only [gives_ite, beq_iff_eq]
  refine ⟨fun h => ?_, fun h => ?_⟩
  · refine (addWords_gives x1 y1 (by omega) (by omega)).bind ?_
    rintro r ⟨r1, r2, r3⟩
    refine (made_gives r1 (by omega) x.2).bind ?_
    rintro z ⟨z1, z2⟩
    rw [gives_some]
    refine ⟨z1, ?_⟩
    rw [z2, ← x3, ← y3, ← h, r2]
    unfold sgn; split <;> omega
  · refine (cmpWords_gives x1 y1 x2 y2 (by omega) (by omega)).bind ?_
    rintro s rfl
    simp only [gives_ite, decide_eq_true_eq]
    refine ⟨fun hs => ?_, fun hs => ?_⟩
    · have hle : val y.1 ≤ val x.1 := by
        have := (Int.sign_nonneg_iff (x := val x.1 - val y.1)).1 hs
        omega
      have hlen : y.1.length ≤ x.1.length := by
        rcases Nat.lt_or_ge x.1.length y.1.length with hc | hc
        · have := val_lt_of_length x1 y1 y2 hc; omega
        · exact hc
      refine (subWords_gives x1 y1 hlen (by omega) hle).bind ?_
      rintro r ⟨r1, r2, r3⟩
      refine (made_gives r1 (by omega) x.2).bind ?_
      rintro z ⟨z1, z2⟩
      rw [gives_some]
      refine ⟨z1, ?_⟩
      rw [z2, ← x3, ← y3, r2]
      unfold sgn
      cases hx2 : x.2 <;> cases hy2 : y.2 <;> simp_all <;> omega
    · have hle : val x.1 < val y.1 := by
        have : ¬ 0 ≤ val x.1 - val y.1 := fun hc => hs ((Int.sign_nonneg_iff).2 hc)
        omega
      have hlen : x.1.length ≤ y.1.length := by
        rcases Nat.lt_or_ge y.1.length x.1.length with hc | hc
        · have := val_lt_of_length y1 x1 x2 hc; omega
        · exact hc
      refine (subWords_gives y1 x1 hlen (by omega) (by omega)).bind ?_
      rintro r ⟨r1, r2, r3⟩
      refine (made_gives r1 (by omega) y.2).bind ?_
      rintro z ⟨z1, z2⟩
      rw [gives_some]
      refine ⟨z1, ?_⟩
      rw [z2, ← x3, ← y3, r2]
      unfold sgn
      cases hx2 : x.2 <;> cases hy2 : y.2 <;> simp_all <;> omega
theorem ZOk.small {v : Int} {n : Bool} (h1 : -9223372036854775808 ≤ v) (h2 : v < 9223372036854775808) : ZOk ⟨v, [], n⟩ := ⟨fun _ => ⟨h1, h2⟩, fun h => (h rfl).elim⟩
theorem zval_small (v : Int) (n : Bool) : zval ⟨v, [], n⟩ = v := by simp [zval]
theorem ZOk.range {z : NumZ} (h : ZOk z) (hm : z.m = []) : -9223372036854775808 ≤ z.v ∧ z.v < 9223372036854775808 ∧ zval z = z.v := ⟨(h.1 hm).1, (h.1 hm).2, by rw [zval, if_pos hm]⟩
theorem zadd_gives {a b : NumZ} (ha : ZOk a) (hb : ZOk b) {K : Nat} (hK : K ≤ 1099511627776) (la : ZLt a K) (lb : ZLt b K) : Gives (numZAdd a b) fun c => ZOk c ∧ zval c = zval a + zval b := by
  have J := zaddJ_gives ha hb hK la lb
  unfold numZAdd
  simp only [gives_ite, isEmpty_iff', beq_iff_eq, gives_some]
  refine ⟨fun h1 => ⟨fun h2 => ⟨fun h3 => ?_, fun _ => J⟩, fun _ => J⟩, fun _ => J⟩
  obtain ⟨a1, a2, a3⟩ := ha.range h1
  obtain ⟨b1, b2, b3⟩ := hb.range h2
  rw [decide_eq_decide, wi64'] at h3
  rw [wi64', a3, b3]
  refine ⟨ZOk.small (by omega) (by omega), ?_⟩
  rw [zval_small]
  by_cases hp : 0 < b.v
  · have := h3.2 hp; omega
  · have : ¬ _ := fun hc => hp (h3.1 hc)
    omega
theorem zneg_gives {a : NumZ} (ha : ZOk a) {K : Nat} (hK : K ≤ 1099511627776) (la : ZLt a K) : Gives (numZNeg a) fun c => ZOk c ∧ zval c = -zval a := by
  have J : Gives (numZNegJ1 a) fun c => ZOk c ∧ zval c = -zval a := by
    unfold numZNegJ1
    refine (words_len ha la).bind ?_
    rintro x ⟨x1, x2, x3, x4, x5⟩
    refine (made_gives x1 (by omega) (!x.2)).bind ?_
    rintro z ⟨z1, z2⟩
    rw [gives_some]
    refine ⟨z1, ?_⟩
    rw [z2, ← x3]
    unfold sgn
    cases x.2 <;> simp
  unfold numZNeg
  simp only [gives_ite, isEmpty_iff', gives_some, Bool.not_eq_true', decide_eq_false_iff_not]
  refine ⟨fun h1 => ⟨fun h2 => ?_, fun _ => J⟩, fun _ => J⟩
  obtain ⟨a1, a2, a3⟩ := ha.range h1
  rw [wi64 (by omega) (by omega)]
  exact ⟨ZOk.small (by omega) (by omega), by rw [zval_small, a3]; omega⟩
theorem ZLt.neg {a b : NumZ} {K : Nat} (h : ZLt a K) (e : zval b = -zval a) : ZLt b K := by unfold ZLt at *; omega
theorem zsub_gives {a b : NumZ} (ha : ZOk a) (hb : ZOk b) {K : Nat} (hK : K ≤ 1099511627776) (la : ZLt a K) (lb : ZLt b K) : Gives (numZSub a b) fun c => ZOk c ∧ zval c = zval a - zval b := by
  unfold numZSub
  refine (zneg_gives hb hK lb).bind ?_
  rintro n ⟨n1, n2⟩
  refine (zadd_gives ha n1 hK la (lb.neg n2)).bind ?_
  rintro z ⟨z1, z2⟩
  rw [gives_some]
  exact ⟨z1, by omega⟩
theorem zabs_gives {a : NumZ} (ha : ZOk a) {K : Nat} (hK : K ≤ 1099511627776) (la : ZLt a K) : Gives (numZAbs a) fun c => ZOk c ∧ zval c = (zval a).natAbs := by
  unfold numZAbs
  refine (zsign_gives ha).bind ?_
  rintro s rfl
  simp only [gives_ite, decide_eq_true_eq, gives_some]
  refine ⟨fun h => ?_, fun h => ?_⟩
  · have := Int.sign_neg_iff.1 h
    refine (zneg_gives ha hK la).bind ?_
    rintro z ⟨z1, z2⟩
    rw [gives_some]
    exact ⟨z1, by omega⟩
  · have : ¬ zval a < 0 := fun hc => h (Int.sign_neg_iff.2 hc)
    exact ⟨ha, by omega⟩
theorem zcmp_gives {a b : NumZ} (ha : ZOk a) (hb : ZOk b) {K : Nat} (hK : K ≤ 1099511627776) (la : ZLt a K) (lb : ZLt b K) : Gives (numZCmp a b) fun c => c = Int.sign (zval a - zval b) := by
  have J : Gives (numZCmpJ1 a b) fun c => c = Int.sign (zval a - zval b) := by
    unfold numZCmpJ1
    refine (zsub_gives ha hb hK la lb).bind ?_
    rintro z ⟨z1, z2⟩
    refine (zsign_gives z1).bind ?_
    rintro s rfl
    rw [gives_some, z2]
  unfold numZCmp
  simp only [gives_ite, isEmpty_iff', gives_some, decide_eq_true_eq]
  refine ⟨fun h1 => ⟨fun h2 => ?_, fun _ => J⟩, fun _ => J⟩
  obtain ⟨a1, a2, a3⟩ := ha.range h1
  obtain ⟨b1, b2, b3⟩ := hb.range h2
  rw [a3, b3]
  refine ⟨fun h => ?_, fun h => ⟨fun h' => ?_, fun h' => ?_⟩⟩
  · rw [Int.sign_eq_neg_one_of_neg (by omega)]
  · rw [Int.sign_eq_one_of_pos (by omega)]
  · rw [show a.v - b.v = 0 by omega]; rfl
theorem zint_gives {a : NumZ} (ha : ZOk a) {most : Int} (h0 : 0 ≤ most) (hm : most < 9223372036854775808) : Gives (numZInt a most) fun r => (r.2 = true ↔ (-most ≤ zval a ∧ zval a ≤ most)) ∧ (r.2 = true → r.1 = zval a) ∧ (r.2 = false → r.1 = 0) := by
  unfold numZInt numZIntJ1
  simp only [gives_ite, isEmpty_iff', gives_some, Bool.not_eq_true', decide_eq_true_eq, Bool.not_eq_true]
  refine ⟨fun h => ?_, fun h => ?_⟩
  · have hne : a.m ≠ [] := by rintro e; rw [e] at h; simp at h
    obtain ⟨w, t, hv⟩ := ha.2 hne
    have hz : zval a = sgn a.neg (val a.m) := by rw [zval, if_neg hne]
    unfold sgn at hz
    refine ⟨?_, by simp, by simp⟩
    simp only [Bool.false_eq_true, false_iff]
    split at hz <;> omega
  · have he : a.m = [] := by
      cases hm : a.m with
      | nil => rfl
      | cons x l => rw [hm] at h; simp at h
    obtain ⟨a1, a2, a3⟩ := ha.range he
    rw [wi64 (by omega) (by omega), a3]
    refine ⟨fun h1 => ⟨?_, by simp, by simp⟩, fun h1 => ⟨fun h2 => ⟨?_, by simp, by simp⟩, fun h2 => ⟨?_, by simp, by simp⟩⟩⟩
    · simp only [Bool.false_eq_true, false_iff]; omega
    · simp only [Bool.false_eq_true, false_iff]; omega
    · simp only [true_iff]; omega
theorem and_mask {x : Int} (h0 : 0 ≤ x) (h1 : x < 18446744073709551616) : (((BitVec.ofInt (IntKind.bits .u64) x &&& BitVec.ofInt (IntKind.bits .u64) (4294967295 : Int)).toNat : Nat) : Int) = x % 4294967296 := by
  obtain ⟨n, rfl⟩ := Int.eq_ofNat_of_zero_le h0
  have h1 : n < 18446744073709551616 := by omega
  have e1 : (BitVec.ofInt (IntKind.bits .u64) (n : Int)) = BitVec.ofNat 64 n := by simp [IntKind.bits]
  have e2 : (BitVec.ofInt (IntKind.bits .u64) (4294967295 : Int)) = BitVec.ofNat 64 4294967295 := by rfl
  rw [e1, e2]
  show ((BitVec.toNat (BitVec.ofNat 64 n &&& BitVec.ofNat 64 4294967295) : Nat) : Int) = _
  rw [BitVec.toNat_and, BitVec.toNat_ofNat, BitVec.toNat_ofNat, Nat.mod_eq_of_lt (by omega)]
  have : (4294967295 % 2 ^ 64 : Nat) = 2 ^ 32 - 1 := by decide
  rw [this, Nat.and_two_pow_sub_one_eq_mod]
  omega
theorem mul64_gives {a b : Int} (ha : 0 ≤ a) (ha' : a < 18446744073709551616) (hb : 0 ≤ b) (hb' : b < 18446744073709551616) : Gives (bitsMul64 a b) fun r => r.1 * 18446744073709551616 + r.2 = a * b ∧ 0 ≤ r.1 ∧ 0 ≤ r.2 ∧ r.2 < 18446744073709551616 := by
  unfold bitsMul64
  simp only [gives_need, gives_some, sh32, w64]
  rw [and_mask ha ha', and_mask hb hb']
  obtain ⟨a1, a0, rfl, h1, h2, h3, h4⟩ : ∃ a1 a0, a = a1 * 4294967296 + a0 ∧ 0 ≤ a1 ∧ a1 < 4294967296 ∧ 0 ≤ a0 ∧ a0 < 4294967296 := ⟨a / 4294967296, a % 4294967296, by omega, by omega, by omega, by omega, by omega⟩
  obtain ⟨b1, b0, rfl, k1, k2, k3, k4⟩ : ∃ b1 b0, b = b1 * 4294967296 + b0 ∧ 0 ≤ b1 ∧ b1 < 4294967296 ∧ 0 ≤ b0 ∧ b0 < 4294967296 := ⟨b / 4294967296, b % 4294967296, by omega, by omega, by omega, by omega, by omega⟩
  rw [show (a1 * 4294967296 + a0) / 4294967296 = a1 by omega, show (a1 * 4294967296 + a0) % 4294967296 = a0 by omega, show (b1 * 4294967296 + b0) / 4294967296 = b1 by omega, show (b1 * 4294967296 + b0) % 4294967296 = b0 by omega]
  rw [show a0 % 18446744073709551616 = a0 by omega, show b0 % 18446744073709551616 = b0 by omega]
  obtain ⟨p1, p2⟩ := mul_words h3 h4 k3 k4
  obtain ⟨q1, q2⟩ := mul_words h1 h2 k3 k4
  obtain ⟨r1, r2⟩ := mul_words h3 h4 k1 k2
  obtain ⟨s1, s2⟩ := mul_words h1 h2 k1 k2
  have e : (a1 * 4294967296 + a0) * (b1 * 4294967296 + b0) = (a1 * b1) * 18446744073709551616 + (a1 * b0) * 4294967296 + (a0 * b1) * 4294967296 + a0 * b0 := by grind
  rw [e]
  generalize a0 * b0 = p at *
  generalize a1 * b0 = q at *
  generalize a0 * b1 = r at *
  generalize a1 * b1 = s at *
  rw [show p % 18446744073709551616 = p by omega, show q % 18446744073709551616 = q by omega, show r % 18446744073709551616 = r by omega, show s % 18446744073709551616 = s by omega]
  rw [show (q + p / 4294967296) % 18446744073709551616 = q + p / 4294967296 by omega]
  rw [and_mask (by omega) (by omega)]
  refine ⟨by decide, by decide, by decide, by decide, by decide, ?_⟩
  omega
theorem mulRow_gives {x y : List Int × Bool} (hx : WW x.1) (hy : WW y.1) (lx : x.1.length ≤ 1099511627776) (ly : y.1.length ≤ 1099511627776) {n : Nat} (hn : n < x.1.length) {out : List Int} (ho : WW out) (hl : out.length = x.1.length + y.1.length)
    (hz : ∀ k, n + y.1.length ≤ k → out.getD k 0 = 0) : Gives (iter (fun v : (Int × Int × (List Int)) => numZMulL2 n x y v.1 v.2.1 v.2.2) ((0 : Int), (0 : Int), out))
    fun r => WW r.2 ∧ r.2.length = out.length ∧ (∀ k, n + y.1.length ≤ k → r.2.getD k 0 = 0) ∧ 0 ≤ r.1 ∧ r.1 < 4294967296 ∧ val r.2 + r.1 * 4294967296 ^ (n + y.1.length) = val out + x.1.getD n 0 * val y.1 * 4294967296 ^ n := by
  refine gives_iter (I := fun s : Int × Int × List Int => ∃ j : Nat, s.2.1 = (j : Int) ∧ j ≤ y.1.length ∧ WW s.2.2 ∧ s.2.2.length = out.length ∧ (∀ k, n + y.1.length ≤ k → s.2.2.getD k 0 = 0) ∧ 0 ≤ s.1 ∧ s.1 < 4294967296 ∧
      val s.2.2 + s.1 * 4294967296 ^ (n + j) = val out + x.1.getD n 0 * vl (fun i => y.1.getD i 0) j * 4294967296 ^ n) (μ := fun s : Int × Int × List Int => y.1.length - s.2.1.toNat) ⟨0, rfl, by omega, ho, rfl, hz, by simp, by simp, by simp [vl]⟩ ?_
  rintro ⟨c, i, w⟩ ⟨j, h1, h2, h3, h4, h5, h6, h7, h8⟩
  simp only at h1 h3 h4 h5 h6 h7 h8
  subst h1
  unfold numZMulL2
  simp only [gives_ite, gives_need, gives_some, decide_eq_true_eq, round_inl, round_inr, inRange, sh32, w32, w64, Int.toNat_natCast]
  rw [wi64 (x := (n : Int) + j) (by omega) (by omega)]
  have hnj : ((n : Int) + j).toNat = n + j := by omega
  rw [hnj]
  refine ⟨fun hj => ?_, fun hj => ?_⟩
  · have hw := h3 (n + j)
    have hxn := hx n
    have hyj := hy j
    obtain ⟨m1, m2⟩ := mul_words hxn.1 hxn.2 hyj.1 hyj.2
    have e1 : x.1.getD n 0 % 18446744073709551616 = x.1.getD n 0 := by omega
    have e2 : y.1.getD j 0 % 18446744073709551616 = y.1.getD j 0 := by omega
    rw [e1, e2]
    have hP : vl (fun i => y.1.getD i 0) (j + 1) = vl (fun i => y.1.getD i 0) j + y.1.getD j 0 * 4294967296 ^ j := rfl
    have hs : val (w.set (n + j) ((w.getD (n + j) 0 + x.1.getD n 0 * y.1.getD j 0 + c) % 4294967296)) = val w + ((w.getD (n + j) 0 + x.1.getD n 0 * y.1.getD j 0 + c) % 4294967296 - w.getD (n + j) 0) * 4294967296 ^ (n + j) := val_set (by omega) _
    have e3 : ((w.getD (n + j) 0 % 18446744073709551616 + x.1.getD n 0 * y.1.getD j 0 % 18446744073709551616) % 18446744073709551616 + c) % 18446744073709551616 = w.getD (n + j) 0 + x.1.getD n 0 * y.1.getD j 0 + c := by omega
    rw [e3, wi64 (by omega) (by omega)]
    refine ⟨by omega, by omega, by omega, by omega, by decide, ⟨j + 1, by simp, by omega, h3.set (by omega) (by omega), by simp [h4], fun k hk => ?_, by omega, by omega, ?_⟩, by omega⟩
    · rw [getD_set, if_neg (by omega)]; exact h5 k hk
    · rw [hs, hP]
      have e : (w.getD (n + j) 0 + x.1.getD n 0 * y.1.getD j 0 + c) % 4294967296 + (w.getD (n + j) 0 + x.1.getD n 0 * y.1.getD j 0 + c) / 4294967296 * 4294967296 = w.getD (n + j) 0 + x.1.getD n 0 * y.1.getD j 0 + c := by omega
      generalize (w.getD (n + j) 0 + x.1.getD n 0 * y.1.getD j 0 + c) % 4294967296 = o at *
      generalize (w.getD (n + j) 0 + x.1.getD n 0 * y.1.getD j 0 + c) / 4294967296 = q at *
      have p1 : (4294967296 : Int) ^ (n + (j + 1)) = 4294967296 ^ (n + j) * 4294967296 := by rw [← Nat.add_assoc, Int.pow_succ]
      have p2 : (4294967296 : Int) ^ (n + j) = 4294967296 ^ n * 4294967296 ^ j := Int.pow_add _ _ _
      rw [p1]
      rw [p2] at *
      clear hs e1 e2 e3 m1 m2 hP
      grind
  · have : j = y.1.length := by omega
    subst this
    exact ⟨h3, h4, h5, h6, h7, h8⟩
theorem zmulJ_gives {a b : NumZ} (ha : ZOk a) (hb : ZOk b) {K : Nat} (hK : K ≤ 1099511627776) (la : ZLt a K) (lb : ZLt b K) : Gives (numZMulJ3 a b) fun c => ZOk c ∧ zval c = zval a * zval b := by
  unfold numZMulJ3
  refine (words_len ha la).bind ?_
  rintro x ⟨x1, x2, x3, x4, x5⟩
  refine (words_len hb lb).bind ?_
  rintro y ⟨y1, y2, y3, y4, y5⟩
  simp only [gives_need]
  rw [wi64 (by omega) (by omega)]
  refine ⟨by omega, by omega, by unfold maxBytes; omega, ?_⟩
  have hlen : ((x.1.length : Int) + (y.1.length : Int)).toNat = x.1.length + y.1.length := by omega
  rw [hlen]
  have L : Gives (iter (fun v : (Int × (List Int)) => numZMulL1 x y v.1 v.2) ((0 : Int), List.replicate (x.1.length + y.1.length) (0 : Int))) fun r => WW r ∧ r.length = x.1.length + y.1.length ∧ val r = val x.1 * val y.1 := by
    refine gives_iter (I := fun s : Int × List Int => ∃ n : Nat, s.1 = (n : Int) ∧ n ≤ x.1.length ∧ WW s.2 ∧ s.2.length = x.1.length + y.1.length ∧ (∀ k, n + y.1.length ≤ k → s.2.getD k 0 = 0) ∧ val s.2 = vl (fun i => x.1.getD i 0) n * val y.1)
      (μ := fun s : Int × List Int => x.1.length - s.1.toNat) ⟨0, rfl, by omega, WW.replicate _, by simp, fun k _ => getD_replicate _ k, ?_⟩ ?_
    · show val (List.replicate _ 0) = _
      rw [val, vl_zero fun j _ => getD_replicate _ j]; simp [vl]
    · rintro ⟨i, w⟩ ⟨n, h1, h2, h3, h4, h5, h6⟩
      simp only at h1 h3 h4 h5 h6
      subst h1
      unfold numZMulL1
      simp only [gives_ite, gives_bind, decide_eq_true_eq, gives_some, round_inr]
      refine ⟨fun hn => ?_, fun hn => ?_⟩
      · refine (mulRow_gives (x := x) (y := y) x1 y1 (by omega) (by omega) (n := n) (by omega) h3 h4 h5).mono ?_
        rintro ⟨c, r⟩ ⟨r1, r2, r3, r4, r5, r6⟩
        simp only at r1 r2 r3 r4 r5 r6
        simp only [gives_need, gives_some, round_inl, inRange, w32]
        rw [wi64 (x := (n : Int) + (y.1.length : Int)) (by omega) (by omega), wi64 (by omega) (by omega)]
        have e1 : ((n : Int) + (y.1.length : Int)).toNat = n + y.1.length := by omega
        have e2 : c % 4294967296 = c := by omega
        rw [e1, e2]
        refine ⟨by omega, ⟨n + 1, by simp, by omega, r1.set r4 r5, by simp [r2, h4], fun k hk => ?_, ?_⟩, by omega⟩
        · rw [getD_set, if_neg (by omega)]; exact r3 k (by omega)
        · rw [val_set (by omega), r3 _ (by omega), vl]
          generalize vl (fun i => x.1.getD i 0) n = vx at *
          grind
      · have : n = x.1.length := by omega
        subst this
        exact ⟨h3, h4, h6⟩
  refine L.bind ?_
  rintro r ⟨r1, r2, r3⟩
  refine (made_gives r1 (by omega) _).bind ?_
  rintro z ⟨z1, z2⟩
  rw [gives_some]
  refine ⟨z1, ?_⟩
  rw [z2, r3, ← x3, ← y3]
  unfold sgn
  cases x.2 <;> cases y.2 <;> simp <;> grind
theorem zmul_gives {a b : NumZ} (ha : ZOk a) (hb : ZOk b) {K : Nat} (hK : K ≤ 1099511627776) (la : ZLt a K) (lb : ZLt b K) : Gives (numZMul a b) fun c => ZOk c ∧ zval c = zval a * zval b := by
  have J := zmulJ_gives ha hb hK la lb
  have M : a.m = [] → b.m = [] → ∀ u v : Int, u = (a.v.natAbs : Int) → v = (b.v.natAbs : Int) → Gives (numZMulJ2 a b u v) fun c => ZOk c ∧ zval c = zval a * zval b := by
    intro h1 h2 u v hu hv
    obtain ⟨a1, a2, a3⟩ := ha.range h1
    obtain ⟨b1, b2, b3⟩ := hb.range h2
    unfold numZMulJ2
    refine (mul64_gives (a := u) (b := v) (by omega) (by omega) (by omega) (by omega)).bind ?_
    rintro ⟨hi, lo⟩ ⟨r1, r2, r3, r4⟩
    simp only at r1 r2 r3 r4
    simp only [gives_ite, gives_some, decide_eq_true_eq, Bool.not_eq_true', beq_eq_false_iff_ne, ne_eq, decide_eq_decide]
    refine ⟨fun h3 => ⟨fun h4 => ?_, fun _ => J⟩, fun _ => J⟩
    rw [h3] at r1
    have r1 : lo = u * v := by omega
    rw [wi64 (x := lo) (by omega) (by omega), wi64 (x := 0 - lo) (by omega) (by omega), a3, b3]
    have hab : (a.v < 0 ∧ u = -a.v) ∨ (0 ≤ a.v ∧ u = a.v) := by omega
    have hbb : (b.v < 0 ∧ v = -b.v) ∨ (0 ≤ b.v ∧ v = b.v) := by omega
    refine ⟨fun h5 => ⟨ZOk.small (by omega) (by omega), ?_⟩, fun h5 => ⟨ZOk.small (by omega) (by omega), ?_⟩⟩
    · rw [zval_small, r1]
      rcases hab with ⟨g1, g2⟩ | ⟨g1, g2⟩ <;> rcases hbb with ⟨k1, k2⟩ | ⟨k1, k2⟩
      · exact (h5 ⟨fun _ => k1, fun _ => g1⟩).elim
      · rw [g2, k2]; grind
      · rw [g2, k2]; grind
      · exact (h5 ⟨fun _ => by omega, fun _ => by omega⟩).elim
    · rw [zval_small, r1]
      rcases hab with ⟨g1, g2⟩ | ⟨g1, g2⟩ <;> rcases hbb with ⟨k1, k2⟩ | ⟨k1, k2⟩
      · rw [g2, k2]; grind
      · exact (h5 (by rw [iff_def]; omega)).elim
      · exact (h5 (by rw [iff_def]; omega)).elim
      · rw [g2, k2]
  unfold numZMul numZMulJ1
  simp only [gives_ite, isEmpty_iff', decide_eq_true_eq, w64]
  refine ⟨fun h1 => ⟨fun h2 => ?_, fun _ => J⟩, fun _ => J⟩
  obtain ⟨a1, a2, a3⟩ := ha.range h1
  obtain ⟨b1, b2, b3⟩ := hb.range h2
  exact ⟨fun _ => ⟨fun _ => M h1 h2 _ _ (by omega) (by omega), fun _ => M h1 h2 _ _ (by omega) (by omega)⟩, fun _ => ⟨fun _ => M h1 h2 _ _ (by omega) (by omega), fun _ => M h1 h2 _ _ (by omega) (by omega)⟩⟩
end Go.Ab
namespace Go.Ab
open Go
set_option linter.unusedVariables false
set_option linter.unusedSimpArgs false
def tab8 : List UInt8 := [0, 1, 2, 2, 3, 3, 3, 3, 4, 4, 4, 4, 4, 4, 4, 4, 5, 5, 5, 5, 5, 5, 5, 5, 5, 5, 5, 5, 5, 5, 5, 5, 6, 6, 6, 6, 6, 6, 6, 6, 6, 6, 6, 6, 6, 6, 6, 6, 6, 6, 6, 6, 6, 6, 6, 6, 6, 6, 6, 6, 6, 6, 6, 6, 7, 7, 7, 7, 7, 7, 7, 7, 7, 7, 7, 7, 7, 7, 7, 7, 7, 7, 7, 7, 7, 7, 7, 7, 7, 7, 7, 7, 7, 7, 7, 7, 7, 7, 7, 7, 7, 7, 7, 7, 7, 7, 7, 7, 7, 7, 7, 7, 7, 7, 7, 7, 7, 7, 7, 7, 7, 7, 7, 7, 7, 7, 7, 7, 8, 8, 8, 8, 8, 8, 8, 8, 8, 8, 8, 8, 8, 8, 8, 8, 8, 8, 8, 8, 8, 8, 8, 8, 8, 8, 8, 8, 8, 8, 8, 8, 8, 8, 8, 8, 8, 8, 8, 8, 8, 8, 8, 8, 8, 8, 8, 8, 8, 8, 8, 8, 8, 8, 8, 8, 8, 8, 8, 8, 8, 8, 8, 8, 8, 8, 8, 8, 8, 8, 8, 8, 8, 8, 8, 8, 8, 8, 8, 8, 8, 8, 8, 8, 8, 8, 8, 8, 8, 8, 8, 8, 8, 8, 8, 8, 8, 8, 8, 8, 8, 8, 8, 8, 8, 8, 8, 8, 8, 8, 8, 8, 8, 8, 8, 8, 8, 8, 8, 8, 8, 8, 8, 8, 8, 8, 8, 8]
def tabOk (n : Nat) : Bool := Nat.beq n 0 || (Nat.ble (2 ^ ((tab8.getD n 0).toNat - 1)) n && Nat.blt n (2 ^ (tab8.getD n 0).toNat) && Nat.ble 1 (tab8.getD n 0).toNat && Nat.ble (tab8.getD n 0).toNat 8)
theorem tab_all : (List.range 256).all tabOk = true := by kernel_rfl
theorem len8 {n : Nat} (h : n < 256) (h0 : 0 < n) : 2 ^ ((tab8.getD n 0).toNat - 1) ≤ n ∧ n < 2 ^ (tab8.getD n 0).toNat ∧ 1 ≤ (tab8.getD n 0).toNat ∧ (tab8.getD n 0).toNat ≤ 8 := by
  have := List.all_eq_true.1 tab_all n (List.mem_range.2 h)
  unfold tabOk at this
  simp only [Bool.or_eq_true, Bool.and_eq_true] at this
  rcases this with h | ⟨⟨⟨h1, h2⟩, h3⟩, h4⟩
  · have := Nat.eq_of_beq_eq_true h; omega
  · exact ⟨Nat.le_of_ble_eq_true h1, (Nat.blt_eq).mp h2, Nat.le_of_ble_eq_true h3, Nat.le_of_ble_eq_true h4⟩
theorem tab_length : tab8.length = 256 := by kernel_rfl
theorem len32_gives {x : Int} (h0 : 0 < x) (h1 : x < 4294967296) : Gives (bitsLen32 x) fun r => ∃ k : Nat, r = (k : Int) ∧ 1 ≤ k ∧ k ≤ 32 ∧ 2 ^ (k - 1) ≤ x ∧ x < 2 ^ k := by
  have last : ∀ (y : Nat) (c : Nat), 0 < y → y < 256 → c ≤ 24 → (y : Int) = x / 2 ^ c → Gives (bitsLen32J2 (y : Int) (c : Int)) fun r => ∃ k : Nat, r = (k : Int) ∧ 1 ≤ k ∧ k ≤ 32 ∧ 2 ^ (k - 1) ≤ x ∧ x < 2 ^ k := by
    intro y c hy hy' hc e
    unfold bitsLen32J2
    have e1 : (IntKind.wrap .u8 (y : Int)).toNat = y := by rw [w8]; omega
    rw [gives_need, gives_some, e1]
    obtain ⟨t1, t2, t3, t4⟩ := len8 hy' hy
    refine ⟨⟨by rw [w8]; omega, by rw [w8]; show _ < ((tab8.length : Nat) : Int); rw [tab_length]; omega⟩, ?_⟩
    show ∃ k : Nat, IntKind.wrap .i64 ((c : Int) + IntKind.wrap .i64 (((tab8.getD y 0).toNat : Nat) : Int)) = (k : Int) ∧ _
    rw [wi64 (x := (((tab8.getD y 0).toNat : Nat) : Int)) (by omega) (by omega), wi64 (by omega) (by omega)]
    generalize (tab8.getD y 0).toNat = t at *
    refine ⟨c + t, by omega, by omega, by omega, ?_, ?_⟩
    · have p : (0 : Int) < 2 ^ c := Int.pow_pos (by decide)
      have q := Int.ediv_mul_le x (b := 2 ^ c) (by omega)
      rw [← e] at q
      have q2 : (2 : Int) ^ (t - 1) * 2 ^ c ≤ (y : Int) * 2 ^ c := Int.mul_le_mul_of_nonneg_right (by exact_mod_cast t1) (by omega)
      rw [← Int.pow_add] at q2
      rw [show c + t - 1 = t - 1 + c by omega]
      omega
    · have p : (0 : Int) < 2 ^ c := Int.pow_pos (by decide)
      have q := Int.lt_ediv_add_one_mul_self x p
      rw [← e] at q
      have q2 : ((y : Int) + 1) * 2 ^ c ≤ 2 ^ t * 2 ^ c := Int.mul_le_mul_of_nonneg_right (by have : (y : Int) < 2 ^ t := by exact_mod_cast t2
                                                                                              omega) (by omega)
      rw [← Int.pow_add] at q2
      rw [show c + t = t + c by omega]
      omega
  have mid : ∀ (y : Nat) (c : Nat), 0 < y → y < 65536 → c ≤ 16 → (y : Int) = x / 2 ^ c → Gives (bitsLen32J1 (y : Int) (c : Int)) fun r => ∃ k : Nat, r = (k : Int) ∧ 1 ≤ k ∧ k ≤ 32 ∧ 2 ^ (k - 1) ≤ x ∧ x < 2 ^ k := by
    intro y c hy hy' hc e
    unfold bitsLen32J1
    simp only [gives_ite, gives_need, decide_eq_true_eq]
    refine ⟨fun h => ⟨by decide, ?_⟩, fun h => last y c hy (by omega) (by omega) e⟩
    have e8 : ((2 : Int) ^ (min (8 : Int).toNat (IntKind.bits .u32))) = 256 := by decide
    rw [e8, Int.fdiv_eq_ediv_of_nonneg _ (by decide), wi64 (by omega) (by omega)]
    have := last (y / 256) (c + 8) (by omega) (by omega) (by omega) (by
      rw [Int.pow_add, ← Int.ediv_ediv_of_nonneg (by exact Int.le_of_lt (Int.pow_pos (by decide))), ← e]; simp)
    simpa using this
  unfold bitsLen32
  simp only [gives_ite, gives_need, decide_eq_true_eq]
  obtain ⟨n, rfl⟩ := Int.eq_ofNat_of_zero_le (Int.le_of_lt h0)
  refine ⟨fun h => ⟨by decide, ?_⟩, fun h => mid n 0 (by omega) (by omega) (by omega) (by simp)⟩
  have e16 : ((2 : Int) ^ (min (16 : Int).toNat (IntKind.bits .u32))) = 65536 := by decide
  rw [e16, Int.fdiv_eq_ediv_of_nonneg _ (by decide)]
  have := mid (n / 65536) 16 (by omega) (by omega) (by omega) (by simp)
  simpa using this
theorem lz_gives {x : Int} (h0 : 0 < x) (h1 : x < 4294967296) : Gives (bitsLeadingZeros32 x) fun r => ∃ s : Nat, r = (s : Int) ∧ s ≤ 31 ∧ 2147483648 ≤ x * 2 ^ s ∧ x * 2 ^ s < 4294967296 := by
  unfold bitsLeadingZeros32
  refine (len32_gives h0 h1).bind ?_
  rintro r ⟨k, rfl, k1, k2, k3, k4⟩
  rw [gives_some, wi64 (by omega) (by omega)]
  have p : (0 : Int) < 2 ^ (32 - k) := Int.pow_pos (by decide)
  refine ⟨32 - k, by omega, by omega, ?_, ?_⟩
  · have : (2 : Int) ^ (k - 1) * 2 ^ (32 - k) ≤ x * 2 ^ (32 - k) := Int.mul_le_mul_of_nonneg_right k3 (by omega)
    rw [← Int.pow_add, show k - 1 + (32 - k) = 31 by omega] at this
    exact this
  · have : x * 2 ^ (32 - k) < 2 ^ k * 2 ^ (32 - k) := Int.mul_lt_mul_of_pos_right k4 p
    rw [← Int.pow_add, show k + (32 - k) = 32 by omega] at this
    exact this
theorem vl_shift (f : Nat → Int) (m : Nat) : vl f (m + 1) = f 0 + 4294967296 * vl (fun i => f (i + 1)) m := by
  rw [Nat.add_comm, vl_add]
  simp [vl, Nat.add_comm, Int.mul_comm]
def hi (f : Nat → Int) (n L : Nat) : Int := vl (fun i => f (n + i)) (L - n)
theorem hi_succ (f : Nat → Int) {n L : Nat} (h : n < L) : hi f n L = f n + 4294967296 * hi f (n + 1) L := by
  unfold hi
  rw [show L - n = (L - (n + 1)) + 1 by omega, vl_shift]
  simp only [Nat.add_zero]
  congr 2
  exact vl_congr fun j _ => by rw [show n + (j + 1) = n + 1 + j by omega]
theorem hi_zero (f : Nat → Int) (L : Nat) : hi f 0 L = vl f L := by unfold hi; simp
theorem hi_end (f : Nat → Int) (L : Nat) : hi f L L = 0 := by unfold hi; simp [vl]
theorem vl_hi (f : Nat → Int) {n L : Nat} (h : n ≤ L) : vl f L = vl f n + hi f n L * 4294967296 ^ n := by
  unfold hi
  have := vl_add f n (L - n)
  rw [Nat.add_sub_cancel' h] at this
  exact this
theorem hi_congr {f g : Nat → Int} {n L : Nat} (h : ∀ k, n ≤ k → k < L → f k = g k) : hi f n L = hi g n L := vl_congr fun j hj => h _ (by omega) (by omega)
theorem est_ge {T V v1 W1 top q r : Int} (hT : T < (top + 1) * W1) (hV : v1 * W1 ≤ V) (e : q * v1 + r = top) (hr : r < v1) (hq : 0 ≤ q) (hW : 0 < W1) : T < (q + 1) * V := by
  have h1 : (q + 1) * (v1 * W1) ≤ (q + 1) * V := Int.mul_le_mul_of_nonneg_left hV (by omega)
  have h2 : (top + 1) * W1 ≤ ((q + 1) * v1) * W1 := Int.mul_le_mul_of_nonneg_right (by rw [Int.add_mul]; omega) (by omega)
  rw [Int.mul_assoc] at h2
  omega
theorem est_dec {T V vv W2 tt q : Int} (h : tt < q * vv) (hT : T < (tt + 1) * W2) (hV : vv * W2 ≤ V) (hq : 0 ≤ q) (hW : 0 < W2) : T < q * V := by
  have h1 : q * (vv * W2) ≤ q * V := Int.mul_le_mul_of_nonneg_left hV hq
  have h2 : (tt + 1) * W2 ≤ (q * vv) * W2 := Int.mul_le_mul_of_nonneg_right (by omega) (by omega)
  rw [Int.mul_assoc] at h2
  omega
theorem est_up {T V vv W2 tt q : Int} (h : q * vv ≤ tt) (hT : tt * W2 ≤ T) (hV : V < (vv + 1) * W2) (hVV : 4294967296 * W2 ≤ V) (hq : 0 ≤ q) (hq2 : q < 4294967296) (hW : 0 < W2) : q * V < T + V := by
  have h1 : q * V ≤ q * ((vv + 1) * W2) := Int.mul_le_mul_of_nonneg_left (by omega) hq
  have h2 : (q * vv) * W2 ≤ tt * W2 := Int.mul_le_mul_of_nonneg_right h (by omega)
  have h3 : q * W2 < 4294967296 * W2 := Int.mul_lt_mul_of_pos_right hq2 hW
  have e : q * ((vv + 1) * W2) = (q * vv) * W2 + q * W2 := by grind
  omega
end Go.Ab
namespace Go.Ab
open Go
set_option linter.unusedVariables false
set_option linter.unusedSimpArgs false
theorem sm1 {s : Nat} (hs : s ≤ 31) : min s (IntKind.bits .u32) = s := by
  simp only [IntKind.bits]; omega
theorem sm2 {s : Nat} (hs : s ≤ 31) : min (IntKind.wrap .u64 ((32 : Int) - (s : Int))).toNat (IntKind.bits .u32) = 32 - s := by
  rw [w64]; simp only [IntKind.bits]; omega
theorem pq {s : Nat} (hs : s ≤ 31) : (2 : Int) ^ s * 2 ^ (32 - s) = 4294967296 := by
  rw [← Int.pow_add, show s + (32 - s) = 32 by omega]; decide
theorem p2pos (s : Nat) : (0 : Int) < 2 ^ s := Int.pow_pos (by decide)
theorem shr_eq {s : Nat} (hs : s ≤ 31) (y : Int) : y / 2 ^ (32 - s) = (y * 2 ^ s) / 4294967296 := by
  rw [← pq hs, Int.mul_comm y, Int.mul_ediv_mul_of_pos _ _ (p2pos s)]
theorem shl_low {s : Nat} (hs : s ≤ 31) (x : Int) : (x * 2 ^ s) % 4294967296 = 2 ^ s * (x % 2 ^ (32 - s)) := by
  rw [← pq hs, Int.mul_comm x, Int.mul_emod_mul_of_pos _ _ (p2pos s)]
theorem shl_low_le {s : Nat} (hs : s ≤ 31) (x : Int) : 0 ≤ (x * 2 ^ s) % 4294967296 ∧ (x * 2 ^ s) % 4294967296 ≤ 4294967296 - 2 ^ s := by
  refine ⟨by omega, ?_⟩
  rw [shl_low hs]
  have h := p2pos s
  have hq := p2pos (32 - s)
  have h1 := Int.emod_lt_of_pos x hq
  have : (2 : Int) ^ s * (x % 2 ^ (32 - s)) ≤ 2 ^ s * (2 ^ (32 - s) - 1) := Int.mul_le_mul_of_nonneg_left (by omega) (by omega)
  rw [Int.mul_sub, pq hs] at this
  omega
theorem shr_lt {s : Nat} (hs : s ≤ 31) {y : Int} (h0 : 0 ≤ y) (h1 : y < 4294967296) : 0 ≤ (y * 2 ^ s) / 4294967296 ∧ (y * 2 ^ s) / 4294967296 < 2 ^ s := by
  have h := p2pos s
  have hm : 0 ≤ y * 2 ^ s := Int.mul_nonneg h0 (by omega)
  refine ⟨by omega, ?_⟩
  have : y * 2 ^ s < 4294967296 * 2 ^ s := Int.mul_lt_mul_of_pos_right h1 h
  exact Int.ediv_lt_of_lt_mul (by decide) (by rw [Int.mul_comm (2 ^ s)]; exact this)
def sd (f : Nat → Int) (s i : Nat) : Int := (f i * 2 ^ s) % 4294967296 + (if i = 0 then 0 else (f (i - 1) * 2 ^ s) / 4294967296)
theorem sd_word {f : Nat → Int} {s : Nat} (hs : s ≤ 31) (hf : ∀ i, 0 ≤ f i ∧ f i < 4294967296) (i : Nat) : 0 ≤ sd f s i ∧ sd f s i < 4294967296 := by
  unfold sd
  obtain ⟨h1, h2⟩ := shl_low_le hs (f i)
  have h := p2pos s
  split
  · omega
  · obtain ⟨h3, h4⟩ := shr_lt hs (hf (i - 1)).1 (hf (i - 1)).2
    omega
theorem sd_vl (f : Nat → Int) (s : Nat) : ∀ k, vl (sd f s) k + (if k = 0 then 0 else (f (k - 1) * 2 ^ s) / 4294967296) * 4294967296 ^ k = vl f k * 2 ^ s
  | 0 => by simp [vl]
  | k + 1 => by
    have IH := sd_vl f s k
    rw [vl, vl, if_neg (by omega), Nat.add_sub_cancel, Int.pow_succ]
    unfold sd at IH ⊢
    generalize (if k = 0 then 0 else f (k - 1) * 2 ^ s / 4294967296) = c at *
    have e : (f k * 2 ^ s) % 4294967296 + (f k * 2 ^ s) / 4294967296 * 4294967296 = f k * 2 ^ s := by omega
    generalize (f k * 2 ^ s) % 4294967296 = x at *
    generalize (f k * 2 ^ s) / 4294967296 = y at *
    generalize vl (fun i => f i * 2 ^ s % 4294967296 + if i = 0 then 0 else f (i - 1) * 2 ^ s / 4294967296) k = z at *
    grind
theorem or_sd {s : Nat} (hs : s ≤ 31) {x y : Int} (h0 : 0 ≤ y) (h1 : y < 4294967296) :
    IntKind.wrap .u32 ((((BitVec.ofInt (IntKind.bits .u32) ((x * 2 ^ s) % 4294967296) ||| BitVec.ofInt (IntKind.bits .u32) (Int.fdiv y (2 ^ (32 - s)))).toNat : Nat) : Int)) = (x * 2 ^ s) % 4294967296 + (y * 2 ^ s) / 4294967296 := by
  have hp := p2pos s
  have hq := p2pos (32 - s)
  obtain ⟨a1, a2⟩ := shl_low_le hs x
  obtain ⟨b1, b2⟩ := shr_lt hs h0 h1
  rw [Int.fdiv_eq_ediv_of_nonneg _ (by omega), shr_eq hs]
  have := lor_add (n := IntKind.bits .u32) (k := s) (a := (x * 2 ^ s) % 4294967296) (b := (y * 2 ^ s) / 4294967296) a1 b1 b2 (by show _ < (2 : Int) ^ 32; omega) (by rw [shl_low hs]; exact Int.mul_emod_right _ _)
  rw [this, w32]
  omega
theorem tdiv_nn {a b : Int} (ha : 0 ≤ a) : a.tdiv b = a / b := Int.tdiv_eq_ediv_of_nonneg ha
theorem tmod_nn {a b : Int} (ha : 0 ≤ a) : a.tmod b = a % b := Int.tmod_eq_emod_of_nonneg ha
theorem or_hi {x y : Int} (h0 : 0 ≤ x) (h1 : x < 4294967296) (h2 : 0 ≤ y) (h3 : y < 4294967296) :
    IntKind.wrap .u64 ((((BitVec.ofInt (IntKind.bits .u64) ((x * 4294967296) % 18446744073709551616) ||| BitVec.ofInt (IntKind.bits .u64) (y % 18446744073709551616)).toNat : Nat) : Int)) = x * 4294967296 + y := by
  have e1 : (x * 4294967296) % 18446744073709551616 = x * 4294967296 := by omega
  have e2 : y % 18446744073709551616 = y := by omega
  rw [e1, e2]
  have := lor_add (n := IntKind.bits .u64) (k := 32) (a := x * 4294967296) (b := y) (by omega) h2 (by simpa using h3) (by show _ < (2 : Int) ^ 64; omega) (by show _ % (2 : Int) ^ 32 = 0; omega)
  rw [this, w64]
  omega
theorem div_word {r w b : Int} (h0 : 0 ≤ r) (h1 : r < b) (h2 : 0 ≤ w) (h3 : w < 4294967296) (hb : 0 < b) : 0 ≤ (r * 4294967296 + w) / b ∧ (r * 4294967296 + w) / b < 4294967296 := by
  refine ⟨Int.ediv_nonneg (by omega) (by omega), Int.ediv_lt_of_lt_mul hb ?_⟩
  have : (r + 1) * 4294967296 ≤ b * 4294967296 := Int.mul_le_mul_of_nonneg_right (by omega) (by decide)
  rw [Int.mul_comm 4294967296]
  omega
theorem quo1_gives {a b : List Int} (ha : WW a) (hb : WW b) (la : a.length ≤ 1099511627776) (lb : b.length = 1) (hb0 : 0 < b.getD 0 0) :
    Gives (iter (fun v : (Int × Int × (List Int)) => numQuoWordsL1 a b v.1 v.2.1 v.2.2) ((0 : Int), (a.length : Int) - 1, List.replicate a.length (0 : Int)))
      fun r => WW r.2 ∧ r.2.length = a.length ∧ 0 ≤ r.1 ∧ r.1 < b.getD 0 0 ∧ val a = val r.2 * b.getD 0 0 + r.1 := by
  refine gives_iter (I := fun s : Int × Int × List Int => ∃ n : Nat, s.2.1 = (n : Int) - 1 ∧ n ≤ a.length ∧ WW s.2.2 ∧ s.2.2.length = a.length ∧ (∀ k, k < n → s.2.2.getD k 0 = 0) ∧ 0 ≤ s.1 ∧ s.1 < b.getD 0 0 ∧
      hi (fun i => a.getD i 0) n a.length = hi (fun i => s.2.2.getD i 0) n a.length * b.getD 0 0 + s.1) (μ := fun s : Int × Int × List Int => (s.2.1 + 1).toNat)
    ⟨a.length, rfl, by omega, WW.replicate _, by simp, fun k _ => getD_replicate _ k, by simp, hb0, by rw [hi_end, hi_end]; simp⟩ ?_
  rintro ⟨c, i, w⟩ ⟨n, h1, h2, h3, h4, h5, h6, h7, h8⟩
  simp only at h1 h3 h4 h5 h6 h7 h8
  subst h1
  unfold numQuoWordsL1
  simp only [gives_ite, gives_need, gives_some, decide_eq_true_eq, round_inl, round_inr, inRange, Int.toNat_zero]
  have hb1 := hb 0
  have e0 : IntKind.wrap .u64 (b.getD 0 0) = b.getD 0 0 := by rw [w64]; omega
  rw [e0]
  refine ⟨fun hn => ?_, fun hn => ?_⟩
  · obtain ⟨m, rfl⟩ : ∃ m, n = m + 1 := ⟨n - 1, by omega⟩
    have em : (((m + 1 : Nat) : Int) - 1).toNat = m := by omega
    rw [em]
    have ham := ha m
    simp only [shl32, w64 (c * _), w64 (a.getD m 0)]
    rw [or_hi h6 (by omega) ham.1 ham.2, tdiv_nn (by omega), tmod_nn (by omega), wi64 (by omega) (by omega)]
    obtain ⟨q1, q2⟩ := div_word h6 h7 ham.1 ham.2 hb0
    have e1 : IntKind.wrap .u32 (IntKind.wrap .u64 ((c * 4294967296 + a.getD m 0) / b.getD 0 0)) = (c * 4294967296 + a.getD m 0) / b.getD 0 0 := by rw [w32, w64]; omega
    rw [e1]
    have r1 := Int.emod_nonneg (c * 4294967296 + a.getD m 0) (b := b.getD 0 0) (by omega)
    have r2 := Int.emod_lt_of_pos (c * 4294967296 + a.getD m 0) hb0
    refine ⟨by decide, by omega, by omega, by omega, by omega, by omega, by omega, ⟨m, by omega, by omega, h3.set q1 q2, by simp [h4], fun k hk => ?_, r1, r2, ?_⟩, by omega⟩
    · rw [getD_set, if_neg (by omega)]; exact h5 k (by omega)
    · rw [hi_succ _ (by omega), hi_succ (fun i => (w.set m _).getD i 0) (by omega), hi_congr (f := fun i => (w.set m _).getD i 0) (g := fun i => w.getD i 0) (fun k hk _ => by rw [getD_set, if_neg (by omega)]), h8]
      have em' : (w.set m ((c * 4294967296 + a.getD m 0) / b.getD 0 0)).getD m 0 = (c * 4294967296 + a.getD m 0) / b.getD 0 0 := by rw [getD_set, if_pos ⟨rfl, by omega⟩]
      show a.getD m 0 + _ = ((w.set m ((c * 4294967296 + a.getD m 0) / b.getD 0 0)).getD m 0 + _) * _ + _
      rw [em']
      have := Int.mul_ediv_add_emod (c * 4294967296 + a.getD m 0) (b.getD 0 0)
      generalize (c * 4294967296 + a.getD m 0) / b.getD 0 0 = q at *
      generalize (c * 4294967296 + a.getD m 0) % b.getD 0 0 = r at *
      grind
  · have : n = 0 := by omega
    subst this
    rw [hi_zero, hi_zero] at h8
    refine ⟨h3, h4, h6, h7, ?_⟩
    have e : vl (fun i => w.getD i 0) a.length = val w := by rw [← h4]; rfl
    rw [e] at h8
    exact h8
theorem shiftB_gives {a b : List Int} (hb : WW b) {s : Nat} (hs : s ≤ 31) (lb : b.length ≤ 1099511627776) (u : List Int) :
    Gives (iter (fun v : (Int × (List Int) × (List Int)) => numQuoWordsL2 a b (s : Int) v.1 v.2.1 v.2.2) ((0 : Int), u, List.replicate b.length (0 : Int)))
      fun r => r.1 = u ∧ WW r.2 ∧ r.2.length = b.length ∧ ∀ j, j < b.length → r.2.getD j 0 = sd (fun i => b.getD i 0) s j := by
  refine gives_iter (I := fun t : Int × List Int × List Int => ∃ n : Nat, t.1 = (n : Int) ∧ n ≤ b.length ∧ t.2.1 = u ∧ WW t.2.2 ∧ t.2.2.length = b.length ∧ ∀ j, j < n → t.2.2.getD j 0 = sd (fun i => b.getD i 0) s j)
    (μ := fun t : Int × List Int × List Int => b.length - t.1.toNat) ⟨0, rfl, by omega, rfl, WW.replicate _, by simp, fun j hj => by omega⟩ ?_
  rintro ⟨i, u', w⟩ ⟨n, h1, h2, h3, h4, h5, h6⟩
  simp only at h1 h3 h4 h5 h6
  subst h1 h3
  have e0 : IntKind.wrap .u64 (s : Int) = (s : Int) := by rw [w64]; omega
  have fin : ∀ w' : List Int, n < b.length → WW w' → w'.length = b.length → (∀ j, j < n + 1 → w'.getD j 0 = sd (fun i => b.getD i 0) s j) →
      Gives (numQuoWordsJ1 a b (n : Int) u' w' (s : Int)) (Round (fun t : Int × List Int × List Int => ∃ n : Nat, t.1 = (n : Int) ∧ n ≤ b.length ∧ t.2.1 = u' ∧ WW t.2.2 ∧ t.2.2.length = b.length ∧ ∀ j, j < n → t.2.2.getD j 0 = sd (fun i => b.getD i 0) s j)
        (fun t : Int × List Int × List Int => b.length - t.1.toNat) ((n : Int), u', w) (fun r => r.1 = u' ∧ WW r.2 ∧ r.2.length = b.length ∧ ∀ j, j < b.length → r.2.getD j 0 = sd (fun i => b.getD i 0) s j)) := by
    intro w' hn k1 k2 k3
    unfold numQuoWordsJ1
    rw [gives_some, round_inl, wi64 (by omega) (by omega)]
    exact ⟨⟨n + 1, by simp, by omega, rfl, k1, k2, k3⟩, by simp; omega⟩
  have ws : ∀ x : Int, sd (fun i => b.getD i 0) s n = x → n < b.length → WW (w.set n x) ∧ (w.set n x).length = b.length ∧ ∀ j, j < n + 1 → (w.set n x).getD j 0 = sd (fun i => b.getD i 0) s j := by
    rintro x rfl hn
    obtain ⟨k1, k2⟩ := sd_word hs (f := fun i => b.getD i 0) hb n
    refine ⟨h4.set k1 k2, by simp [h5], fun j hj => ?_⟩
    rw [getD_set]
    split
    · rename_i h; rw [h.1]
    · exact h6 j (by omega)
  unfold numQuoWordsL2
  simp only [gives_ite, gives_need, gives_some, decide_eq_true_eq, round_inr, inRange, List.length_set, Int.toNat_natCast, sm1 hs, sm2 hs, w32 (_ * _), e0]
  refine ⟨fun hn => ⟨by omega, by omega, by omega, fun hp => ⟨fun hsp => ⟨by omega, ?_⟩, fun hsz => ?_⟩, fun hz => ?_⟩, fun hn => ?_⟩
  · rw [wi64 (by omega) (by omega)]
    have en : ((n : Int) - 1).toNat = n - 1 := by omega
    rw [en]
    have hbn := hb (n - 1)
    have eg : (w.set n (b.getD n 0 * 2 ^ s % 4294967296)).getD n 0 = b.getD n 0 * 2 ^ s % 4294967296 := by rw [getD_set, if_pos ⟨rfl, by omega⟩]
    rw [eg, or_sd hs hbn.1 hbn.2, List.set_set]
    obtain ⟨k1, k2, k3⟩ := ws _ (by unfold sd; rw [if_neg (by omega)]) (by omega)
    refine ⟨by omega, ?_, by omega, fin _ (by omega) k1 k2 k3⟩
    rw [w64]; omega
  · have hs0 : s = 0 := by omega
    subst hs0
    obtain ⟨k1, k2, k3⟩ := ws (b.getD n 0 * 2 ^ 0 % 4294967296) (by
      unfold sd
      have hbn := hb (n - 1)
      split
      · simp
      · show b.getD n 0 * 2 ^ 0 % 4294967296 + b.getD (n - 1) 0 * 2 ^ 0 / 4294967296 = _
        simp only [Int.pow_zero, Int.mul_one]; omega) (by omega)
    exact fin _ (by omega) k1 k2 k3
  · have hn0 : n = 0 := by omega
    obtain ⟨k1, k2, k3⟩ := ws (b.getD n 0 * 2 ^ s % 4294967296) (by unfold sd; rw [if_pos hn0]; simp) (by omega)
    exact fin _ (by omega) k1 k2 k3
  · have : n = b.length := by omega
    subst this
    exact ⟨trivial, h4, h5, h6⟩
theorem shiftA_gives {a : List Int} (ha : WW a) {s : Nat} (hs : s ≤ 31) (la : a.length ≤ 1099511627776) (r2 : List Int × List Int) (hr : r2.1 = List.replicate (a.length + 1) 0) :
    Gives (iter (fun v : (Int × (List Int)) => numQuoWordsL3 a r2 (s : Int) v.1 v.2) ((0 : Int), r2.1))
      fun r => WW r ∧ r.length = a.length + 1 ∧ ∀ j, j < a.length + 1 → r.getD j 0 = sd (fun i => a.getD i 0) s j := by
  have hl : r2.1.length = a.length + 1 := by rw [hr]; simp
  refine gives_iter (I := fun t : Int × List Int => ∃ n : Nat, t.1 = (n : Int) ∧ n ≤ a.length + 1 ∧ WW t.2 ∧ t.2.length = a.length + 1 ∧ (∀ j, n ≤ j → t.2.getD j 0 = 0) ∧ ∀ j, j < n → t.2.getD j 0 = sd (fun i => a.getD i 0) s j)
    (μ := fun t : Int × List Int => a.length + 1 - t.1.toNat) ⟨0, rfl, by omega, by rw [hr]; exact WW.replicate _, hl, fun j _ => by rw [hr]; exact getD_replicate _ j, fun j hj => by omega⟩ ?_
  rintro ⟨i, w⟩ ⟨n, h1, h2, h4, h5, h7, h6⟩
  simp only at h1 h4 h5 h6 h7
  subst h1
  have e0 : IntKind.wrap .u64 (s : Int) = (s : Int) := by rw [w64]; omega
  have fin : ∀ w' : List Int, n < a.length + 1 → w'.length = a.length + 1 → (∀ j, n + 1 ≤ j → w'.getD j 0 = 0) → (∀ j, j < n + 1 → w'.getD j 0 = sd (fun i => a.getD i 0) s j) →
      Gives (numQuoWordsJ3 a (n : Int) w' r2 (s : Int)) (Round (fun t : Int × List Int => ∃ n : Nat, t.1 = (n : Int) ∧ n ≤ a.length + 1 ∧ WW t.2 ∧ t.2.length = a.length + 1 ∧ (∀ j, n ≤ j → t.2.getD j 0 = 0) ∧ ∀ j, j < n → t.2.getD j 0 = sd (fun i => a.getD i 0) s j)
        (fun t : Int × List Int => a.length + 1 - t.1.toNat) ((n : Int), w) (fun r => WW r ∧ r.length = a.length + 1 ∧ ∀ j, j < a.length + 1 → r.getD j 0 = sd (fun i => a.getD i 0) s j)) := by
    intro w' hn k2 k3 k4
    unfold numQuoWordsJ3
    rw [gives_some, round_inl, wi64 (by omega) (by omega)]
    refine ⟨⟨n + 1, by simp, by omega, fun j => ?_, k2, k3, k4⟩, by simp; omega⟩
    by_cases hj : j < n + 1
    · rw [k4 j hj]; exact sd_word hs (f := fun i => a.getD i 0) ha j
    · rw [k3 j (by omega)]; simp
  have mid : ∀ w' : List Int, n < a.length + 1 → w'.length = a.length + 1 → (∀ j, n + 1 ≤ j → w'.getD j 0 = 0) → (∀ j, j < n → w'.getD j 0 = sd (fun i => a.getD i 0) s j) → w'.getD n 0 = (a.getD n 0 * 2 ^ s) % 4294967296 →
      Gives (numQuoWordsJ2 a (n : Int) w' r2 (s : Int)) (Round (fun t : Int × List Int => ∃ n : Nat, t.1 = (n : Int) ∧ n ≤ a.length + 1 ∧ WW t.2 ∧ t.2.length = a.length + 1 ∧ (∀ j, n ≤ j → t.2.getD j 0 = 0) ∧ ∀ j, j < n → t.2.getD j 0 = sd (fun i => a.getD i 0) s j)
        (fun t : Int × List Int => a.length + 1 - t.1.toNat) ((n : Int), w) (fun r => WW r ∧ r.length = a.length + 1 ∧ ∀ j, j < a.length + 1 → r.getD j 0 = sd (fun i => a.getD i 0) s j)) := by
    intro w' hn k2 k3 k4 k5
    unfold numQuoWordsJ2
    simp only [gives_ite, gives_need, decide_eq_true_eq, inRange, Int.toNat_natCast, sm2 hs, e0]
    have case0 : (sd (fun i => a.getD i 0) s n = (a.getD n 0 * 2 ^ s) % 4294967296) → Gives (numQuoWordsJ3 a (n : Int) w' r2 (s : Int)) _ := fun h => fin w' hn k2 k3 fun j hj => by
      by_cases e : j = n
      · subst e; rw [k5, h]
      · exact k4 j (by omega)
    refine ⟨fun hp => ⟨fun hsp => ?_, fun hsz => case0 ?_⟩, fun hz => case0 (by unfold sd; rw [if_pos (by omega)]; simp)⟩
    · rw [wi64 (by omega) (by omega)]
      have en : ((n : Int) - 1).toNat = n - 1 := by omega
      have han := ha (n - 1)
      rw [en, k5, or_sd hs han.1 han.2]
      refine ⟨by omega, by omega, by rw [w64]; omega, by omega, fin _ hn (by simp [k2]) (fun j hj => by rw [getD_set, if_neg (by omega)]; exact k3 j hj) fun j hj => ?_⟩
      rw [getD_set]
      split
      · rename_i h; rw [h.1]; unfold sd; rw [if_neg (by omega)]
      · exact k4 j (by omega)
    · have hs0 : s = 0 := by omega
      subst hs0
      have han := ha (n - 1)
      unfold sd
      rw [if_neg (by omega)]
      show a.getD n 0 * 2 ^ 0 % 4294967296 + a.getD (n - 1) 0 * 2 ^ 0 / 4294967296 = _
      simp only [Int.pow_zero, Int.mul_one]; omega
  unfold numQuoWordsL3
  simp only [gives_ite, gives_need, gives_some, decide_eq_true_eq, round_inr, inRange, Int.toNat_natCast, sm1 hs, w32 (_ * _), e0]
  refine ⟨fun hn => ⟨fun hn2 => ⟨by omega, by omega, by omega, ?_⟩, fun hn2 => ?_⟩, fun hn => ?_⟩
  · refine mid _ (by omega) (by simp [h5]) (fun j hj => by rw [getD_set, if_neg (by omega)]; exact h7 j (by omega)) (fun j hj => by rw [getD_set, if_neg (by omega)]; exact h6 j hj) (by rw [getD_set, if_pos ⟨rfl, by omega⟩])
  · refine mid w (by omega) h5 (fun j hj => h7 j (by omega)) h6 ?_
    have : a.getD n 0 = 0 := by rw [List.getD_eq_getElem?_getD, List.getElem?_eq_none (by omega)]; rfl
    rw [h7 n (by omega), this]; simp
  · have : n = a.length + 1 := by omega
    subst this
    exact ⟨h4, h5, h6⟩
end Go.Ab
namespace Go.Ab
open Go
set_option linter.unusedVariables false
set_option linter.unusedSimpArgs false
theorem u64_small {x : Int} (h0 : 0 ≤ x) (h1 : x < 18446744073709551616) : IntKind.wrap .u64 x = x := by rw [w64]; omega
theorem est_gives {j t : Nat} {u : List Int} (hu : WW u) (x : List Int) {r2 : List Int × List Int} (y2 : Int) (hv : WW r2.2) (ht : r2.2.length = t + 2) (hl : u.length ≤ 1099511627777) (hj : j + (t + 2) < u.length)
    {T V top q0 r0 : Int} (hv1 : 0 < r2.2.getD (t + 1) 0) (hT2 : T < (top * 4294967296 + u.getD (j + t) 0 + 1) * 4294967296 ^ t) (hV : (r2.2.getD (t + 1) 0 * 4294967296 + r2.2.getD t 0) * 4294967296 ^ t ≤ V) (hTV : T < 4294967296 * V) (hVp : 0 ≤ V)
    (e0 : q0 * r2.2.getD (t + 1) 0 + r0 = top) (hr0 : 0 ≤ r0) (hr1 : r0 < 4294967296) (hq0 : 0 ≤ q0) (hq1 : q0 < 18446744073709551616) (hT : T < (q0 + 1) * V) (htop : top < (r2.2.getD (t + 1) 0 + 1) * 4294967296) :
    Gives (iter (fun v : (Int × Int) => numQuoWordsL5 (j : Int) u x r2 y2 v.1 v.2) (q0, r0)) fun q => 0 ≤ q ∧ q < 4294967296 ∧ T < (q + 1) * V ∧ q * (r2.2.getD (t + 1) 0 * 4294967296 + r2.2.getD t 0) ≤ top * 4294967296 + u.getD (j + t) 0 := by
  refine gives_iter (I := fun s : Int × Int => 0 ≤ s.1 ∧ s.1 < 18446744073709551616 ∧ 0 ≤ s.2 ∧ s.2 < 4294967296 ∧ s.1 * r2.2.getD (t + 1) 0 + s.2 = top ∧ T < (s.1 + 1) * V) (μ := fun s : Int × Int => s.1.toNat) ⟨hq0, hq1, hr0, hr1, e0, hT⟩ ?_
  rintro ⟨q, r⟩ ⟨a1, a2, a3, a4, a5, a6⟩
  simp only at a1 a2 a3 a4 a5 a6
  have w1 := hv (t + 1)
  have w2 := hv t
  have wu := hu (j + t)
  have J : 1 ≤ q → T < q * V → Gives (numQuoWordsJ4 (j : Int) u x q r r2 y2) (Round (fun s : Int × Int => 0 ≤ s.1 ∧ s.1 < 18446744073709551616 ∧ 0 ≤ s.2 ∧ s.2 < 4294967296 ∧ s.1 * r2.2.getD (t + 1) 0 + s.2 = top ∧ T < (s.1 + 1) * V) (fun s : Int × Int => s.1.toNat) (q, r)
      (fun q => 0 ≤ q ∧ q < 4294967296 ∧ T < (q + 1) * V ∧ q * (r2.2.getD (t + 1) 0 * 4294967296 + r2.2.getD t 0) ≤ top * 4294967296 + u.getD (j + t) 0)) := by
    intro hq hTq
    unfold numQuoWordsJ4
    rw [ht]
    rw [wi64 (x := ((t + 2 : Nat) : Int) - 1) (by omega) (by omega)]
    have e1 : (((t + 2 : Nat) : Int) - 1).toNat = t + 1 := by omega
    simp only [gives_ite, gives_need, gives_some, decide_eq_true_eq, round_inl, round_inr, inRange, e1, ht]
    rw [u64_small (x := r2.2.getD (t + 1) 0) (by omega) (by omega), u64_small (x := r + r2.2.getD (t + 1) 0) (by omega) (by omega), u64_small (x := q - 1) (by omega) (by omega)]
    have e2 : (q - 1) * r2.2.getD (t + 1) 0 + (r + r2.2.getD (t + 1) 0) = top := by rw [Int.sub_mul]; omega
    refine ⟨by omega, fun hbig => ?_, fun hsm => ⟨⟨by omega, by omega, by omega, by omega, e2, by rw [Int.sub_add_cancel]; exact hTq⟩, by omega⟩⟩
    have hqW : q - 1 < 4294967296 := by
      have h1 : (q - 1) * r2.2.getD (t + 1) 0 < 4294967296 * r2.2.getD (t + 1) 0 := by rw [Int.add_mul] at htop; omega
      exact Int.lt_of_mul_lt_mul_right h1 (by omega)
    refine ⟨by omega, hqW, by rw [Int.sub_add_cancel]; exact hTq, ?_⟩
    obtain ⟨m1, m2⟩ := mul_words (x := q - 1) (by omega) hqW w2.1 w2.2
    rw [Int.mul_add, ← Int.mul_assoc, show (q - 1) * r2.2.getD (t + 1) 0 = top - (r + r2.2.getD (t + 1) 0) by omega, Int.sub_mul]
    omega
  unfold numQuoWordsL5
  rw [ht]
  rw [wi64 (x := ((t + 2 : Nat) : Int) - 2) (by omega) (by omega), wi64 (x := (j : Int) + ((t + 2 : Nat) : Int)) (by omega) (by omega), wi64 (x := (j : Int) + ((t + 2 : Nat) : Int) - 2) (by omega) (by omega)]
  have e1 : (((t + 2 : Nat) : Int) - 2).toNat = t := by omega
  have e2 : ((j : Int) + ((t + 2 : Nat) : Int) - 2).toNat = j + t := by omega
  simp only [gives_ite, gives_need, gives_some, decide_eq_true_eq, round_inr, inRange, e1, e2, ht, shl32, w64 (r * _), w64 (u.getD _ _)]
  rw [or_hi a3 a4 wu.1 wu.2, u64_small (x := r2.2.getD t 0) (by omega) (by omega)]
  refine ⟨fun hq => J (by omega) ?_, fun hq => ⟨by omega, by decide, by omega, fun hc => ?_, fun hc => ?_⟩⟩
  · have : 4294967296 * V ≤ q * V := Int.mul_le_mul_of_nonneg_right hq hVp
    omega
  · obtain ⟨m1, m2⟩ := mul_words (x := q) a1 (by omega) w2.1 w2.2
    rw [u64_small m1 (by omega)] at hc
    have hq1 : 1 ≤ q := by
      rcases (show q = 0 ∨ 1 ≤ q by omega) with h | h
      · rw [h, Int.zero_mul] at hc; omega
      · exact h
    refine J hq1 (est_dec (tt := top * 4294967296 + u.getD (j + t) 0) (vv := r2.2.getD (t + 1) 0 * 4294967296 + r2.2.getD t 0) ?_ hT2 hV a1 (pow_pos' t))
    rw [Int.mul_add, ← Int.mul_assoc, show q * r2.2.getD (t + 1) 0 = top - r by omega, Int.sub_mul]
    omega
  · obtain ⟨m1, m2⟩ := mul_words (x := q) a1 (by omega) w2.1 w2.2
    rw [u64_small m1 (by omega)] at hc
    refine ⟨a1, by omega, a6, ?_⟩
    rw [Int.mul_add, ← Int.mul_assoc, show q * r2.2.getD (t + 1) 0 = top - r by omega, Int.sub_mul]
    omega
theorem mulsub_gives {j : Nat} {u : List Int} (hu : WW u) (x : List Int) {r2 : List Int × List Int} (y2 : Int) (hv : WW r2.2) (hl : u.length ≤ 1099511627777) (hj : j + r2.2.length < u.length) {q : Int} (hq0 : 0 ≤ q) (hq1 : q < 4294967296) :
    Gives (iter (fun v : (Int × Int × Int × (List Int)) => numQuoWordsL6 (j : Int) x r2 q y2 v.1 v.2.1 v.2.2.1 v.2.2.2) ((0 : Int), (0 : Int), (0 : Int), u))
      fun r => WW r.2.2 ∧ r.2.2.length = u.length ∧ (∀ k, j + r2.2.length ≤ k → r.2.2.getD k 0 = u.getD k 0) ∧ 0 ≤ r.1 ∧ r.1 ≤ 1 ∧ 0 ≤ r.2.1 ∧ r.2.1 < 4294967296 ∧
        val r.2.2 = val u - q * val r2.2 * 4294967296 ^ j + (r.1 + r.2.1) * 4294967296 ^ (j + r2.2.length) := by
  refine gives_iter (I := fun s : Int × Int × Int × List Int => ∃ n : Nat, s.2.2.1 = (n : Int) ∧ n ≤ r2.2.length ∧ WW s.2.2.2 ∧ s.2.2.2.length = u.length ∧ (∀ k, j + n ≤ k → s.2.2.2.getD k 0 = u.getD k 0) ∧ 0 ≤ s.1 ∧ s.1 ≤ 1 ∧ 0 ≤ s.2.1 ∧ s.2.1 < 4294967296 ∧
      val s.2.2.2 = val u - q * vl (fun i => r2.2.getD i 0) n * 4294967296 ^ j + (s.1 + s.2.1) * 4294967296 ^ (j + n)) (μ := fun s : Int × Int × Int × List Int => r2.2.length - s.2.2.1.toNat)
    ⟨0, rfl, by omega, hu, rfl, fun k _ => rfl, by simp, by simp, by simp, by simp, by simp [vl]⟩ ?_
  rintro ⟨b, c, i, w⟩ ⟨n, h1, h2, h3, h4, h5, h6, h7, h8, h9, h10⟩
  simp only at h1 h3 h4 h5 h6 h7 h8 h9 h10
  subst h1
  have fin : ∀ b' c' d : Int, n < r2.2.length → 0 ≤ b' → b' ≤ 1 → 0 ≤ c' → c' < 4294967296 → d % 4294967296 - b' * 4294967296 + c' * 4294967296 * 0 = d → d - c' * 4294967296 = w.getD (j + n) 0 - b - q * r2.2.getD n 0 - c →
      Gives (numQuoWordsJ5 (j : Int) x (n : Int) b' c' (w.set (j + n) (d % 4294967296)) r2 q y2) (Round (fun s : Int × Int × Int × List Int => ∃ n : Nat, s.2.2.1 = (n : Int) ∧ n ≤ r2.2.length ∧ WW s.2.2.2 ∧ s.2.2.2.length = u.length ∧ (∀ k, j + n ≤ k → s.2.2.2.getD k 0 = u.getD k 0) ∧ 0 ≤ s.1 ∧ s.1 ≤ 1 ∧ 0 ≤ s.2.1 ∧ s.2.1 < 4294967296 ∧
        val s.2.2.2 = val u - q * vl (fun i => r2.2.getD i 0) n * 4294967296 ^ j + (s.1 + s.2.1) * 4294967296 ^ (j + n)) (fun s : Int × Int × Int × List Int => r2.2.length - s.2.2.1.toNat) (b, c, (n : Int), w)
        (fun r => WW r.2.2 ∧ r.2.2.length = u.length ∧ (∀ k, j + r2.2.length ≤ k → r.2.2.getD k 0 = u.getD k 0) ∧ 0 ≤ r.1 ∧ r.1 ≤ 1 ∧ 0 ≤ r.2.1 ∧ r.2.1 < 4294967296 ∧
          val r.2.2 = val u - q * val r2.2 * 4294967296 ^ j + (r.1 + r.2.1) * 4294967296 ^ (j + r2.2.length))) := by
    intro b' c' d hn k1 k2 k3 k4 k5 k6
    unfold numQuoWordsJ5
    rw [gives_some, round_inl, wi64 (by omega) (by omega)]
    refine ⟨⟨n + 1, by simp, by omega, h3.set (by omega) (by omega), by simp [h4], fun k hk => ?_, k1, k2, k3, k4, ?_⟩, by simp; omega⟩
    · rw [getD_set, if_neg (by omega)]; exact h5 k (by omega)
    · rw [val_set (by omega), h10, vl]
      have p1 : (4294967296 : Int) ^ (j + (n + 1)) = 4294967296 ^ (j + n) * 4294967296 := by rw [← Nat.add_assoc, Int.pow_succ]
      have p2 : (4294967296 : Int) ^ (j + n) = 4294967296 ^ j * 4294967296 ^ n := Int.pow_add _ _ _
      rw [p1, p2]
      generalize d % 4294967296 = o at *
      generalize (4294967296 : Int) ^ j = Pj at *
      generalize (4294967296 : Int) ^ n = Pn at *
      generalize vl (fun i => r2.2.getD i 0) n = vv at *
      generalize val u = vu at *
      clear h10 p1 p2
      have e : o = w.getD (j + n) 0 - b - q * r2.2.getD n 0 - c + c' * 4294967296 + b' * 4294967296 := by omega
      rw [e]
      grind
  unfold numQuoWordsL6
  simp only [gives_ite, gives_need, gives_some, decide_eq_true_eq, round_inr, inRange, sh32, w32, Int.toNat_natCast]
  rw [wi64 (x := (n : Int) + (j : Int)) (by omega) (by omega)]
  have e1 : ((n : Int) + (j : Int)).toNat = j + n := by omega
  rw [e1]
  refine ⟨fun hn => ?_, fun hn => ?_⟩
  · have wv := hv n
    have ww := h3 (j + n)
    obtain ⟨m1, m2⟩ := mul_words hq0 hq1 wv.1 wv.2
    rw [u64_small (x := r2.2.getD n 0) (by omega) (by omega), u64_small (x := q * r2.2.getD n 0) (by omega) (by omega), u64_small (x := q * r2.2.getD n 0 + c) (by omega) (by omega)]
    have p : (q * r2.2.getD n 0 + c) % 4294967296 + (q * r2.2.getD n 0 + c) / 4294967296 * 4294967296 = q * r2.2.getD n 0 + c := by omega
    have p1 : 0 ≤ (q * r2.2.getD n 0 + c) % 4294967296 ∧ (q * r2.2.getD n 0 + c) % 4294967296 < 4294967296 := by omega
    have p2 : 0 ≤ (q * r2.2.getD n 0 + c) / 4294967296 ∧ (q * r2.2.getD n 0 + c) / 4294967296 < 4294967296 := by omega
    rw [wi64 (x := w.getD (j + n) 0) (by omega) (by omega), wi64 (x := w.getD (j + n) 0 - b) (by omega) (by omega), wi64 (x := (q * r2.2.getD n 0 + c) % 4294967296) (by omega) (by omega), wi64 (x := w.getD (j + n) 0 - b - (q * r2.2.getD n 0 + c) % 4294967296) (by omega) (by omega)]
    refine ⟨by omega, by decide, by omega, by omega, fun hneg => ?_, fun hpos => ?_⟩
    · exact fin 1 _ _ (by omega) (by omega) (by omega) p2.1 p2.2 (by omega) (by omega)
    · exact fin 0 _ _ (by omega) (by omega) (by omega) p2.1 p2.2 (by omega) (by omega)
  · have : n = r2.2.length := by omega
    subst this
    exact ⟨h3, h4, h5, h6, h7, h8, h9, h10⟩
theorem addback_gives {j : Nat} {u : List Int} (hu : WW u) (x : List Int) {r2 : List Int × List Int} (q y2 : Int) (hv : WW r2.2) (hl : u.length ≤ 1099511627777) (hj : j + r2.2.length < u.length) :
    Gives (iter (fun v : (Int × Int × (List Int)) => numQuoWordsL7 (j : Int) x r2 q y2 v.1 v.2.1 v.2.2) ((0 : Int), (0 : Int), u))
      fun r => WW r.2 ∧ r.2.length = u.length ∧ (∀ k, j + r2.2.length ≤ k → r.2.getD k 0 = u.getD k 0) ∧ 0 ≤ r.1 ∧ r.1 ≤ 1 ∧ val r.2 + r.1 * 4294967296 ^ (j + r2.2.length) = val u + val r2.2 * 4294967296 ^ j := by
  refine gives_iter (I := fun s : Int × Int × List Int => ∃ n : Nat, s.2.1 = (n : Int) ∧ n ≤ r2.2.length ∧ WW s.2.2 ∧ s.2.2.length = u.length ∧ (∀ k, j + n ≤ k → s.2.2.getD k 0 = u.getD k 0) ∧ 0 ≤ s.1 ∧ s.1 ≤ 1 ∧
      val s.2.2 + s.1 * 4294967296 ^ (j + n) = val u + vl (fun i => r2.2.getD i 0) n * 4294967296 ^ j) (μ := fun s : Int × Int × List Int => r2.2.length - s.2.1.toNat)
    ⟨0, rfl, by omega, hu, rfl, fun k _ => rfl, by simp, by simp, by simp [vl]⟩ ?_
  rintro ⟨c, i, w⟩ ⟨n, h1, h2, h3, h4, h5, h6, h7, h10⟩
  simp only at h1 h3 h4 h5 h6 h7 h10
  subst h1
  unfold numQuoWordsL7
  simp only [gives_ite, gives_need, gives_some, decide_eq_true_eq, round_inl, round_inr, inRange, sh32, w32, Int.toNat_natCast]
  rw [wi64 (x := (n : Int) + (j : Int)) (by omega) (by omega)]
  have e1 : ((n : Int) + (j : Int)).toNat = j + n := by omega
  rw [e1]
  refine ⟨fun hn => ?_, fun hn => ?_⟩
  · have wv := hv n
    have ww := h3 (j + n)
    rw [u64_small (x := r2.2.getD n 0) (by omega) (by omega), u64_small (x := w.getD (j + n) 0) (by omega) (by omega), u64_small (x := w.getD (j + n) 0 + r2.2.getD n 0) (by omega) (by omega), u64_small (x := w.getD (j + n) 0 + r2.2.getD n 0 + c) (by omega) (by omega), wi64 (by omega) (by omega)]
    refine ⟨by omega, by omega, by omega, by decide, ⟨n + 1, by simp, by omega, h3.set (by omega) (by omega), by simp [h4], fun k hk => ?_, by omega, by omega, ?_⟩, by simp; omega⟩
    · rw [getD_set, if_neg (by omega)]; exact h5 k (by omega)
    · rw [val_set (by omega), vl]
      have p1 : (4294967296 : Int) ^ (j + (n + 1)) = 4294967296 ^ (j + n) * 4294967296 := by rw [← Nat.add_assoc, Int.pow_succ]
      have p2 : (4294967296 : Int) ^ (j + n) = 4294967296 ^ j * 4294967296 ^ n := Int.pow_add _ _ _
      have e : (w.getD (j + n) 0 + r2.2.getD n 0 + c) % 4294967296 + (w.getD (j + n) 0 + r2.2.getD n 0 + c) / 4294967296 * 4294967296 = w.getD (j + n) 0 + r2.2.getD n 0 + c := by omega
      rw [p1]
      rw [p2] at h10 ⊢
      clear p2 p1
      generalize (w.getD (j + n) 0 + r2.2.getD n 0 + c) % 4294967296 = o at *
      generalize (w.getD (j + n) 0 + r2.2.getD n 0 + c) / 4294967296 = g at *
      generalize (4294967296 : Int) ^ j = Pj at *
      generalize (4294967296 : Int) ^ n = Pn at *
      generalize vl (fun i => r2.2.getD i 0) n = vv at *
      generalize val u = vu at *
      grind
  · have : n = r2.2.length := by omega
    subst this
    exact ⟨h3, h4, h5, h6, h7, h10⟩
end Go.Ab
