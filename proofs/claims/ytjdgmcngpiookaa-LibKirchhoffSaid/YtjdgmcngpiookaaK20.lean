/- Long division of amounts in package num. Long division of amounts in package num, whole. The integers and fractions of package num: quotients, divisors, sums, products. Conditions: none beyond those that each theorem names. -/
import Derived.Test.YtjdgmcngpiookaaK19
namespace Go.Ab
open Go
set_option linter.unusedVariables false
set_option linter.unusedSimpArgs false
theorem val_lt_of_hi {F u : List Int} (hF : WW F) (hl : F.length = u.length) {m : Nat} (hm : m ≤ u.length) (ha : ∀ k, m ≤ k → F.getD k 0 = u.getD k 0) (h0 : hi (fun i => u.getD i 0) m u.length = 0) : val F < 4294967296 ^ m := by
  have h1 : val F = vl (fun i => F.getD i 0) m + hi (fun i => F.getD i 0) m F.length * 4294967296 ^ m := vl_hi _ (by omega)
  rw [hl, hi_congr (g := fun i => u.getD i 0) (fun k hk _ => ha k hk), h0] at h1
  have := (vl_bound (f := fun i => F.getD i 0) m fun j _ => hF j).2
  omega
theorem lt_of_mul_lt {a b c : Int} (h : a * c < b * c) (hc : 0 < c) : a < b := Int.lt_of_mul_lt_mul_right h (by omega)
theorem tops {f g : Nat → Int} {t : Nat} {T V : Int} (hf : ∀ i, 0 ≤ f i ∧ f i < 4294967296) (hg : ∀ i, 0 ≤ g i ∧ g i < 4294967296) (hT : T = vl f (t + 3)) (hV : V = vl g (t + 2)) (hTV : T < V * 4294967296) (hv1 : 0 < g (t + 1)) :
    f (t + 2) ≤ g (t + 1) ∧ T < ((f (t + 2) * 4294967296 + f (t + 1)) * 4294967296 + f t + 1) * 4294967296 ^ t ∧ ((f (t + 2) * 4294967296 + f (t + 1)) * 4294967296 + f t) * 4294967296 ^ t ≤ T ∧
      (g (t + 1) * 4294967296 + g t) * 4294967296 ^ t ≤ V ∧ V < (g (t + 1) * 4294967296 + g t + 1) * 4294967296 ^ t ∧ 4294967296 * 4294967296 ^ t ≤ V ∧
      T < (f (t + 2) * 4294967296 + f (t + 1) + 1) * 4294967296 ^ (t + 1) ∧ g (t + 1) * 4294967296 ^ (t + 1) ≤ V := by
  obtain ⟨f1, f2⟩ := vl_bound (f := f) t (fun j _ => hf j)
  obtain ⟨g1, g2⟩ := vl_bound (f := g) t (fun j _ => hg j)
  have hp := pow_pos' t
  have eT : T = vl f t + f t * 4294967296 ^ t + f (t + 1) * (4294967296 ^ t * 4294967296) + f (t + 2) * (4294967296 ^ t * 4294967296 * 4294967296) := by
    rw [hT]; simp only [vl, Int.pow_succ]
  have eV : V = vl g t + g t * 4294967296 ^ t + g (t + 1) * (4294967296 ^ t * 4294967296) := by rw [hV, vl, vl, Int.pow_succ]
  have a0 := hf t; have a1 := hf (t + 1); have a2 := hf (t + 2); have b0 := hg t; have b1 := hg (t + 1)
  rw [Int.pow_succ]
  generalize (4294967296 : Int) ^ t = W at *
  generalize vl f t = lf at *
  generalize vl g t = lg at *
  generalize f t = x0 at *
  generalize f (t + 1) = x1 at *
  generalize f (t + 2) = x2 at *
  generalize g t = y0 at *
  generalize g (t + 1) = y1 at *
  have n0 : 0 ≤ x0 * W := Int.mul_nonneg a0.1 (by omega)
  have n1 : 0 ≤ x1 * W := Int.mul_nonneg a1.1 (by omega)
  have n2 : 0 ≤ x2 * W := Int.mul_nonneg a2.1 (by omega)
  have n3 : x0 * W ≤ 4294967295 * W := Int.mul_le_mul_of_nonneg_right (by omega) (by omega)
  have n4 : x1 * W ≤ 4294967295 * W := Int.mul_le_mul_of_nonneg_right (by omega) (by omega)
  have m0 : 0 ≤ y0 * W := Int.mul_nonneg b0.1 (by omega)
  have m1 : 1 * W ≤ y1 * W := Int.mul_le_mul_of_nonneg_right (by omega) (by omega)
  have m3 : y0 * W ≤ 4294967295 * W := Int.mul_le_mul_of_nonneg_right (by omega) (by omega)
  have e1 : x1 * (W * 4294967296) = (x1 * W) * 4294967296 := by grind
  have e2 : x2 * (W * 4294967296 * 4294967296) = (x2 * W) * 18446744073709551616 := by grind
  have e3 : y1 * (W * 4294967296) = (y1 * W) * 4294967296 := by grind
  rw [e1, e2] at eT
  rw [e3] at eV
  refine ⟨?_, ?_, ?_, ?_, ?_, ?_, ?_, ?_⟩
  · have : x2 * W < (y1 + 1) * W := by rw [Int.add_mul]; omega
    have := lt_of_mul_lt this hp
    omega
  · have : ((x2 * 4294967296 + x1) * 4294967296 + x0 + 1) * W = x2 * W * 18446744073709551616 + x1 * W * 4294967296 + x0 * W + W := by grind
    omega
  · have : ((x2 * 4294967296 + x1) * 4294967296 + x0) * W = x2 * W * 18446744073709551616 + x1 * W * 4294967296 + x0 * W := by grind
    omega
  · have : (y1 * 4294967296 + y0) * W = y1 * W * 4294967296 + y0 * W := by grind
    omega
  · have : (y1 * 4294967296 + y0 + 1) * W = y1 * W * 4294967296 + y0 * W + W := by grind
    omega
  · omega
  · have : (x2 * 4294967296 + x1 + 1) * (W * 4294967296) = x2 * W * 18446744073709551616 + x1 * W * 4294967296 + W * 4294967296 := by grind
    omega
  · omega
theorem quoStep_gives {j t : Nat} {u out : List Int} (hu : WW u) (ho : WW out) {r2 : List Int × List Int} (y2 : Int) (hv : WW r2.2) (ht : r2.2.length = t + 2) (hl : u.length ≤ 1099511627777) (hj : j + (t + 2) < u.length) (hjo : j < out.length)
    (hv1 : 0 < r2.2.getD (t + 1) 0) (hlt : val u < val r2.2 * 4294967296 ^ (j + 1)) (hoj : out.getD j 0 = 0) {Q : (Int × List Int × List Int) ⊕ (List Int × List Int) → Prop}
    (hQ : ∀ u' out' : List Int, WW u' → u'.length = u.length → WW out' → out'.length = out.length → (∀ k, k ≠ j → out'.getD k 0 = out.getD k 0) → val u' < val r2.2 * 4294967296 ^ j → val out' * val r2.2 + val u' = val out * val r2.2 + val u → Q (.inl ((j : Int) - 1, u', out'))) :
    Gives (numQuoWordsL4 r2 y2 (j : Int) u out) Q := by
  have hpj := pow_pos' j
  have hvv := hv.val
  -- the top of u
  have eu : val u = vl (fun i => u.getD i 0) j + hi (fun i => u.getD i 0) j u.length * 4294967296 ^ j := vl_hi _ (by omega)
  obtain ⟨lu1, lu2⟩ := vl_bound (f := fun i => u.getD i 0) j (fun i _ => hu i)
  have eh : hi (fun i => u.getD i 0) j u.length = vl (fun i => u.getD (j + i) 0) (t + 3) + hi (fun i => u.getD i 0) (j + (t + 3)) u.length * 4294967296 ^ (t + 3) := by
    unfold hi
    have := vl_add (fun i => u.getD (j + i) 0) (t + 3) (u.length - (j + (t + 3)))
    rw [show t + 3 + (u.length - (j + (t + 3))) = u.length - j by omega] at this
    rw [this]
    congr 2
    exact vl_congr fun i _ => by show u.getD (j + (t + 3 + i)) 0 = u.getD (j + (t + 3) + i) 0; rw [Nat.add_assoc j (t + 3) i]
  have hTV0 : hi (fun i => u.getD i 0) j u.length < val r2.2 * 4294967296 := by
    have : hi (fun i => u.getD i 0) j u.length * 4294967296 ^ j < (val r2.2 * 4294967296) * 4294967296 ^ j := by
      rw [Int.pow_succ] at hlt
      have : val r2.2 * 4294967296 * 4294967296 ^ j = val r2.2 * (4294967296 ^ j * 4294967296) := by grind
      omega
    exact lt_of_mul_lt this hpj
  have hh0 : hi (fun i => u.getD i 0) (j + (t + 3)) u.length = 0 := by
    have h1 := (vl_bound (f := fun i => u.getD (j + i) 0) (t + 3) (fun i _ => hu _)).1
    have h2 : 0 ≤ hi (fun i => u.getD i 0) (j + (t + 3)) u.length := (vl_bound _ (fun i _ => hu _)).1
    have h3 : hi (fun i => u.getD i 0) (j + (t + 3)) u.length * 4294967296 ^ (t + 3) < 1 * 4294967296 ^ (t + 3) := by
      have h4 := hvv.2
      rw [ht] at h4
      have h5 : (4294967296 : Int) ^ (t + 3) = 4294967296 ^ (t + 2) * 4294967296 := Int.pow_succ _ _
      omega
    have := lt_of_mul_lt h3 (pow_pos' (t + 3))
    omega
  rw [hh0, Int.zero_mul, Int.add_zero] at eh
  obtain ⟨T, hT⟩ : ∃ T, T = hi (fun i => u.getD i 0) j u.length := ⟨_, rfl⟩
  rw [← hT] at eu eh hTV0
  have hT0 : 0 ≤ T := by rw [eh]; exact (vl_bound _ (fun i _ => hu _)).1
  obtain ⟨t1, t2, t3, t4, t5, t6, t7, t8⟩ := tops (f := fun i => u.getD (j + i) 0) (g := fun i => r2.2.getD i 0) (fun i => hu _) hv eh (by rw [← ht]; rfl) hTV0 hv1
  have w0 := hu (j + t); have w1 := hu (j + (t + 1)); have w2 := hu (j + (t + 2)); have z1 := hv (t + 1)
  unfold numQuoWordsL4
  rw [ht]
  rw [wi64 (x := (j : Int) + ((t + 2 : Nat) : Int)) (by omega) (by omega), wi64 (x := (j : Int) + ((t + 2 : Nat) : Int) - 1) (by omega) (by omega), wi64 (x := ((t + 2 : Nat) : Int) - 1) (by omega) (by omega)]
  have e1 : ((j : Int) + ((t + 2 : Nat) : Int)).toNat = j + (t + 2) := by omega
  have e2 : ((j : Int) + ((t + 2 : Nat) : Int) - 1).toNat = j + (t + 1) := by omega
  have e3 : (((t + 2 : Nat) : Int) - 1).toNat = t + 1 := by omega
  simp only [gives_ite, gives_need, gives_bind, gives_some, decide_eq_true_eq, inRange, e1, e2, e3, ht, shl32]
  have f1 : IntKind.wrap .u64 (u.getD (j + (t + 2)) 0) = u.getD (j + (t + 2)) 0 := u64_small (by omega) (by omega)
  have f2 : IntKind.wrap .u64 (r2.2.getD (t + 1) 0) = r2.2.getD (t + 1) 0 := u64_small (by omega) (by omega)
  rw [f1, f2, w64 (_ * 4294967296), w64 (u.getD (j + (t + 1)) 0), or_hi w2.1 w2.2 w1.1 w1.2]
  obtain ⟨top, htop⟩ : ∃ top, top = u.getD (j + (t + 2)) 0 * 4294967296 + u.getD (j + (t + 1)) 0 := ⟨_, rfl⟩
  simp only [← htop] at t2 t3 t7 ⊢
  have top0 : 0 ≤ top := by omega
  have top1 : top < (r2.2.getD (t + 1) 0 + 1) * 4294967296 := by omega
  rw [tdiv_nn top0, tmod_nn top0]
  have qr := Int.mul_ediv_add_emod top (r2.2.getD (t + 1) 0)
  have q0 : 0 ≤ top / r2.2.getD (t + 1) 0 := Int.ediv_nonneg top0 (by omega)
  have q1 : top / r2.2.getD (t + 1) 0 ≤ top := Int.ediv_le_self _ top0
  have r0 := Int.emod_nonneg top (b := r2.2.getD (t + 1) 0) (by omega)
  have r1 := Int.emod_lt_of_pos top hv1
  rw [u64_small q0 (by omega)]
  refine ⟨fun _ => ⟨by omega, by decide, by omega, by omega, by omega, by omega, by omega, ?_⟩, fun h => by omega⟩
  refine (est_gives hu out y2 hv ht hl hj hv1 t2 t4 (by omega) hvv.1 (by rw [Int.mul_comm]; exact qr) r0 (by omega) q0 (by omega) (est_ge t7 t8 (by rw [Int.mul_comm]; exact qr) r1 q0 (pow_pos' _)) top1).mono ?_
  rintro q ⟨p0, p1, p2, p3⟩
  have hup := est_up p3 t3 t5 t6 p0 p1 (pow_pos' t)
  refine (mulsub_gives hu out y2 hv hl (by rw [ht]; exact hj) p0 p1).mono ?_
  rintro ⟨b, c, w⟩ ⟨s1, s2, s3, s4, s5, s6, s7, s8⟩
  simp only at s1 s2 s3 s4 s5 s6 s7 s8
  rw [ht] at s3 s8
  simp only [gives_ite, gives_need, gives_bind, inRange, w32]
  have hw0 := s3 (j + (t + 2)) (by omega)
  simp only [hw0]
  rw [wi64 (x := u.getD (j + (t + 2)) 0) (by omega) (by omega), wi64 (x := u.getD (j + (t + 2)) 0 - b) (by omega) (by omega), wi64 (x := c) (by omega) (by omega), wi64 (x := u.getD (j + (t + 2)) 0 - b - c) (by omega) (by omega)]
  obtain ⟨d, hd⟩ : ∃ d, d = u.getD (j + (t + 2)) 0 - b - c := ⟨_, rfl⟩
  rw [← hd]
  -- the end: out, with a word more
  have fin : ∀ (q' : Int) (F : List Int), 0 ≤ q' → q' < 4294967296 → WW F → F.length = u.length → val F = val u - q' * val r2.2 * 4294967296 ^ j → val F < val r2.2 * 4294967296 ^ j → Gives (numQuoWordsJ6 (j : Int) out q' F r2 y2) Q := by
    intro q' F k1 k2 k3 k4 k5 k6
    unfold numQuoWordsJ6
    simp only [gives_need, gives_some, inRange, Int.toNat_natCast, w32]
    rw [wi64 (by omega) (by omega), show q' % 4294967296 = q' by omega]
    refine ⟨by omega, hQ F _ k3 k4 (ho.set k1 k2) (by simp) (fun k hk => by rw [getD_set, if_neg (by omega)]) k6 ?_⟩
    rw [val_set hjo, hoj, k5]
    generalize val r2.2 = V at *
    generalize (4294967296 : Int) ^ j = Wj at *
    grind
  have hpL : (4294967296 : Int) ^ (j + (t + 2) + 1) = 4294967296 ^ (j + (t + 2)) * 4294967296 := Int.pow_succ _ _
  have hhi : hi (fun i => u.getD i 0) (j + (t + 2) + 1) u.length = 0 := hh0
  -- after the subtraction
  have wset : ∀ o : Int, 0 ≤ o → o < 4294967296 → WW (w.set (j + (t + 2)) o) ∧ (w.set (j + (t + 2)) o).length = u.length ∧ val (w.set (j + (t + 2)) o) < 4294967296 ^ (j + (t + 2) + 1) ∧
      val (w.set (j + (t + 2)) o) = val u - q * val r2.2 * 4294967296 ^ j + (o - d) * 4294967296 ^ (j + (t + 2)) := by
    intro o o1 o2
    have hW := s1.set (n := j + (t + 2)) o1 o2
    refine ⟨hW, by simp [s2], val_lt_of_hi hW (by simp [s2]) (by omega) (fun k hk => ?_) hhi, ?_⟩
    · rw [getD_set, if_neg (by omega)]; exact s3 k (by omega)
    · rw [val_set (by omega), hw0, s8, hd]
      generalize val r2.2 = V at *
      generalize (4294967296 : Int) ^ j = Wj at *
      generalize (4294967296 : Int) ^ (j + (t + 2)) = WL at *
      grind
  have X : val u - q * val r2.2 * 4294967296 ^ j = vl (fun i => u.getD i 0) j + (T - q * val r2.2) * 4294967296 ^ j := by rw [eu, Int.sub_mul]; omega
  refine ⟨by omega, by omega, fun hneg => ?_, fun hpos => ?_⟩
  · have hneg : d < 0 := by simpa using hneg
    have ed : d % 4294967296 = d + 4294967296 := by omega
    obtain ⟨k1, k2, k3, k4⟩ := wset (d % 4294967296) (by omega) (by omega)
    rw [ed] at k1 k2 k3 k4 ⊢
    have k5 : val (w.set (j + (t + 2)) (d + 4294967296)) = val u - q * val r2.2 * 4294967296 ^ j + 4294967296 ^ (j + (t + 2) + 1) := by rw [k4, hpL, show d + 4294967296 - d = 4294967296 by omega, Int.mul_comm 4294967296]
    have hTneg : T - q * val r2.2 < 0 := by
      have h1 : (T - q * val r2.2) * 4294967296 ^ j < 0 * 4294967296 ^ j := by omega
      exact lt_of_mul_lt h1 hpj
    have hq1 : 1 ≤ q := by
      rcases (show q = 0 ∨ 1 ≤ q by omega) with h | h
      · rw [h, Int.zero_mul] at hTneg; omega
      · exact h
    refine (addback_gives k1 out q y2 hv (by omega) (by rw [ht, k2]; exact hj)).mono ?_
    rintro ⟨c', w2⟩ ⟨g1, g2, g3, g4, g5, g6⟩
    simp only at g1 g2 g3 g4 g5 g6
    rw [ht] at g3 g6
    have hw2 := g3 (j + (t + 2)) (by omega)
    rw [getD_set, if_pos ⟨rfl, by omega⟩] at hw2
    simp only [gives_need, inRange, hw2]
    rw [show c' % 4294967296 = c' by omega, u64_small (x := q - 1) (by omega) (by omega)]
    have hX : val u - (q - 1) * val r2.2 * 4294967296 ^ j = vl (fun i => u.getD i 0) j + (T - q * val r2.2 + val r2.2) * 4294967296 ^ j := by
      have : (q - 1) * val r2.2 * 4294967296 ^ j = q * val r2.2 * 4294967296 ^ j - val r2.2 * 4294967296 ^ j := by grind
      rw [this, Int.add_mul]; omega
    have hX0 : 0 ≤ (T - q * val r2.2 + val r2.2) * 4294967296 ^ j := Int.mul_nonneg (by omega) (by omega)
    have hX1 : (T - q * val r2.2 + val r2.2) * 4294967296 ^ j ≤ (val r2.2 - 1) * 4294967296 ^ j := Int.mul_le_mul_of_nonneg_right (by omega) (by omega)
    rw [Int.sub_mul] at hX1
    have hF := g1.set (n := j + (t + 2)) (w := (d + 4294967296 + c') % 4294967296) (by omega) (by omega)
    have hFv : val (w2.set (j + (t + 2)) ((d + 4294967296 + c') % 4294967296)) = val w2 + ((d + 4294967296 + c') % 4294967296 - (d + 4294967296)) * 4294967296 ^ (j + (t + 2)) := by rw [val_set (by omega), hw2]
    have hFlt : val (w2.set (j + (t + 2)) ((d + 4294967296 + c') % 4294967296)) < 4294967296 ^ (j + (t + 2) + 1) := by
      refine val_lt_of_hi hF (by simp [g2, s2]) (by omega) (fun k hk => ?_) hhi
      rw [getD_set, if_neg (by omega), g3 k (by omega), getD_set, if_neg (by omega)]
      exact s3 k (by omega)
    have hXX : val u - q * val r2.2 * 4294967296 ^ j + val r2.2 * 4294967296 ^ j = val u - (q - 1) * val r2.2 * 4294967296 ^ j := by grind
    have hov : (d + 4294967296 + c') % 4294967296 = d + 4294967296 + c' ∨ (d + 4294967296 + c') % 4294967296 = d + c' := by omega
    have hres : val (w2.set (j + (t + 2)) ((d + 4294967296 + c') % 4294967296)) = val u - (q - 1) * val r2.2 * 4294967296 ^ j := by
      rcases hov with h | h
      · rw [h] at hFv hFlt ⊢
        rw [show d + 4294967296 + c' - (d + 4294967296) = c' by omega] at hFv
        omega
      · rw [h] at hFv ⊢
        rw [show d + c' - (d + 4294967296) = c' - 4294967296 by omega, Int.sub_mul] at hFv
        rw [Int.mul_comm 4294967296, ← hpL] at hFv
        omega
    refine ⟨by omega, by omega, fin (q - 1) _ (by omega) (by omega) hF (by simp [g2, s2]) hres ?_⟩
    rw [hres, hX]
    omega
  · have hpos : 0 ≤ d := by simpa using hpos
    have ed : d % 4294967296 = d := by omega
    obtain ⟨k1, k2, k3, k4⟩ := wset (d % 4294967296) (by omega) (by omega)
    rw [ed] at k1 k2 k3 k4 ⊢
    rw [Int.sub_self, Int.zero_mul, Int.add_zero] at k4
    have hge : 0 ≤ T - q * val r2.2 := by
      have h0 := k1.val.1
      have h1 : (-1) * 4294967296 ^ j < (T - q * val r2.2) * 4294967296 ^ j := by omega
      have := lt_of_mul_lt h1 hpj
      omega
    have hle : (T - q * val r2.2) * 4294967296 ^ j ≤ (val r2.2 - 1) * 4294967296 ^ j := Int.mul_le_mul_of_nonneg_right (by rw [Int.add_mul] at p2; omega) (by omega)
    rw [Int.sub_mul (val r2.2)] at hle
    exact fin q _ p0 p1 k1 k2 k4 (by omega)
end Go.Ab
namespace Go.Ab
open Go
set_option linter.unusedVariables false
set_option linter.unusedSimpArgs false
def rd (f : Nat → Int) (s i : Nat) : Int := f i / 2 ^ s + (f (i + 1) * 2 ^ (32 - s)) % 4294967296
theorem qp {s : Nat} (hs : s ≤ 31) : (2 : Int) ^ (32 - s) * 2 ^ s = 4294967296 := by rw [Int.mul_comm]; exact pq hs
theorem low_mul {s : Nat} (hs : s ≤ 31) (x : Int) : (x * 2 ^ (32 - s)) % 4294967296 = 2 ^ (32 - s) * (x % 2 ^ s) := by
  rw [← qp hs, Int.mul_comm x, Int.mul_emod_mul_of_pos _ _ (p2pos _)]
theorem low_mul_le {s : Nat} (hs : s ≤ 31) (x : Int) : 0 ≤ (x * 2 ^ (32 - s)) % 4294967296 ∧ (x * 2 ^ (32 - s)) % 4294967296 ≤ 4294967296 - 2 ^ (32 - s) := by
  refine ⟨by omega, ?_⟩
  rw [low_mul hs]
  have h := p2pos (32 - s)
  have h1 := Int.emod_lt_of_pos x (p2pos s)
  have : (2 : Int) ^ (32 - s) * (x % 2 ^ s) ≤ 2 ^ (32 - s) * (2 ^ s - 1) := Int.mul_le_mul_of_nonneg_left (by omega) (by omega)
  rw [Int.mul_sub, qp hs] at this
  omega
theorem div_lt {s : Nat} (hs : s ≤ 31) {x : Int} (h0 : 0 ≤ x) (h1 : x < 4294967296) : 0 ≤ x / 2 ^ s ∧ x / 2 ^ s < 2 ^ (32 - s) := by
  have h := p2pos s
  refine ⟨Int.ediv_nonneg h0 (by omega), Int.ediv_lt_of_lt_mul h ?_⟩
  rw [qp hs]; exact h1
theorem rd_word {f : Nat → Int} {s : Nat} (hs : s ≤ 31) (hf : ∀ i, 0 ≤ f i ∧ f i < 4294967296) (i : Nat) : 0 ≤ rd f s i ∧ rd f s i < 4294967296 := by
  unfold rd
  obtain ⟨h1, h2⟩ := low_mul_le hs (f (i + 1))
  obtain ⟨h3, h4⟩ := div_lt hs (hf i).1 (hf i).2
  omega
theorem rd_vl (f : Nat → Int) {s : Nat} (hs : s ≤ 31) : ∀ k, vl (rd f s) k * 2 ^ s = vl f k - f 0 % 2 ^ s + (f k % 2 ^ s) * 4294967296 ^ k
  | 0 => by simp [vl]; omega
  | k + 1 => by
    have IH := rd_vl f hs k
    rw [vl, vl, Int.pow_succ]
    have e1 : rd f s k * 2 ^ s = f k - f k % 2 ^ s + (f (k + 1) % 2 ^ s) * 4294967296 := by
      unfold rd
      rw [low_mul hs, Int.add_mul]
      have h1 := Int.mul_ediv_add_emod (f k) (2 ^ s)
      have h2 := qp hs
      generalize (2 : Int) ^ s = P at *
      generalize (2 : Int) ^ (32 - s) = R at *
      generalize f k / P = y at *
      generalize f k % P = z at *
      grind
    generalize vl (rd f s) k = x at *
    generalize rd f s k = y at *
    generalize (2 : Int) ^ s = P at *
    grind
theorem or_rd {s : Nat} (hs : s ≤ 31) {x y : Int} (h0 : 0 ≤ x) (h1 : x < 4294967296) :
    IntKind.wrap .u32 ((((BitVec.ofInt (IntKind.bits .u32) (Int.fdiv x (2 ^ s)) ||| BitVec.ofInt (IntKind.bits .u32) ((y * 2 ^ (32 - s)) % 4294967296)).toNat : Nat) : Int)) = x / 2 ^ s + (y * 2 ^ (32 - s)) % 4294967296 := by
  have hp := p2pos s
  obtain ⟨a1, a2⟩ := low_mul_le hs y
  obtain ⟨b1, b2⟩ := div_lt hs h0 h1
  rw [Int.fdiv_eq_ediv_of_nonneg _ (by omega), BitVec.or_comm]
  have := lor_add (n := IntKind.bits .u32) (k := 32 - s) (a := (y * 2 ^ (32 - s)) % 4294967296) (b := x / 2 ^ s) a1 b1 b2 (by show _ < (2 : Int) ^ 32; omega) (by rw [low_mul hs]; exact Int.mul_emod_right _ _)
  rw [this, w32]
  omega
theorem shiftR_gives {r7 : List Int × List Int} (hu : WW r7.1) {s : Nat} (hs : s ≤ 31) {r2 : List Int × List Int} (hl : r2.2.length < r7.1.length) (hb : r7.1.length ≤ 1099511627777) :
    Gives (iter (fun v : (Int × (List Int)) => numQuoWordsL8 r2 r7 (s : Int) v.1 v.2) ((0 : Int), List.replicate r2.2.length (0 : Int)))
      fun r => WW r ∧ r.length = r2.2.length ∧ ∀ j, j < r2.2.length → r.getD j 0 = rd (fun i => r7.1.getD i 0) s j := by
  refine gives_iter (I := fun t : Int × List Int => ∃ n : Nat, t.1 = (n : Int) ∧ n ≤ r2.2.length ∧ WW t.2 ∧ t.2.length = r2.2.length ∧ ∀ j, j < n → t.2.getD j 0 = rd (fun i => r7.1.getD i 0) s j)
    (μ := fun t : Int × List Int => r2.2.length - t.1.toNat) ⟨0, rfl, by omega, WW.replicate _, by simp, fun j hj => by omega⟩ ?_
  rintro ⟨i, w⟩ ⟨n, h1, h2, h4, h5, h6⟩
  simp only at h1 h4 h5 h6
  subst h1
  have e0 : IntKind.wrap .u64 (s : Int) = (s : Int) := by rw [w64]; omega
  have fin : ∀ x : Int, n < r2.2.length → x = rd (fun i => r7.1.getD i 0) s n →
      Gives (numQuoWordsJ7 (n : Int) (w.set n x) r2 r7 (s : Int)) (Round (fun t : Int × List Int => ∃ n : Nat, t.1 = (n : Int) ∧ n ≤ r2.2.length ∧ WW t.2 ∧ t.2.length = r2.2.length ∧ ∀ j, j < n → t.2.getD j 0 = rd (fun i => r7.1.getD i 0) s j)
        (fun t : Int × List Int => r2.2.length - t.1.toNat) ((n : Int), w) (fun r => WW r ∧ r.length = r2.2.length ∧ ∀ j, j < r2.2.length → r.getD j 0 = rd (fun i => r7.1.getD i 0) s j)) := by
    rintro x hn rfl
    obtain ⟨k1, k2⟩ := rd_word hs (f := fun i => r7.1.getD i 0) hu n
    unfold numQuoWordsJ7
    rw [gives_some, round_inl, wi64 (by omega) (by omega)]
    refine ⟨⟨n + 1, by simp, by omega, h4.set k1 k2, by simp [h5], fun j hj => ?_⟩, by simp; omega⟩
    rw [getD_set]
    split
    · rename_i h; rw [h.1]
    · exact h6 j (by omega)
  have hun := hu n
  have hp := p2pos s
  unfold numQuoWordsL8
  simp only [gives_ite, gives_need, gives_some, decide_eq_true_eq, round_inr, inRange, List.length_set, Int.toNat_natCast, e0, sm1 hs, sm2 hs, w32 (_ * _)]
  rw [wi64 (by omega) (by omega)]
  have en : ((n : Int) + 1).toNat = n + 1 := by omega
  rw [en]
  refine ⟨fun hn => ⟨by omega, by omega, by omega, fun hsp => ?_, fun hsz => ?_⟩, fun hn => ?_⟩
  · have eg : (w.set n (Int.fdiv (r7.1.getD n 0) (2 ^ s))).getD n 0 = Int.fdiv (r7.1.getD n 0) (2 ^ s) := by rw [getD_set, if_pos ⟨rfl, by omega⟩]
    rw [eg, or_rd hs hun.1 hun.2, List.set_set]
    exact ⟨by omega, by omega, by rw [w64]; omega, by omega, fin _ (by omega) rfl⟩
  · have hs0 : s = 0 := by omega
    subst hs0
    refine fin _ (by omega) ?_
    unfold rd
    rw [Int.fdiv_eq_ediv_of_nonneg _ (by omega)]
    show _ = r7.1.getD n 0 / 2 ^ 0 + r7.1.getD (n + 1) 0 * 2 ^ (32 - 0) % 4294967296
    have : r7.1.getD (n + 1) 0 * 2 ^ (32 - 0) % 4294967296 = 0 := by
      rw [show ((2 : Int) ^ (32 - 0)) = 4294967296 by decide]; omega
    rw [this, Int.add_zero]
  · have : n = r2.2.length := by omega
    subst this
    exact ⟨h4, h5, h6⟩
theorem quoWords_gives {a b : List Int} (ha : WW a) (hb : WW b) (ta : Top a) (tb : Top b) (hne : b ≠ []) (la : a.length ≤ 1099511627776) (lb : b.length ≤ 1099511627776) :
    Gives (numQuoWords a b) fun r => WW r.1 ∧ WW r.2 ∧ r.1.length ≤ 1099511627777 ∧ r.2.length ≤ 1099511627777 ∧ val a = val r.1 * val b + val r.2 ∧ val r.2 < val b := by
  have hbv := top_le hb tb hne
  have hb0 : 0 < val b := by have := pow_pos' (b.length - 1); omega
  have hlb : 0 < b.length := List.length_pos_iff.2 hne
  have hav := ha.val
  unfold numQuoWords
  refine (cmpWords_gives ha hb ta tb (by omega) (by omega)).bind ?_
  rintro c rfl
  simp only [gives_ite, decide_eq_true_eq, gives_need, gives_some, gives_bind]
  refine ⟨fun hlt => ⟨by unfold maxBytes; omega, WW.nil, ha, by simp, by omega, by rw [val_nil]; omega, ?_⟩, fun hge => ⟨fun h1 => ?_, fun h1 => ?_⟩⟩
  · have := Int.sign_neg_iff.1 hlt; omega
  · -- by one word
    have h1 : b.length = 1 := by omega
    have eb : val b = b.getD 0 0 := by unfold val; rw [h1]; simp [vl]
    rw [wi64 (by omega) (by omega)]
    refine ⟨by omega, by omega, by unfold maxBytes; omega, ?_⟩
    have el : ((a.length : Int)).toNat = a.length := by omega
    rw [el]
    refine (quo1_gives ha hb la h1 (by omega)).mono ?_
    rintro ⟨c, q⟩ ⟨q1, q2, q3, q4, q5⟩
    simp only at q1 q2 q3 q4 q5
    have hb1 := hb 0
    rw [w32, show c % 4294967296 = c by omega]
    refine ⟨q1, fun i => ?_, by show q.length ≤ _; omega, by simp, by rw [val_single, eb]; exact q5, by rw [val_single]; omega⟩
    cases i <;> simp
    omega
  · have hge : val b ≤ val a := by
      have : ¬ val a - val b < 0 := fun hc => hge (Int.sign_neg_iff.2 hc)
      omega
    have hlen : b.length ≤ a.length := by
      rcases Nat.lt_or_ge a.length b.length with hc | hc
      · have := val_lt_of_length ha hb tb hc; omega
      · exact hc
    obtain ⟨t, ht⟩ : ∃ t, b.length = t + 2 := ⟨b.length - 2, by omega⟩
    have etop : b.getD (t + 1) 0 = b.getD (b.length - 1) 0 := by congr 1; omega
    have htop : 0 < b.getD (t + 1) 0 := by
      have h1 := tb hne
      have h2 := hb (t + 1)
      rw [← etop] at h1
      omega
    rw [wi64 (x := (b.length : Int) - 1) (by omega) (by omega), wi64 (x := (a.length : Int) + 1) (by omega) (by omega)]
    have e1 : ((b.length : Int) - 1).toNat = t + 1 := by omega
    have e2 : ((a.length : Int) + 1).toNat = a.length + 1 := by omega
    have e3 : ((b.length : Int)).toNat = b.length := by omega
    rw [e1, e2, e3]
    refine ⟨⟨by omega, by omega⟩, ?_⟩
    refine (lz_gives htop (hb (t + 1)).2).mono ?_
    rintro y2 ⟨s, rfl, hs, s1, s2⟩
    refine ⟨by omega, by omega, by unfold maxBytes; omega, by omega, by omega, by unfold maxBytes; omega, ?_⟩
    refine (shiftB_gives (a := a) hb hs lb (List.replicate (a.length + 1) 0)).mono ?_
    rintro ⟨u0, v⟩ ⟨v1, v2, v3, v4⟩
    simp only at v1 v2 v3 v4
    subst v1
    refine (shiftA_gives ha hs la (List.replicate (a.length + 1) 0, v) rfl).mono ?_
    rintro u ⟨u1, u2, u3⟩
    simp only
    have hP := p2pos s
    have hvt : v.length = t + 2 := by omega
    -- the values
    have eV : val v = val b * 2 ^ s := by
      have h1 := sd_vl (fun i => b.getD i 0) s b.length
      rw [if_neg (by omega), show b.length - 1 = t + 1 by omega, show b.getD (t + 1) 0 * 2 ^ s / 4294967296 = 0 by
        exact Int.ediv_eq_zero_of_lt (by omega) s2] at h1
      have h2 : vl (sd (fun i => b.getD i 0) s) b.length = val v := by
        unfold val; rw [v3]; exact vl_congr fun j hj => (v4 j hj).symm
      have h3 : vl (fun i => b.getD i 0) b.length = val b := rfl
      rw [h2, h3] at h1
      omega
    have eA : val u = val a * 2 ^ s := by
      have h1 := sd_vl (fun i => a.getD i 0) s (a.length + 1)
      have h0 : a.getD a.length 0 = 0 := by rw [List.getD_eq_getElem?_getD, List.getElem?_eq_none (by omega)]; rfl
      rw [if_neg (by omega), Nat.add_sub_cancel, h0] at h1
      have h2 : vl (sd (fun i => a.getD i 0) s) (a.length + 1) = val u := by
        unfold val; rw [u2]; exact vl_congr fun j hj => (u3 j hj).symm
      have h3 : vl (fun i => a.getD i 0) (a.length + 1) = val a := val_of_le (by omega)
      rw [h2, h3] at h1
      simp only [Int.zero_mul] at h1
      omega
    have hv1 : 2147483648 ≤ v.getD (t + 1) 0 := by
      rw [v4 (t + 1) (by omega)]
      unfold sd
      rw [if_neg (by omega)]
      have := (shr_lt hs (hb t).1 (hb t).2).1
      show _ ≤ b.getD (t + 1) 0 * 2 ^ s % 4294967296 + b.getD t 0 * 2 ^ s / 4294967296
      omega
    have hVge : 2147483648 * 4294967296 ^ (t + 1) ≤ val v := by
      have h1 : val v = vl (fun i => v.getD i 0) (t + 1) + v.getD (t + 1) 0 * 4294967296 ^ (t + 1) := by unfold val; rw [hvt]; rfl
      have h2 := (vl_bound (f := fun i => v.getD i 0) (t + 1) fun i _ => v2 i).1
      have h3 : 2147483648 * 4294967296 ^ (t + 1) ≤ v.getD (t + 1) 0 * 4294967296 ^ (t + 1) := Int.mul_le_mul_of_nonneg_right hv1 (by have := pow_pos' (t + 1); omega)
      omega
    have hVpos : 0 < val v := by have := pow_pos' (t + 1); omega
    rw [hvt, wi64 (x := (a.length : Int) - ((t + 2 : Nat) : Int)) (by omega) (by omega), wi64 (x := (a.length : Int) - ((t + 2 : Nat) : Int) + 1) (by omega) (by omega)]
    have e5 : ((a.length : Int) - ((t + 2 : Nat) : Int) + 1).toNat = a.length - (t + 2) + 1 := by omega
    have e6 : (((t + 2 : Nat) : Int)).toNat = t + 2 := by omega
    rw [e5, e6]
    refine ⟨by omega, by omega, by unfold maxBytes; omega, ?_⟩
    have L : Gives (iter (fun q : (Int × (List Int) × (List Int)) => numQuoWordsL4 (List.replicate (a.length + 1) 0, v) (s : Int) q.1 q.2.1 q.2.2) ((a.length : Int) - ((t + 2 : Nat) : Int), u, List.replicate (a.length - (t + 2) + 1) (0 : Int)))
        fun r => WW r.1 ∧ r.1.length = a.length + 1 ∧ WW r.2 ∧ r.2.length = a.length - (t + 2) + 1 ∧ val r.1 < val v ∧ val r.2 * val v + val r.1 = val u := by
      refine gives_iter (I := fun q : Int × List Int × List Int => ∃ n : Nat, q.1 = (n : Int) - 1 ∧ n ≤ a.length - (t + 2) + 1 ∧ WW q.2.1 ∧ q.2.1.length = a.length + 1 ∧ WW q.2.2 ∧ q.2.2.length = a.length - (t + 2) + 1 ∧ (∀ k, k < n → q.2.2.getD k 0 = 0) ∧
          val q.2.1 < val v * 4294967296 ^ n ∧ val q.2.2 * val v + val q.2.1 = val u) (μ := fun q : Int × List Int × List Int => (q.1 + 1).toNat) ⟨a.length - (t + 2) + 1, by show (a.length : Int) - ((t + 2 : Nat) : Int) = _; omega, by omega, u1, u2, WW.replicate _, by simp, fun k _ => getD_replicate _ k, ?_, ?_⟩ ?_
      · show val u < _
        have h1 : (4294967296 : Int) ^ (t + 1) * 4294967296 ^ (a.length - (t + 2) + 1) = 4294967296 ^ a.length := by rw [← Int.pow_add]; congr 1; omega
        have h2 : 2147483648 * 4294967296 ^ (t + 1) * 4294967296 ^ (a.length - (t + 2) + 1) ≤ val v * 4294967296 ^ (a.length - (t + 2) + 1) := Int.mul_le_mul_of_nonneg_right hVge (by have := pow_pos' (a.length - (t + 2) + 1); omega)
        rw [Int.mul_assoc, h1] at h2
        have h3 : (2 : Int) ^ s ≤ 2147483648 := by
          have : s ≤ 31 := hs
          rcases Nat.lt_or_eq_of_le hs with h | h
          · have := Int.pow_lt_pow_of_lt (a := 2) (by decide) h
            have e : (2 : Int) ^ 31 = 2147483648 := by decide
            omega
          · subst h; decide
        have h4 : val a * 2 ^ s < 4294967296 ^ a.length * 2 ^ s := Int.mul_lt_mul_of_pos_right hav.2 hP
        have h5 : (4294967296 : Int) ^ a.length * 2 ^ s ≤ 4294967296 ^ a.length * 2147483648 := Int.mul_le_mul_of_nonneg_left h3 (Int.le_of_lt (pow_pos' a.length))
        rw [eA]
        omega
      · show val (List.replicate _ 0) * _ + val u = _
        have : val (List.replicate (a.length - (t + 2) + 1) 0) = 0 := by rw [val, vl_zero fun j _ => getD_replicate _ j]
        rw [this]; simp
      · rintro ⟨i, x, o⟩ ⟨n, h1, h2, h3, h4, h5, h6, h7, h8, h9⟩
        simp only at h1 h3 h4 h5 h6 h7 h8 h9
        subst h1
        rcases Nat.eq_zero_or_pos n with h | h
        · subst h
          unfold numQuoWordsL4
          rw [gives_ite]
          refine ⟨fun hc => by simp at hc, fun _ => ?_⟩
          rw [gives_some, round_inr]
          exact ⟨h3, h4, h5, h6, by simpa using h8, h9⟩
        · obtain ⟨j, rfl⟩ : ∃ j, n = j + 1 := ⟨n - 1, by omega⟩
          have ej : (((j + 1 : Nat) : Int) - 1) = (j : Int) := by omega
          simp only [ej]
          refine quoStep_gives (r2 := (List.replicate (a.length + 1) 0, v)) h3 h5 (s : Int) v2 hvt (by omega) (by omega) (by omega) (by show 0 < v.getD (t + 1) 0; omega) h8 (h7 j (by omega)) ?_
          intro u' o' k1 k2 k3 k4 k5 k6 k7
          rw [round_inl]
          refine ⟨⟨j, rfl, by omega, k1, by rw [k2]; exact h4, k3, by rw [k4]; exact h6, fun k hk => by rw [k5 k (by omega)]; exact h7 k (by omega), k6, by rw [← h9]; exact k7⟩, ?_⟩
          show ((j : Int) - 1 + 1).toNat < ((j : Int) + 1).toNat
          omega
    refine L.mono ?_
    rintro ⟨x, o⟩ ⟨x1, x2, x3, x4, x5, x6⟩
    simp only at x1 x2 x3 x4 x5 x6
    refine ⟨by omega, by omega, by unfold maxBytes; omega, ?_⟩
    have R := shiftR_gives (r7 := (x, o)) x1 hs (r2 := (List.replicate (a.length + 1) 0, v)) (by show v.length < x.length; omega) (by show x.length ≤ _; omega)
    rw [show (List.replicate (a.length + 1) (0 : Int), v).2.length = t + 2 from hvt] at R
    refine R.mono ?_
    rintro r ⟨r1, r2, r3⟩
    have hx1 : val x = vl (fun i => x.getD i 0) (t + 2) + hi (fun i => x.getD i 0) (t + 2) x.length * 4294967296 ^ (t + 2) := vl_hi _ (by omega)
    have hvlt := v2.val.2
    rw [hvt] at hvlt
    have hxl := vl_bound (f := fun i => x.getD i 0) (t + 2) fun i _ => x1 i
    have hhi : hi (fun i => x.getD i 0) (t + 2) x.length = 0 := by
      have h1 : 0 ≤ hi (fun i => x.getD i 0) (t + 2) x.length := (vl_bound _ fun i _ => x1 _).1
      have h2 : hi (fun i => x.getD i 0) (t + 2) x.length * 4294967296 ^ (t + 2) < 1 * 4294967296 ^ (t + 2) := by omega
      have := lt_of_mul_lt h2 (pow_pos' _)
      omega
    have hx0 : x.getD (t + 2) 0 = 0 := by
      have h1 := hi_succ (fun i => x.getD i 0) (n := t + 2) (L := x.length) (by omega)
      have h2 : 0 ≤ hi (fun i => x.getD i 0) (t + 2 + 1) x.length := (vl_bound _ fun i _ => x1 _).1
      have h3 := x1 (t + 2)
      rw [hhi] at h1
      omega
    rw [hhi, Int.zero_mul, Int.add_zero] at hx1
    have hval : val r = vl (rd (fun i => x.getD i 0) s) (t + 2) := by
      unfold val; rw [r2]; exact vl_congr fun j hj => r3 j hj
    have hrd := rd_vl (fun i => x.getD i 0) hs (t + 2)
    rw [← hval, ← hx1, hx0] at hrd
    -- the rest is a multiple of what it was shifted by
    have hmul : val x = (val a - val o * val b) * 2 ^ s := by
      rw [eA, eV] at x6
      rw [Int.sub_mul]
      have : val o * (val b * 2 ^ s) = val o * val b * 2 ^ s := by rw [Int.mul_assoc]
      omega
    have hmod : x.getD 0 0 % 2 ^ s = 0 := by
      have h1 : val x = x.getD 0 0 + 4294967296 * hi (fun i => x.getD i 0) 1 x.length := by
        have := hi_succ (fun i => x.getD i 0) (n := 0) (L := x.length) (by omega)
        rw [hi_zero] at this
        exact this
      have h2 : x.getD 0 0 = (val a - val o * val b - 2 ^ (32 - s) * hi (fun i => x.getD i 0) 1 x.length) * 2 ^ s := by
        have h3 := qp hs
        rw [hmul] at h1
        generalize hi (fun i => x.getD i 0) 1 x.length = hh at *
        generalize (2 : Int) ^ s = P at *
        generalize (2 : Int) ^ (32 - s) = R at *
        grind
      rw [h2]
      exact Int.mul_emod_left _ _
    rw [hmod] at hrd
    simp only [Int.zero_emod, Int.zero_mul, Int.add_zero, Int.sub_zero] at hrd
    have hrest : val r = val a - val o * val b := by
      rw [hmul] at hrd
      exact Int.eq_of_mul_eq_mul_right (by omega) hrd
    refine ⟨x3, r1, by show o.length ≤ _; omega, by omega, by show val a = val o * val b + val r; omega, ?_⟩
    have h1 : val r * 2 ^ s < val b * 2 ^ s := by rw [hrd, ← eV]; exact x5
    exact lt_of_mul_lt h1 hP
end Go.Ab
namespace Go.Ab
open Go
set_option linter.unusedVariables false
set_option linter.unusedSimpArgs false
theorem quo_unique {A B q r : Int} (hB : 0 < B) (e : A = q * B + r) (h0 : 0 ≤ r) (h1 : r < B) (hA : 0 ≤ A) : A.tdiv B = q ∧ A.tmod B = r := by
  rw [tdiv_nn hA, tmod_nn hA]
  exact (Int.ediv_emod_unique hB).2 ⟨by rw [e, Int.mul_comm]; omega, h0, h1⟩
theorem zquo_gives {a b : NumZ} (ha : ZOk a) (hb : ZOk b) {K : Nat} (hK : K ≤ 1099511627776) (la : ZLt a K) (lb : ZLt b K) (h0 : zval b ≠ 0) :
    Gives (numZQuo a b) fun r => ZOk r.1 ∧ ZOk r.2 ∧ zval r.1 = (zval a).tdiv (zval b) ∧ zval r.2 = (zval a).tmod (zval b) := by
  have J : Gives (numZQuoJ1 a b) fun r => ZOk r.1 ∧ ZOk r.2 ∧ zval r.1 = (zval a).tdiv (zval b) ∧ zval r.2 = (zval a).tmod (zval b) := by
    unfold numZQuoJ1
    refine (words_len ha la).bind ?_
    rintro x ⟨x1, x2, x3, x4, x5⟩
    refine (words_len hb lb).bind ?_
    rintro y ⟨y1, y2, y3, y4, y5⟩
    have hne : y.1 ≠ [] := by
      intro e
      rw [← y3, e, val_nil] at h0
      exact h0 (by unfold sgn; split <;> simp)
    have hy0 : 0 < val y.1 := by have := top_le y1 y2 hne; have := pow_pos' (y.1.length - 1); omega
    refine (quoWords_gives x1 y1 x2 y2 hne (by omega) (by omega)).bind ?_
    rintro q ⟨q1, q2, q3, q4, q5, q6⟩
    refine (made_gives q1 (by omega) _).bind ?_
    rintro z ⟨z1, z2⟩
    refine (made_gives q2 (by omega) _).bind ?_
    rintro w ⟨w1, w2⟩
    rw [gives_some]
    obtain ⟨d1, d2⟩ := quo_unique hy0 q5 q2.val.1 q6 x1.val.1
    refine ⟨z1, w1, ?_, ?_⟩
    · rw [z2, ← x3, ← y3, ← d1]
      unfold sgn
      cases x.2 <;> cases y.2 <;> simp
    · rw [w2, ← x3, ← y3, ← d2]
      unfold sgn
      cases x.2 <;> cases y.2 <;> simp
  unfold numZQuo
  simp only [gives_ite, isEmpty_iff', gives_some, gives_need, Bool.not_eq_true', decide_eq_false_iff_not]
  refine ⟨fun h1 => ⟨fun h2 => ⟨fun h3 => ?_, fun _ => J⟩, fun _ => J⟩, fun _ => J⟩
  obtain ⟨a1, a2, a3⟩ := ha.range h1
  obtain ⟨b1, b2, b3⟩ := hb.range h2
  rw [b3] at h0
  have t1 := Int.natAbs_tdiv_le_natAbs a.v b.v
  have t2 : (a.v.tmod b.v).natAbs ≤ a.v.natAbs := by rw [Int.natAbs_tmod]; exact Nat.mod_le _ _
  rw [wi64 (by omega) (by omega), a3, b3]
  exact ⟨h0, h0, ZOk.small (by omega) (by omega), ZOk.small (by omega) (by omega), zval_small _ _, zval_small _ _⟩
theorem gcd_step (a b : Int) (ha : 0 ≤ a) (hb : 0 ≤ b) : Int.gcd b (a.tmod b) = Int.gcd a b := by
  obtain ⟨m, rfl⟩ := Int.eq_ofNat_of_zero_le ha
  obtain ⟨n, rfl⟩ := Int.eq_ofNat_of_zero_le hb
  rw [tmod_nn (by omega), ← Int.natCast_emod, Int.gcd_natCast_natCast, Int.gcd_natCast_natCast, Nat.gcd_comm m n, Nat.gcd_rec n m, Nat.gcd_comm]
theorem gcd_gives {a b : NumZ} (ha : ZOk a) (hb : ZOk b) {K : Nat} (hK : K ≤ 1099511627776) (la : ZLt a K) (lb : ZLt b K) : Gives (numGcd a b) fun r => ZOk r ∧ zval r = (Int.gcd (zval a) (zval b) : Int) := by
  unfold numGcd
  refine (zabs_gives ha hK la).bind ?_
  rintro x ⟨x1, x2⟩
  refine (zabs_gives hb hK lb).bind ?_
  rintro y ⟨y1, y2⟩
  rw [gives_bind]
  refine (gives_iter (I := fun s : Int × List Int × Bool × Int × List Int × Bool => ZOk ⟨s.1, s.2.1, s.2.2.1⟩ ∧ ZOk ⟨s.2.2.2.1, s.2.2.2.2.1, s.2.2.2.2.2⟩ ∧ 0 ≤ zval ⟨s.1, s.2.1, s.2.2.1⟩ ∧ 0 ≤ zval ⟨s.2.2.2.1, s.2.2.2.2.1, s.2.2.2.2.2⟩ ∧
      ZLt ⟨s.1, s.2.1, s.2.2.1⟩ K ∧ ZLt ⟨s.2.2.2.1, s.2.2.2.2.1, s.2.2.2.2.2⟩ K ∧ Int.gcd (zval ⟨s.1, s.2.1, s.2.2.1⟩) (zval ⟨s.2.2.2.1, s.2.2.2.2.1, s.2.2.2.2.2⟩) = Int.gcd (zval a) (zval b))
    (μ := fun s : Int × List Int × Bool × Int × List Int × Bool => (zval ⟨s.2.2.2.1, s.2.2.2.2.1, s.2.2.2.2.2⟩).toNat)
    (Q := fun r => match r with
      | .inl s => ZOk ⟨s.1, s.2.1, s.2.2⟩ ∧ zval ⟨s.1, s.2.1, s.2.2⟩ = (Int.gcd (zval a) (zval b) : Int)
      | .inr z => ZOk z ∧ zval z = (Int.gcd (zval a) (zval b) : Int)) ?_ ?_).mono ?_
  · refine ⟨x1, y1, by show 0 ≤ zval x; omega, by show 0 ≤ zval y; omega, ?_, ?_, ?_⟩
    · show ZLt x K
      unfold ZLt at *; omega
    · show ZLt y K
      unfold ZLt at *; omega
    · show Int.gcd (zval x) (zval y) = _
      rw [x2, y2]
      simp [Int.gcd_eq_natAbs_gcd_natAbs]
  · rintro ⟨a1, a2, a3, b1, b2, b3⟩ ⟨p1, p2, p3, p4, p5, p6, p7⟩
    simp only at p1 p2 p3 p4 p5 p6 p7
    have J : zval ⟨b1, b2, b3⟩ ≠ 0 → Gives (numGcdJ1 a1 a2 a3 b1 b2 b3) (Round (fun s : Int × List Int × Bool × Int × List Int × Bool => ZOk ⟨s.1, s.2.1, s.2.2.1⟩ ∧ ZOk ⟨s.2.2.2.1, s.2.2.2.2.1, s.2.2.2.2.2⟩ ∧ 0 ≤ zval ⟨s.1, s.2.1, s.2.2.1⟩ ∧ 0 ≤ zval ⟨s.2.2.2.1, s.2.2.2.2.1, s.2.2.2.2.2⟩ ∧
        ZLt ⟨s.1, s.2.1, s.2.2.1⟩ K ∧ ZLt ⟨s.2.2.2.1, s.2.2.2.2.1, s.2.2.2.2.2⟩ K ∧ Int.gcd (zval ⟨s.1, s.2.1, s.2.2.1⟩) (zval ⟨s.2.2.2.1, s.2.2.2.2.1, s.2.2.2.2.2⟩) = Int.gcd (zval a) (zval b))
        (fun s : Int × List Int × Bool × Int × List Int × Bool => (zval ⟨s.2.2.2.1, s.2.2.2.2.1, s.2.2.2.2.2⟩).toNat) (a1, a2, a3, b1, b2, b3)
        (fun r => match r with
          | .inl s => ZOk ⟨s.1, s.2.1, s.2.2⟩ ∧ zval ⟨s.1, s.2.1, s.2.2⟩ = (Int.gcd (zval a) (zval b) : Int)
          | .inr z => ZOk z ∧ zval z = (Int.gcd (zval a) (zval b) : Int))) := by
      intro hne
      unfold numGcdJ1
      refine (zquo_gives p1 p2 hK p5 p6 hne).bind ?_
      rintro ⟨q, r⟩ ⟨q1, q2, q3, q4⟩
      simp only at q1 q2 q3 q4
      rw [gives_some, round_inl]
      rw [tmod_nn p3] at q4
      have m0 := Int.emod_nonneg (zval ⟨a1, a2, a3⟩) hne
      have m1 := Int.emod_lt_of_pos (zval ⟨a1, a2, a3⟩) (b := zval ⟨b1, b2, b3⟩) (by omega)
      refine ⟨⟨p2, q2, p4, by show 0 ≤ zval r; omega, p6, ?_, ?_⟩, by show (zval r).toNat < _; simp only; omega⟩
      · unfold ZLt at *
        show _ < zval r ∧ zval r < _
        omega
      · show Int.gcd (zval ⟨b1, b2, b3⟩) (zval r) = _
        rw [q4, ← p7, ← tmod_nn p3, gcd_step _ _ p3 p4]
    unfold numGcdL1
    refine (zsign_gives p2).bind ?_
    rintro s rfl
    simp only [gives_ite, gives_some, isEmpty_iff', Bool.not_eq_true', decide_eq_false_iff_not, gives_bind, round_inr]
    refine ⟨fun h => ?_, fun h => ?_⟩
    · have hne : zval ⟨b1, b2, b3⟩ ≠ 0 := fun e => h (by rw [e]; rfl)
      refine ⟨fun h2 => ⟨fun h3 => ?_, fun _ => J hne⟩, fun _ => J hne⟩
      subst h2 h3
      rw [zval_small] at p3 p4 p7
      rw [zval_small] at p7
      obtain ⟨r1, r2, _⟩ := p1.range rfl
      obtain ⟨r3, r4, _⟩ := p2.range rfl
      refine gives_iter (I := fun s : Int × Int => 0 ≤ s.1 ∧ s.1 < 9223372036854775808 ∧ 0 ≤ s.2 ∧ s.2 < 9223372036854775808 ∧ Int.gcd s.1 s.2 = Int.gcd (zval a) (zval b)) (μ := fun s : Int × Int => s.2.toNat) ⟨p3, r2, p4, r4, p7⟩ ?_
      rintro ⟨u, v⟩ ⟨g1, g2, g3, g4, g5⟩
      simp only at g1 g2 g3 g4 g5
      unfold numGcdL2
      simp only [gives_ite, gives_some, gives_need, Bool.not_eq_true', decide_eq_false_iff_not, round_inl, round_inr]
      refine ⟨fun hv => ?_, fun hv => ?_⟩
      · have m0 := Int.emod_nonneg u hv
        have m1 := Int.emod_lt_of_pos u (b := v) (by omega)
        have m2 := gcd_step u v g1 g3
        rw [tmod_nn g1] at m2 ⊢
        exact ⟨hv, ⟨g3, g4, m0, by omega, by rw [m2]; exact g5⟩, by omega⟩
      · have hv : v = 0 := by omega
        subst hv
        rw [Int.gcd_zero_right] at g5
        refine ⟨ZOk.small (by omega) (by omega), ?_⟩
        rw [zval_small, ← g5]; omega
    · have h0 : zval ⟨b1, b2, b3⟩ = 0 := by
        rw [Classical.not_not] at h
        exact Int.sign_eq_zero_iff_zero.1 h
      rw [h0, Int.gcd_zero_right] at p7
      exact ⟨p1, by rw [← p7]; omega⟩
  · rintro r hr
    cases r with
    | inl s => rw [gives_some]; exact hr
    | inr z => rw [gives_some]; exact hr
structure QRep (q : NumQ) (r : Rat) : Prop where
  okN : ZOk q.N
  okD : ZOk q.D
  num : zval q.N = r.num
  den : zval q.D = (r.den : Int)
def Sz (r : Rat) (k : Nat) : Prop := (r.num.natAbs : Int) < 4294967296 ^ k ∧ (r.den : Int) < 4294967296 ^ k
theorem over_gives {n d : NumZ} (hn : ZOk n) (hd : ZOk d) {K : Nat} (hK : K ≤ 1099511627776) (ln : ZLt n K) (ld : ZLt d K) (h0 : zval d ≠ 0) : Gives (numOver n d) fun q => QRep q (Rat.divInt (zval n) (zval d)) := by
  have J : ∀ {n d : NumZ}, ZOk n → ZOk d → ZLt n K → ZLt d K → 0 < zval d → Gives (numOverJ1 n.v n.m n.neg d.v d.m d.neg) fun q => QRep q (Rat.divInt (zval n) (zval d)) := by
    intro n d hn hd ln ld h0
    unfold numOverJ1
    refine (gcd_gives hn hd hK ln ld).bind ?_
    rintro g ⟨g1, g2⟩
    have g2 : zval g = (Int.gcd (zval n) (zval d) : Int) := g2
    have hgp : 0 < Int.gcd (zval n) (zval d) := Int.gcd_pos_of_ne_zero_right _ (by omega)
    have hdn := Int.gcd_dvd_left (zval n) (zval d)
    have hdd := Int.gcd_dvd_right (zval n) (zval d)
    have eN : (Rat.divInt (zval n) (zval d)).num = zval n / (Int.gcd (zval n) (zval d) : Int) := by
      rw [Rat.num_divInt, Int.sign_eq_one_of_pos h0, Int.one_mul, Int.gcd_comm]
    have eD : ((Rat.divInt (zval n) (zval d)).den : Int) = zval d / (Int.gcd (zval n) (zval d) : Int) := by
      rw [Rat.den_divInt, if_neg (by omega), Int.gcd_comm, Int.natCast_ediv, Int.natAbs_of_nonneg (by omega)]
    have J2 : Gives (numOverJ2 n.v n.m n.neg d.v d.m d.neg g) fun q => QRep q (Rat.divInt (zval n) (zval d)) := by
      unfold numOverJ2
      have hgd : (Int.gcd (zval n) (zval d) : Int) ≤ zval d := Int.le_of_dvd h0 hdd
      have lg : ZLt g K := by unfold ZLt at *; omega
      refine (zquo_gives hn g1 hK ln lg (by omega)).bind ?_
      rintro x ⟨x1, _, x2, _⟩
      refine (zquo_gives hd g1 hK ld lg (by omega)).bind ?_
      rintro y ⟨y1, _, y2, _⟩
      unfold numOverJ3
      rw [gives_some]
      refine ⟨x1, y1, ?_, ?_⟩
      · rw [eN, ← g2]
        show zval x.1 = _
        rw [x2]
        exact Int.tdiv_eq_ediv_of_dvd (by rw [g2]; exact hdn)
      · rw [eD, ← g2]
        show zval y.1 = _
        rw [y2]
        exact Int.tdiv_eq_ediv_of_dvd (by rw [g2]; exact hdd)
    simp only [gives_ite, isEmpty_iff', Bool.not_eq_true', decide_eq_false_iff_not]
    refine ⟨fun _ => J2, fun he => ⟨fun _ => J2, fun h1 => ?_⟩⟩
    have hm : g.m = [] := by cases hg : g.m <;> simp_all
    have h1 : g.v = 1 := by omega
    have h1' : zval g = 1 := by rw [zval, if_pos hm, h1]
    unfold numOverJ3
    rw [gives_some]
    refine ⟨hn, hd, ?_, ?_⟩
    · rw [eN, ← g2, h1', Int.ediv_one]
    · rw [eD, ← g2, h1', Int.ediv_one]
  unfold numOver
  refine (zsign_gives hd).bind ?_
  rintro s rfl
  simp only [gives_ite, decide_eq_true_eq]
  refine ⟨fun h => ?_, fun h => ?_⟩
  · have hneg := Int.sign_neg_iff.1 h
    refine (zneg_gives hn hK ln).bind ?_
    rintro x ⟨x1, x2⟩
    refine (zneg_gives hd hK ld).bind ?_
    rintro y ⟨y1, y2⟩
    have := J x1 y1 (ln.neg x2) (ld.neg y2) (by omega)
    rw [x2, y2, Rat.neg_divInt_neg] at this
    exact this
  · have : ¬ zval d < 0 := fun hc => h (Int.sign_neg_iff.2 hc)
    exact J hn hd ln ld (by omega)
theorem Sz.pos {r : Rat} {k : Nat} (h : Sz r k) : -(4294967296 ^ k) < r.num ∧ r.num < 4294967296 ^ k ∧ 0 < (r.den : Int) ∧ (r.den : Int) < 4294967296 ^ k := by
  have := r.den_pos
  unfold Sz at h
  omega
theorem Sz.mono {r : Rat} {k m : Nat} (h : Sz r k) (hk : k ≤ m) : Sz r m := by
  have := pow_mono' hk
  unfold Sz at *; omega
theorem QRep.ltN {q : NumQ} {r : Rat} {k : Nat} (h : QRep q r) (s : Sz r k) : ZLt q.N k := by have := s.pos; unfold ZLt; rw [h.num]; omega
theorem QRep.ltD {q : NumQ} {r : Rat} {k : Nat} (h : QRep q r) (s : Sz r k) : ZLt q.D k := by have := s.pos; unfold ZLt; rw [h.den]; omega
theorem ZLt.mono {z : NumZ} {k m : Nat} (h : ZLt z k) (hk : k ≤ m) : ZLt z m := by have := pow_mono' hk; unfold ZLt at *; omega
theorem mul_lt_pow {x y : Int} {k m : Nat} (h1 : -(4294967296 ^ k) < x) (h2 : x < 4294967296 ^ k) (h3 : -(4294967296 ^ m) < y) (h4 : y < 4294967296 ^ m) : -(4294967296 ^ (k + m)) < x * y ∧ x * y < 4294967296 ^ (k + m) := by
  have hk := pow_pos' k
  have hm := pow_pos' m
  rw [Int.pow_add]
  generalize (4294967296 : Int) ^ k = A at *
  generalize (4294967296 : Int) ^ m = B at *
  have e : ∀ u v : Int, 0 ≤ u → u < A → 0 ≤ v → v < B → 0 ≤ u * v ∧ u * v < A * B := by
    intro u v u0 u1 v0 v1
    refine ⟨Int.mul_nonneg u0 v0, ?_⟩
    have a1 : u * v ≤ u * B := Int.mul_le_mul_of_nonneg_left (by omega) u0
    have a2 : u * B < A * B := Int.mul_lt_mul_of_pos_right u1 hm
    omega
  rcases Int.le_total 0 x with hx | hx <;> rcases Int.le_total 0 y with hy | hy
  · have := e x y hx h2 hy h4; omega
  · have := e x (-y) hx h2 (by omega) (by omega); rw [Int.mul_neg] at this; omega
  · have := e (-x) y (by omega) (by omega) hy h4; rw [Int.neg_mul] at this; omega
  · have := e (-x) (-y) (by omega) (by omega) (by omega) (by omega); rw [Int.neg_mul_neg] at this; omega
theorem divInt_sz {a b : Int} {k : Nat} (h0 : b ≠ 0) (ha : -(4294967296 ^ k) < a ∧ a < 4294967296 ^ k) (hb : -(4294967296 ^ k) < b ∧ b < 4294967296 ^ k) : Sz (Rat.divInt a b) k := by
  have hgp : 0 < Int.gcd b a := Int.gcd_pos_of_ne_zero_left _ h0
  refine ⟨?_, ?_⟩
  · rw [Rat.num_divInt]
    have h1 : (b.sign * a / (Int.gcd b a : Int)).natAbs ≤ (b.sign * a).natAbs := by
      have := Int.natAbs_ediv_le_natAbs (b.sign * a) (Int.gcd b a : Int); exact this
    have h2 : (b.sign * a).natAbs = a.natAbs := by rw [Int.natAbs_mul, Int.natAbs_sign_of_ne_zero h0, Nat.one_mul]
    omega
  · rw [Rat.den_divInt, if_neg h0]
    have := Nat.div_le_self b.natAbs (Int.gcd b a)
    omega
theorem add_divInt (x y : Rat) : x + y = Rat.divInt (x.num * y.den + y.num * x.den) ((x.den : Int) * y.den) := by
  rw [Rat.add_def', ← Rat.divInt_ofNat]; simp
theorem mul_divInt (x y : Rat) : x * y = Rat.divInt (x.num * y.num) ((x.den : Int) * y.den) := by
  rw [Rat.mul_def', ← Rat.divInt_ofNat]; simp
theorem div_divInt (x y : Rat) : x / y = Rat.divInt (x.num * y.den) ((x.den : Int) * y.num) := by
  rw [Rat.div_def, Rat.inv_def, ← Rat.divInt_mul_divInt x.num (y.den : Int), Rat.num_divInt_den]
theorem den_ne (x y : Rat) : (x.den : Int) * y.den ≠ 0 := by
  have := x.den_pos; have := y.den_pos
  exact Int.ne_of_gt (Int.mul_pos (by omega) (by omega))
theorem Sz.neg {x : Rat} {k : Nat} (h : Sz x k) : Sz (-x) k := by unfold Sz at *; rw [Rat.neg_num, Rat.neg_den]; omega
theorem addNum_lt {x y : Rat} {k m : Nat} (h1 : Sz x k) (h2 : Sz y m) : -(4294967296 ^ (k + m + 1)) < x.num * y.den + y.num * x.den ∧ x.num * y.den + y.num * x.den < 4294967296 ^ (k + m + 1) := by
  obtain ⟨a1, a2, a3, a4⟩ := h1.pos
  obtain ⟨b1, b2, b3, b4⟩ := h2.pos
  have p1 := mul_lt_pow a1 a2 (y := (y.den : Int)) (m := m) (by omega) b4
  have p2 := mul_lt_pow b1 b2 (y := (x.den : Int)) (m := k) (by omega) a4
  rw [Nat.add_comm m k] at p2
  rw [Int.pow_succ]
  have := pow_pos' (k + m)
  omega
theorem denMul_lt {x y : Rat} {k m : Nat} (h1 : Sz x k) (h2 : Sz y m) : -(4294967296 ^ (k + m)) < (x.den : Int) * y.den ∧ (x.den : Int) * y.den < 4294967296 ^ (k + m) := by
  obtain ⟨a1, a2, a3, a4⟩ := h1.pos
  obtain ⟨b1, b2, b3, b4⟩ := h2.pos
  exact mul_lt_pow (by omega) a4 (by omega) b4
theorem Sz.add {x y : Rat} {k m : Nat} (h1 : Sz x k) (h2 : Sz y m) : Sz (x + y) (k + m + 1) := by
  rw [add_divInt]
  refine divInt_sz (den_ne x y) (addNum_lt h1 h2) ?_
  have := denMul_lt h1 h2
  have := pow_mono' (show k + m ≤ k + m + 1 by omega)
  omega
theorem Sz.sub {x y : Rat} {k m : Nat} (h1 : Sz x k) (h2 : Sz y m) : Sz (x - y) (k + m + 1) := by rw [Rat.sub_eq_add_neg]; exact h1.add h2.neg
theorem Sz.mul {x y : Rat} {k m : Nat} (h1 : Sz x k) (h2 : Sz y m) : Sz (x * y) (k + m) := by
  rw [mul_divInt]
  obtain ⟨a1, a2, a3, a4⟩ := h1.pos
  obtain ⟨b1, b2, b3, b4⟩ := h2.pos
  exact divInt_sz (den_ne x y) (mul_lt_pow a1 a2 b1 b2) (denMul_lt h1 h2)
theorem Sz.div {x y : Rat} {k m : Nat} (h1 : Sz x k) (h2 : Sz y m) (h0 : y ≠ 0) : Sz (x / y) (k + m) := by
  rw [div_divInt]
  obtain ⟨a1, a2, a3, a4⟩ := h1.pos
  obtain ⟨b1, b2, b3, b4⟩ := h2.pos
  exact divInt_sz (fun h => by
    rcases Int.mul_eq_zero.1 h with h | h
    · omega
    · exact h0 (Rat.num_eq_zero.1 h)) (mul_lt_pow a1 a2 (by omega) b4) (mul_lt_pow (by omega) a4 b1 b2)
theorem isInt_gives {q : NumQ} {r : Rat} (h : QRep q r) {k : Nat} (s : Sz r k) (hk : k ≤ 1099511627776) : Gives (numQIsInt q) fun b => b = true ↔ r.den = 1 := by
  unfold numQIsInt numI
  simp only [gives_bind, gives_some]
  have one : ZOk ⟨1, [], false⟩ := ZOk.small (by omega) (by omega)
  have hk1 : ZLt ⟨1, [], false⟩ (k + 1) := by unfold ZLt; rw [zval_small, Int.pow_succ]; have := pow_pos' k; omega
  by_cases hk0 : k + 1 ≤ 1099511627776
  · refine (zcmp_gives h.okD one hk0 ((h.ltD s).mono (by omega)) hk1).mono ?_
    rintro c rfl
    rw [zval_small, h.den, decide_eq_true_eq, Int.sign_eq_zero_iff_zero]
    omega
  · have hk2 : k = 1099511627776 := by omega
    have hk1 : ZLt ⟨1, [], false⟩ k := by
      unfold ZLt; rw [zval_small]
      have := pow_mono' (show 1 ≤ k by omega)
      omega
    refine (zcmp_gives h.okD one hk (h.ltD s) hk1).mono ?_
    rintro c rfl
    rw [zval_small, h.den, decide_eq_true_eq, Int.sign_eq_zero_iff_zero]
    omega
theorem qadd_gives {a b : NumQ} {x y : Rat} (ha : QRep a x) (hb : QRep b y) {k m : Nat} (sx : Sz x k) (sy : Sz y m) (hkm : k + m + 1 ≤ 1099511627776) : Gives (numQAdd a b) fun c => QRep c (x + y) := by
  have lxN := ha.ltN sx; have lxD := ha.ltD sx; have lyN := hb.ltN sy; have lyD := hb.ltD sy
  have J : Gives (numQAddJ1 a b) fun c => QRep c (x + y) := by
    unfold numQAddJ1
    refine (zmul_gives ha.okN hb.okD (K := k + m) (by omega) (lxN.mono (by omega)) (lyD.mono (by omega))).bind ?_
    rintro p ⟨p1, p2⟩
    refine (zmul_gives hb.okN ha.okD (K := k + m) (by omega) (lyN.mono (by omega)) (lxD.mono (by omega))).bind ?_
    rintro q ⟨q1, q2⟩
    rw [ha.num, hb.den] at p2
    rw [hb.num, ha.den] at q2
    obtain ⟨a1, a2, a3, a4⟩ := sx.pos
    obtain ⟨b1, b2, b3, b4⟩ := sy.pos
    have lp : ZLt p (k + m) := by unfold ZLt; rw [p2]; exact mul_lt_pow a1 a2 (by omega) b4
    have lq : ZLt q (k + m) := by unfold ZLt; rw [q2, Nat.add_comm k m]; exact mul_lt_pow b1 b2 (by omega) a4
    refine (zadd_gives p1 q1 (by omega) lp lq).bind ?_
    rintro s ⟨s1, s2⟩
    refine (zmul_gives ha.okD hb.okD (K := k + m) (by omega) (lxD.mono (by omega)) (lyD.mono (by omega))).bind ?_
    rintro d ⟨d1, d2⟩
    rw [ha.den, hb.den] at d2
    rw [p2, q2] at s2
    have ls : ZLt s (k + m + 1) := by unfold ZLt; rw [s2]; exact addNum_lt sx sy
    have ld : ZLt d (k + m) := by unfold ZLt; rw [d2]; exact denMul_lt sx sy
    refine (over_gives s1 d1 hkm ls (ld.mono (by omega)) (by rw [d2]; exact den_ne x y)).bind ?_
    rintro c hc
    rw [gives_some, add_divInt, ← s2, ← d2]
    exact hc
  unfold numQAdd
  refine (isInt_gives ha sx (by omega)).bind ?_
  rintro b1 hb1
  rw [gives_ite]
  refine ⟨fun h1 => ?_, fun _ => J⟩
  refine (isInt_gives hb sy (by omega)).bind ?_
  rintro b2 hb2
  rw [gives_ite]
  refine ⟨fun h2 => ?_, fun _ => J⟩
  refine (zadd_gives ha.okN hb.okN (K := k + m) (by omega) (lxN.mono (by omega)) (lyN.mono (by omega))).bind ?_
  rintro s ⟨s1, s2⟩
  rw [gives_some]
  have e1 := hb1.1 h1
  have e2 := hb2.1 h2
  have es : x + y = Rat.divInt (x.num + y.num) 1 := by rw [add_divInt, e1, e2]; simp
  have en : (x + y).num = x.num + y.num := by rw [es, Rat.num_divInt]; simp
  have ed : (x + y).den = 1 := by rw [es, Rat.den_divInt]; simp
  exact ⟨s1, ha.okD, by rw [en, ← ha.num, ← hb.num]; exact s2, by rw [ed]; show zval a.D = _; rw [ha.den, e1]⟩
theorem qneg_gives {a : NumQ} {x : Rat} (ha : QRep a x) {k : Nat} (sx : Sz x k) (hk : k ≤ 1099511627776) : Gives (numQNeg a) fun c => QRep c (-x) := by
  unfold numQNeg
  refine (zneg_gives ha.okN hk (ha.ltN sx)).bind ?_
  rintro z ⟨z1, z2⟩
  rw [gives_some]
  exact ⟨z1, ha.okD, by rw [Rat.neg_num, ← ha.num]; exact z2, by rw [Rat.neg_den]; exact ha.den⟩
theorem qsub_gives {a b : NumQ} {x y : Rat} (ha : QRep a x) (hb : QRep b y) {k m : Nat} (sx : Sz x k) (sy : Sz y m) (hkm : k + m + 1 ≤ 1099511627776) : Gives (numQSub a b) fun c => QRep c (x - y) := by
  unfold numQSub
  refine (qneg_gives hb sy (by omega)).bind ?_
  rintro n hn
  refine (qadd_gives ha hn sx sy.neg hkm).bind ?_
  rintro c hc
  rw [gives_some, Rat.sub_eq_add_neg]
  exact hc
theorem qmul_gives {a b : NumQ} {x y : Rat} (ha : QRep a x) (hb : QRep b y) {k m : Nat} (sx : Sz x k) (sy : Sz y m) (hkm : k + m + 1 ≤ 1099511627776) : Gives (numQMul a b) fun c => QRep c (x * y) := by
  have lxN := ha.ltN sx; have lxD := ha.ltD sx; have lyN := hb.ltN sy; have lyD := hb.ltD sy
  obtain ⟨a1, a2, a3, a4⟩ := sx.pos
  obtain ⟨b1, b2, b3, b4⟩ := sy.pos
  have N := zmul_gives ha.okN hb.okN (K := k + m) (by omega) (lxN.mono (by omega)) (lyN.mono (by omega))
  have D := zmul_gives ha.okD hb.okD (K := k + m) (by omega) (lxD.mono (by omega)) (lyD.mono (by omega))
  have J : Gives (Option.bind (numZMul a.N b.N) fun p => Option.bind (numZMul a.D b.D) fun d => Option.bind (numOver p d) fun c => some c) fun c => QRep c (x * y) := by
    refine N.bind ?_
    rintro p ⟨p1, p2⟩
    refine D.bind ?_
    rintro d ⟨d1, d2⟩
    rw [ha.num, hb.num] at p2
    rw [ha.den, hb.den] at d2
    have lp : ZLt p (k + m) := by unfold ZLt; rw [p2]; exact mul_lt_pow a1 a2 b1 b2
    have ld : ZLt d (k + m) := by unfold ZLt; rw [d2]; exact denMul_lt sx sy
    refine (over_gives p1 d1 (by omega) lp ld (by rw [d2]; exact den_ne x y)).bind ?_
    rintro c hc
    rw [gives_some, mul_divInt, ← p2, ← d2]
    exact hc
  unfold numQMul
  refine (isInt_gives ha sx (by omega)).bind ?_
  rintro b1 hb1
  rw [gives_ite]
  refine ⟨fun h1 => ?_, fun _ => J⟩
  refine (isInt_gives hb sy (by omega)).bind ?_
  rintro b2 hb2
  rw [gives_ite]
  refine ⟨fun h2 => ?_, fun _ => J⟩
  refine N.bind ?_
  rintro s ⟨s1, s2⟩
  rw [gives_some]
  have e1 := hb1.1 h1
  have e2 := hb2.1 h2
  have es : x * y = Rat.divInt (x.num * y.num) 1 := by rw [mul_divInt, e1, e2]; simp
  have en : (x * y).num = x.num * y.num := by rw [es, Rat.num_divInt]; simp
  have ed : (x * y).den = 1 := by rw [es, Rat.den_divInt]; simp
  exact ⟨s1, ha.okD, by rw [en, ← ha.num, ← hb.num]; exact s2, by rw [ed]; show zval a.D = _; rw [ha.den, e1]⟩
theorem qdiv_gives {a b : NumQ} {x y : Rat} (ha : QRep a x) (hb : QRep b y) {k m : Nat} (sx : Sz x k) (sy : Sz y m) (hkm : k + m + 1 ≤ 1099511627776) (h0 : y ≠ 0) : Gives (numQDiv a b) fun c => QRep c (x / y) := by
  have lxN := ha.ltN sx; have lxD := ha.ltD sx; have lyN := hb.ltN sy; have lyD := hb.ltD sy
  obtain ⟨a1, a2, a3, a4⟩ := sx.pos
  obtain ⟨b1, b2, b3, b4⟩ := sy.pos
  unfold numQDiv
  refine (zmul_gives ha.okN hb.okD (K := k + m) (by omega) (lxN.mono (by omega)) (lyD.mono (by omega))).bind ?_
  rintro p ⟨p1, p2⟩
  refine (zmul_gives ha.okD hb.okN (K := k + m) (by omega) (lxD.mono (by omega)) (lyN.mono (by omega))).bind ?_
  rintro d ⟨d1, d2⟩
  rw [ha.num, hb.den] at p2
  rw [ha.den, hb.num] at d2
  have lp : ZLt p (k + m) := by unfold ZLt; rw [p2]; exact mul_lt_pow a1 a2 (by omega) b4
  have ld : ZLt d (k + m) := by unfold ZLt; rw [d2]; exact mul_lt_pow (by omega) a4 b1 b2
  refine (over_gives p1 d1 (by omega) lp ld (by
    rw [d2]; intro h
    rcases Int.mul_eq_zero.1 h with h | h
    · omega
    · exact h0 (Rat.num_eq_zero.1 h))).bind ?_
  rintro c hc
  rw [gives_some, div_divInt, ← p2, ← d2]
  exact hc
theorem qzero_gives {a : NumQ} {x : Rat} (ha : QRep a x) : Gives (numQIsZero a) fun b => b = true ↔ x = 0 := by
  unfold numQIsZero
  refine (zsign_gives ha.okN).bind ?_
  rintro s rfl
  rw [gives_some, ha.num, decide_eq_true_eq, Int.sign_eq_zero_iff_zero, Rat.num_eq_zero]
theorem qint_gives {n : Int} (h1 : -9223372036854775808 ≤ n) (h2 : n < 9223372036854775808) : Gives (numInt n) fun q => QRep q (n : Rat) := by
  unfold numInt numI
  simp only [gives_bind, gives_some]
  exact ⟨ZOk.small h1 h2, ZOk.small (by omega) (by omega), zval_small _ _, zval_small _ _⟩
end Go.Ab
