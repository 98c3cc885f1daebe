/- Long division in package isoclineref01, and its fractions. The fractions of package isoclineref01. Sums and determinants of fractions. Conditions: none beyond those that each theorem names. -/
import Derived.Test.YtjdgmcngpiookaaGreatS21
import Derived.Test.YtjdgmcngpiookaaGreatS18
namespace Go.Ab
open Go
set_option linter.unusedVariables false
set_option linter.unusedSimpArgs false
theorem sm3 {s : Nat} (hs : s <= 32) : min s (IntKind.bits .u64) = s := by simp only [IntKind.bits]; omega
theorem Bgb {s : Nat} (hs : s <= 31) {c x : Int} (h0 : 0 <= c) (h1 : c < 2 ^ s) :
   IntKind.wrap .u32 ((((BitVec.ofInt (IntKind.bits .u32) c ||| BitVec.ofInt (IntKind.bits .u32) ((x * 2 ^ s) % 4294967296)).toNat : Nat) : Int)) = (x * 2 ^ s) % 4294967296 + c := by
 obtain ⟨a1, a2⟩ := Oq hs x
 rw [BitVec.or_comm]
 have := O8 (n := IntKind.bits .u32) (k := s) (a := (x * 2 ^ s) % 4294967296) (b := c) a1 h0 h1 (by show _ < (2 : Int) ^ 32; omega) (by rw [Ab2 hs]; exact Int.mul_emod_right _ _)
 rw [this, w32]
 omega
theorem Ae1 {s : Nat} (hs : s <= 31) : (2 : Int) ^ s <= 2147483648 := by
 rcases Nat.lt_or_eq_of_le hs with h | h
 · have := Int.pow_lt_pow_of_lt (a := 2) (by decide) h
   have e : (2 : Int) ^ 31 = 2147483648 := by decide
   omega
 · subst h; decide
theorem R3 {a : List Int} (ha : WW a) {s : Nat} (hs : s <= 31) (la : a.length <= 1099511627776) :
   Ar (C2 a (s : Int)) λ r => WW r /\ r.length = a.length + 1 /\ val r = val a * 2 ^ s := by
 unfold C2
 simp only [Ah]
 rw [Bg (by omega) (by omega)]
 have e1 : ((a.length : Int) + 1).toNat = a.length + 1 := by omega
 rw [e1]
 refine ⟨by omega, by omega, by unfold Ap; omega, ?_⟩
 rw [At]
 have carry : ∀ n : Nat, 0 <= (if n = 0 then 0 else a.getD (n - 1) 0 * 2 ^ s / 4294967296) /\ (if n = 0 then 0 else a.getD (n - 1) 0 * 2 ^ s / 4294967296) < 2 ^ s := by
   intro n
   split
   · exact ⟨Int.le_refl _, Jq s⟩
   · exact Ab7 hs (ha (n - 1)).1 (ha (n - 1)).2
 refine (As (I := λ t : Int × List Int => ∃ n : Nat, t.1 = (n : Int) /\ n <= a.length /\ WW t.2 /\ t.2.length = a.length + 1 /\ t.2.getD n 0 = (if n = 0 then 0 else a.getD (n - 1) 0 * 2 ^ s / 4294967296) /\ ∀ j, j < n -> t.2.getD j 0 = sd (λ i => a.getD i 0) s j)
   (μ := λ t : Int × List Int => a.length - t.1.toNat) (Q := λ r => WW r /\ r.length = a.length + 1 /\ ∀ j, j < a.length + 1 -> r.getD j 0 = sd (λ i => a.getD i 0) s j) ⟨0, rfl, by omega, WW.replicate _, by simp, by rw [Cq]; simp, λ j hj => by omega⟩ ?_).mono ?_
 · rintro ⟨i, w⟩ ⟨n, h1, h2, h4, h5, h7, h6⟩
   simp only at h1 h4 h5 h6 h7
   subst h1
   have han := ha n
   have hP := Jq s
   have hP31 := Ae1 hs
   have hsw := Ab3 hs (f := λ i => a.getD i 0) ha n
   unfold Fu
   simp only [Ai, Ah, Ae, decide_eq_true_eq, Av, Aw, Af, Int.toNat_natCast, List.length_set, sm3 (show s <= 32 by omega), V9]
   rw [Bg (by omega) (by omega), Bi (x := a.getD n 0) (by omega) (by omega)]
   have m0 : 0 <= a.getD n 0 * 2 ^ s := Int.mul_nonneg han.1 (by omega)
   have m1 : a.getD n 0 * 2 ^ s <= 4294967296 * 2147483648 := Int.mul_le_mul (by omega) hP31 (by omega) (by decide)
   rw [Bi m0 (by omega), h7, w32 (a.getD n 0 * 2 ^ s), Bgb hs (carry n).1 (carry n).2]
   have e2 : ((n : Int) + 1).toNat = n + 1 := by omega
   have eS : a.getD n 0 * 2 ^ s % 4294967296 + (if n = 0 then 0 else a.getD (n - 1) 0 * 2 ^ s / 4294967296) = sd (λ i => a.getD i 0) s n := rfl
   rw [e2, eS]
   have hd : IntKind.wrap .u32 (a.getD n 0 * 2 ^ s / 4294967296) = a.getD n 0 * 2 ^ s / 4294967296 := by rw [w32]; omega
   rw [hd]
   refine ⟨λ hn => ⟨by omega, by omega, by omega, by omega, by decide, by omega, ⟨n + 1, by simp, by omega, (h4.set hsw.1 hsw.2).set (by omega) (by omega), by simp [h5], ?_, λ j hj => ?_⟩, by omega⟩, λ hn => ?_⟩
   · rw [getD_set, if_pos ⟨rfl, by simp; omega⟩, if_neg (by omega)]; rfl
   · rw [getD_set, if_neg (by omega), getD_set]
     split
     · rename_i h; rw [h.1]
     · exact h6 j (by omega)
   · have : n = a.length := by omega
     subst this
     refine ⟨h4, h5, λ j hj => ?_⟩
     by_cases hj2 : j = a.length
     · subst hj2
       have : a.getD a.length 0 = 0 := by rw [List.getD_eq_getElem?_getD, List.getElem?_eq_none (by omega)]; rfl
       rw [h7, <- eS, this]; simp
     · exact h6 j (by omega)
 · rintro r ⟨r1, r2, r3⟩
   rw [Ae]
   refine ⟨r1, r2, ?_⟩
   have h1 := Ali (λ i => a.getD i 0) s (a.length + 1)
   have h0 : a.getD a.length 0 = 0 := by rw [List.getD_eq_getElem?_getD, List.getElem?_eq_none (by omega)]; rfl
   rw [if_neg (by omega), Nat.add_sub_cancel, h0] at h1
   have h2 : vl (sd (λ i => a.getD i 0) s) (a.length + 1) = val r := by
     unfold val; rw [r2]; exact Fs λ j hj => (r3 j hj).symm
   have h3 : vl (λ i => a.getD i 0) (a.length + 1) = val a := Ik (by omega)
   rw [h2, h3] at h1
   simp only [Int.zero_mul] at h1
   omega
theorem Ace {a b : List Int} (ha : WW a) (hb : WW b) (la : a.length <= 1099511627776) (lb : b.length = 1) (hb0 : 0 < b.getD 0 0) :
   Ar (Bj (λ v : (Int × Int × (List Int)) => E7 a b v.1 v.2.1 v.2.2) ((0 : Int), (a.length : Int) - 1, List.replicate a.length (0 : Int)))
     λ r => WW r.2 /\ r.2.length = a.length /\ 0 <= r.1 /\ r.1 < b.getD 0 0 /\ val a = val r.2 * b.getD 0 0 + r.1 := by
 have e : (λ v : (Int × Int × (List Int)) => E7 a b v.1 v.2.1 v.2.2) = (λ v : (Int × Int × (List Int)) => Hr a b v.1 v.2.1 v.2.2) := by
   funext v; rfl
 rw [e]
 exact Yh ha hb la lb hb0
theorem Aca {x : List Int} (hx : WW x) {s : Nat} (hs : s <= 31) (r2 : List Int × List Int) (hb : x.length <= 1099511627777) :
   Ar (Bj (λ v : (Int × (List Int)) => Fc r2 (s : Int) v.1 v.2) ((0 : Int), x))
     λ r => WW r /\ r.length = x.length /\ ∀ j, j < x.length -> r.getD j 0 = rd (λ i => x.getD i 0) s j := by
 refine As (I := λ t : Int × List Int => ∃ n : Nat, t.1 = (n : Int) /\ n <= x.length /\ WW t.2 /\ t.2.length = x.length /\ (∀ j, n <= j -> t.2.getD j 0 = x.getD j 0) /\ ∀ j, j < n -> t.2.getD j 0 = rd (λ i => x.getD i 0) s j)
   (μ := λ t : Int × List Int => x.length - t.1.toNat) ⟨0, rfl, by omega, hx, rfl, λ j _ => rfl, λ j hj => by omega⟩ ?_
 rintro ⟨i, w⟩ ⟨n, h1, h2, h4, h5, h7, h6⟩
 simp only at h1 h4 h5 h6 h7
 subst h1
 have e0 : IntKind.wrap .u64 (s : Int) = (s : Int) := by rw [w64]; omega
 have fin : ∀ y : Int, n < x.length -> y = rd (λ i => x.getD i 0) s n ->
     Ar (Dq (n : Int) (w.set n y) r2 (s : Int)) (Id (λ t : Int × List Int => ∃ n : Nat, t.1 = (n : Int) /\ n <= x.length /\ WW t.2 /\ t.2.length = x.length /\ (∀ j, n <= j -> t.2.getD j 0 = x.getD j 0) /\ ∀ j, j < n -> t.2.getD j 0 = rd (λ i => x.getD i 0) s j)
       (λ t : Int × List Int => x.length - t.1.toNat) ((n : Int), w) (λ r => WW r /\ r.length = x.length /\ ∀ j, j < x.length -> r.getD j 0 = rd (λ i => x.getD i 0) s j)) := by
   rintro y hn rfl
   obtain ⟨k1, k2⟩ := Al3 hs (f := λ i => x.getD i 0) hx n
   unfold Dq
   rw [Ae, Av, Bg (by omega) (by omega)]
   refine ⟨⟨n + 1, by simp, by omega, h4.set k1 k2, by simp [h5], λ j hj => by rw [getD_set, if_neg (by omega)]; exact h7 j (by omega), λ j hj => ?_⟩, by simp; omega⟩
   rw [getD_set]
   split
   · rename_i h; rw [h.1]
   · exact h6 j (by omega)
 have hun := hx n
 have hu1 := hx (n + 1)
 have hp := Jq s
 have e32 : min (IntKind.wrap .u64 ((32 : Int) - (s : Int))).toNat (IntKind.bits .u64) = 32 - s := by rw [w64]; simp only [IntKind.bits]; omega
 unfold Fc
 simp only [Ai, Ah, Ae, decide_eq_true_eq, Aw, Af, List.length_set, Int.toNat_natCast, e0, sm1 hs, e32]
 rw [Bg (by omega) (by omega)]
 have en : ((n : Int) + 1).toNat = n + 1 := by omega
 rw [en, h7 n (by omega)]
 refine ⟨λ hn => ⟨by omega, by omega, by omega, λ hlt => ?_, λ hge => ?_⟩, λ hn => ?_⟩
 · have eg : (w.set n (Int.fdiv (x.getD n 0) (2 ^ s))).getD n 0 = Int.fdiv (x.getD n 0) (2 ^ s) := by rw [getD_set, if_pos ⟨rfl, by omega⟩]
   have eg2 : (w.set n (Int.fdiv (x.getD n 0) (2 ^ s))).getD (n + 1) 0 = x.getD (n + 1) 0 := by rw [getD_set, if_neg (by omega)]; exact h7 _ (by omega)
   have hq := Jq (32 - s)
   have hq32 : (2 : Int) ^ (32 - s) <= 4294967296 := by have := pq hs; have : 1 * (2 : Int) ^ (32 - s) <= 2 ^ s * 2 ^ (32 - s) := Int.mul_le_mul_of_nonneg_right (by omega) (by omega); omega
   have m0 : 0 <= x.getD (n + 1) 0 * 2 ^ (32 - s) := Int.mul_nonneg hu1.1 (by omega)
   have m1 : x.getD (n + 1) 0 * 2 ^ (32 - s) <= 4294967295 * 4294967296 := Int.mul_le_mul (by omega) hq32 (by omega) (by decide)
   have em : IntKind.wrap .u32 (IntKind.wrap .u64 (IntKind.wrap .u64 (x.getD (n + 1) 0) * 2 ^ (32 - s))) = x.getD (n + 1) 0 * 2 ^ (32 - s) % 4294967296 := by
     rw [Bi (x := x.getD (n + 1) 0) (by omega) (by omega), Bi m0 (by omega), w32]
   rw [eg, eg2, em, A5g hs hun.1 hun.2, List.set_set]
   exact ⟨by omega, by omega, by rw [w64]; omega, by omega, fin _ (by omega) rfl⟩
 · refine fin _ (by omega) ?_
   unfold rd
   have h0 : x.getD (n + 1) 0 = 0 := by rw [List.getD_eq_getElem?_getD, List.getElem?_eq_none (by omega)]; rfl
   rw [Int.fdiv_eq_ediv_of_nonneg _ (by omega)]
   show x.getD n 0 / 2 ^ s = x.getD n 0 / 2 ^ s + x.getD (n + 1) 0 * 2 ^ (32 - s) % 4294967296
   rw [h0]
   simp
 · have : n = x.length := by omega
   subst this
   exact ⟨h4, h5, h6⟩
theorem Q0 {a b : List Int} (ha : WW a) (hb : WW b) (ta : Top a) (tb : Top b) (hne : b ≠ []) (la : a.length <= 1099511627776) (lb : b.length <= 1099511627776) :
   Ar (C1 a b) λ r => WW r.1 /\ Top r.1 /\ WW r.2 /\ Top r.2 /\ val a = val r.1 * val b + val r.2 /\ val r.2 < val b := by
 have hbv := Ni hb tb hne
 have hb0 : 0 < val b := by have := Bw (b.length - 1); omega
 have hlb : 0 < b.length := List.length_pos_iff.2 hne
 have hav := ha.val
 unfold C1
 refine (Vr ha hb ta tb (by omega) (by omega)).bind ?_
 rintro c rfl
 simp only [Ai, decide_eq_true_eq, Ah, Ae, At]
 refine ⟨λ hlt => ⟨WW.nil, λ h => (h rfl).elim, ha, ta, by rw [G3]; omega, ?_⟩, λ hge => ⟨λ h1 => ?_, λ h1 => ?_⟩⟩
 · have := Int.sign_neg_iff.1 hlt; omega
 · have h1 : b.length = 1 := by omega
   have eb : val b = b.getD 0 0 := by unfold val; rw [h1]; simp [vl]
   rw [Bg (by omega) (by omega)]
   refine ⟨by omega, by omega, by unfold Ap; omega, ?_⟩
   have el : ((a.length : Int)).toNat = a.length := by omega
   rw [el]
   refine (Ace ha hb la h1 (by omega)).mono ?_
   rintro ⟨c, q⟩ ⟨q1, q2, q3, q4, q5⟩
   simp only at q1 q2 q3 q4 q5
   have hb1 := hb 0
   refine (Gs q1 (by omega)).mono ?_
   rintro y ⟨y1, y2, y3, _⟩
   rw [w32, show c % 4294967296 = c by omega]
   have hc : WW [c] := λ i => by
     cases i <;> simp
     omega
   refine (Gs hc (by simp)).mono ?_
   rintro z ⟨z1, z2, z3, _⟩
   rw [Kk] at z3
   exact ⟨y1, y2, z1, z2, by show val a = val y * val b + val z; rw [y3, z3, eb]; exact q5, by show val z < _; omega⟩
 · have hge : val b <= val a := by
     have : ¬ val a - val b < 0 := λ hc => hge (Int.sign_neg_iff.2 hc)
     omega
   have hlen : b.length <= a.length := by
     rcases Nat.lt_or_ge a.length b.length with hc | hc
     · have := B9 ha hb tb hc; omega
     · exact hc
   obtain ⟨t, ht⟩ : ∃ t, b.length = t + 2 := ⟨b.length - 2, by omega⟩
   have etop : b.getD (t + 1) 0 = b.getD (b.length - 1) 0 := by congr 1; omega
   have htop : 0 < b.getD (t + 1) 0 := by
     have h1 := tb hne
     have h2 := hb (t + 1)
     rw [<- etop] at h1
     omega
   rw [Bg (x := (b.length : Int) - 1) (by omega) (by omega)]
   have e1 : ((b.length : Int) - 1).toNat = t + 1 := by omega
   rw [e1]
   refine ⟨⟨by omega, by omega⟩, ?_⟩
   refine (Aek htop (hb (t + 1)).2).mono ?_
   rintro y2 ⟨s, rfl, hs, s1, s2⟩
   have e0 : IntKind.wrap .u64 (s : Int) = (s : Int) := by rw [w64]; omega
   rw [e0]
   refine (R3 ha hs la).mono ?_
   rintro u ⟨u1, u2, eA⟩
   refine (R3 hb hs lb).mono ?_
   rintro v0 ⟨v01, v02, eV0⟩
   refine (Gs v01 (by omega)).mono ?_
   rintro v ⟨v2, v4, v5, _⟩
   have eV : val v = val b * 2 ^ s := by rw [v5, eV0]
   have hP := Jq s
   have hPB := Bw (t + 1)
   -- its length and top
   have hVge : 2147483648 * 4294967296 ^ (t + 1) <= val v := by
     have h1 : val b = vl (λ i => b.getD i 0) (t + 1) + b.getD (t + 1) 0 * 4294967296 ^ (t + 1) := by unfold val; rw [ht]; rfl
     have h2 := (C0 (f := λ i => b.getD i 0) (t + 1) λ i _ => hb i).1
     have h3 : 2147483648 * 4294967296 ^ (t + 1) <= (b.getD (t + 1) 0 * 2 ^ s) * 4294967296 ^ (t + 1) := Int.mul_le_mul_of_nonneg_right s1 (by omega)
     have h4 : 0 <= vl (λ i => b.getD i 0) (t + 1) * 2 ^ s := Int.mul_nonneg h2 (by omega)
     rw [eV, h1, Int.add_mul]
     have h5 : b.getD (t + 1) 0 * 4294967296 ^ (t + 1) * 2 ^ s = (b.getD (t + 1) 0 * 2 ^ s) * 4294967296 ^ (t + 1) := by grind
     omega
   have hVlt : val v < 4294967296 ^ (t + 2) := by
     have h1 : val b = vl (λ i => b.getD i 0) (t + 1) + b.getD (t + 1) 0 * 4294967296 ^ (t + 1) := by unfold val; rw [ht]; rfl
     have h2 := (C0 (f := λ i => b.getD i 0) (t + 1) λ i _ => hb i).2
     have h3 : (b.getD (t + 1) 0 + 1) * 2 ^ s <= 4294967296 := by
       obtain ⟨_, k2⟩ := Oq hs (b.getD (t + 1) 0)
       rw [Int.add_mul, Int.one_mul]
       have : b.getD (t + 1) 0 * 2 ^ s % 4294967296 = b.getD (t + 1) 0 * 2 ^ s := Int.emod_eq_of_lt (by omega) s2
       omega
     have h4 : val b * 2 ^ s < ((b.getD (t + 1) 0 + 1) * 4294967296 ^ (t + 1)) * 2 ^ s := Int.mul_lt_mul_of_pos_right (by rw [Int.add_mul]; omega) hP
     have h5 : ((b.getD (t + 1) 0 + 1) * 4294967296 ^ (t + 1)) * 2 ^ s = ((b.getD (t + 1) 0 + 1) * 2 ^ s) * 4294967296 ^ (t + 1) := by grind
     have h6 : ((b.getD (t + 1) 0 + 1) * 2 ^ s) * 4294967296 ^ (t + 1) <= 4294967296 * 4294967296 ^ (t + 1) := Int.mul_le_mul_of_nonneg_right h3 (by omega)
     have h7 : (4294967296 : Int) ^ (t + 2) = 4294967296 ^ (t + 1) * 4294967296 := Int.pow_succ _ _
     rw [eV]; omega
   have hvt : v.length = t + 2 := by
     have h1 := Ih v2 v4 hVlt
     have h2 : t + 1 < v.length := by
       rcases Nat.lt_or_ge (t + 1) v.length with h | h
       · exact h
       · have h3 := v2.val.2
         have h4 := Dg h
         omega
     omega
   have hv1 : 0 < v.getD (t + 1) 0 := by
     have h1 := v4 (by rintro rfl; simp at hvt)
     rw [hvt] at h1
     have h2 := v2 (t + 1)
     have : v.getD (t + 2 - 1) 0 = v.getD (t + 1) 0 := rfl
     omega
   have hVpos : 0 < val v := by omega
   rw [hvt, u2, Bg (x := ((a.length + 1 : Nat) : Int) - ((t + 2 : Nat) : Int)) (by omega) (by omega), Bg (x := ((t + 2 : Nat) : Int) - 1) (by omega) (by omega), Bg (x := ((t + 2 : Nat) : Int) - 2) (by omega) (by omega)]
   have e5 : (((a.length + 1 : Nat) : Int) - ((t + 2 : Nat) : Int)).toNat = a.length - (t + 2) + 1 := by omega
   have e6 : (((t + 2 : Nat) : Int) - 1).toNat = t + 1 := by omega
   have e7 : (((t + 2 : Nat) : Int) - 2).toNat = t := by omega
   rw [e5, e6, e7, List.length_replicate, Bg (x := ((a.length - (t + 2) + 1 : Nat) : Int) - 1) (by omega) (by omega)]
   have wv1 := v2 (t + 1); have wv2 := v2 t
   rw [Bi (x := v.getD (t + 1) 0) (by omega) (by omega), Bi (x := v.getD t 0) (by omega) (by omega)]
   refine ⟨by omega, by omega, by unfold Ap; omega, ⟨by omega, by omega⟩, ⟨by omega, by omega⟩, ?_⟩
   have L : Ar (Bj (λ q : (Int × Int × Int × (List Int) × (List Int)) => E5 (s : Int) v q.1 q.2.1 q.2.2.1 q.2.2.2.1 q.2.2.2.2) (v.getD (t + 1) 0, v.getD t 0, ((a.length - (t + 2) + 1 : Nat) : Int) - 1, u, List.replicate (a.length - (t + 2) + 1) (0 : Int)))
       λ r => WW r.1 /\ r.1.length = a.length + 1 /\ WW r.2 /\ r.2.length = a.length - (t + 2) + 1 /\ val r.1 < val v /\ val r.2 * val v + val r.1 = val u := by
     refine As (I := λ q : Int × Int × Int × List Int × List Int => q.1 = v.getD (t + 1) 0 /\ q.2.1 = v.getD t 0 /\ ∃ n : Nat, q.2.2.1 = (n : Int) - 1 /\ n <= a.length - (t + 2) + 1 /\ WW q.2.2.2.1 /\ q.2.2.2.1.length = a.length + 1 /\ WW q.2.2.2.2 /\ q.2.2.2.2.length = a.length - (t + 2) + 1 /\ (∀ k, k < n -> q.2.2.2.2.getD k 0 = 0) /\
         val q.2.2.2.1 < val v * 4294967296 ^ n /\ val q.2.2.2.2 * val v + val q.2.2.2.1 = val u) (μ := λ q : Int × Int × Int × List Int × List Int => (q.2.2.1 + 1).toNat) ⟨rfl, rfl, a.length - (t + 2) + 1, rfl, by omega, u1, u2, WW.replicate _, by simp, λ k _ => Cq _ k, ?_, ?_⟩ ?_
     · show val u < _
       have h1 : (4294967296 : Int) ^ (t + 1) * 4294967296 ^ (a.length - (t + 2) + 1) = 4294967296 ^ a.length := by rw [<- Int.pow_add]; congr 1; omega
       have h2 : 2147483648 * 4294967296 ^ (t + 1) * 4294967296 ^ (a.length - (t + 2) + 1) <= val v * 4294967296 ^ (a.length - (t + 2) + 1) := Int.mul_le_mul_of_nonneg_right hVge (by have := Bw (a.length - (t + 2) + 1); omega)
       rw [Int.mul_assoc, h1] at h2
       have h4 : val a * 2 ^ s < 4294967296 ^ a.length * 2 ^ s := Int.mul_lt_mul_of_pos_right hav.2 hP
       have h5 : (4294967296 : Int) ^ a.length * 2 ^ s <= 4294967296 ^ a.length * 2147483648 := Int.mul_le_mul_of_nonneg_left (Ae1 hs) (Int.le_of_lt (Bw a.length))
       rw [eA]
       omega
     · show val (List.replicate _ 0) * _ + val u = _
       have : val (List.replicate (a.length - (t + 2) + 1) 0) = 0 := by rw [val, Rj λ j _ => Cq _ j]
       rw [this]; simp
     · rintro ⟨p, p', i, x, o⟩ ⟨hp, hp', n, h1, h2, h3, h4, h5, h6, h7, h8, h9⟩
       simp only at hp hp' h1 h3 h4 h5 h6 h7 h8 h9
       subst h1 hp hp'
       unfold E5
       simp only [Ai, Ah, At, Ae, decide_eq_true_eq, Av, Aw, Af]
       refine ⟨λ hn => ?_, λ hn => ?_⟩
       · obtain ⟨j, rfl⟩ : ∃ j, n = j + 1 := ⟨n - 1, by omega⟩
         have ej : (((j + 1 : Nat) : Int) - 1) = (j : Int) := by omega
         rw [hvt, ej, Bg (x := (j : Int) + ((t + 2 : Nat) : Int)) (by omega) (by omega), Bg (x := (j : Int) + ((t + 2 : Nat) : Int) + 1) (by omega) (by omega), Bg (x := (j : Int) - 1) (by omega) (by omega)]
         refine ⟨by omega, by omega, by omega, ?_⟩
         refine (Ain h3 v2 hvt (by omega) (j := j) (by omega) (by omega) hv1 h8).mono ?_
         rintro ⟨u', q⟩ ⟨k1, k2, k3, k4, k5, k6⟩
         simp only at k1 k2 k3 k4 k5 k6
         simp only [Int.toNat_natCast]
         refine ⟨k2, by omega, ⟨trivial, trivial, j, rfl, by omega, k1, by omega, h5.set k3 k4, by simp [h6], λ k hk => by rw [getD_set, if_neg (by omega)]; exact h7 k (by omega), k6, ?_⟩, by omega⟩
         rw [Jc (by omega), h7 j (by omega), k5, <- h9]
         generalize val v = V at *
         generalize (4294967296 : Int) ^ j = Wj at *
         grind
       · have : n = 0 := by omega
         subst this
         exact ⟨h3, h4, h5, h6, by simpa using h8, h9⟩
   refine L.mono ?_
   rintro ⟨x, o⟩ ⟨x1, x2, x3, x4, x5, x6⟩
   simp only at x1 x2 x3 x4 x5 x6
   refine (Gs x1 (by omega)).mono ?_
   rintro y ⟨y1, y2, y3, y4⟩
   refine (Aca y1 hs (x, o) (by omega)).mono ?_
   rintro r ⟨r1, r2, r3⟩
   refine (Gs x3 (by omega)).mono ?_
   rintro q ⟨q1, q2, q3, _⟩
   refine (Gs r1 (by omega)).mono ?_
   rintro z ⟨z1, z2, z3, _⟩
   have hval : val r = vl (rd (λ i => y.getD i 0) s) y.length := by
     unfold val; rw [r2]; exact Fs λ j hj => r3 j hj
   have hrd := Aop (λ i => y.getD i 0) hs y.length
   have hy0 : y.getD y.length 0 = 0 := by rw [List.getD_eq_getElem?_getD, List.getElem?_eq_none (by omega)]; rfl
   have hyv : vl (λ i => y.getD i 0) y.length = val y := rfl
   rw [<- hval, hyv, hy0] at hrd
   have hmul : val y = (val a - val o * val b) * 2 ^ s := by
     rw [eA, eV] at x6
     rw [y3, Int.sub_mul]
     have : val o * (val b * 2 ^ s) = val o * val b * 2 ^ s := by rw [Int.mul_assoc]
     omega
   have hmod : y.getD 0 0 % 2 ^ s = 0 := by
     rcases Nat.eq_zero_or_pos y.length with h | h
     · have : y.getD 0 0 = 0 := by rw [List.getD_eq_getElem?_getD, List.getElem?_eq_none (by omega)]; rfl
       rw [this]; simp
     · have h1 : val y = y.getD 0 0 + 4294967296 * hi (λ i => y.getD i 0) 1 y.length := by
         have := Tx (λ i => y.getD i 0) (n := 0) (L := y.length) h
         rw [Wk] at this
         exact this
       have h2 : y.getD 0 0 = (val a - val o * val b - 2 ^ (32 - s) * hi (λ i => y.getD i 0) 1 y.length) * 2 ^ s := by
         have h3 := qp hs
         rw [hmul] at h1
         generalize hi (λ i => y.getD i 0) 1 y.length = hh at *
         generalize (2 : Int) ^ s = P at *
         generalize (2 : Int) ^ (32 - s) = R at *
         grind
       rw [h2]
       exact Int.mul_emod_left _ _
   rw [hmod] at hrd
   simp only [Int.zero_emod, Int.zero_mul, Int.add_zero, Int.sub_zero] at hrd
   have hrest : val r = val a - val o * val b := by
     rw [hmul] at hrd
     exact Int.eq_of_mul_eq_mul_right (by omega) hrd
   have hzr : val z = val a - val o * val b := by rw [z3]; exact hrest
   refine ⟨q1, q2, z1, z2, by show val a = val q * val b + val z; rw [q3, hzr]; omega, ?_⟩
   have h1 : val r * 2 ^ s < val b * 2 ^ s := by rw [hrd, <- eV, y3]; exact x5
   have := Dh h1 hP
   show val z < _
   omega
theorem Aaa {a b : List Int} (ha : WW a) (hb : WW b) (ta : Top a) (tb : Top b) (la : a.length <= 1099511627776) (lb : b.length <= 1099511627776) :
   Ar (D1 a b) λ g => WW g /\ Top g /\ val g = (Int.gcd (val a) (val b) : Int) := by
 unfold D1
 rw [At]
 refine (As (I := λ s : List Int × List Int => WW s.1 /\ WW s.2 /\ Top s.1 /\ Top s.2 /\ s.1.length <= 1099511627776 /\ s.2.length <= 1099511627776 /\ Int.gcd (val s.1) (val s.2) = Int.gcd (val a) (val b)) (μ := λ s : List Int × List Int => (val s.2).toNat)
   (Q := λ g => WW g /\ Top g /\ val g = (Int.gcd (val a) (val b) : Int)) ⟨ha, hb, ta, tb, la, lb, rfl⟩ ?_).mono λ r hr => Ae.2 hr
 rintro ⟨x, y⟩ ⟨x1, y1, x2, y2, x3, y3, h⟩
 simp only at x1 y1 x2 y2 x3 y3 h
 unfold Fz
 simp only [Ai, At, Ae, decide_eq_true_eq, Av, Aw]
 refine ⟨λ hl => ?_, λ hl => ?_⟩
 · have hne : y ≠ [] := by rintro rfl; simp at hl
   have hy0 := Ni y1 y2 hne
   have hyp := Bw (y.length - 1)
   refine (Q0 x1 y1 x2 y2 hne x3 y3).mono ?_
   rintro ⟨q, r⟩ ⟨q1, q2, r1, r2, e, hlt⟩
   simp only at q1 q2 r1 r2 e hlt
   have hr := r1.val.1
   obtain ⟨_, hm⟩ := W5 (show 0 < val y by omega) e hr hlt x1.val.1
   refine ⟨⟨y1, r1, y2, r2, y3, ?_, ?_⟩, by show (val r).toNat < (val y).toNat; omega⟩
   · show r.length <= _
     rcases Nat.lt_or_ge y.length r.length with hc | hc
     · have := B9 y1 r1 r2 hc; omega
     · omega
   · show Int.gcd (val y) (val r) = _
     rw [<- hm, Wz _ _ x1.val.1 y1.val.1]; exact h
 · have hy : y = [] := by
     rcases y with _ | ⟨z, l⟩
     · rfl
     · simp at hl
   subst hy
   rw [G3, Int.gcd_zero_right] at h
   have := x1.val.1
   exact ⟨x1, x2, by rw [<- h]; omega⟩
theorem Ky {w : Ad} (h : WOk w) : Ar (Cb w) λ b => b = true ↔ B6 w = 1 := by
 unfold Cb
 simp only [Ai, Ah, Ae, decide_eq_true_eq, Af, Int.toNat_zero]
 refine ⟨λ hl => ?_, λ hl => ?_⟩
 · have hl1 : w.d.length = 1 := by omega
   have hv : val w.d = w.d.getD 0 0 := by unfold val; rw [hl1]; simp [vl]
   have hw := h.ww 0
   refine ⟨by omega, λ h1 => ?_, λ h1 => ?_⟩
   · unfold B6 sgn
     rw [hv, h1]
     cases w.minus <;> simp
   · unfold B6 sgn
     rw [hv]
     simp only [Bool.false_eq_true, false_iff]
     split <;> omega
 · simp only [Bool.false_eq_true, false_iff]
   intro h1
   have hv : val w.d = 1 := by
     unfold B6 sgn at h1
     have := h.ww.val.1
     split at h1 <;> omega
   have hle := Ih h.ww h.top (k := 1) (by rw [hv]; decide)
   have : w.d.length ≠ 0 := λ h0 => by
     have : w.d = [] := List.eq_nil_of_length_eq_zero h0
     rw [this, G3] at hv; omega
   omega
structure Cd (q : Aa) (r : Rat) : Prop where
 okN : WOk q.n
 okD : WOk q.d
 num : B6 q.n = r.num
 den0 : q.d.d = [] -> r.den = 1
 den1 : q.d.d ≠ [] -> B6 q.d = (r.den : Int)
theorem Jy {q : Aa} {r : Rat} (h : Cd q r) : Ar (B0 q) λ w => WOk w /\ B6 w = (r.den : Int) /\ w.d ≠ [] := by
 unfold B0 Bu Dy
 simp only [At, Ae, Ai, decide_eq_true_eq]
 refine ⟨λ h0 => ?_, λ h0 => ?_⟩
 · have : q.d.d = [] := List.eq_nil_of_length_eq_zero (by omega)
   refine ⟨⟨λ i => ?_, λ _ => by simp, λ h => by cases h⟩, ?_, by simp⟩
   · cases i <;> simp
   · rw [h.den0 this]; unfold B6 sgn; simp [Kk]
 · have hne : q.d.d ≠ [] := by rintro e; rw [e] at h0; simp at h0
   exact ⟨h.okD, h.den1 hne, hne⟩
theorem Cd.of {q : Aa} {r : Rat} (h1 : WOk q.n) (h2 : WOk q.d) (h3 : B6 q.n = r.num) (h4 : B6 q.d = (r.den : Int)) : Cd q r := by
 refine ⟨h1, h2, h3, λ e => ?_, λ _ => h4⟩
 have := r.den_pos
 unfold B6 sgn at h4
 rw [e, G3] at h4
 split at h4 <;> omega
theorem Na {n d : Ad} (hn : WOk n) (hd : WOk d) {K : Nat} (hK : K <= 1099511627776) (ln : WLt n K) (ld : WLt d K) (h0 : B6 d ≠ 0) : Ar (Co n d) λ q => Cd q (Rat.divInt (B6 n) (B6 d)) := by
 have J : ∀ {n d : Ad}, WOk n -> WOk d -> WLt n K -> WLt d K -> d.minus = false -> B6 d ≠ 0 -> Ar (Dr n.d n.minus d.d d.minus) λ q => Cd q (Rat.divInt (B6 n) (B6 d)) := by
   intro n d hn hd ln ld hm h0
   have ev : B6 d = val d.d := by unfold B6 sgn; rw [hm]; rfl
   have hdp : 0 < val d.d := by have := hd.ww.val.1; omega
   have nl := hn.len ln
   have dl := hd.len ld
   unfold Dr
   refine (Ky (w := ⟨d.d, d.minus⟩) hd).bind ?_
   rintro b hb
   rw [Ai]
   refine ⟨λ h1 => ?_, λ h1 => ?_⟩
   · have e1 : B6 d = 1 := hb.1 h1
     rw [Ae]
     refine Cd.of hn hd ?_ ?_
     · rw [e1, Rat.num_divInt]; simp
     · show B6 d = _
       rw [e1, Rat.den_divInt]; simp
   · refine (Aaa hn.ww hd.ww hn.top hd.top (by omega) (by omega)).bind ?_
     rintro g ⟨g1, g2, g3⟩
     have eg : Int.gcd (val n.d) (val d.d) = Int.gcd (B6 n) (B6 d) := by
       rw [ev]; unfold B6 sgn; split <;> simp
     rw [eg] at g3
     have hgp : 0 < Int.gcd (B6 n) (B6 d) := Int.gcd_pos_of_ne_zero_right _ h0
     have hdn := Int.gcd_dvd_left (B6 n) (B6 d)
     have hdd := Int.gcd_dvd_right (B6 n) (B6 d)
     have eN : (Rat.divInt (B6 n) (B6 d)).num = B6 n / (Int.gcd (B6 n) (B6 d) : Int) := by
       rw [Rat.num_divInt, Int.sign_eq_one_of_pos (by omega), Int.one_mul, Int.gcd_comm]
     have eD : ((Rat.divInt (B6 n) (B6 d)).den : Int) = B6 d / (Int.gcd (B6 n) (B6 d) : Int) := by
       rw [Rat.den_divInt, if_neg h0, Int.gcd_comm, Int.natCast_ediv, Int.natAbs_of_nonneg (by omega)]
     have hgne : g ≠ [] := by rintro rfl; rw [G3] at g3; omega
     have hgl : g.length <= 1099511627776 := by
       have h1 : (Int.gcd (B6 n) (B6 d) : Int) <= B6 d := Int.le_of_dvd (by omega) hdd
       rcases Nat.lt_or_ge d.d.length g.length with hc | hc
       · have := B9 hd.ww g1 g2 hc; omega
       · omega
     have J2 : Ar (Dt n.d n.minus d.d d.minus g) λ q => Cd q (Rat.divInt (B6 n) (B6 d)) := by
       have exact : ∀ {x q r : Int}, 0 <= x -> x = q * val g + r -> 0 <= r -> r < val g -> val g ∣ x -> q = x / val g := by
         intro x q r hx e r0 r1 hdv
         exact ((Int.ediv_emod_unique (by omega)).2 ⟨by rw [e, Int.mul_comm]; omega, r0, r1⟩).1.symm
       have hgn : val g ∣ val n.d := by
         rw [g3]
         have : B6 n = val n.d \/ B6 n = -val n.d := by unfold B6 sgn; split <;> simp
         rcases this with h | h
         · rw [<- h]; exact hdn
         · have := hdn; rw [h] at this ⊢; exact Int.dvd_neg.1 this
       have hgd : val g ∣ val d.d := by rw [g3, <- ev]; exact hdd
       unfold Dt
       refine (Q0 hn.ww g1 hn.top g2 hgne (by omega) hgl).bind ?_
       rintro x ⟨x1, x2, x3, x4, x5, x6⟩
       refine (Q0 hd.ww g1 hd.top g2 hgne (by omega) hgl).bind ?_
       rintro y ⟨y1, y2, y3, y4, y5, y6⟩
       refine (Hl x1 x2 n.minus).bind ?_
       rintro z ⟨z1, z2, z3⟩
       refine (Hl y1 y2 false).bind ?_
       rintro w ⟨w1, w2, w3⟩
       unfold D2
       rw [Ae]
       have ex := exact hn.ww.val.1 x5 x3.val.1 x6 hgn
       have ey := exact hd.ww.val.1 y5 y3.val.1 y6 hgd
       refine Cd.of z1 w1 ?_ ?_
       · show B6 z = _
         rw [z2, eN, <- g3, ex]
         unfold B6 sgn
         split
         · rw [Int.neg_ediv_of_dvd hgn]
         · rfl
       · show B6 w = _
         rw [w2, eD, <- g3, ev, ey]; rfl
     simp only [Ai, Ah, decide_eq_true_eq, Bool.not_eq_true', decide_eq_false_iff_not, Af, Int.toNat_zero]
     refine ⟨λ _ => J2, λ hl => ⟨by omega, λ _ => J2, λ hg1 => ?_⟩⟩
     have hg0 : val g = 1 := by
       unfold val
       rw [show g.length = 1 by omega]
       simp only [vl, Int.zero_add, Int.pow_zero, Int.mul_one]
       omega
     unfold D2
     rw [Ae]
     refine Cd.of hn hd ?_ ?_
     · show B6 n = _
       rw [eN, <- g3, hg0, Int.ediv_one]
     · show B6 d = _
       rw [eD, <- g3, hg0, Int.ediv_one]
 unfold Co Bu
 simp only [At, Ae, Ai, decide_eq_true_eq]
 refine ⟨λ he => ?_, λ he => ⟨λ hm => ?_, λ hm => ?_⟩⟩
 · have : d.d = [] := List.eq_nil_of_length_eq_zero (by omega)
   exact (h0 (by unfold B6 sgn; rw [this, G3]; simp)).elim
 · refine (S9 hn).mono ?_
   rintro x ⟨x1, x2⟩
   refine (S9 hd).mono ?_
   rintro y ⟨y1, y2⟩
   have hym : y.minus = false := by
     cases hy : y.minus with
     | false => rfl
     | true =>
       have h1 := y1.pos hy
       have h2 := hd.pos hm
       unfold B6 sgn at y2
       rw [hy, hm] at y2
       simp at y2
       omega
   have := J x1 y1 (by unfold WLt at *; omega) (by unfold WLt at *; omega) hym (by omega)
   rw [x2, y2, Rat.neg_divInt_neg] at this
   exact this
 · exact J hn hd ln ld (by simpa using hm) h0
theorem Qm {n : Int} (h1 : -9223372036854775808 <= n) (h2 : n < 9223372036854775808) : Ar (Cy n) λ w => WOk w /\ B6 w = n := by
 have J : ∀ u : Int, 0 <= u -> u <= 9223372036854775808 -> (n < 0 /\ u = -n \/ 0 <= n /\ u = n) -> Ar (Dv n u) λ w => WOk w /\ B6 w = n := by
   intro u u0 u1 hu
   unfold Dv
   simp only [Ah, At, V9, w32]
   refine ⟨by decide, ?_⟩
   have hw : WW [u % 4294967296, u / 4294967296 % 4294967296] := by
     intro i
     rcases i with _ | _ | i <;> simp <;> omega
   refine (Gs hw (by simp)).mono ?_
   rintro y ⟨y1, y2, y3, _⟩
   rw [Aeu] at y3
   have ey : val y = u := by omega
   rw [Ae]
   refine ⟨⟨y1, y2, λ hm => ?_⟩, ?_⟩
   · rintro rfl
     rw [G3] at ey
     simp at hm
     omega
   · unfold B6 sgn
     simp only [decide_eq_true_eq]
     split <;> omega
 unfold Cy
 simp only [Ai, decide_eq_true_eq, w64]
 exact ⟨λ h => J _ (by omega) (by omega) (by omega), λ h => J _ (by omega) (by omega) (by omega)⟩
theorem Anr {x : Au} (h1 : -9223372036854775808 < x.N) (h2 : x.N < 9223372036854775808) (h3 : -9223372036854775808 < x.D) (h4 : x.D < 9223372036854775808) (h0 : x.D ≠ 0) : Ar (B8 x) λ q => Cd q (Rat.divInt x.N x.D) := by
 unfold B8
 refine (Qm (by omega) h2).bind ?_
 rintro n ⟨n1, n2⟩
 refine (Qm (by omega) h4).bind ?_
 rintro d ⟨d1, d2⟩
 have p2 : (4294967296 : Int) ^ 2 = 18446744073709551616 := by decide
 refine (Na n1 d1 (K := 2) (by omega) (by unfold WLt; rw [n2, p2]; omega) (by unfold WLt; rw [d2, p2]; omega) (by rw [d2]; exact h0)).bind ?_
 rintro q hq
 rw [Ae, <- n2, <- d2]
 exact hq
theorem WLt.mono {z : Ad} {k m : Nat} (h : WLt z k) (hk : k <= m) : WLt z m := by have := Dg hk; unfold WLt at *; omega
theorem Cd.ltN {q : Aa} {r : Rat} {k : Nat} (h : Cd q r) (s : Sz r k) : WLt q.n k := by have := s.pos; unfold WLt; rw [h.num]; omega
theorem Q4 {w : Ad} {r : Rat} {k : Nat} (h : B6 w = (r.den : Int)) (s : Sz r k) : WLt w k := by have := s.pos; unfold WLt; rw [h]; omega
theorem Ie {a b : Aa} {x y : Rat} (ha : Cd a x) (hb : Cd b y) {k m : Nat} (sx : Sz x k) (sy : Sz y m) (hkm : k + m + 1 <= 1099511627776) : Ar (B1 a b) λ c => Cd c (x * y) := by
 have lxN := ha.ltN sx; have lyN := hb.ltN sy
 obtain ⟨a1, a2, a3, a4⟩ := sx.pos
 obtain ⟨b1, b2, b3, b4⟩ := sy.pos
 have N := Jk ha.okN hb.okN (K := k + m) (by omega) (lxN.mono (by omega)) (lyN.mono (by omega))
 unfold B1
 refine (Jy ha).bind ?_
 rintro d ⟨d1, d2, d3⟩
 refine (Jy hb).bind ?_
 rintro e ⟨e1, e2, e3⟩
 have J : Ar (El a b d e) λ c => Cd c (x * y) := by
   unfold El
   refine N.bind ?_
   rintro p ⟨p1, p2⟩
   refine (Jk d1 e1 (K := k + m) (by omega) ((Q4 d2 sx).mono (by omega)) ((Q4 e2 sy).mono (by omega))).bind ?_
   rintro q ⟨q1, q2⟩
   rw [ha.num, hb.num] at p2
   rw [d2, e2] at q2
   refine (Na p1 q1 (K := k + m) (by omega) (by unfold WLt; rw [p2]; exact B7 a1 a2 b1 b2) (by unfold WLt; rw [q2]; exact Lp sx sy) (by rw [q2]; exact Vc x y)).bind ?_
   rintro c hc
   rw [Ae, Mf, <- p2, <- q2]
   exact hc
 refine (Ky d1).bind ?_
 rintro b1' hb1
 rw [Ai]
 refine ⟨λ h1 => ?_, λ _ => J⟩
 refine (Ky e1).bind ?_
 rintro b2' hb2
 rw [Ai]
 refine ⟨λ h2 => ?_, λ _ => J⟩
 refine N.bind ?_
 rintro s ⟨s1, s2⟩
 rw [Ae]
 have f1 : x.den = 1 := by have := hb1.1 h1; omega
 have f2 : y.den = 1 := by have := hb2.1 h2; omega
 have es : x * y = Rat.divInt (x.num * y.num) 1 := by rw [Mf, f1, f2]; simp
 have en : (x * y).num = x.num * y.num := by rw [es, Rat.num_divInt]; simp
 have ed : (x * y).den = 1 := by rw [es, Rat.den_divInt]; simp
 exact Cd.of s1 d1 (by rw [en, <- ha.num, <- hb.num]; exact s2) (by rw [ed]; show B6 d = _; rw [d2, f1])
theorem Fm {a b : Aa} {x y : Rat} (ha : Cd a x) (hb : Cd b y) {k m : Nat} (sx : Sz x k) (sy : Sz y m) (hkm : k + m + 1 <= 1099511627776) : Ar (Bm a b) λ c => Cd c (x + y) := by
 have lxN := ha.ltN sx; have lyN := hb.ltN sy
 obtain ⟨a1, a2, a3, a4⟩ := sx.pos
 obtain ⟨b1, b2, b3, b4⟩ := sy.pos
 unfold Bm
 refine (Jy ha).bind ?_
 rintro d ⟨d1, d2, d3⟩
 refine (Jy hb).bind ?_
 rintro e ⟨e1, e2, e3⟩
 have ld := Q4 d2 sx
 have le := Q4 e2 sy
 have J : Ar (Em a b d e) λ c => Cd c (x + y) := by
   unfold Em
   refine (Jk ha.okN e1 (K := k + m) (by omega) (lxN.mono (by omega)) (le.mono (by omega))).bind ?_
   rintro p ⟨p1, p2⟩
   refine (Jk hb.okN d1 (K := k + m) (by omega) (lyN.mono (by omega)) (ld.mono (by omega))).bind ?_
   rintro q ⟨q1, q2⟩
   rw [ha.num, e2] at p2
   rw [hb.num, d2] at q2
   have lp : WLt p (k + m) := by unfold WLt; rw [p2]; exact B7 a1 a2 (by omega) b4
   have lq : WLt q (k + m) := by unfold WLt; rw [q2, Nat.add_comm k m]; exact B7 b1 b2 (by omega) a4
   refine (Zv p1 q1 (by omega) lp lq).bind ?_
   rintro s ⟨s1, s2⟩
   refine (Jk d1 e1 (K := k + m) (by omega) (ld.mono (by omega)) (le.mono (by omega))).bind ?_
   rintro r ⟨r1, r2⟩
   rw [d2, e2] at r2
   rw [p2, q2] at s2
   refine (Na s1 r1 (K := k + m + 1) hkm (by unfold WLt; rw [s2]; exact U6 sx sy) ((show WLt r (k + m) by unfold WLt; rw [r2]; exact Lp sx sy).mono (by omega)) (by rw [r2]; exact Vc x y)).bind ?_
   rintro c hc
   rw [Ae, Mq, <- s2, <- r2]
   exact hc
 refine (Ky d1).bind ?_
 rintro b1' hb1
 rw [Ai]
 refine ⟨λ h1 => ?_, λ _ => J⟩
 refine (Ky e1).bind ?_
 rintro b2' hb2
 rw [Ai]
 refine ⟨λ h2 => ?_, λ _ => J⟩
 refine (Zv ha.okN hb.okN (K := k + m) (by omega) (lxN.mono (by omega)) (lyN.mono (by omega))).bind ?_
 rintro s ⟨s1, s2⟩
 rw [Ae]
 have f1 : x.den = 1 := by have := hb1.1 h1; omega
 have f2 : y.den = 1 := by have := hb2.1 h2; omega
 have es : x + y = Rat.divInt (x.num + y.num) 1 := by rw [Mq, f1, f2]; simp
 have en : (x + y).num = x.num + y.num := by rw [es, Rat.num_divInt]; simp
 have ed : (x + y).den = 1 := by rw [es, Rat.den_divInt]; simp
 exact Cd.of s1 d1 (by rw [en, <- ha.num, <- hb.num]; exact s2) (by rw [ed]; show B6 d = _; rw [d2, f1])
theorem Ai2 {a : Aa} {x : Rat} (ha : Cd a x) : Ar (D8 a) λ c => Cd c (-x) := by
 unfold D8
 refine (S9 ha.okN).bind ?_
 rintro n ⟨n1, n2⟩
 refine (Jy ha).bind ?_
 rintro d ⟨d1, d2, d3⟩
 rw [Ae]
 exact Cd.of n1 d1 (by rw [Rat.neg_num, <- ha.num]; exact n2) (by rw [Rat.neg_den]; exact d2)
theorem Jl {a b : Aa} {x y : Rat} (ha : Cd a x) (hb : Cd b y) {k m : Nat} (sx : Sz x k) (sy : Sz y m) (hkm : k + m + 1 <= 1099511627776) : Ar (B3 a b) λ c => Cd c (x - y) := by
 unfold B3
 refine (Ai2 hb).bind ?_
 rintro n hn
 refine (Fm ha hn sx sy.neg hkm).bind ?_
 rintro c hc
 rw [Ae, Rat.sub_eq_add_neg]
 exact hc
def Ed (x : Au) : Rat := Rat.divInt x.N x.D
theorem sz2 {x : Au} (h1 : -1000000000000 <= x.N) (h2 : x.N <= 1000000000000) (h3 : 0 < x.D) (h4 : x.D <= 1000000000000) : Sz (Ed x) 2 := by
 have p2 : (4294967296 : Int) ^ 2 = 18446744073709551616 := by decide
 exact Lz (by omega) (by rw [p2]; omega) (by rw [p2]; omega)
def Pz (x : Au) : Prop := -1000000000000 <= x.N /\ x.N <= 1000000000000 /\ 0 < x.D /\ x.D <= 1000000000000
end Go.Ab
namespace Go.Ab
def sm : Nat -> (Nat -> Rat) -> Rat
 | 0, _ => 0
 | n + 1, f => sm n f + f n
theorem Bl {f g : Nat -> Rat} : ∀ {n : Nat}, (∀ i, i < n -> f i = g i) -> sm n f = sm n g
 | 0, _ => rfl
 | n + 1, h => by rw [sm, sm, Bl (n := n) (λ i hi => h i (by omega)), h n (by omega)]
theorem Qs (f g : Nat -> Rat) : ∀ n, sm n (λ i => f i + g i) = sm n f + sm n g
 | 0 => by simp only [sm]; grind
 | n + 1 => by rw [sm, sm, sm, Qs f g n]; grind
theorem Gu (s : Rat) (f : Nat -> Rat) : ∀ n, sm n (λ i => s * f i) = s * sm n f
 | 0 => by simp only [sm]; grind
 | n + 1 => by rw [sm, sm, Gu s f n]; grind
theorem Ij : ∀ {f : Nat -> Rat} {n : Nat}, (∀ i, i < n -> f i = 0) -> sm n f = 0
 | _, 0, _ => rfl
 | f, n + 1, h => by rw [sm, Ij (n := n) (λ i hi => h i (by omega)), h n (by omega)]; grind
theorem Sn (f g : Nat -> Rat) (n : Nat) : sm n (λ i => f i - g i) = sm n f - sm n g := by
 have h1 : sm n (λ i => f i - g i) = sm n (λ i => f i + (-1) * g i) := Bl λ i _ => by grind
 rw [h1, Qs, Gu]; grind
theorem H8 {f : Nat -> Rat} {k : Nat} : ∀ {n : Nat}, k < n -> (∀ i, i < n -> i ≠ k -> f i = 0) -> sm n f = f k
 | 0, h, _ => by omega
 | n + 1, h, h0 => by
   rw [sm]
   by_cases hk : k = n
   · subst hk
     rw [Ij λ i hi => h0 i (by omega) (by omega)]; grind
   · rw [H8 (n := n) (by omega) (λ i hi => h0 i (by omega)), h0 n (by omega) (Ne.symm hk)]; grind
theorem My (f : Nat -> Nat -> Rat) (m : Nat) : ∀ n, sm n (λ i => sm m (λ j => f i j)) = sm m (λ j => sm n (λ i => f i j))
 | 0 => by rw [sm]; exact (Ij λ _ _ => rfl).symm
 | n + 1 => by
   rw [sm, My f m n, <- Qs]
   rfl
def D5 (A : Nat -> Nat -> Rat) (k : Nat) : Nat -> Nat -> Rat := λ i j => A (if i < k then i else i + 1) (j + 1)
def alt (i : Nat) : Rat := if i % 2 = 0 then 1 else -1
def det : Nat -> (Nat -> Nat -> Rat) -> Rat
 | 0, _ => 1
 | n + 1, A => sm (n + 1) λ i => alt i * A i 0 * det n (D5 A i)
theorem Aqo (i : Nat) : alt (i + 1) = -alt i := by
 unfold alt
 rcases Nat.mod_two_eq_zero_or_one i with h | h
 · rw [if_neg (by omega), if_pos h]
 · rw [if_pos (by omega), if_neg (by omega)]; grind
theorem Gf : ∀ {n : Nat} {A B : Nat -> Nat -> Rat}, (∀ i j, i < n -> j < n -> A i j = B i j) -> det n A = det n B
 | 0, _, _, _ => rfl
 | n + 1, A, B, h => by
   rw [det, det]
   refine Bl λ i hi => ?_
   rw [h i 0 hi (by omega), Gf (n := n) (A := D5 A i) (B := D5 B i)]
   intro a b ha hb
   unfold D5
   split <;> exact h _ _ (by omega) (by omega)
def Dn (A : Nat -> Nat -> Rat) (k : Nat) (v : Nat -> Rat) : Nat -> Nat -> Rat := λ i j => if i = k then v j else A i j
theorem Su (A : Nat -> Nat -> Rat) (k : Nat) (v : Nat -> Rat) : D5 (Dn A k v) k = D5 A k := by
 funext i j
 unfold D5 Dn
 split
 · rw [if_neg (by omega)]
 · rw [if_neg (by omega)]
theorem Xy (A : Nat -> Nat -> Rat) {k i : Nat} (h : k < i) (v : Nat -> Rat) : D5 (Dn A k v) i = Dn (D5 A i) k (λ j => v (j + 1)) := by
 funext a j
 have e : ((if a < i then a else a + 1) = k) = (a = k) := by apply propext; split <;> omega
 simp only [D5, Dn, e]
theorem X7 (A : Nat -> Nat -> Rat) {k i : Nat} (h : i < k) (v : Nat -> Rat) : D5 (Dn A k v) i = Dn (D5 A i) (k - 1) (λ j => v (j + 1)) := by
 funext a j
 have e : ((if a < i then a else a + 1) = k) = (a = k - 1) := by apply propext; split <;> omega
 simp only [D5, Dn, e]
theorem M8 : ∀ {n k : Nat} (A : Nat -> Nat -> Rat) (s : Rat) (u v : Nat -> Rat), k < n -> det n (Dn A k λ j => u j + s * v j) = det n (Dn A k u) + s * det n (Dn A k v)
 | 0, k, _, _, _, _, h => by omega
 | n + 1, k, A, s, u, v, h => by
   rw [det, det, det, <- Gu, <- Qs]
   refine Bl λ i hi => ?_
   rcases Nat.lt_trichotomy k i with hk | hk | hk
   · rw [Xy A hk, Xy A hk, Xy A hk, M8 (D5 A i) s _ _ (by omega)]
     have e : ∀ w : Nat -> Rat, Dn A k w i 0 = A i 0 := λ w => by unfold Dn; rw [if_neg (by omega)]
     rw [e, e, e]; grind
   · subst hk
     rw [Su, Su, Su]
     have e : ∀ w : Nat -> Rat, Dn A k w k 0 = w 0 := λ w => by unfold Dn; rw [if_pos rfl]
     rw [e, e, e]; grind
   · rw [X7 A hk, X7 A hk, X7 A hk, M8 (D5 A i) s _ _ (by omega)]
     have e : ∀ w : Nat -> Rat, Dn A k w i 0 = A i 0 := λ w => by unfold Dn; rw [if_neg (by omega)]
     rw [e, e, e]; grind
theorem Of (A : Nat -> Nat -> Rat) (k : Nat) : Dn A k (A k) = A := by
 funext i j; unfold Dn; split
 · rename_i h; rw [h]
 · rfl
theorem Pe {n k : Nat} {A : Nat -> Nat -> Rat} (hk : k < n) (h : ∀ j, j < n -> A k j = 0) : det n A = 0 := by
 have e : det n A = det n (Dn A k λ j => A k j + (-1) * A k j) := by
   refine Gf λ i j hi hj => ?_
   unfold Dn
   split
   · rename_i h1; rw [h1, h j hj]; grind
   · rfl
 have := M8 A (-1) (A k) (A k) hk
 rw [<- e, Of] at this
 grind
theorem Wm : ∀ {n k : Nat} {A : Nat -> Nat -> Rat}, k + 1 < n -> (∀ j, j < n -> A k j = A (k + 1) j) -> det n A = 0
 | 0, k, _, h, _ => by omega
 | n + 1, k, A, h, he => by
   rw [det]
   have h1 : sm (n + 1) (λ i => alt i * A i 0 * det n (D5 A i)) = sm (n + 1) (λ i => (if i = k then alt k * A k 0 * det n (D5 A k) else 0) + (if i = k + 1 then -(alt k * A k 0 * det n (D5 A k)) else 0)) := by
     refine Bl λ i hi => ?_
     by_cases h2 : i = k
     · subst h2
       rw [if_pos rfl, if_neg (by omega)]; grind
     · by_cases h3 : i = k + 1
       · subst h3
         rw [if_neg h2, if_pos rfl, Aqo, <- he 0 (by omega)]
         have : det n (D5 A (k + 1)) = det n (D5 A k) := Gf λ a b ha hb => by
           unfold D5
           by_cases hak : a = k
           · subst hak; rw [if_pos (by omega), if_neg (by omega)]; exact he _ (by omega)
           · by_cases hlt : a < k
             · rw [if_pos (by omega), if_pos hlt]
             · rw [if_neg (by omega), if_neg hlt]
         rw [this]; grind
       · rw [if_neg h2, if_neg h3]
         have : det n (D5 A i) = 0 := by
           by_cases hlt : i < k
           · refine Wm (k := k - 1) (by omega) λ j hj => ?_
             unfold D5
             rw [if_neg (by omega), if_neg (by omega), show k - 1 + 1 = k by omega]
             exact he _ (by omega)
           · refine Wm (k := k) (by omega) λ j hj => ?_
             unfold D5
             rw [if_pos (by omega), if_pos (by omega)]
             exact he _ (by omega)
         rw [this]; grind
   rw [h1, Qs, H8 (k := k) (by omega) (λ i _ hne => if_neg hne), H8 (k := k + 1) (by omega) (λ i _ hne => if_neg hne), if_pos rfl, if_pos rfl]
   grind
def G7 (A : Nat -> Nat -> Rat) (p q : Nat) : Nat -> Nat -> Rat := λ i j => if i = p then A q j else if i = q then A p j else A i j
theorem Am6 {n p q : Nat} (hp : p < n) (hq : q < n) (hne : p ≠ q) (h0 : ∀ A : Nat -> Nat -> Rat, (∀ j, j < n -> A p j = A q j) -> det n A = 0) (A : Nat -> Nat -> Rat) : det n (G7 A p q) = -det n A := by
 -- the rows p and q both the sum
 have key : ∀ u v : Nat -> Rat, det n (Dn (Dn A p u) q v) = -det n (Dn (Dn A p v) q u) := by
   intro u v
   have e0 : det n (Dn (Dn A p λ j => u j + 1 * v j) q λ j => u j + 1 * v j) = 0 := h0 _ λ j _ => by unfold Dn; rw [if_neg hne, if_pos rfl, if_pos rfl]
   have e1 : det n (Dn (Dn A p u) q u) = 0 := h0 _ λ j _ => by unfold Dn; rw [if_neg hne, if_pos rfl, if_pos rfl]
   have e2 : det n (Dn (Dn A p v) q v) = 0 := h0 _ λ j _ => by unfold Dn; rw [if_neg hne, if_pos rfl, if_pos rfl]
   have comm : ∀ x y : Nat -> Rat, Dn (Dn A p x) q y = Dn (Dn A q y) p x := λ x y => by
     funext i j; unfold Dn
     by_cases hi : i = q
     · subst hi; rw [if_pos rfl, if_neg (Ne.symm hne), if_pos rfl]
     · rw [if_neg hi]
       by_cases hi2 : i = p
       · rw [if_pos hi2, if_pos hi2]
       · rw [if_neg hi2, if_neg hi2, if_neg hi]
   rw [M8 _ _ _ _ hq, comm, comm, M8 _ _ _ _ hp, M8 _ _ _ _ hp, <- comm, <- comm, <- comm, <- comm] at e0
   grind
 have := key (A q) (A p)
 have e1 : Dn (Dn A p (A q)) q (A p) = G7 A p q := by
   funext i j; unfold Dn G7
   by_cases hi : i = q
   · subst hi; rw [if_pos rfl, if_neg (Ne.symm hne), if_pos rfl]
   · rw [if_neg hi, if_neg hi]
 have e2 : Dn (Dn A p (A p)) q (A q) = A := by rw [Of, Of]
 rw [e1, e2] at this
 exact this
theorem Qe : ∀ (d : Nat) {n p : Nat} (A : Nat -> Nat -> Rat), p + 1 + d < n -> (∀ j, j < n -> A p j = A (p + 1 + d) j) -> det n A = 0
 | 0, n, p, A, h, he => Wm (k := p) h he
 | d + 1, n, p, A, h, he => by
   have hs := Am6 (n := n) (p := p + 1 + d) (q := p + 1 + d + 1) (by omega) (by omega) (by omega) (λ B hB => Wm (k := p + 1 + d) (by omega) hB) A
   have h0 := Qe d (n := n) (p := p) (G7 A (p + 1 + d) (p + 1 + d + 1)) (by omega) (λ j hj => by
     unfold G7
     rw [if_neg (by omega), if_neg (by omega), if_pos rfl]
     exact he j hj)
   rw [h0] at hs
   grind
theorem Aqs {n p q : Nat} {A : Nat -> Nat -> Rat} (hp : p < n) (hq : q < n) (hne : p ≠ q) (h : ∀ j, j < n -> A p j = A q j) : det n A = 0 := by
 rcases Nat.lt_or_ge p q with hlt | hge
 · exact Qe (q - p - 1) (p := p) A (by omega) (λ j hj => by rw [show p + 1 + (q - p - 1) = q by omega]; exact h j hj)
 · exact Qe (p - q - 1) (p := q) A (by omega) (λ j hj => by rw [show q + 1 + (p - q - 1) = p by omega]; exact (h j hj).symm)
theorem Ave {n p q : Nat} (A : Nat -> Nat -> Rat) (hp : p < n) (hq : q < n) (hne : p ≠ q) : det n (G7 A p q) = -det n A :=
 Am6 hp hq hne (λ _ hB => Aqs hp hq hne hB) A
theorem Ani {n k : Nat} (A : Nat -> Nat -> Rat) (hk : k < n) (s : Rat) : det n (Dn A k λ j => s * A k j) = s * det n A := by
 have := M8 A s (λ _ => 0) (A k) hk
 rw [Of] at this
 have e : det n (Dn A k λ _ => 0) = 0 := Pe hk λ j _ => by unfold Dn; rw [if_pos rfl]
 rw [e] at this
 have e2 : det n (Dn A k λ j => s * A k j) = det n (Dn A k λ j => 0 + s * A k j) := Gf λ i j _ _ => by unfold Dn; split <;> grind
 rw [e2, this]; grind
theorem Ahz {n k r : Nat} (A : Nat -> Nat -> Rat) (hk : k < n) (hr : r < n) (hne : k ≠ r) (s : Rat) : det n (Dn A k λ j => A k j + s * A r j) = det n A := by
 rw [M8 A s (A k) (A r) hk, Of]
 have : det n (Dn A k (A r)) = 0 := Aqs hk hr hne λ j _ => by unfold Dn; rw [if_pos rfl, if_neg (Ne.symm hne)]
 rw [this]; grind
theorem Atq {n : Nat} {A : Nat -> Nat -> Rat} (h0 : A 0 0 = 1) (h : ∀ i, i < n -> A (i + 1) 0 = 0) : det (n + 1) A = det n λ i j => A (i + 1) (j + 1) := by
 rw [det, H8 (k := 0) (by omega) (λ i hi hne => by
   obtain ⟨m, rfl⟩ : ∃ m, i = m + 1 := ⟨i - 1, by omega⟩
   rw [h m (by omega)]; grind), h0]
 have : det n (D5 A 0) = det n λ i j => A (i + 1) (j + 1) := Gf λ i j _ _ => by unfold D5; rw [if_neg (by omega)]
 rw [this]
 show 1 * 1 * _ = _
 grind
theorem Am2 : ∀ {n : Nat} {A : Nat -> Nat -> Rat}, (∀ i j, i < n -> j < n -> A i j = if i = j then 1 else 0) -> det n A = 1
 | 0, _, _ => rfl
 | n + 1, A, h => by
   rw [Atq (by rw [h 0 0 (by omega) (by omega), if_pos rfl]) (λ i hi => by rw [h _ _ (by omega) (by omega), if_neg (by omega)])]
   refine Am2 λ i j hi hj => ?_
   rw [h _ _ (by omega) (by omega)]
   by_cases hij : i = j
   · rw [if_pos hij, if_pos (by omega)]
   · rw [if_neg hij, if_neg (by omega)]
end Go.Ab
