/- Long division of amounts in package num, whole. The integers and fractions of package num: quotients, divisors, sums, products. Conditions: none beyond those that each theorem names. -/
import Derived.Test.YtjdgmcngpiookaaGreatS19
namespace Go.Ab
open Go
set_option linter.unusedVariables false
set_option linter.unusedSimpArgs false
def rd (f : Nat -> Int) (s i : Nat) : Int := f i / 2 ^ s + (f (i + 1) * 2 ^ (32 - s)) % 4294967296
theorem qp {s : Nat} (hs : s <= 31) : (2 : Int) ^ (32 - s) * 2 ^ s = 4294967296 := by rw [Int.mul_comm]; exact pq hs
theorem Acs {s : Nat} (hs : s <= 31) (x : Int) : (x * 2 ^ (32 - s)) % 4294967296 = 2 ^ (32 - s) * (x % 2 ^ s) := by
 rw [<- qp hs, Int.mul_comm x, Int.mul_emod_mul_of_pos _ _ (Jq _)]
theorem Yz {s : Nat} (hs : s <= 31) (x : Int) : 0 <= (x * 2 ^ (32 - s)) % 4294967296 /\ (x * 2 ^ (32 - s)) % 4294967296 <= 4294967296 - 2 ^ (32 - s) := by
 refine ⟨by omega, ?_⟩
 rw [Acs hs]
 have h := Jq (32 - s)
 have h1 := Int.emod_lt_of_pos x (Jq s)
 have : (2 : Int) ^ (32 - s) * (x % 2 ^ s) <= 2 ^ (32 - s) * (2 ^ s - 1) := Int.mul_le_mul_of_nonneg_left (by omega) (by omega)
 rw [Int.mul_sub, qp hs] at this
 omega
theorem Asz {s : Nat} (hs : s <= 31) {x : Int} (h0 : 0 <= x) (h1 : x < 4294967296) : 0 <= x / 2 ^ s /\ x / 2 ^ s < 2 ^ (32 - s) := by
 have h := Jq s
 refine ⟨Int.ediv_nonneg h0 (by omega), Int.ediv_lt_of_lt_mul h ?_⟩
 rw [qp hs]; exact h1
theorem Al3 {f : Nat -> Int} {s : Nat} (hs : s <= 31) (hf : ∀ i, 0 <= f i /\ f i < 4294967296) (i : Nat) : 0 <= rd f s i /\ rd f s i < 4294967296 := by
 unfold rd
 obtain ⟨h1, h2⟩ := Yz hs (f (i + 1))
 obtain ⟨h3, h4⟩ := Asz hs (hf i).1 (hf i).2
 omega
theorem Aop (f : Nat -> Int) {s : Nat} (hs : s <= 31) : ∀ k, vl (rd f s) k * 2 ^ s = vl f k - f 0 % 2 ^ s + (f k % 2 ^ s) * 4294967296 ^ k
 | 0 => by simp [vl]; omega
 | k + 1 => by
   have IH := Aop f hs k
   rw [vl, vl, Int.pow_succ]
   have e1 : rd f s k * 2 ^ s = f k - f k % 2 ^ s + (f (k + 1) % 2 ^ s) * 4294967296 := by
     unfold rd
     rw [Acs hs, Int.add_mul]
     have h1 := Int.mul_ediv_add_emod (f k) (2 ^ s)
     have h2 := qp hs
     generalize (2 : Int) ^ s = P at *
     generalize (2 : Int) ^ (32 - s) = R at *
     generalize f k / P = y at *
     generalize f k % P = z at *
     grind
   generalize vl (rd f s) k = x at *
   generalize rd f s k = y at *
   generalize (2 : Int) ^ s = P at *
   grind
theorem A5g {s : Nat} (hs : s <= 31) {x y : Int} (h0 : 0 <= x) (h1 : x < 4294967296) :
   IntKind.wrap .u32 ((((BitVec.ofInt (IntKind.bits .u32) (Int.fdiv x (2 ^ s)) ||| BitVec.ofInt (IntKind.bits .u32) ((y * 2 ^ (32 - s)) % 4294967296)).toNat : Nat) : Int)) = x / 2 ^ s + (y * 2 ^ (32 - s)) % 4294967296 := by
 have hp := Jq s
 obtain ⟨a1, a2⟩ := Yz hs y
 obtain ⟨b1, b2⟩ := Asz hs h0 h1
 rw [Int.fdiv_eq_ediv_of_nonneg _ (by omega), BitVec.or_comm]
 have := O8 (n := IntKind.bits .u32) (k := 32 - s) (a := (y * 2 ^ (32 - s)) % 4294967296) (b := x / 2 ^ s) a1 b1 b2 (by show _ < (2 : Int) ^ 32; omega) (by rw [Acs hs]; exact Int.mul_emod_right _ _)
 rw [this, w32]
 omega
theorem Ab8 {r7 : List Int × List Int} (hu : WW r7.1) {s : Nat} (hs : s <= 31) {r2 : List Int × List Int} (hl : r2.2.length < r7.1.length) (hb : r7.1.length <= 1099511627777) :
   Ar (Bj (λ v : (Int × (List Int)) => Iy r2 r7 (s : Int) v.1 v.2) ((0 : Int), List.replicate r2.2.length (0 : Int)))
     λ r => WW r /\ r.length = r2.2.length /\ ∀ j, j < r2.2.length -> r.getD j 0 = rd (λ i => r7.1.getD i 0) s j := by
 refine As (I := λ t : Int × List Int => ∃ n : Nat, t.1 = (n : Int) /\ n <= r2.2.length /\ WW t.2 /\ t.2.length = r2.2.length /\ ∀ j, j < n -> t.2.getD j 0 = rd (λ i => r7.1.getD i 0) s j)
   (μ := λ t : Int × List Int => r2.2.length - t.1.toNat) ⟨0, rfl, by omega, WW.replicate _, by simp, λ j hj => by omega⟩ ?_
 rintro ⟨i, w⟩ ⟨n, h1, h2, h4, h5, h6⟩
 simp only at h1 h4 h5 h6
 subst h1
 have e0 : IntKind.wrap .u64 (s : Int) = (s : Int) := by rw [w64]; omega
 have fin : ∀ x : Int, n < r2.2.length -> x = rd (λ i => r7.1.getD i 0) s n ->
     Ar (Hy (n : Int) (w.set n x) r2 r7 (s : Int)) (Id (λ t : Int × List Int => ∃ n : Nat, t.1 = (n : Int) /\ n <= r2.2.length /\ WW t.2 /\ t.2.length = r2.2.length /\ ∀ j, j < n -> t.2.getD j 0 = rd (λ i => r7.1.getD i 0) s j)
       (λ t : Int × List Int => r2.2.length - t.1.toNat) ((n : Int), w) (λ r => WW r /\ r.length = r2.2.length /\ ∀ j, j < r2.2.length -> r.getD j 0 = rd (λ i => r7.1.getD i 0) s j)) := by
   rintro x hn rfl
   obtain ⟨k1, k2⟩ := Al3 hs (f := λ i => r7.1.getD i 0) hu n
   unfold Hy
   rw [Ae, Av, Bg (by omega) (by omega)]
   refine ⟨⟨n + 1, by simp, by omega, h4.set k1 k2, by simp [h5], λ j hj => ?_⟩, by simp; omega⟩
   rw [getD_set]
   split
   · rename_i h; rw [h.1]
   · exact h6 j (by omega)
 have hun := hu n
 have hp := Jq s
 unfold Iy
 simp only [Ai, Ah, Ae, decide_eq_true_eq, Aw, Af, List.length_set, Int.toNat_natCast, e0, sm1 hs, sm2 hs, w32 (_ * _)]
 rw [Bg (by omega) (by omega)]
 have en : ((n : Int) + 1).toNat = n + 1 := by omega
 rw [en]
 refine ⟨λ hn => ⟨by omega, by omega, by omega, λ hsp => ?_, λ hsz => ?_⟩, λ hn => ?_⟩
 · have eg : (w.set n (Int.fdiv (r7.1.getD n 0) (2 ^ s))).getD n 0 = Int.fdiv (r7.1.getD n 0) (2 ^ s) := by rw [getD_set, if_pos ⟨rfl, by omega⟩]
   rw [eg, A5g hs hun.1 hun.2, List.set_set]
   exact ⟨by omega, by omega, by rw [w64]; omega, by omega, fin _ (by omega) rfl⟩
 · have hs0 : s = 0 := by omega
   subst hs0
   refine fin _ (by omega) ?_
   unfold rd
   rw [Int.fdiv_eq_ediv_of_nonneg _ (by omega)]
   show _ = r7.1.getD n 0 / 2 ^ 0 + r7.1.getD (n + 1) 0 * 2 ^ (32 - 0) % 4294967296
   have : r7.1.getD (n + 1) 0 * 2 ^ (32 - 0) % 4294967296 = 0 := by
     rw [show ((2 : Int) ^ (32 - 0)) = 4294967296 by decide]; omega
   rw [this, Int.add_zero]
 · have : n = r2.2.length := by omega
   subst this
   exact ⟨h4, h5, h6⟩
theorem Y8 {a b : List Int} (ha : WW a) (hb : WW b) (ta : Top a) (tb : Top b) (hne : b ≠ []) (la : a.length <= 1099511627776) (lb : b.length <= 1099511627776) :
   Ar (Jz a b) λ r => WW r.1 /\ WW r.2 /\ r.1.length <= 1099511627777 /\ r.2.length <= 1099511627777 /\ val a = val r.1 * val b + val r.2 /\ val r.2 < val b := by
 have hbv := Ni hb tb hne
 have hb0 : 0 < val b := by have := Bw (b.length - 1); omega
 have hlb : 0 < b.length := List.length_pos_iff.2 hne
 have hav := ha.val
 unfold Jz
 refine (Qz ha hb ta tb (by omega) (by omega)).bind ?_
 rintro c rfl
 simp only [Ai, decide_eq_true_eq, Ah, Ae, At]
 refine ⟨λ hlt => ⟨by unfold Ap; omega, WW.nil, ha, by simp, by omega, by rw [G3]; omega, ?_⟩, λ hge => ⟨λ h1 => ?_, λ h1 => ?_⟩⟩
 · have := Int.sign_neg_iff.1 hlt; omega
 · -- by one word
   have h1 : b.length = 1 := by omega
   have eb : val b = b.getD 0 0 := by unfold val; rw [h1]; simp [vl]
   rw [Bg (by omega) (by omega)]
   refine ⟨by omega, by omega, by unfold Ap; omega, ?_⟩
   have el : ((a.length : Int)).toNat = a.length := by omega
   rw [el]
   refine (Yh ha hb la h1 (by omega)).mono ?_
   rintro ⟨c, q⟩ ⟨q1, q2, q3, q4, q5⟩
   simp only at q1 q2 q3 q4 q5
   have hb1 := hb 0
   rw [w32, show c % 4294967296 = c by omega]
   refine ⟨q1, λ i => ?_, by show q.length <= _; omega, by simp, by rw [Kk, eb]; exact q5, by rw [Kk]; omega⟩
   cases i <;> simp
   omega
 · have hge : val b <= val a := by
     have : ¬ val a - val b < 0 := λ hc => hge (Int.sign_neg_iff.2 hc)
     omega
   have hlen : b.length <= a.length := by
     rcases Nat.lt_or_ge a.length b.length with hc | hc
     · have := B9 ha hb tb hc; omega
     · exact hc
   obtain ⟨t, ht⟩ : ∃ t, b.length = t + 2 := ⟨b.length - 2, by omega⟩
   have etop : b.getD (t + 1) 0 = b.getD (b.length - 1) 0 := by congr 1; omega
   have htop : 0 < b.getD (t + 1) 0 := by
     have h1 := tb hne
     have h2 := hb (t + 1)
     rw [<- etop] at h1
     omega
   rw [Bg (x := (b.length : Int) - 1) (by omega) (by omega), Bg (x := (a.length : Int) + 1) (by omega) (by omega)]
   have e1 : ((b.length : Int) - 1).toNat = t + 1 := by omega
   have e2 : ((a.length : Int) + 1).toNat = a.length + 1 := by omega
   have e3 : ((b.length : Int)).toNat = b.length := by omega
   rw [e1, e2, e3]
   refine ⟨⟨by omega, by omega⟩, ?_⟩
   refine (Aek htop (hb (t + 1)).2).mono ?_
   rintro y2 ⟨s, rfl, hs, s1, s2⟩
   refine ⟨by omega, by omega, by unfold Ap; omega, by omega, by omega, by unfold Ap; omega, ?_⟩
   refine (Acl (a := a) hb hs lb (List.replicate (a.length + 1) 0)).mono ?_
   rintro ⟨u0, v⟩ ⟨v1, v2, v3, v4⟩
   simp only at v1 v2 v3 v4
   subst v1
   refine (Adk ha hs la (List.replicate (a.length + 1) 0, v) rfl).mono ?_
   rintro u ⟨u1, u2, u3⟩
   simp only
   have hP := Jq s
   have hvt : v.length = t + 2 := by omega
   -- the values
   have eV : val v = val b * 2 ^ s := by
     have h1 := Ali (λ i => b.getD i 0) s b.length
     rw [if_neg (by omega), show b.length - 1 = t + 1 by omega, show b.getD (t + 1) 0 * 2 ^ s / 4294967296 = 0 by
       exact Int.ediv_eq_zero_of_lt (by omega) s2] at h1
     have h2 : vl (sd (λ i => b.getD i 0) s) b.length = val v := by
       unfold val; rw [v3]; exact Fs λ j hj => (v4 j hj).symm
     have h3 : vl (λ i => b.getD i 0) b.length = val b := rfl
     rw [h2, h3] at h1
     omega
   have eA : val u = val a * 2 ^ s := by
     have h1 := Ali (λ i => a.getD i 0) s (a.length + 1)
     have h0 : a.getD a.length 0 = 0 := by rw [List.getD_eq_getElem?_getD, List.getElem?_eq_none (by omega)]; rfl
     rw [if_neg (by omega), Nat.add_sub_cancel, h0] at h1
     have h2 : vl (sd (λ i => a.getD i 0) s) (a.length + 1) = val u := by
       unfold val; rw [u2]; exact Fs λ j hj => (u3 j hj).symm
     have h3 : vl (λ i => a.getD i 0) (a.length + 1) = val a := Ik (by omega)
     rw [h2, h3] at h1
     simp only [Int.zero_mul] at h1
     omega
   have hv1 : 2147483648 <= v.getD (t + 1) 0 := by
     rw [v4 (t + 1) (by omega)]
     unfold sd
     rw [if_neg (by omega)]
     have := (Ab7 hs (hb t).1 (hb t).2).1
     show _ <= b.getD (t + 1) 0 * 2 ^ s % 4294967296 + b.getD t 0 * 2 ^ s / 4294967296
     omega
   have hVge : 2147483648 * 4294967296 ^ (t + 1) <= val v := by
     have h1 : val v = vl (λ i => v.getD i 0) (t + 1) + v.getD (t + 1) 0 * 4294967296 ^ (t + 1) := by unfold val; rw [hvt]; rfl
     have h2 := (C0 (f := λ i => v.getD i 0) (t + 1) λ i _ => v2 i).1
     have h3 : 2147483648 * 4294967296 ^ (t + 1) <= v.getD (t + 1) 0 * 4294967296 ^ (t + 1) := Int.mul_le_mul_of_nonneg_right hv1 (by have := Bw (t + 1); omega)
     omega
   have hVpos : 0 < val v := by have := Bw (t + 1); omega
   rw [hvt, Bg (x := (a.length : Int) - ((t + 2 : Nat) : Int)) (by omega) (by omega), Bg (x := (a.length : Int) - ((t + 2 : Nat) : Int) + 1) (by omega) (by omega)]
   have e5 : ((a.length : Int) - ((t + 2 : Nat) : Int) + 1).toNat = a.length - (t + 2) + 1 := by omega
   have e6 : (((t + 2 : Nat) : Int)).toNat = t + 2 := by omega
   rw [e5, e6]
   refine ⟨by omega, by omega, by unfold Ap; omega, ?_⟩
   have L : Ar (Bj (λ q : (Int × (List Int) × (List Int)) => Gr (List.replicate (a.length + 1) 0, v) (s : Int) q.1 q.2.1 q.2.2) ((a.length : Int) - ((t + 2 : Nat) : Int), u, List.replicate (a.length - (t + 2) + 1) (0 : Int)))
       λ r => WW r.1 /\ r.1.length = a.length + 1 /\ WW r.2 /\ r.2.length = a.length - (t + 2) + 1 /\ val r.1 < val v /\ val r.2 * val v + val r.1 = val u := by
     refine As (I := λ q : Int × List Int × List Int => ∃ n : Nat, q.1 = (n : Int) - 1 /\ n <= a.length - (t + 2) + 1 /\ WW q.2.1 /\ q.2.1.length = a.length + 1 /\ WW q.2.2 /\ q.2.2.length = a.length - (t + 2) + 1 /\ (∀ k, k < n -> q.2.2.getD k 0 = 0) /\
         val q.2.1 < val v * 4294967296 ^ n /\ val q.2.2 * val v + val q.2.1 = val u) (μ := λ q : Int × List Int × List Int => (q.1 + 1).toNat) ⟨a.length - (t + 2) + 1, by show (a.length : Int) - ((t + 2 : Nat) : Int) = _; omega, by omega, u1, u2, WW.replicate _, by simp, λ k _ => Cq _ k, ?_, ?_⟩ ?_
     · show val u < _
       have h1 : (4294967296 : Int) ^ (t + 1) * 4294967296 ^ (a.length - (t + 2) + 1) = 4294967296 ^ a.length := by rw [<- Int.pow_add]; congr 1; omega
       have h2 : 2147483648 * 4294967296 ^ (t + 1) * 4294967296 ^ (a.length - (t + 2) + 1) <= val v * 4294967296 ^ (a.length - (t + 2) + 1) := Int.mul_le_mul_of_nonneg_right hVge (by have := Bw (a.length - (t + 2) + 1); omega)
       rw [Int.mul_assoc, h1] at h2
       have h3 : (2 : Int) ^ s <= 2147483648 := by
         have : s <= 31 := hs
         rcases Nat.lt_or_eq_of_le hs with h | h
         · have := Int.pow_lt_pow_of_lt (a := 2) (by decide) h
           have e : (2 : Int) ^ 31 = 2147483648 := by decide
           omega
         · subst h; decide
       have h4 : val a * 2 ^ s < 4294967296 ^ a.length * 2 ^ s := Int.mul_lt_mul_of_pos_right hav.2 hP
       have h5 : (4294967296 : Int) ^ a.length * 2 ^ s <= 4294967296 ^ a.length * 2147483648 := Int.mul_le_mul_of_nonneg_left h3 (Int.le_of_lt (Bw a.length))
       rw [eA]
       omega
     · show val (List.replicate _ 0) * _ + val u = _
       have : val (List.replicate (a.length - (t + 2) + 1) 0) = 0 := by rw [val, Rj λ j _ => Cq _ j]
       rw [this]; simp
     · rintro ⟨i, x, o⟩ ⟨n, h1, h2, h3, h4, h5, h6, h7, h8, h9⟩
       simp only at h1 h3 h4 h5 h6 h7 h8 h9
       subst h1
       rcases Nat.eq_zero_or_pos n with h | h
       · subst h
         unfold Gr
         rw [Ai]
         refine ⟨λ hc => by simp at hc, λ _ => ?_⟩
         rw [Ae, Aw]
         exact ⟨h3, h4, h5, h6, by simpa using h8, h9⟩
       · obtain ⟨j, rfl⟩ : ∃ j, n = j + 1 := ⟨n - 1, by omega⟩
         have ej : (((j + 1 : Nat) : Int) - 1) = (j : Int) := by omega
         simp only [ej]
         refine Z3 (r2 := (List.replicate (a.length + 1) 0, v)) h3 h5 (s : Int) v2 hvt (by omega) (by omega) (by omega) (by show 0 < v.getD (t + 1) 0; omega) h8 (h7 j (by omega)) ?_
         intro u' o' k1 k2 k3 k4 k5 k6 k7
         rw [Av]
         refine ⟨⟨j, rfl, by omega, k1, by rw [k2]; exact h4, k3, by rw [k4]; exact h6, λ k hk => by rw [k5 k (by omega)]; exact h7 k (by omega), k6, by rw [<- h9]; exact k7⟩, ?_⟩
         show ((j : Int) - 1 + 1).toNat < ((j : Int) + 1).toNat
         omega
   refine L.mono ?_
   rintro ⟨x, o⟩ ⟨x1, x2, x3, x4, x5, x6⟩
   simp only at x1 x2 x3 x4 x5 x6
   refine ⟨by omega, by omega, by unfold Ap; omega, ?_⟩
   have R := Ab8 (r7 := (x, o)) x1 hs (r2 := (List.replicate (a.length + 1) 0, v)) (by show v.length < x.length; omega) (by show x.length <= _; omega)
   rw [show (List.replicate (a.length + 1) (0 : Int), v).2.length = t + 2 from hvt] at R
   refine R.mono ?_
   rintro r ⟨r1, r2, r3⟩
   have hx1 : val x = vl (λ i => x.getD i 0) (t + 2) + hi (λ i => x.getD i 0) (t + 2) x.length * 4294967296 ^ (t + 2) := Ame _ (by omega)
   have hvlt := v2.val.2
   rw [hvt] at hvlt
   have hxl := C0 (f := λ i => x.getD i 0) (t + 2) λ i _ => x1 i
   have hhi : hi (λ i => x.getD i 0) (t + 2) x.length = 0 := by
     have h1 : 0 <= hi (λ i => x.getD i 0) (t + 2) x.length := (C0 _ λ i _ => x1 _).1
     have h2 : hi (λ i => x.getD i 0) (t + 2) x.length * 4294967296 ^ (t + 2) < 1 * 4294967296 ^ (t + 2) := by omega
     have := Dh h2 (Bw _)
     omega
   have hx0 : x.getD (t + 2) 0 = 0 := by
     have h1 := Tx (λ i => x.getD i 0) (n := t + 2) (L := x.length) (by omega)
     have h2 : 0 <= hi (λ i => x.getD i 0) (t + 2 + 1) x.length := (C0 _ λ i _ => x1 _).1
     have h3 := x1 (t + 2)
     rw [hhi] at h1
     omega
   rw [hhi, Int.zero_mul, Int.add_zero] at hx1
   have hval : val r = vl (rd (λ i => x.getD i 0) s) (t + 2) := by
     unfold val; rw [r2]; exact Fs λ j hj => r3 j hj
   have hrd := Aop (λ i => x.getD i 0) hs (t + 2)
   rw [<- hval, <- hx1, hx0] at hrd
   -- the rest is a multiple of what it was shifted by
   have hmul : val x = (val a - val o * val b) * 2 ^ s := by
     rw [eA, eV] at x6
     rw [Int.sub_mul]
     have : val o * (val b * 2 ^ s) = val o * val b * 2 ^ s := by rw [Int.mul_assoc]
     omega
   have hmod : x.getD 0 0 % 2 ^ s = 0 := by
     have h1 : val x = x.getD 0 0 + 4294967296 * hi (λ i => x.getD i 0) 1 x.length := by
       have := Tx (λ i => x.getD i 0) (n := 0) (L := x.length) (by omega)
       rw [Wk] at this
       exact this
     have h2 : x.getD 0 0 = (val a - val o * val b - 2 ^ (32 - s) * hi (λ i => x.getD i 0) 1 x.length) * 2 ^ s := by
       have h3 := qp hs
       rw [hmul] at h1
       generalize hi (λ i => x.getD i 0) 1 x.length = hh at *
       generalize (2 : Int) ^ s = P at *
       generalize (2 : Int) ^ (32 - s) = R at *
       grind
     rw [h2]
     exact Int.mul_emod_left _ _
   rw [hmod] at hrd
   simp only [Int.zero_emod, Int.zero_mul, Int.add_zero, Int.sub_zero] at hrd
   have hrest : val r = val a - val o * val b := by
     rw [hmul] at hrd
     exact Int.eq_of_mul_eq_mul_right (by omega) hrd
   refine ⟨x3, r1, by show o.length <= _; omega, by omega, by show val a = val o * val b + val r; omega, ?_⟩
   have h1 : val r * 2 ^ s < val b * 2 ^ s := by rw [hrd, <- eV]; exact x5
   exact Dh h1 hP
theorem W5 {A B q r : Int} (hB : 0 < B) (e : A = q * B + r) (h0 : 0 <= r) (h1 : r < B) (hA : 0 <= A) : A.tdiv B = q /\ A.tmod B = r := by
 rw [Wu hA, Pf hA]
 exact (Int.ediv_emod_unique hB).2 ⟨by rw [e, Int.mul_comm]; omega, h0, h1⟩
theorem So {a b : A8} (ha : ZOk a) (hb : ZOk b) {K : Nat} (hK : K <= 1099511627776) (la : ZLt a K) (lb : ZLt b K) (h0 : Bh b ≠ 0) :
   Ar (Nc a b) λ r => ZOk r.1 /\ ZOk r.2 /\ Bh r.1 = (Bh a).tdiv (Bh b) /\ Bh r.2 = (Bh a).tmod (Bh b) := by
 have J : Ar (Kl a b) λ r => ZOk r.1 /\ ZOk r.2 /\ Bh r.1 = (Bh a).tdiv (Bh b) /\ Bh r.2 = (Bh a).tmod (Bh b) := by
   unfold Kl
   refine (Kq ha la).bind ?_
   rintro x ⟨x1, x2, x3, x4, x5⟩
   refine (Kq hb lb).bind ?_
   rintro y ⟨y1, y2, y3, y4, y5⟩
   have hne : y.1 ≠ [] := by
     intro e
     rw [<- y3, e, G3] at h0
     exact h0 (by unfold sgn; split <;> simp)
   have hy0 : 0 < val y.1 := by have := Ni y1 y2 hne; have := Bw (y.1.length - 1); omega
   refine (Y8 x1 y1 x2 y2 hne (by omega) (by omega)).bind ?_
   rintro q ⟨q1, q2, q3, q4, q5, q6⟩
   refine (Jn q1 (by omega) _).bind ?_
   rintro z ⟨z1, z2⟩
   refine (Jn q2 (by omega) _).bind ?_
   rintro w ⟨w1, w2⟩
   rw [Ae]
   obtain ⟨d1, d2⟩ := W5 hy0 q5 q2.val.1 q6 x1.val.1
   refine ⟨z1, w1, ?_, ?_⟩
   · rw [z2, <- x3, <- y3, <- d1]
     unfold sgn
     cases x.2 <;> cases y.2 <;> simp
   · rw [w2, <- x3, <- y3, <- d2]
     unfold sgn
     cases x.2 <;> cases y.2 <;> simp
 unfold Nc
 simp only [Ai, Gn, Ae, Ah, Bool.not_eq_true', decide_eq_false_iff_not]
 refine ⟨λ h1 => ⟨λ h2 => ⟨λ h3 => ?_, λ _ => J⟩, λ _ => J⟩, λ _ => J⟩
 obtain ⟨a1, a2, a3⟩ := ha.range h1
 obtain ⟨b1, b2, b3⟩ := hb.range h2
 rw [b3] at h0
 have t1 := Int.natAbs_tdiv_le_natAbs a.v b.v
 have t2 : (a.v.tmod b.v).natAbs <= a.v.natAbs := by rw [Int.natAbs_tmod]; exact Nat.mod_le _ _
 rw [Bg (by omega) (by omega), a3, b3]
 exact ⟨h0, h0, ZOk.small (by omega) (by omega), ZOk.small (by omega) (by omega), Cz _ _, Cz _ _⟩
theorem Wz (a b : Int) (ha : 0 <= a) (hb : 0 <= b) : Int.gcd b (a.tmod b) = Int.gcd a b := by
 obtain ⟨m, rfl⟩ := Int.eq_ofNat_of_zero_le ha
 obtain ⟨n, rfl⟩ := Int.eq_ofNat_of_zero_le hb
 rw [Pf (by omega), <- Int.natCast_emod, Int.gcd_natCast_natCast, Int.gcd_natCast_natCast, Nat.gcd_comm m n, Nat.gcd_rec n m, Nat.gcd_comm]
theorem An9 {a b : A8} (ha : ZOk a) (hb : ZOk b) {K : Nat} (hK : K <= 1099511627776) (la : ZLt a K) (lb : ZLt b K) : Ar (Uz a b) λ r => ZOk r /\ Bh r = (Int.gcd (Bh a) (Bh b) : Int) := by
 unfold Uz
 refine (Xz ha hK la).bind ?_
 rintro x ⟨x1, x2⟩
 refine (Xz hb hK lb).bind ?_
 rintro y ⟨y1, y2⟩
 rw [At]
 refine (As (I := λ s : Int × List Int × Bool × Int × List Int × Bool => ZOk ⟨s.1, s.2.1, s.2.2.1⟩ /\ ZOk ⟨s.2.2.2.1, s.2.2.2.2.1, s.2.2.2.2.2⟩ /\ 0 <= Bh ⟨s.1, s.2.1, s.2.2.1⟩ /\ 0 <= Bh ⟨s.2.2.2.1, s.2.2.2.2.1, s.2.2.2.2.2⟩ /\
     ZLt ⟨s.1, s.2.1, s.2.2.1⟩ K /\ ZLt ⟨s.2.2.2.1, s.2.2.2.2.1, s.2.2.2.2.2⟩ K /\ Int.gcd (Bh ⟨s.1, s.2.1, s.2.2.1⟩) (Bh ⟨s.2.2.2.1, s.2.2.2.2.1, s.2.2.2.2.2⟩) = Int.gcd (Bh a) (Bh b))
   (μ := λ s : Int × List Int × Bool × Int × List Int × Bool => (Bh ⟨s.2.2.2.1, s.2.2.2.2.1, s.2.2.2.2.2⟩).toNat)
   (Q := λ r => match r with
     | .inl s => ZOk ⟨s.1, s.2.1, s.2.2⟩ /\ Bh ⟨s.1, s.2.1, s.2.2⟩ = (Int.gcd (Bh a) (Bh b) : Int)
     | .inr z => ZOk z /\ Bh z = (Int.gcd (Bh a) (Bh b) : Int)) ?_ ?_).mono ?_
 · refine ⟨x1, y1, by show 0 <= Bh x; omega, by show 0 <= Bh y; omega, ?_, ?_, ?_⟩
   · show ZLt x K
     unfold ZLt at *; omega
   · show ZLt y K
     unfold ZLt at *; omega
   · show Int.gcd (Bh x) (Bh y) = _
     rw [x2, y2]
     simp [Int.gcd_eq_natAbs_gcd_natAbs]
 · rintro ⟨a1, a2, a3, b1, b2, b3⟩ ⟨p1, p2, p3, p4, p5, p6, p7⟩
   simp only at p1 p2 p3 p4 p5 p6 p7
   have J : Bh ⟨b1, b2, b3⟩ ≠ 0 -> Ar (N7 a1 a2 a3 b1 b2 b3) (Id (λ s : Int × List Int × Bool × Int × List Int × Bool => ZOk ⟨s.1, s.2.1, s.2.2.1⟩ /\ ZOk ⟨s.2.2.2.1, s.2.2.2.2.1, s.2.2.2.2.2⟩ /\ 0 <= Bh ⟨s.1, s.2.1, s.2.2.1⟩ /\ 0 <= Bh ⟨s.2.2.2.1, s.2.2.2.2.1, s.2.2.2.2.2⟩ /\
       ZLt ⟨s.1, s.2.1, s.2.2.1⟩ K /\ ZLt ⟨s.2.2.2.1, s.2.2.2.2.1, s.2.2.2.2.2⟩ K /\ Int.gcd (Bh ⟨s.1, s.2.1, s.2.2.1⟩) (Bh ⟨s.2.2.2.1, s.2.2.2.2.1, s.2.2.2.2.2⟩) = Int.gcd (Bh a) (Bh b))
       (λ s : Int × List Int × Bool × Int × List Int × Bool => (Bh ⟨s.2.2.2.1, s.2.2.2.2.1, s.2.2.2.2.2⟩).toNat) (a1, a2, a3, b1, b2, b3)
       (λ r => match r with
         | .inl s => ZOk ⟨s.1, s.2.1, s.2.2⟩ /\ Bh ⟨s.1, s.2.1, s.2.2⟩ = (Int.gcd (Bh a) (Bh b) : Int)
         | .inr z => ZOk z /\ Bh z = (Int.gcd (Bh a) (Bh b) : Int))) := by
     intro hne
     unfold N7
     refine (So p1 p2 hK p5 p6 hne).bind ?_
     rintro ⟨q, r⟩ ⟨q1, q2, q3, q4⟩
     simp only at q1 q2 q3 q4
     rw [Ae, Av]
     rw [Pf p3] at q4
     have m0 := Int.emod_nonneg (Bh ⟨a1, a2, a3⟩) hne
     have m1 := Int.emod_lt_of_pos (Bh ⟨a1, a2, a3⟩) (b := Bh ⟨b1, b2, b3⟩) (by omega)
     refine ⟨⟨p2, q2, p4, by show 0 <= Bh r; omega, p6, ?_, ?_⟩, by show (Bh r).toNat < _; simp only; omega⟩
     · unfold ZLt at *
       show _ < Bh r /\ Bh r < _
       omega
     · show Int.gcd (Bh ⟨b1, b2, b3⟩) (Bh r) = _
       rw [q4, <- p7, <- Pf p3, Wz _ _ p3 p4]
   unfold Tp
   refine (K3 p2).bind ?_
   rintro s rfl
   simp only [Ai, Ae, Gn, Bool.not_eq_true', decide_eq_false_iff_not, At, Aw]
   refine ⟨λ h => ?_, λ h => ?_⟩
   · have hne : Bh ⟨b1, b2, b3⟩ ≠ 0 := λ e => h (by rw [e]; rfl)
     refine ⟨λ h2 => ⟨λ h3 => ?_, λ _ => J hne⟩, λ _ => J hne⟩
     subst h2 h3
     rw [Cz] at p3 p4 p7
     rw [Cz] at p7
     obtain ⟨r1, r2, _⟩ := p1.range rfl
     obtain ⟨r3, r4, _⟩ := p2.range rfl
     refine As (I := λ s : Int × Int => 0 <= s.1 /\ s.1 < 9223372036854775808 /\ 0 <= s.2 /\ s.2 < 9223372036854775808 /\ Int.gcd s.1 s.2 = Int.gcd (Bh a) (Bh b)) (μ := λ s : Int × Int => s.2.toNat) ⟨p3, r2, p4, r4, p7⟩ ?_
     rintro ⟨u, v⟩ ⟨g1, g2, g3, g4, g5⟩
     simp only at g1 g2 g3 g4 g5
     unfold Us
     simp only [Ai, Ae, Ah, Bool.not_eq_true', decide_eq_false_iff_not, Av, Aw]
     refine ⟨λ hv => ?_, λ hv => ?_⟩
     · have m0 := Int.emod_nonneg u hv
       have m1 := Int.emod_lt_of_pos u (b := v) (by omega)
       have m2 := Wz u v g1 g3
       rw [Pf g1] at m2 ⊢
       exact ⟨hv, ⟨g3, g4, m0, by omega, by rw [m2]; exact g5⟩, by omega⟩
     · have hv : v = 0 := by omega
       subst hv
       rw [Int.gcd_zero_right] at g5
       refine ⟨ZOk.small (by omega) (by omega), ?_⟩
       rw [Cz, <- g5]; omega
   · have h0 : Bh ⟨b1, b2, b3⟩ = 0 := by
       rw [Classical.not_not] at h
       exact Int.sign_eq_zero_iff_zero.1 h
     rw [h0, Int.gcd_zero_right] at p7
     exact ⟨p1, by rw [<- p7]; omega⟩
 · rintro r hr
   cases r with
   | inl s => rw [Ae]; exact hr
   | inr z => rw [Ae]; exact hr
structure Cc (q : Al) (r : Rat) : Prop where
 okN : ZOk q.N
 okD : ZOk q.D
 num : Bh q.N = r.num
 den : Bh q.D = (r.den : Int)
def Sz (r : Rat) (k : Nat) : Prop := (r.num.natAbs : Int) < 4294967296 ^ k /\ (r.den : Int) < 4294967296 ^ k
theorem Sk {n d : A8} (hn : ZOk n) (hd : ZOk d) {K : Nat} (hK : K <= 1099511627776) (ln : ZLt n K) (ld : ZLt d K) (h0 : Bh d ≠ 0) : Ar (Lf n d) λ q => Cc q (Rat.divInt (Bh n) (Bh d)) := by
 have J : ∀ {n d : A8}, ZOk n -> ZOk d -> ZLt n K -> ZLt d K -> 0 < Bh d -> Ar (L0 n.v n.m n.neg d.v d.m d.neg) λ q => Cc q (Rat.divInt (Bh n) (Bh d)) := by
   intro n d hn hd ln ld h0
   unfold L0
   refine (An9 hn hd hK ln ld).bind ?_
   rintro g ⟨g1, g2⟩
   have g2 : Bh g = (Int.gcd (Bh n) (Bh d) : Int) := g2
   have hgp : 0 < Int.gcd (Bh n) (Bh d) := Int.gcd_pos_of_ne_zero_right _ (by omega)
   have hdn := Int.gcd_dvd_left (Bh n) (Bh d)
   have hdd := Int.gcd_dvd_right (Bh n) (Bh d)
   have eN : (Rat.divInt (Bh n) (Bh d)).num = Bh n / (Int.gcd (Bh n) (Bh d) : Int) := by
     rw [Rat.num_divInt, Int.sign_eq_one_of_pos h0, Int.one_mul, Int.gcd_comm]
   have eD : ((Rat.divInt (Bh n) (Bh d)).den : Int) = Bh d / (Int.gcd (Bh n) (Bh d) : Int) := by
     rw [Rat.den_divInt, if_neg (by omega), Int.gcd_comm, Int.natCast_ediv, Int.natAbs_of_nonneg (by omega)]
   have J2 : Ar (Lo n.v n.m n.neg d.v d.m d.neg g) λ q => Cc q (Rat.divInt (Bh n) (Bh d)) := by
     unfold Lo
     have hgd : (Int.gcd (Bh n) (Bh d) : Int) <= Bh d := Int.le_of_dvd h0 hdd
     have lg : ZLt g K := by unfold ZLt at *; omega
     refine (So hn g1 hK ln lg (by omega)).bind ?_
     rintro x ⟨x1, _, x2, _⟩
     refine (So hd g1 hK ld lg (by omega)).bind ?_
     rintro y ⟨y1, _, y2, _⟩
     unfold Lu
     rw [Ae]
     refine ⟨x1, y1, ?_, ?_⟩
     · rw [eN, <- g2]
       show Bh x.1 = _
       rw [x2]
       exact Int.tdiv_eq_ediv_of_dvd (by rw [g2]; exact hdn)
     · rw [eD, <- g2]
       show Bh y.1 = _
       rw [y2]
       exact Int.tdiv_eq_ediv_of_dvd (by rw [g2]; exact hdd)
   simp only [Ai, Gn, Bool.not_eq_true', decide_eq_false_iff_not]
   refine ⟨λ _ => J2, λ he => ⟨λ _ => J2, λ h1 => ?_⟩⟩
   have hm : g.m = [] := by cases hg : g.m <;> simp_all
   have h1 : g.v = 1 := by omega
   have h1' : Bh g = 1 := by rw [Bh, if_pos hm, h1]
   unfold Lu
   rw [Ae]
   refine ⟨hn, hd, ?_, ?_⟩
   · rw [eN, <- g2, h1', Int.ediv_one]
   · rw [eD, <- g2, h1', Int.ediv_one]
 unfold Lf
 refine (K3 hd).bind ?_
 rintro s rfl
 simp only [Ai, decide_eq_true_eq]
 refine ⟨λ h => ?_, λ h => ?_⟩
 · have hneg := Int.sign_neg_iff.1 h
   refine (Mk hn hK ln).bind ?_
   rintro x ⟨x1, x2⟩
   refine (Mk hd hK ld).bind ?_
   rintro y ⟨y1, y2⟩
   have := J x1 y1 (ln.neg x2) (ld.neg y2) (by omega)
   rw [x2, y2, Rat.neg_divInt_neg] at this
   exact this
 · have : ¬ Bh d < 0 := λ hc => h (Int.sign_neg_iff.2 hc)
   exact J hn hd ln ld (by omega)
theorem Sz.pos {r : Rat} {k : Nat} (h : Sz r k) : -(4294967296 ^ k) < r.num /\ r.num < 4294967296 ^ k /\ 0 < (r.den : Int) /\ (r.den : Int) < 4294967296 ^ k := by
 have := r.den_pos
 unfold Sz at h
 omega
theorem Sz.mono {r : Rat} {k m : Nat} (h : Sz r k) (hk : k <= m) : Sz r m := by
 have := Dg hk
 unfold Sz at *; omega
theorem Cc.ltN {q : Al} {r : Rat} {k : Nat} (h : Cc q r) (s : Sz r k) : ZLt q.N k := by have := s.pos; unfold ZLt; rw [h.num]; omega
theorem Cc.ltD {q : Al} {r : Rat} {k : Nat} (h : Cc q r) (s : Sz r k) : ZLt q.D k := by have := s.pos; unfold ZLt; rw [h.den]; omega
theorem ZLt.mono {z : A8} {k m : Nat} (h : ZLt z k) (hk : k <= m) : ZLt z m := by have := Dg hk; unfold ZLt at *; omega
theorem B7 {x y : Int} {k m : Nat} (h1 : -(4294967296 ^ k) < x) (h2 : x < 4294967296 ^ k) (h3 : -(4294967296 ^ m) < y) (h4 : y < 4294967296 ^ m) : -(4294967296 ^ (k + m)) < x * y /\ x * y < 4294967296 ^ (k + m) := by
 have hk := Bw k
 have hm := Bw m
 rw [Int.pow_add]
 generalize (4294967296 : Int) ^ k = A at *
 generalize (4294967296 : Int) ^ m = B at *
 have e : ∀ u v : Int, 0 <= u -> u < A -> 0 <= v -> v < B -> 0 <= u * v /\ u * v < A * B := by
   intro u v u0 u1 v0 v1
   refine ⟨Int.mul_nonneg u0 v0, ?_⟩
   have a1 : u * v <= u * B := Int.mul_le_mul_of_nonneg_left (by omega) u0
   have a2 : u * B < A * B := Int.mul_lt_mul_of_pos_right u1 hm
   omega
 rcases Int.le_total 0 x with hx | hx <;> rcases Int.le_total 0 y with hy | hy
 · have := e x y hx h2 hy h4; omega
 · have := e x (-y) hx h2 (by omega) (by omega); rw [Int.mul_neg] at this; omega
 · have := e (-x) y (by omega) (by omega) hy h4; rw [Int.neg_mul] at this; omega
 · have := e (-x) (-y) (by omega) (by omega) (by omega) (by omega); rw [Int.neg_mul_neg] at this; omega
theorem Lz {a b : Int} {k : Nat} (h0 : b ≠ 0) (ha : -(4294967296 ^ k) < a /\ a < 4294967296 ^ k) (hb : -(4294967296 ^ k) < b /\ b < 4294967296 ^ k) : Sz (Rat.divInt a b) k := by
 have hgp : 0 < Int.gcd b a := Int.gcd_pos_of_ne_zero_left _ h0
 refine ⟨?_, ?_⟩
 · rw [Rat.num_divInt]
   have h1 : (b.sign * a / (Int.gcd b a : Int)).natAbs <= (b.sign * a).natAbs := by
     have := Int.natAbs_ediv_le_natAbs (b.sign * a) (Int.gcd b a : Int); exact this
   have h2 : (b.sign * a).natAbs = a.natAbs := by rw [Int.natAbs_mul, Int.natAbs_sign_of_ne_zero h0, Nat.one_mul]
   omega
 · rw [Rat.den_divInt, if_neg h0]
   have := Nat.div_le_self b.natAbs (Int.gcd b a)
   omega
theorem Mq (x y : Rat) : x + y = Rat.divInt (x.num * y.den + y.num * x.den) ((x.den : Int) * y.den) := by
 rw [Rat.add_def', <- Rat.divInt_ofNat]; simp
theorem Mf (x y : Rat) : x * y = Rat.divInt (x.num * y.num) ((x.den : Int) * y.den) := by
 rw [Rat.mul_def', <- Rat.divInt_ofNat]; simp
theorem Sl (x y : Rat) : x / y = Rat.divInt (x.num * y.den) ((x.den : Int) * y.num) := by
 rw [Rat.div_def, Rat.inv_def, <- Rat.divInt_mul_divInt x.num (y.den : Int), Rat.num_divInt_den]
theorem Vc (x y : Rat) : (x.den : Int) * y.den ≠ 0 := by
 have := x.den_pos; have := y.den_pos
 exact Int.ne_of_gt (Int.mul_pos (by omega) (by omega))
theorem Sz.neg {x : Rat} {k : Nat} (h : Sz x k) : Sz (-x) k := by unfold Sz at *; rw [Rat.neg_num, Rat.neg_den]; omega
theorem U6 {x y : Rat} {k m : Nat} (h1 : Sz x k) (h2 : Sz y m) : -(4294967296 ^ (k + m + 1)) < x.num * y.den + y.num * x.den /\ x.num * y.den + y.num * x.den < 4294967296 ^ (k + m + 1) := by
 obtain ⟨a1, a2, a3, a4⟩ := h1.pos
 obtain ⟨b1, b2, b3, b4⟩ := h2.pos
 have p1 := B7 a1 a2 (y := (y.den : Int)) (m := m) (by omega) b4
 have p2 := B7 b1 b2 (y := (x.den : Int)) (m := k) (by omega) a4
 rw [Nat.add_comm m k] at p2
 rw [Int.pow_succ]
 have := Bw (k + m)
 omega
theorem Lp {x y : Rat} {k m : Nat} (h1 : Sz x k) (h2 : Sz y m) : -(4294967296 ^ (k + m)) < (x.den : Int) * y.den /\ (x.den : Int) * y.den < 4294967296 ^ (k + m) := by
 obtain ⟨a1, a2, a3, a4⟩ := h1.pos
 obtain ⟨b1, b2, b3, b4⟩ := h2.pos
 exact B7 (by omega) a4 (by omega) b4
theorem Sz.add {x y : Rat} {k m : Nat} (h1 : Sz x k) (h2 : Sz y m) : Sz (x + y) (k + m + 1) := by
 rw [Mq]
 refine Lz (Vc x y) (U6 h1 h2) ?_
 have := Lp h1 h2
 have := Dg (show k + m <= k + m + 1 by omega)
 omega
theorem Sz.sub {x y : Rat} {k m : Nat} (h1 : Sz x k) (h2 : Sz y m) : Sz (x - y) (k + m + 1) := by rw [Rat.sub_eq_add_neg]; exact h1.add h2.neg
theorem Sz.mul {x y : Rat} {k m : Nat} (h1 : Sz x k) (h2 : Sz y m) : Sz (x * y) (k + m) := by
 rw [Mf]
 obtain ⟨a1, a2, a3, a4⟩ := h1.pos
 obtain ⟨b1, b2, b3, b4⟩ := h2.pos
 exact Lz (Vc x y) (B7 a1 a2 b1 b2) (Lp h1 h2)
theorem Sz.div {x y : Rat} {k m : Nat} (h1 : Sz x k) (h2 : Sz y m) (h0 : y ≠ 0) : Sz (x / y) (k + m) := by
 rw [Sl]
 obtain ⟨a1, a2, a3, a4⟩ := h1.pos
 obtain ⟨b1, b2, b3, b4⟩ := h2.pos
 exact Lz (λ h => by
   rcases Int.mul_eq_zero.1 h with h | h
   · omega
   · exact h0 (Rat.num_eq_zero.1 h)) (B7 a1 a2 (by omega) b4) (B7 (by omega) a4 b1 b2)
theorem Mv {q : Al} {r : Rat} (h : Cc q r) {k : Nat} (s : Sz r k) (hk : k <= 1099511627776) : Ar (Ii q) λ b => b = true ↔ r.den = 1 := by
 unfold Ii Xk
 simp only [At, Ae]
 have one : ZOk ⟨1, [], false⟩ := ZOk.small (by omega) (by omega)
 have hk1 : ZLt ⟨1, [], false⟩ (k + 1) := by unfold ZLt; rw [Cz, Int.pow_succ]; have := Bw k; omega
 by_cases hk0 : k + 1 <= 1099511627776
 · refine (Zf h.okD one hk0 ((h.ltD s).mono (by omega)) hk1).mono ?_
   rintro c rfl
   rw [Cz, h.den, decide_eq_true_eq, Int.sign_eq_zero_iff_zero]
   omega
 · have hk2 : k = 1099511627776 := by omega
   have hk1 : ZLt ⟨1, [], false⟩ k := by
     unfold ZLt; rw [Cz]
     have := Dg (show 1 <= k by omega)
     omega
   refine (Zf h.okD one hk (h.ltD s) hk1).mono ?_
   rintro c rfl
   rw [Cz, h.den, decide_eq_true_eq, Int.sign_eq_zero_iff_zero]
   omega
theorem Ib {a b : Al} {x y : Rat} (ha : Cc a x) (hb : Cc b y) {k m : Nat} (sx : Sz x k) (sy : Sz y m) (hkm : k + m + 1 <= 1099511627776) : Ar (Im a b) λ c => Cc c (x + y) := by
 have lxN := ha.ltN sx; have lxD := ha.ltD sx; have lyN := hb.ltN sy; have lyD := hb.ltD sy
 have J : Ar (Ly a b) λ c => Cc c (x + y) := by
   unfold Ly
   refine (Jj ha.okN hb.okD (K := k + m) (by omega) (lxN.mono (by omega)) (lyD.mono (by omega))).bind ?_
   rintro p ⟨p1, p2⟩
   refine (Jj hb.okN ha.okD (K := k + m) (by omega) (lyN.mono (by omega)) (lxD.mono (by omega))).bind ?_
   rintro q ⟨q1, q2⟩
   rw [ha.num, hb.den] at p2
   rw [hb.num, ha.den] at q2
   obtain ⟨a1, a2, a3, a4⟩ := sx.pos
   obtain ⟨b1, b2, b3, b4⟩ := sy.pos
   have lp : ZLt p (k + m) := by unfold ZLt; rw [p2]; exact B7 a1 a2 (by omega) b4
   have lq : ZLt q (k + m) := by unfold ZLt; rw [q2, Nat.add_comm k m]; exact B7 b1 b2 (by omega) a4
   refine (Se p1 q1 (by omega) lp lq).bind ?_
   rintro s ⟨s1, s2⟩
   refine (Jj ha.okD hb.okD (K := k + m) (by omega) (lxD.mono (by omega)) (lyD.mono (by omega))).bind ?_
   rintro d ⟨d1, d2⟩
   rw [ha.den, hb.den] at d2
   rw [p2, q2] at s2
   have ls : ZLt s (k + m + 1) := by unfold ZLt; rw [s2]; exact U6 sx sy
   have ld : ZLt d (k + m) := by unfold ZLt; rw [d2]; exact Lp sx sy
   refine (Sk s1 d1 hkm ls (ld.mono (by omega)) (by rw [d2]; exact Vc x y)).bind ?_
   rintro c hc
   rw [Ae, Mq, <- s2, <- d2]
   exact hc
 unfold Im
 refine (Mv ha sx (by omega)).bind ?_
 rintro b1 hb1
 rw [Ai]
 refine ⟨λ h1 => ?_, λ _ => J⟩
 refine (Mv hb sy (by omega)).bind ?_
 rintro b2 hb2
 rw [Ai]
 refine ⟨λ h2 => ?_, λ _ => J⟩
 refine (Se ha.okN hb.okN (K := k + m) (by omega) (lxN.mono (by omega)) (lyN.mono (by omega))).bind ?_
 rintro s ⟨s1, s2⟩
 rw [Ae]
 have e1 := hb1.1 h1
 have e2 := hb2.1 h2
 have es : x + y = Rat.divInt (x.num + y.num) 1 := by rw [Mq, e1, e2]; simp
 have en : (x + y).num = x.num + y.num := by rw [es, Rat.num_divInt]; simp
 have ed : (x + y).den = 1 := by rw [es, Rat.den_divInt]; simp
 exact ⟨s1, ha.okD, by rw [en, <- ha.num, <- hb.num]; exact s2, by rw [ed]; show Bh a.D = _; rw [ha.den, e1]⟩
theorem W0 {a : Al} {x : Rat} (ha : Cc a x) {k : Nat} (sx : Sz x k) (hk : k <= 1099511627776) : Ar (Mx a) λ c => Cc c (-x) := by
 unfold Mx
 refine (Mk ha.okN hk (ha.ltN sx)).bind ?_
 rintro z ⟨z1, z2⟩
 rw [Ae]
 exact ⟨z1, ha.okD, by rw [Rat.neg_num, <- ha.num]; exact z2, by rw [Rat.neg_den]; exact ha.den⟩
theorem Ji {a b : Al} {x y : Rat} (ha : Cc a x) (hb : Cc b y) {k m : Nat} (sx : Sz x k) (sy : Sz y m) (hkm : k + m + 1 <= 1099511627776) : Ar (I8 a b) λ c => Cc c (x - y) := by
 unfold I8
 refine (W0 hb sy (by omega)).bind ?_
 rintro n hn
 refine (Ib ha hn sx sy.neg hkm).bind ?_
 rintro c hc
 rw [Ae, Rat.sub_eq_add_neg]
 exact hc
theorem Jm {a b : Al} {x y : Rat} (ha : Cc a x) (hb : Cc b y) {k m : Nat} (sx : Sz x k) (sy : Sz y m) (hkm : k + m + 1 <= 1099511627776) : Ar (Ja a b) λ c => Cc c (x * y) := by
 have lxN := ha.ltN sx; have lxD := ha.ltD sx; have lyN := hb.ltN sy; have lyD := hb.ltD sy
 obtain ⟨a1, a2, a3, a4⟩ := sx.pos
 obtain ⟨b1, b2, b3, b4⟩ := sy.pos
 have N := Jj ha.okN hb.okN (K := k + m) (by omega) (lxN.mono (by omega)) (lyN.mono (by omega))
 have D := Jj ha.okD hb.okD (K := k + m) (by omega) (lxD.mono (by omega)) (lyD.mono (by omega))
 have J : Ar (Option.bind (Hk a.N b.N) λ p => Option.bind (Hk a.D b.D) λ d => Option.bind (Lf p d) λ c => some c) λ c => Cc c (x * y) := by
   refine N.bind ?_
   rintro p ⟨p1, p2⟩
   refine D.bind ?_
   rintro d ⟨d1, d2⟩
   rw [ha.num, hb.num] at p2
   rw [ha.den, hb.den] at d2
   have lp : ZLt p (k + m) := by unfold ZLt; rw [p2]; exact B7 a1 a2 b1 b2
   have ld : ZLt d (k + m) := by unfold ZLt; rw [d2]; exact Lp sx sy
   refine (Sk p1 d1 (by omega) lp ld (by rw [d2]; exact Vc x y)).bind ?_
   rintro c hc
   rw [Ae, Mf, <- p2, <- d2]
   exact hc
 unfold Ja
 refine (Mv ha sx (by omega)).bind ?_
 rintro b1 hb1
 rw [Ai]
 refine ⟨λ h1 => ?_, λ _ => J⟩
 refine (Mv hb sy (by omega)).bind ?_
 rintro b2 hb2
 rw [Ai]
 refine ⟨λ h2 => ?_, λ _ => J⟩
 refine N.bind ?_
 rintro s ⟨s1, s2⟩
 rw [Ae]
 have e1 := hb1.1 h1
 have e2 := hb2.1 h2
 have es : x * y = Rat.divInt (x.num * y.num) 1 := by rw [Mf, e1, e2]; simp
 have en : (x * y).num = x.num * y.num := by rw [es, Rat.num_divInt]; simp
 have ed : (x * y).den = 1 := by rw [es, Rat.den_divInt]; simp
 exact ⟨s1, ha.okD, by rw [en, <- ha.num, <- hb.num]; exact s2, by rw [ed]; show Bh a.D = _; rw [ha.den, e1]⟩
theorem Zo {a b : Al} {x y : Rat} (ha : Cc a x) (hb : Cc b y) {k m : Nat} (sx : Sz x k) (sy : Sz y m) (hkm : k + m + 1 <= 1099511627776) (h0 : y ≠ 0) : Ar (Po a b) λ c => Cc c (x / y) := by
 have lxN := ha.ltN sx; have lxD := ha.ltD sx; have lyN := hb.ltN sy; have lyD := hb.ltD sy
 obtain ⟨a1, a2, a3, a4⟩ := sx.pos
 obtain ⟨b1, b2, b3, b4⟩ := sy.pos
 unfold Po
 refine (Jj ha.okN hb.okD (K := k + m) (by omega) (lxN.mono (by omega)) (lyD.mono (by omega))).bind ?_
 rintro p ⟨p1, p2⟩
 refine (Jj ha.okD hb.okN (K := k + m) (by omega) (lxD.mono (by omega)) (lyN.mono (by omega))).bind ?_
 rintro d ⟨d1, d2⟩
 rw [ha.num, hb.den] at p2
 rw [ha.den, hb.num] at d2
 have lp : ZLt p (k + m) := by unfold ZLt; rw [p2]; exact B7 a1 a2 (by omega) b4
 have ld : ZLt d (k + m) := by unfold ZLt; rw [d2]; exact B7 (by omega) a4 b1 b2
 refine (Sk p1 d1 (by omega) lp ld (by
   rw [d2]; intro h
   rcases Int.mul_eq_zero.1 h with h | h
   · omega
   · exact h0 (Rat.num_eq_zero.1 h))).bind ?_
 rintro c hc
 rw [Ae, Sl, <- p2, <- d2]
 exact hc
theorem Qx {a : Al} {x : Rat} (ha : Cc a x) : Ar (Hm a) λ b => b = true ↔ x = 0 := by
 unfold Hm
 refine (K3 ha.okN).bind ?_
 rintro s rfl
 rw [Ae, ha.num, decide_eq_true_eq, Int.sign_eq_zero_iff_zero, Rat.num_eq_zero]
theorem Dj {n : Int} (h1 : -9223372036854775808 <= n) (h2 : n < 9223372036854775808) : Ar (G8 n) λ q => Cc q (n : Rat) := by
 unfold G8 Xk
 simp only [At, Ae]
 exact ⟨ZOk.small h1 h2, ZOk.small (by omega) (by omega), Cz _ _, Cz _ _⟩
end Go.Ab
