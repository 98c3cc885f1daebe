/- The integers of package isoclineref01: sums, comparison, products. Long division of amounts in package isoclineref01: one word. Conditions: none beyond those that each theorem names. -/
import Derived.Test.YtjdgmcngpiookaaGreatS20
namespace Go.Ab
open Go
set_option linter.unusedVariables false
set_option linter.unusedSimpArgs false
theorem Bij (x : Int) : Int.fdiv x (2 ^ (min (63 : Int).toNat (IntKind.bits .u64))) = x / 9223372036854775808 := by
 have : ((2 : Int) ^ (min (63 : Int).toNat (IntKind.bits .u64))) = 9223372036854775808 := by decide
 rw [this, Int.fdiv_eq_ediv_of_nonneg _ (by decide)]
theorem Gs {xs : List Int} (hw : WW xs) (hl : xs.length <= 8796093022208) : Ar (Bt xs) λ ys => WW ys /\ Top ys /\ val ys = val xs /\ ys.length <= xs.length := by
 unfold Bt
 rw [At]
 refine (As (I := λ ys => WW ys /\ val ys = val xs /\ ys.length <= xs.length) (μ := List.length) (Q := λ ys => WW ys /\ Top ys /\ val ys = val xs /\ ys.length <= xs.length) ⟨hw, rfl, Nat.le_refl _⟩ ?_).mono λ r hr => Ae.2 hr
 rintro ys ⟨y1, y2, y3⟩
 unfold G4
 simp only [Ai, Ah, Ae, decide_eq_true_eq, Av, Aw, Af]
 refine ⟨λ h => ?_, λ h => ⟨y1, λ hne => ?_, y2, y3⟩⟩
 · rw [Bg (by omega) (by omega)]
   have e : ((ys.length : Int) - 1).toNat = ys.length - 1 := by omega
   have ev : vl (λ i => ys.getD i 0) (ys.length - 1 + 1) = val ys := by rw [Nat.sub_add_cancel (by omega)]; rfl
   rw [e]
   refine ⟨by omega, λ h0 => ⟨by omega, by omega, ⟨y1.take _, ?_, ?_⟩, ?_⟩, λ h0 => ⟨y1, λ _ => h0, y2, y3⟩⟩
   · rw [Afv (by omega), <- y2, <- ev, vl, h0]; simp
   · simp; omega
   · simp; omega
 · have := List.length_pos_iff.2 hne; omega
theorem Vr {a b : List Int} (ha : WW a) (hb : WW b) (ta : Top a) (tb : Top b) (h1 : a.length <= 1099511627776) (h2 : b.length <= 1099511627776) : Ar (Dl a b) λ r => r = Int.sign (val a - val b) := by
 unfold Dl
 simp only [Ai, Ae, At, decide_eq_true_eq, Bool.not_eq_true', decide_eq_false_iff_not]
 refine ⟨λ hne => ⟨λ hlt => ?_, λ hge => ?_⟩, λ heq => ?_⟩
 · have := B9 ha hb tb (by omega)
   rw [Int.sign_eq_neg_one_of_neg (by omega)]
 · have := B9 hb ha ta (by omega)
   rw [Int.sign_eq_one_of_pos (by omega)]
 · have hl : a.length = b.length := by omega
   rw [Bg (by omega) (by omega)]
   refine (As (I := λ i : Int => -1 <= i /\ i < a.length /\ ∀ j : Nat, i < j -> a.getD j 0 = b.getD j 0) (μ := λ i => (i + 1).toNat)
     (Q := λ r => match r with | .inl _ => Int.sign (val a - val b) = 0 | .inr r => r = Int.sign (val a - val b)) ⟨by omega, by omega, λ j hj => ?_⟩ ?_).mono ?_
   · rw [List.getD_eq_getElem?_getD, List.getD_eq_getElem?_getD, List.getElem?_eq_none (by omega), List.getElem?_eq_none (by omega)]
   · rintro i ⟨i1, i2, i3⟩
     unfold Gg
     simp only [Ai, Ah, Ae, decide_eq_true_eq, Bool.not_eq_true', decide_eq_false_iff_not, Av, Aw, Af]
     refine ⟨λ hi => ?_, λ hi => ?_⟩
     · obtain ⟨n, rfl⟩ := Int.eq_ofNat_of_zero_le hi
       simp only [Int.toNat_natCast]
       have key : ∀ {f g : List Int}, WW f -> WW g -> f.length = g.length -> n < f.length -> f.getD n 0 < g.getD n 0 -> (∀ j, n < j -> f.getD j 0 = g.getD j 0) -> val f < val g := by
         intro f g hf hg hlen hn hlt he
         unfold val
         rw [<- hlen]
         exact A3e (k := n) hn (λ j _ => hf j) (λ j _ => hg j) hlt λ j hj _ => he j hj
       refine ⟨by omega, by omega, λ hlt => ?_, λ hge => ⟨by omega, by omega, λ hgt => ?_, λ he => ?_⟩⟩
       · have := key ha hb hl (by omega) hlt λ j hj => i3 j (by omega)
         rw [Int.sign_eq_neg_one_of_neg (by omega)]
       · have := key hb ha hl.symm (by omega) hgt λ j hj => (i3 j (by omega)).symm
         rw [Int.sign_eq_one_of_pos (by omega)]
       · rw [Bg (by omega) (by omega)]
         refine ⟨⟨by omega, by omega, λ j hj => ?_⟩, by omega⟩
         by_cases hjn : j = n
         · subst hjn; omega
         · exact i3 j (by omega)
     · have : val a = val b := by
         unfold val
         rw [hl]
         exact Fs λ j _ => i3 j (by omega)
       rw [this]; simp
   · rintro r hr
     cases r with
     | inl u => rw [Ae]; exact hr.symm
     | inr r => rw [Ae]; exact hr
theorem Aix {a b : List Int} (ha : WW a) (hb : WW b) (h1 : a.length <= 1099511627776) (h2 : b.length <= 1099511627776) : Ar (Fe a b) λ r => WW r /\ Top r /\ val r = val a + val b := by
 obtain ⟨M, hM⟩ : ∃ M : Nat, M = max a.length b.length := ⟨_, rfl⟩
 have hMle : M <= 1099511627776 := by omega
 have hM1 : a.length <= M := by omega
 have hM2 : b.length <= M := by omega
 have eM : (if ((a.length : Nat) : Int) < ((b.length : Nat) : Int) then ((b.length : Nat) : Int) else ((a.length : Nat) : Int)) = (M : Int) := by split <;> omega
 unfold Fe
 simp only [Ah, eM]
 rw [Bg (by omega) (by omega)]
 refine ⟨by decide, by omega, by unfold Ap; omega, ?_⟩
 rw [At]
 refine (As (I := λ s : Int × Int × List Int => ∃ n : Nat, s.2.1 = (n : Int) /\ n <= M /\ WW s.2.2 /\ s.2.2.length = n /\ 0 <= s.1 /\ s.1 <= 1 /\ val s.2.2 + s.1 * 4294967296 ^ n = vl (λ i => a.getD i 0) n + vl (λ i => b.getD i 0) n)
   (μ := λ s : Int × Int × List Int => M - s.2.1.toNat) (Q := λ r => WW r.2 /\ r.2.length = M /\ 0 <= r.1 /\ r.1 <= 1 /\ val r.2 + r.1 * 4294967296 ^ M = val a + val b) ⟨0, rfl, by omega, WW.nil, rfl, by decide, by decide, by simp [vl, G3]⟩ ?_).mono ?_
 · rintro ⟨c, i, out⟩ ⟨n, g1, g2, g3, g4, g5, g6, g7⟩
   simp only at g1 g3 g4 g5 g6 g7
   subst g1
   have ha' := ha n
   have hb' := hb n
   have step : ∀ s : Int, s = a.getD n 0 + b.getD n 0 + c -> n < M -> Ar (Cs a b n out s) (Id (λ s : Int × Int × List Int => ∃ n : Nat, s.2.1 = (n : Int) /\ n <= M /\ WW s.2.2 /\ s.2.2.length = n /\ 0 <= s.1 /\ s.1 <= 1 /\ val s.2.2 + s.1 * 4294967296 ^ n = vl (λ i => a.getD i 0) n + vl (λ i => b.getD i 0) n) (λ s : Int × Int × List Int => M - s.2.1.toNat) (c, (n : Int), out) (λ r => WW r.2 /\ r.2.length = M /\ 0 <= r.1 /\ r.1 <= 1 /\ val r.2 + r.1 * 4294967296 ^ M = val a + val b)) := by
     intro s hs' hn
     unfold Cs
     simp only [Ah, Ae, Av, V9, w32]
     rw [Bg (by omega) (by omega)]
     refine ⟨by unfold Ap; simp; omega, by decide, ⟨n + 1, by simp, hn, g3.append (by omega) (by omega), by simp [g4], by omega, by omega, ?_⟩, by simp; omega⟩
     rw [Kn, g4, vl, vl, Int.pow_succ]
     have e : s % 4294967296 + s / 4294967296 * 4294967296 = a.getD n 0 + b.getD n 0 + c := by omega
     generalize s % 4294967296 = o at *
     generalize s / 4294967296 = q at *
     grind
   have a0 : a.length <= n -> a.getD n 0 = 0 := λ h => by rw [List.getD_eq_getElem?_getD, List.getElem?_eq_none h]; rfl
   have b0 : b.length <= n -> b.getD n 0 = 0 := λ h => by rw [List.getD_eq_getElem?_getD, List.getElem?_eq_none h]; rfl
   have J2 : ∀ {Q : (Int × Int × List Int) ⊕ (Int × List Int) -> Prop}, (∀ s : Int, s = a.getD n 0 + b.getD n 0 + c -> n < M -> Ar (Cs a b n out s) Q) -> ∀ s : Int, s = a.getD n 0 + c -> n < M -> Ar (Ek a b n out s) Q := by
     intro Q step s hs hn
     unfold Ek
     simp only [Ai, Ah, decide_eq_true_eq, Af, Int.toNat_natCast]
     rw [Bi (x := b.getD n 0) (by omega) (by omega), Bi (x := s + b.getD n 0) (by omega) (by omega)]
     exact ⟨λ h => ⟨by omega, step _ (by omega) hn⟩, λ h => step _ (by have := b0 (by omega); omega) hn⟩
   have J1 : ∀ {Q : (Int × Int × List Int) ⊕ (Int × List Int) -> Prop}, (∀ s : Int, s = a.getD n 0 + b.getD n 0 + c -> n < M -> Ar (Cs a b n out s) Q) -> n < M -> Ar (Ei a b c n out) Q := by
     intro Q step hn
     unfold Ei
     simp only [Ai, Ah, decide_eq_true_eq, Af, Int.toNat_natCast]
     rw [Bi (x := a.getD n 0) (by omega) (by omega), Bi (x := c + a.getD n 0) (by omega) (by omega)]
     exact ⟨λ h => ⟨by omega, J2 step _ (by omega) hn⟩, λ h => J2 step _ (by have := a0 (by omega); omega) hn⟩
   unfold Gz
   simp only [Ai, Ae, decide_eq_true_eq, Aw]
   refine ⟨λ h => J1 step (by omega), λ h => ⟨λ h' => J1 step (by omega), λ h' => ?_⟩⟩
   have : n = M := by omega
   subst this
   refine ⟨g3, g4, g5, g6, ?_⟩
   rw [g7, Ik hM1, Ik hM2]
 · rintro ⟨c, out⟩ ⟨g1, g2, g3, g4, g5⟩
   simp only at g1 g2 g3 g4 g5
   simp only [Ah, At, Ae, w32]
   have e : c % 4294967296 = c := by omega
   rw [e]
   refine ⟨by unfold Ap; simp; omega, ?_⟩
   refine (Gs (g1.append (w := c) (by omega) (by omega)) (by simp; omega)).mono ?_
   rintro r ⟨r1, r2, r3, _⟩
   refine ⟨r1, r2, ?_⟩
   rw [r3, Kn, g2]; exact g5
theorem Yt {a b : List Int} (ha : WW a) (hb : WW b) (hl : b.length <= a.length) (hs : a.length <= 1099511627776) (hv : val b <= val a) : Ar (Ee a b) λ r => WW r /\ Top r /\ val r = val a - val b := by
 unfold Ee
 simp only [Ah]
 refine ⟨by decide, by omega, by unfold Ap; omega, ?_⟩
 rw [At]
 refine (As (I := λ s : Int × Int × List Int => ∃ n : Nat, s.2.1 = (n : Int) /\ n <= a.length /\ WW s.2.2 /\ s.2.2.length = n /\ 0 <= s.1 /\ s.1 <= 1 /\ val s.2.2 - s.1 * 4294967296 ^ n = vl (λ i => a.getD i 0) n - vl (λ i => b.getD i 0) n)
   (μ := λ s : Int × Int × List Int => a.length - s.2.1.toNat) (Q := λ r => WW r /\ val r = val a - val b /\ r.length = a.length) ⟨0, rfl, by omega, WW.nil, rfl, by decide, by decide, by simp [vl, G3]⟩ ?_).mono ?_
 · rintro ⟨c, i, out⟩ ⟨n, h1, h2, h3, h4, h5, h6, h7⟩
   simp only at h1 h3 h4 h5 h6 h7
   subst h1
   have ha' := ha n
   have hb' := hb n
   have step : ∀ d : Int, d = (a.getD n 0 - b.getD n 0 - c) % 18446744073709551616 -> n < a.length -> Ar (Ej a b n out d) (Id (λ s : Int × Int × List Int => ∃ n : Nat, s.2.1 = (n : Int) /\ n <= a.length /\ WW s.2.2 /\ s.2.2.length = n /\ 0 <= s.1 /\ s.1 <= 1 /\ val s.2.2 - s.1 * 4294967296 ^ n = vl (λ i => a.getD i 0) n - vl (λ i => b.getD i 0) n) (λ s : Int × Int × List Int => a.length - s.2.1.toNat) (c, (n : Int), out) (λ r => WW r /\ val r = val a - val b /\ r.length = a.length)) := by
     intro d hd hn
     unfold Ej
     simp only [Ah, Ae, Av, w32, Bij]
     rw [Bg (by omega) (by omega)]
     have e : d % 4294967296 - d / 9223372036854775808 * 4294967296 = a.getD n 0 - b.getD n 0 - c := by omega
     refine ⟨by unfold Ap; simp; omega, by decide, ⟨n + 1, by simp, hn, h3.append (by omega) (by omega), by simp [h4], by omega, by omega, ?_⟩, by simp; omega⟩
     rw [Kn, h4, vl, vl, Int.pow_succ]
     generalize d % 4294967296 = o at *
     generalize d / 9223372036854775808 = q at *
     clear hd
     grind
   unfold G0
   simp only [Ai, Ah, Ae, decide_eq_true_eq, Aw, Af, Int.toNat_natCast]
   refine ⟨λ hn => ⟨by omega, λ hm => ⟨by omega, ?_⟩, λ hm => ?_⟩, λ hn => ?_⟩
   · exact step _ (by simp only [w64]; omega) (by omega)
   · have : b.getD n 0 = 0 := by rw [List.getD_eq_getElem?_getD, List.getElem?_eq_none (by omega)]; rfl
     exact step _ (by simp only [w64]; omega) (by omega)
   · have : n = a.length := by omega
     subst this
     have e : vl (λ i => b.getD i 0) a.length = val b := Ik hl
     have e2 : vl (λ i => a.getD i 0) a.length = val a := rfl
     rw [e, e2] at h7
     have hb2 := h3.val
     rw [h4] at hb2
     have hp := Bw a.length
     have hc : c = 0 := by
       rcases (show c = 0 \/ c = 1 by omega) with h | h
       · exact h
       · rw [h] at h7; omega
     rw [hc] at h7
     exact ⟨h3, by omega, h4⟩
 · rintro r ⟨r1, r2, r3⟩
   rw [At]
   refine (Gs r1 (by omega)).mono ?_
   rintro t ⟨t1, t2, t3, _⟩
   rw [Ae]
   exact ⟨t1, t2, by rw [t3]; exact r2⟩
theorem X0 {x y : List Int} (hx : WW x) (hy : WW y) (lx : x.length <= 1099511627776) (ly : y.length <= 1099511627776) {n : Nat} (hn : n < x.length) {out : List Int} (ho : WW out) (hl : out.length = x.length + y.length)
   (hz : ∀ k, n + y.length <= k -> out.getD k 0 = 0) : Ar (Bj (λ v : (Int × Int × (List Int)) => E8 x y n v.1 v.2.1 v.2.2) ((0 : Int), (0 : Int), out))
   λ r => WW r.2 /\ r.2.length = out.length /\ (∀ k, n + y.length <= k -> r.2.getD k 0 = 0) /\ 0 <= r.1 /\ r.1 < 4294967296 /\ val r.2 + r.1 * 4294967296 ^ (n + y.length) = val out + x.getD n 0 * val y * 4294967296 ^ n := by
 refine As (I := λ s : Int × Int × List Int => ∃ j : Nat, s.2.1 = (j : Int) /\ j <= y.length /\ WW s.2.2 /\ s.2.2.length = out.length /\ (∀ k, n + y.length <= k -> s.2.2.getD k 0 = 0) /\ 0 <= s.1 /\ s.1 < 4294967296 /\
     val s.2.2 + s.1 * 4294967296 ^ (n + j) = val out + x.getD n 0 * vl (λ i => y.getD i 0) j * 4294967296 ^ n) (μ := λ s : Int × Int × List Int => y.length - s.2.1.toNat) ⟨0, rfl, by omega, ho, rfl, hz, by simp, by simp, by simp [vl]⟩ ?_
 rintro ⟨c, i, w⟩ ⟨j, h1, h2, h3, h4, h5, h6, h7, h8⟩
 simp only at h1 h3 h4 h5 h6 h7 h8
 subst h1
 unfold E8
 simp only [Ai, Ah, Ae, decide_eq_true_eq, Av, Aw, Af, V9, w32, w64, Int.toNat_natCast]
 rw [Bg (x := (n : Int) + j) (by omega) (by omega)]
 have hnj : ((n : Int) + j).toNat = n + j := by omega
 rw [hnj]
 refine ⟨λ hj => ?_, λ hj => ?_⟩
 · have hw := h3 (n + j)
   have hxn := hx n
   have hyj := hy j
   obtain ⟨m1, m2⟩ := Ge hxn.1 hxn.2 hyj.1 hyj.2
   have e1 : x.getD n 0 % 18446744073709551616 = x.getD n 0 := by omega
   have e2 : y.getD j 0 % 18446744073709551616 = y.getD j 0 := by omega
   rw [e1, e2]
   have hP : vl (λ i => y.getD i 0) (j + 1) = vl (λ i => y.getD i 0) j + y.getD j 0 * 4294967296 ^ j := rfl
   have hs : val (w.set (n + j) ((w.getD (n + j) 0 + x.getD n 0 * y.getD j 0 + c) % 4294967296)) = val w + ((w.getD (n + j) 0 + x.getD n 0 * y.getD j 0 + c) % 4294967296 - w.getD (n + j) 0) * 4294967296 ^ (n + j) := Jc (by omega) _
   have e3 : (c + (x.getD n 0 * y.getD j 0 % 18446744073709551616 + w.getD (n + j) 0 % 18446744073709551616) % 18446744073709551616) % 18446744073709551616 = w.getD (n + j) 0 + x.getD n 0 * y.getD j 0 + c := by omega
   rw [e3, Bg (by omega) (by omega)]
   refine ⟨by omega, by omega, by omega, by omega, by decide, ⟨j + 1, by simp, by omega, h3.set (by omega) (by omega), by simp [h4], λ k hk => ?_, by omega, by omega, ?_⟩, by omega⟩
   · rw [getD_set, if_neg (by omega)]; exact h5 k hk
   · rw [hs, hP]
     have e : (w.getD (n + j) 0 + x.getD n 0 * y.getD j 0 + c) % 4294967296 + (w.getD (n + j) 0 + x.getD n 0 * y.getD j 0 + c) / 4294967296 * 4294967296 = w.getD (n + j) 0 + x.getD n 0 * y.getD j 0 + c := by omega
     generalize (w.getD (n + j) 0 + x.getD n 0 * y.getD j 0 + c) % 4294967296 = o at *
     generalize (w.getD (n + j) 0 + x.getD n 0 * y.getD j 0 + c) / 4294967296 = q at *
     have p1 : (4294967296 : Int) ^ (n + (j + 1)) = 4294967296 ^ (n + j) * 4294967296 := by rw [<- Nat.add_assoc, Int.pow_succ]
     have p2 : (4294967296 : Int) ^ (n + j) = 4294967296 ^ n * 4294967296 ^ j := Int.pow_add _ _ _
     rw [p1]
     rw [p2] at *
     clear hs e1 e2 e3 m1 m2 hP
     grind
 · have : j = y.length := by omega
   subst this
   exact ⟨h3, h4, h5, h6, h7, h8⟩
theorem Agu {x y : List Int} (hx : WW x) (hy : WW y) (lx : x.length <= 1099511627776) (ly : y.length <= 1099511627776) : Ar (Ez x y) λ r => WW r /\ Top r /\ val r = val x * val y := by
 unfold Ez
 simp only [Ah]
 rw [Bg (by omega) (by omega)]
 refine ⟨by omega, by omega, by unfold Ap; omega, ?_⟩
 have hlen : ((x.length : Int) + (y.length : Int)).toNat = x.length + y.length := by omega
 rw [hlen]
 have L : Ar (Bj (λ v : (Int × (List Int)) => Fa x y v.1 v.2) ((0 : Int), List.replicate (x.length + y.length) (0 : Int))) λ r => WW r /\ r.length = x.length + y.length /\ val r = val x * val y := by
   refine As (I := λ s : Int × List Int => ∃ n : Nat, s.1 = (n : Int) /\ n <= x.length /\ WW s.2 /\ s.2.length = x.length + y.length /\ (∀ k, n + y.length <= k -> s.2.getD k 0 = 0) /\ val s.2 = vl (λ i => x.getD i 0) n * val y)
     (μ := λ s : Int × List Int => x.length - s.1.toNat) ⟨0, rfl, by omega, WW.replicate _, by simp, λ k _ => Cq _ k, ?_⟩ ?_
   · show val (List.replicate _ 0) = _
     rw [val, Rj λ j _ => Cq _ j]; simp [vl]
   · rintro ⟨i, w⟩ ⟨n, h1, h2, h3, h4, h5, h6⟩
     simp only at h1 h3 h4 h5 h6
     subst h1
     unfold Fa
     simp only [Ai, At, decide_eq_true_eq, Ae, Aw]
     refine ⟨λ hn => ?_, λ hn => ?_⟩
     · refine (X0 (x := x) (y := y) hx hy (by omega) (by omega) (n := n) (by omega) h3 h4 h5).mono ?_
       rintro ⟨c, r⟩ ⟨r1, r2, r3, r4, r5, r6⟩
       simp only at r1 r2 r3 r4 r5 r6
       simp only [Ah, Ae, Av, Af, w32]
       rw [Bg (x := (n : Int) + (y.length : Int)) (by omega) (by omega), Bg (by omega) (by omega)]
       have e1 : ((n : Int) + (y.length : Int)).toNat = n + y.length := by omega
       have e2 : c % 4294967296 = c := by omega
       rw [e1, e2]
       refine ⟨by omega, ⟨n + 1, by simp, by omega, r1.set r4 r5, by simp [r2, h4], λ k hk => ?_, ?_⟩, by omega⟩
       · rw [getD_set, if_neg (by omega)]; exact r3 k (by omega)
       · rw [Jc (by omega), r3 _ (by omega), vl]
         generalize vl (λ i => x.getD i 0) n = vx at *
         grind
     · have : n = x.length := by omega
       subst this
       exact ⟨h3, h4, h6⟩
 refine L.bind ?_
 rintro r ⟨r1, r2, r3⟩
 refine (Gs r1 (by omega)).bind ?_
 rintro t ⟨t1, t2, t3, _⟩
 rw [Ae]
 exact ⟨t1, t2, by rw [t3]; exact r3⟩
structure WOk (w : Ad) : Prop where
 ww : WW w.d
 top : Top w.d
 nz : w.minus = true -> w.d ≠ []
def B6 (w : Ad) : Int := sgn w.minus (val w.d)
def WLt (w : Ad) (K : Nat) : Prop := -(4294967296 ^ K) < B6 w /\ B6 w < 4294967296 ^ K
theorem WOk.len {w : Ad} (h : WOk w) {K : Nat} (hK : WLt w K) : w.d.length <= K := by
 refine Ih h.ww h.top ?_
 unfold WLt B6 sgn at hK
 split at hK <;> omega
theorem WOk.pos {w : Ad} (h : WOk w) (hm : w.minus = true) : 0 < val w.d := by
 have := Ni h.ww h.top (h.nz hm)
 have := Bw (w.d.length - 1)
 omega
theorem Hl {d : List Int} (hw : WW d) (ht : Top d) (m : Bool) : Ar (Bz d m) λ w => WOk w /\ B6 w = sgn m (val d) /\ w.d = d := by
 unfold Bz
 simp only [Ai, Ae]
 refine ⟨λ h => ⟨⟨hw, ht, λ h => ?_⟩, ?_, trivial⟩, λ h => ⟨⟨hw, ht, λ h => by cases h⟩, ?_, trivial⟩⟩
 · rintro rfl; simp at h
 · subst h
   unfold B6 sgn
   by_cases hd : d = []
   · subst hd; simp [G3]
   · have := List.length_pos_iff.2 hd
     simp [hd]
 · unfold B6 sgn; simp [h]
theorem S9 {w : Ad} (h : WOk w) : Ar (Cf w) λ r => WOk r /\ B6 r = -B6 w := by
 unfold Cf
 refine (Hl h.ww h.top _).bind ?_
 rintro r ⟨r1, r2, _⟩
 rw [Ae]
 refine ⟨r1, ?_⟩
 rw [r2]; unfold B6 sgn
 cases w.minus <;> simp
theorem Zv {a b : Ad} (ha : WOk a) (hb : WOk b) {K : Nat} (hK : K <= 1099511627776) (la : WLt a K) (lb : WLt b K) : Ar (Cu a b) λ c => WOk c /\ B6 c = B6 a + B6 b := by
 have xl := ha.len la
 have yl := hb.len lb
 have hx := ha.ww.val
 have hy := hb.ww.val
 unfold Cu
 simp only [Ai, beq_iff_eq]
 refine ⟨λ h => ?_, λ h => ?_⟩
 · refine (Aix ha.ww hb.ww (by omega) (by omega)).bind ?_
   rintro r ⟨r1, r2, r3⟩
   refine (Hl r1 r2 _).bind ?_
   rintro z ⟨z1, z2, _⟩
   rw [Ae]
   refine ⟨z1, ?_⟩
   rw [z2, r3]; unfold B6; rw [<- h]; unfold sgn; split <;> omega
 · refine (Vr ha.ww hb.ww ha.top hb.top (by omega) (by omega)).bind ?_
   rintro s rfl
   simp only [Ai, decide_eq_true_eq]
   refine ⟨λ hs => ?_, λ hs => ?_⟩
   · have hle : val b.d <= val a.d := by
       have := (Int.sign_nonneg_iff (x := val a.d - val b.d)).1 hs
       omega
     have hlen : b.d.length <= a.d.length := by
       rcases Nat.lt_or_ge a.d.length b.d.length with hc | hc
       · have := B9 ha.ww hb.ww hb.top hc; omega
       · exact hc
     refine (Yt ha.ww hb.ww hlen (by omega) hle).bind ?_
     rintro r ⟨r1, r2, r3⟩
     refine (Hl r1 r2 _).bind ?_
     rintro z ⟨z1, z2, _⟩
     rw [Ae]
     refine ⟨z1, ?_⟩
     rw [z2, r3]
     unfold B6 sgn
     cases hx2 : a.minus <;> cases hy2 : b.minus <;> simp_all <;> omega
   · have hle : val a.d < val b.d := by
       have : ¬ 0 <= val a.d - val b.d := λ hc => hs ((Int.sign_nonneg_iff).2 hc)
       omega
     have hlen : a.d.length <= b.d.length := by
       rcases Nat.lt_or_ge b.d.length a.d.length with hc | hc
       · have := B9 hb.ww ha.ww ha.top hc; omega
       · exact hc
     refine (Yt hb.ww ha.ww hlen (by omega) (by omega)).bind ?_
     rintro r ⟨r1, r2, r3⟩
     refine (Hl r1 r2 _).bind ?_
     rintro z ⟨z1, z2, _⟩
     rw [Ae]
     refine ⟨z1, ?_⟩
     rw [z2, r3]
     unfold B6 sgn
     cases hx2 : a.minus <;> cases hy2 : b.minus <;> simp_all <;> omega
theorem Jk {a b : Ad} (ha : WOk a) (hb : WOk b) {K : Nat} (hK : K <= 1099511627776) (la : WLt a K) (lb : WLt b K) : Ar (Bo a b) λ c => WOk c /\ B6 c = B6 a * B6 b := by
 have xl := ha.len la
 have yl := hb.len lb
 unfold Bo
 refine (Agu ha.ww hb.ww (by omega) (by omega)).bind ?_
 rintro r ⟨r1, r2, r3⟩
 refine (Hl r1 r2 _).bind ?_
 rintro z ⟨z1, z2, _⟩
 rw [Ae]
 refine ⟨z1, ?_⟩
 rw [z2, r3]
 unfold B6 sgn
 cases a.minus <;> cases b.minus <;> simp <;> grind
theorem Bbl {j t : Nat} {u v : List Int} (hu : WW u) (hv : WW v) (ht : v.length = t + 2) (hj : j + (t + 2) < u.length) (hv1 : 0 < v.getD (t + 1) 0) (hlt : val u < val v * 4294967296 ^ (j + 1)) :
   ∃ T, val u = vl (λ i => u.getD i 0) j + T * 4294967296 ^ j /\ 0 <= T /\ T < val v * 4294967296 /\ hi (λ i => u.getD i 0) (j + (t + 2) + 1) u.length = 0 /\
     u.getD (j + (t + 2)) 0 <= v.getD (t + 1) 0 /\ T < ((u.getD (j + (t + 2)) 0 * 4294967296 + u.getD (j + (t + 1)) 0) * 4294967296 + u.getD (j + t) 0 + 1) * 4294967296 ^ t /\
     ((u.getD (j + (t + 2)) 0 * 4294967296 + u.getD (j + (t + 1)) 0) * 4294967296 + u.getD (j + t) 0) * 4294967296 ^ t <= T /\
     (v.getD (t + 1) 0 * 4294967296 + v.getD t 0) * 4294967296 ^ t <= val v /\ val v < (v.getD (t + 1) 0 * 4294967296 + v.getD t 0 + 1) * 4294967296 ^ t /\ 4294967296 * 4294967296 ^ t <= val v /\
     T < (u.getD (j + (t + 2)) 0 * 4294967296 + u.getD (j + (t + 1)) 0 + 1) * 4294967296 ^ (t + 1) /\ v.getD (t + 1) 0 * 4294967296 ^ (t + 1) <= val v := by
 have hpj := Bw j
 have hvv := hv.val
 have eu : val u = vl (λ i => u.getD i 0) j + hi (λ i => u.getD i 0) j u.length * 4294967296 ^ j := Ame _ (by omega)
 obtain ⟨lu1, lu2⟩ := C0 (f := λ i => u.getD i 0) j (λ i _ => hu i)
 have eh : hi (λ i => u.getD i 0) j u.length = vl (λ i => u.getD (j + i) 0) (t + 3) + hi (λ i => u.getD i 0) (j + (t + 3)) u.length * 4294967296 ^ (t + 3) := by
   unfold hi
   have := Qw (λ i => u.getD (j + i) 0) (t + 3) (u.length - (j + (t + 3)))
   rw [show t + 3 + (u.length - (j + (t + 3))) = u.length - j by omega] at this
   rw [this]
   congr 2
   exact Fs λ i _ => by show u.getD (j + (t + 3 + i)) 0 = u.getD (j + (t + 3) + i) 0; rw [Nat.add_assoc j (t + 3) i]
 have hTV0 : hi (λ i => u.getD i 0) j u.length < val v * 4294967296 := by
   have : hi (λ i => u.getD i 0) j u.length * 4294967296 ^ j < (val v * 4294967296) * 4294967296 ^ j := by
     rw [Int.pow_succ] at hlt
     have : val v * 4294967296 * 4294967296 ^ j = val v * (4294967296 ^ j * 4294967296) := by grind
     omega
   exact Dh this hpj
 have hh0 : hi (λ i => u.getD i 0) (j + (t + 3)) u.length = 0 := by
   have h1 := (C0 (f := λ i => u.getD (j + i) 0) (t + 3) (λ i _ => hu _)).1
   have h2 : 0 <= hi (λ i => u.getD i 0) (j + (t + 3)) u.length := (C0 _ (λ i _ => hu _)).1
   have h3 : hi (λ i => u.getD i 0) (j + (t + 3)) u.length * 4294967296 ^ (t + 3) < 1 * 4294967296 ^ (t + 3) := by
     have h4 := hvv.2
     rw [ht] at h4
     have h5 : (4294967296 : Int) ^ (t + 3) = 4294967296 ^ (t + 2) * 4294967296 := Int.pow_succ _ _
     omega
   have := Dh h3 (Bw (t + 3))
   omega
 rw [hh0, Int.zero_mul, Int.add_zero] at eh
 have hT0 : 0 <= hi (λ i => u.getD i 0) j u.length := by rw [eh]; exact (C0 _ (λ i _ => hu _)).1
 exact ⟨_, eu, hT0, hTV0, hh0, Bgg (f := λ i => u.getD (j + i) 0) (g := λ i => v.getD i 0) (λ i => hu _) hv eh (by rw [<- ht]; rfl) hTV0 hv1⟩
theorem Zz {j t : Nat} {u v : List Int} (hu : WW u) (hv : WW v) (ht : v.length = t + 2) (hl : u.length <= 1099511627777) (hj : j + (t + 2) < u.length) {wn : Int} (hwn : wn = (t + 3 : Nat))
   {T V top q0 r0 : Int} (hv1 : 0 < v.getD (t + 1) 0) (hT2 : T < (top * 4294967296 + u.getD (j + t) 0 + 1) * 4294967296 ^ t) (hV : (v.getD (t + 1) 0 * 4294967296 + v.getD t 0) * 4294967296 ^ t <= V)
   (e0 : q0 * v.getD (t + 1) 0 + r0 = top) (hr0 : 0 <= r0) (hr1 : r0 < 18446744073709551616) (hq0 : 0 <= q0) (hq1 : q0 < 4294967296) (hT : T < (q0 + 1) * V) :
   Ar (Bj (λ w : (Int × Int) => Fo u v (v.getD (t + 1) 0) (v.getD t 0) (j : Int) wn w.1 w.2) (q0, r0)) λ q => 0 <= q /\ q < 4294967296 /\ T < (q + 1) * V /\ q * (v.getD (t + 1) 0 * 4294967296 + v.getD t 0) <= top * 4294967296 + u.getD (j + t) 0 := by
 refine As (I := λ s : Int × Int => 0 <= s.1 /\ s.1 < 4294967296 /\ 0 <= s.2 /\ s.2 < 18446744073709551616 /\ s.1 * v.getD (t + 1) 0 + s.2 = top /\ T < (s.1 + 1) * V) (μ := λ s : Int × Int => s.1.toNat) ⟨hq0, hq1, hr0, hr1, e0, hT⟩ ?_
 rintro ⟨q, r⟩ ⟨a1, a2, a3, a4, a5, a6⟩
 simp only at a1 a2 a3 a4 a5 a6
 have w1 := hv (t + 1)
 have w2 := hv t
 have wu := hu (j + t)
 obtain ⟨m1, m2⟩ := Ge (x := q) a1 a2 w2.1 w2.2
 have hexp : ∀ c : Int, q * (v.getD (t + 1) 0 * 4294967296 + v.getD t 0) = (top - r) * 4294967296 + q * v.getD t 0 := λ _ => by
   rw [Int.mul_add, <- Int.mul_assoc, show q * v.getD (t + 1) 0 = top - r by omega]
 unfold Fo
 rw [ht]
 rw [Bg (x := ((t + 2 : Nat) : Int) - 2) (by omega) (by omega)]
 have e2 : ((j : Int) + (((t + 2 : Nat) : Int) - 2)).toNat = j + t := by omega
 simp only [Ai, Ah, Ae, decide_eq_true_eq, Av, Aw, e2, Aal, w64 (r * _), w64 (u.getD _ _)]
 refine ⟨λ hr => ?_, λ hr => ⟨a1, a2, a6, ?_⟩⟩
 · rw [Aem a3 hr wu.1 wu.2, Bi m1 (by omega)]
   refine ⟨by decide, by omega, by omega, λ hc => ?_, λ hc => ⟨a1, a2, a6, ?_⟩⟩
   · have hq1 : 1 <= q := by
       rcases (show q = 0 \/ 1 <= q by omega) with h | h
       · rw [h, Int.zero_mul] at hc; omega
       · exact h
     rw [Bi (x := q - 1) (by omega) (by omega), Bi (x := r + v.getD (t + 1) 0) (by omega) (by omega)]
     refine ⟨⟨by omega, by omega, by omega, by omega, by rw [Int.sub_mul]; omega, ?_⟩, by omega⟩
     rw [Int.sub_add_cancel]
     refine Aj1 (tt := top * 4294967296 + u.getD (j + t) 0) (vv := v.getD (t + 1) 0 * 4294967296 + v.getD t 0) ?_ hT2 hV a1 (Bw t)
     rw [hexp 0, Int.sub_mul]
     omega
   · rw [hexp 0, Int.sub_mul]
     omega
 · rw [hexp 0, Int.sub_mul]
   omega
theorem Zx {j : Nat} {u v : List Int} (hu : WW u) (hv : WW v) (hl : u.length <= 1099511627777) (hj : j + v.length < u.length) {wn : Int} (hwn : wn = (v.length + 1 : Nat)) {q : Int} (hq0 : 0 <= q) (hq1 : q < 4294967296) :
   Ar (Bj (λ w : (Int × Int × Int × (List Int)) => Fq v q (j : Int) wn w.1 w.2.1 w.2.2.1 w.2.2.2) ((0 : Int), (0 : Int), (0 : Int), u))
     λ r => WW r.2 /\ r.2.length = u.length /\ (∀ k, j + (v.length + 1) <= k -> r.2.getD k 0 = u.getD k 0) /\ 0 <= r.1 /\ r.1 <= 1 /\
       val r.2 = val u - q * val v * 4294967296 ^ j + r.1 * 4294967296 ^ (j + (v.length + 1)) := by
 refine As (I := λ s : Int × Int × Int × List Int => ∃ n : Nat, s.2.2.1 = (n : Int) /\ n <= v.length + 1 /\ WW s.2.2.2 /\ s.2.2.2.length = u.length /\ (∀ k, j + n <= k -> s.2.2.2.getD k 0 = u.getD k 0) /\ 0 <= s.1 /\ s.1 <= 1 /\ 0 <= s.2.1 /\ s.2.1 < 4294967296 /\ (n = v.length + 1 -> s.2.1 = 0) /\
     val s.2.2.2 = val u - q * vl (λ i => v.getD i 0) n * 4294967296 ^ j + (s.1 + s.2.1) * 4294967296 ^ (j + n)) (μ := λ s : Int × Int × Int × List Int => v.length + 1 - s.2.2.1.toNat)
   ⟨0, rfl, by omega, hu, rfl, λ k _ => rfl, by simp, by simp, by simp, by simp, by simp, by simp [vl]⟩ ?_
 rintro ⟨b, c, i, w⟩ ⟨n, h1, h2, h3, h4, h5, h6, h7, h8, h9, h11, h10⟩
 simp only at h1 h3 h4 h5 h6 h7 h8 h9 h10 h11
 subst h1
 have ww := h3 (j + n)
 have wv := hv n
 have J : ∀ {Q : (Int × Int × Int × List Int) ⊕ (Int × List Int) -> Prop} (s : Int), s = q * v.getD n 0 + c -> n < v.length + 1 -> (∀ b' : Int, 0 <= b' -> b' <= 1 -> (w.getD (j + n) 0 - s % 4294967296 - b) % 18446744073709551616 % 4294967296 - b' * 4294967296 = w.getD (j + n) 0 - s % 4294967296 - b ->
     Q (.inl (b', s / 4294967296, (n : Int) + 1, w.set (j + n) ((w.getD (j + n) 0 - s % 4294967296 - b) % 18446744073709551616 % 4294967296)))) -> Ar (Eo v b n w s q (j : Int) wn) Q := by
   intro Q s hs hn hQ
   unfold Eo
   have e1 : ((j : Int) + (n : Int)).toNat = j + n := by omega
   simp only [Ah, Ae, Bij, V9, w32, e1]
   rw [Bg (x := (n : Int) + 1) (by omega) (by omega)]
   have e2 : IntKind.wrap .u64 (IntKind.wrap .u64 (IntKind.wrap .u64 (w.getD (j + n) 0) - IntKind.wrap .u64 (s % 4294967296)) - b) = (w.getD (j + n) 0 - s % 4294967296 - b) % 18446744073709551616 := by simp only [w64]; omega
   rw [e2]
   exact ⟨by omega, by omega, by omega, by omega, by decide, by decide, hQ _ (by omega) (by omega) (by omega)⟩
 have fin : n < v.length + 1 -> ∀ (s b' : Int), s = q * v.getD n 0 + c -> 0 <= b' -> b' <= 1 -> (w.getD (j + n) 0 - s % 4294967296 - b) % 18446744073709551616 % 4294967296 - b' * 4294967296 = w.getD (j + n) 0 - s % 4294967296 - b -> 0 <= s -> s <= 18446744069414584320 -> (n = v.length -> s < 4294967296) ->
     Id (λ s : Int × Int × Int × List Int => ∃ n : Nat, s.2.2.1 = (n : Int) /\ n <= v.length + 1 /\ WW s.2.2.2 /\ s.2.2.2.length = u.length /\ (∀ k, j + n <= k -> s.2.2.2.getD k 0 = u.getD k 0) /\ 0 <= s.1 /\ s.1 <= 1 /\ 0 <= s.2.1 /\ s.2.1 < 4294967296 /\ (n = v.length + 1 -> s.2.1 = 0) /\
       val s.2.2.2 = val u - q * vl (λ i => v.getD i 0) n * 4294967296 ^ j + (s.1 + s.2.1) * 4294967296 ^ (j + n)) (λ s : Int × Int × Int × List Int => v.length + 1 - s.2.2.1.toNat) (b, c, (n : Int), w)
       (λ r : Int × List Int => WW r.2 /\ r.2.length = u.length /\ (∀ k, j + (v.length + 1) <= k -> r.2.getD k 0 = u.getD k 0) /\ 0 <= r.1 /\ r.1 <= 1 /\ val r.2 = val u - q * val v * 4294967296 ^ j + r.1 * 4294967296 ^ (j + (v.length + 1)))
       (.inl (b', s / 4294967296, (n : Int) + 1, w.set (j + n) ((w.getD (j + n) 0 - s % 4294967296 - b) % 18446744073709551616 % 4294967296))) := by
   intro hn s b' hs k1 k2 k3 k4 k5 k6
   rw [Av]
   refine ⟨⟨n + 1, by simp, by omega, h3.set (by omega) (by omega), by simp [h4], λ k hk => ?_, k1, k2, by show 0 <= s / 4294967296; omega, by show s / 4294967296 < _; omega, λ he => by show s / 4294967296 = 0; have := k6 (by omega); omega, ?_⟩, by simp; omega⟩
   · rw [getD_set, if_neg (by omega)]; exact h5 k (by omega)
   · rw [Jc (by omega), h10, vl]
     have p1 : (4294967296 : Int) ^ (j + (n + 1)) = 4294967296 ^ (j + n) * 4294967296 := by rw [<- Nat.add_assoc, Int.pow_succ]
     have p2 : (4294967296 : Int) ^ (j + n) = 4294967296 ^ j * 4294967296 ^ n := Int.pow_add _ _ _
     rw [p1, p2]
     have es : s % 4294967296 + s / 4294967296 * 4294967296 = q * v.getD n 0 + c := by omega
     generalize (w.getD (j + n) 0 - s % 4294967296 - b) % 18446744073709551616 % 4294967296 = o at *
     generalize s % 4294967296 = sl at *
     generalize s / 4294967296 = sh at *
     generalize (4294967296 : Int) ^ j = Pj at *
     generalize (4294967296 : Int) ^ n = Pn at *
     generalize vl (λ i => v.getD i 0) n = vv at *
     generalize val u = vu at *
     clear h10 p1 p2
     have e : o = w.getD (j + n) 0 - b - q * v.getD n 0 - c + sh * 4294967296 + b' * 4294967296 := by omega
     show vu - q * vv * Pj + (b + c) * (Pj * Pn) + (o - w.getD (j + n) 0) * (Pj * Pn) = vu - q * (vv + v.getD n 0 * Pn) * Pj + (b' + sh) * (Pj * Pn * 4294967296)
     rw [e]
     grind
 unfold Fq
 simp only [Ai, Ah, Ae, decide_eq_true_eq, Aw, Af, Int.toNat_natCast]
 obtain ⟨m1, m2⟩ := Ge hq0 hq1 wv.1 wv.2
 rw [Bi (x := v.getD n 0) (by omega) (by omega), Bi m1 (by omega), Bi (x := c + q * v.getD n 0) (by omega) (by omega)]
 refine ⟨λ hn => ⟨λ hn2 => ⟨by omega, ?_⟩, λ hn2 => ?_⟩, λ hn => ?_⟩
 · exact J _ (by omega) (by omega) λ b' k1 k2 k3 => fin (by omega) _ b' (by omega) k1 k2 k3 (by omega) (by omega) (λ h => by omega)
 · have hv0 : v.getD n 0 = 0 := by rw [List.getD_eq_getElem?_getD, List.getElem?_eq_none (by omega)]; rfl
   exact J c (by rw [hv0]; omega) (by omega) λ b' k1 k2 k3 => fin (by omega) c b' (by rw [hv0]; omega) k1 k2 k3 (by omega) (by omega) (λ h => by omega)
 · have : n = v.length + 1 := by omega
   subst this
   have hc := h11 rfl
   rw [hc, Int.add_zero, Ik (by omega)] at h10
   exact ⟨h3, h4, h5, h6, h7, h10⟩
theorem W8 {j : Nat} {u v : List Int} (hu : WW u) (hv : WW v) (hl : u.length <= 1099511627777) (hj : j + v.length < u.length) {wn : Int} (hwn : wn = (v.length + 1 : Nat)) (q : Int) :
   Ar (Bj (λ w : (Int × Int × (List Int)) => Ft v q (j : Int) wn w.1 w.2.1 w.2.2) ((0 : Int), (0 : Int), u))
     λ r => WW r /\ r.length = u.length /\ (∀ k, j + (v.length + 1) <= k -> r.getD k 0 = u.getD k 0) /\ ∃ c : Int, 0 <= c /\ c <= 1 /\ val r + c * 4294967296 ^ (j + (v.length + 1)) = val u + val v * 4294967296 ^ j := by
 refine As (I := λ s : Int × Int × List Int => ∃ n : Nat, s.2.1 = (n : Int) /\ n <= v.length + 1 /\ WW s.2.2 /\ s.2.2.length = u.length /\ (∀ k, j + n <= k -> s.2.2.getD k 0 = u.getD k 0) /\ 0 <= s.1 /\ s.1 <= 1 /\
     val s.2.2 + s.1 * 4294967296 ^ (j + n) = val u + vl (λ i => v.getD i 0) n * 4294967296 ^ j) (μ := λ s : Int × Int × List Int => v.length + 1 - s.2.1.toNat)
   ⟨0, rfl, by omega, hu, rfl, λ k _ => rfl, by simp, by simp, by simp [vl]⟩ ?_
 rintro ⟨c, i, w⟩ ⟨n, h1, h2, h3, h4, h5, h6, h7, h10⟩
 simp only at h1 h3 h4 h5 h6 h7 h10
 subst h1
 have ww := h3 (j + n)
 have wv := hv n
 have e1 : ((j : Int) + (n : Int)).toNat = j + n := by omega
 have J : n < v.length + 1 -> ∀ s : Int, s = w.getD (j + n) 0 + v.getD n 0 + c -> Ar (Ep v n w s q (j : Int) wn) (Id (λ s : Int × Int × List Int => ∃ n : Nat, s.2.1 = (n : Int) /\ n <= v.length + 1 /\ WW s.2.2 /\ s.2.2.length = u.length /\ (∀ k, j + n <= k -> s.2.2.getD k 0 = u.getD k 0) /\ 0 <= s.1 /\ s.1 <= 1 /\
     val s.2.2 + s.1 * 4294967296 ^ (j + n) = val u + vl (λ i => v.getD i 0) n * 4294967296 ^ j) (λ s : Int × Int × List Int => v.length + 1 - s.2.1.toNat) (c, (n : Int), w)
     (λ r => WW r /\ r.length = u.length /\ (∀ k, j + (v.length + 1) <= k -> r.getD k 0 = u.getD k 0) /\ ∃ c : Int, 0 <= c /\ c <= 1 /\ val r + c * 4294967296 ^ (j + (v.length + 1)) = val u + val v * 4294967296 ^ j)) := by
   intro hn s hs
   unfold Ep
   simp only [Ah, Ae, Av, V9, w32, e1]
   rw [Bg (by omega) (by omega)]
   refine ⟨by omega, by omega, by decide, ⟨n + 1, by simp, by omega, h3.set (by omega) (by omega), by simp [h4], λ k hk => ?_, by omega, by omega, ?_⟩, by simp; omega⟩
   · rw [getD_set, if_neg (by omega)]; exact h5 k (by omega)
   · rw [Jc (by omega), vl]
     have p1 : (4294967296 : Int) ^ (j + (n + 1)) = 4294967296 ^ (j + n) * 4294967296 := by rw [<- Nat.add_assoc, Int.pow_succ]
     have p2 : (4294967296 : Int) ^ (j + n) = 4294967296 ^ j * 4294967296 ^ n := Int.pow_add _ _ _
     have e : s % 4294967296 + s / 4294967296 * 4294967296 = w.getD (j + n) 0 + v.getD n 0 + c := by omega
     rw [p1]
     rw [p2] at h10 ⊢
     clear p1 p2
     generalize s % 4294967296 = o at *
     generalize s / 4294967296 = g at *
     generalize (4294967296 : Int) ^ j = Pj at *
     generalize (4294967296 : Int) ^ n = Pn at *
     generalize vl (λ i => v.getD i 0) n = vv at *
     generalize val u = vu at *
     clear hs
     grind
 unfold Ft
 simp only [Ai, Ah, Ae, decide_eq_true_eq, Aw, Af, Int.toNat_natCast, e1]
 rw [Bi (x := v.getD n 0) (by omega) (by omega), Bi (x := w.getD (j + n) 0) (by omega) (by omega), Bi (x := c + w.getD (j + n) 0) (by omega) (by omega), Bi (x := c + w.getD (j + n) 0 + v.getD n 0) (by omega) (by omega)]
 refine ⟨λ hn => ⟨by omega, by omega, λ hn2 => ⟨by omega, J (by omega) _ (by omega)⟩, λ hn2 => ?_⟩, λ hn => ?_⟩
 · have hv0 : v.getD n 0 = 0 := by rw [List.getD_eq_getElem?_getD, List.getElem?_eq_none (by omega)]; rfl
   exact J (by omega) _ (by rw [hv0]; omega)
 · have : n = v.length + 1 := by omega
   subst this
   rw [Ik (by omega)] at h10
   exact ⟨h3, h4, h5, c, h6, h7, h10⟩
theorem Ain {j t : Nat} {u v : List Int} (hu : WW u) (hv : WW v) (ht : v.length = t + 2) (hl : u.length <= 1099511627777) (hj : j + (t + 2) < u.length) {wn : Int} (hwn : wn = (t + 3 : Nat)) (hv1 : 0 < v.getD (t + 1) 0)
   (hlt : val u < val v * 4294967296 ^ (j + 1)) :
   Ar (D7 u (j : Int) wn v (v.getD (t + 1) 0) (v.getD t 0)) λ r => WW r.1 /\ r.1.length = u.length /\ 0 <= r.2 /\ r.2 < 4294967296 /\ val r.1 = val u - r.2 * val v * 4294967296 ^ j /\ val r.1 < val v * 4294967296 ^ j := by
 have hpj := Bw j
 have hvv := hv.val
 obtain ⟨T, eu, hT0, hTV0, hhi, t1, t2, t3, t4, t5, t6, t7, t8⟩ := Bbl hu hv ht hj hv1 hlt
 obtain ⟨lu1, lu2⟩ := C0 (f := λ i => u.getD i 0) j (λ i _ => hu i)
 have w0 := hu (j + t); have w1 := hu (j + (t + 1)); have w2 := hu (j + (t + 2)); have z1 := hv (t + 1)
 unfold D7
 rw [ht]
 rw [Bg (x := ((t + 2 : Nat) : Int) - 1) (by omega) (by omega)]
 have e1 : ((j : Int) + ((t + 2 : Nat) : Int)).toNat = j + (t + 2) := by omega
 have e2 : ((j : Int) + (((t + 2 : Nat) : Int) - 1)).toNat = j + (t + 1) := by omega
 have f1 : IntKind.wrap .u64 (u.getD (j + (t + 2)) 0) = u.getD (j + (t + 2)) 0 := Bi (by omega) (by omega)
 simp only [Ah, e1, e2, Aal]
 rw [f1, w64 (_ * 4294967296), w64 (u.getD (j + (t + 1)) 0), Aem w2.1 w2.2 w1.1 w1.2]
 obtain ⟨top, htop⟩ : ∃ top, top = u.getD (j + (t + 2)) 0 * 4294967296 + u.getD (j + (t + 1)) 0 := ⟨_, rfl⟩
 simp only [<- htop] at t2 t3 t7 ⊢
 have top0 : 0 <= top := by omega
 have top1 : top < 18446744073709551616 := by omega
 rw [Wu top0]
 have qr := Int.mul_ediv_add_emod top (v.getD (t + 1) 0)
 have q0 : 0 <= top / v.getD (t + 1) 0 := Int.ediv_nonneg top0 (by omega)
 have q1 : top / v.getD (t + 1) 0 <= top := Int.ediv_le_self _ top0
 have r0 := Int.emod_nonneg top (b := v.getD (t + 1) 0) (by omega)
 have r1 := Int.emod_lt_of_pos top hv1
 rw [Bi q0 (by omega)]
 have hge := Ark t7 t8 (by rw [Int.mul_comm]; exact qr) r1 q0 (Bw _)
 -- the first guess
 obtain ⟨g, hg⟩ : ∃ g, g = (if (4294967295 : Int) < top / v.getD (t + 1) 0 then (4294967295 : Int) else top / v.getD (t + 1) 0) := ⟨_, rfl⟩
 rw [<- hg]
 have g0 : 0 <= g := by rw [hg]; split <;> omega
 have g1 : g < 4294967296 := by rw [hg]; split <;> omega
 have g2 : g <= top / v.getD (t + 1) 0 := by rw [hg]; split <;> omega
 have g3 : T < (g + 1) * val v := by
   rw [hg]; split
   · rw [Int.mul_comm] at hTV0; exact hTV0
   · exact hge
 have g4 : g * v.getD (t + 1) 0 <= top := by
   have : g * v.getD (t + 1) 0 <= top / v.getD (t + 1) 0 * v.getD (t + 1) 0 := Int.mul_le_mul_of_nonneg_right g2 (by omega)
   rw [Int.mul_comm (top / _)] at this
   omega
 have g5 : 0 <= g * v.getD (t + 1) 0 := Int.mul_nonneg g0 (by omega)
 rw [Bi (x := g * v.getD (t + 1) 0) g5 (by omega), Bi (x := top - g * v.getD (t + 1) 0) (by omega) (by omega)]
 refine ⟨by omega, by omega, by decide, by omega, by omega, by omega, ?_⟩
 refine (Zz hu hv ht hl hj hwn hv1 t2 t4 (by omega) (by omega) (by omega) g0 g1 g3).bind ?_
 rintro q ⟨p0, p1, p2, p3⟩
 have hup := As0 p3 t3 t5 t6 p0 p1 (Bw t)
 refine (Zx hu hv hl (by rw [ht]; exact hj) (by rw [ht]; exact hwn) p0 p1).bind ?_
 rintro ⟨b, w⟩ ⟨s1, s2, s3, s4, s5, s6⟩
 simp only at s1 s2 s3 s4 s5 s6
 rw [ht] at s3 s6
 have hW : val w < 4294967296 ^ (j + (t + 2) + 1) := Li s1 s2 (by omega) s3 hhi
 have X : val u - q * val v * 4294967296 ^ j = vl (λ i => u.getD i 0) j + (T - q * val v) * 4294967296 ^ j := by rw [eu, Int.sub_mul]; omega
 have hw0 := s1.val.1
 simp only [Ai, Ae, At, decide_eq_true_eq, w32]
 refine ⟨λ hb => ?_, λ hb => ?_⟩
 · rw [hb, Int.zero_mul, Int.add_zero] at s6
   rw [show q % 4294967296 = q by omega]
   have hge : 0 <= T - q * val v := by
     have h1 : (-1) * 4294967296 ^ j < (T - q * val v) * 4294967296 ^ j := by omega
     have := Dh h1 hpj
     omega
   have hle : (T - q * val v) * 4294967296 ^ j <= (val v - 1) * 4294967296 ^ j := Int.mul_le_mul_of_nonneg_right (by rw [Int.add_mul] at p2; omega) (by omega)
   rw [Int.sub_mul (val v)] at hle
   exact ⟨s1, s2, p0, p1, s6, by omega⟩
 · have hb1 : b = 1 := by omega
   rw [hb1, Int.one_mul] at s6
   have eJ : j + (t + 2 + 1) = j + (t + 2) + 1 := rfl
   rw [eJ] at s6
   have hTneg : T - q * val v < 0 := by
     have h1 : (T - q * val v) * 4294967296 ^ j < 0 * 4294967296 ^ j := by omega
     exact Dh h1 hpj
   have hq1 : 1 <= q := by
     rcases (show q = 0 \/ 1 <= q by omega) with h | h
     · rw [h, Int.zero_mul] at hTneg; omega
     · exact h
   refine (W8 s1 hv (by omega) (by rw [ht, s2]; exact hj) (by rw [ht]; exact hwn) q).mono ?_
   rintro w2 ⟨g1', g2', g3', c', g4', g5', g6'⟩
   rw [ht] at g3' g6'
   rw [eJ] at g6'
   have hF : val w2 < 4294967296 ^ (j + (t + 2) + 1) := Li g1' (by omega) (by omega) (λ k hk => by rw [g3' k hk]; exact s3 k hk) hhi
   have hX : val u - (q - 1) * val v * 4294967296 ^ j = vl (λ i => u.getD i 0) j + (T - q * val v + val v) * 4294967296 ^ j := by
     have : (q - 1) * val v * 4294967296 ^ j = q * val v * 4294967296 ^ j - val v * 4294967296 ^ j := by grind
     rw [this, Int.add_mul]; omega
   have hX0 : 0 <= (T - q * val v + val v) * 4294967296 ^ j := Int.mul_nonneg (by omega) (by omega)
   have hX1 : (T - q * val v + val v) * 4294967296 ^ j <= (val v - 1) * 4294967296 ^ j := Int.mul_le_mul_of_nonneg_right (by omega) (by omega)
   rw [Int.sub_mul] at hX1
   have hXX : val u - q * val v * 4294967296 ^ j + val v * 4294967296 ^ j = val u - (q - 1) * val v * 4294967296 ^ j := by grind
   have hc1 : c' = 1 := by
     rcases (show c' = 0 \/ c' = 1 by omega) with h | h
     · rw [h, Int.zero_mul] at g6'; omega
     · exact h
   rw [hc1, Int.one_mul] at g6'
   rw [Bi (x := q - 1) (by omega) (by omega), show (q - 1) % 4294967296 = q - 1 by omega]
   refine ⟨g1', by omega, by omega, by omega, by omega, ?_⟩
   omega
end Go.Ab
