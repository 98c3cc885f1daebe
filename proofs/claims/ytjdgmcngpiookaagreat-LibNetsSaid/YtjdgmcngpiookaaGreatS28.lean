/- The trees of a network in the document's answer. Networks: potentials, currents, heat, resistances and trees are the document's. For all networks and nodes: potentials, currents, heat, resistances and trees are the document's; the whole statement LibNetsSaid. Conditions: none beyond those that each theorem names. -/
import Derived.Test.YtjdgmcngpiookaaGreatS27
import Derived.Test.YtjdgmcngpiookaaGreatS17
import Derived.Test.YtjdgmcngpiookaaGreatS10
import Derived.Test.YtjdgmcngpiookaaGreatRows
namespace Go.Ab
open Go
set_option linter.unusedVariables false
set_option linter.unusedSimpArgs false
theorem Atj {f : Nat -> Rat} {c : Nat} : ∀ {n}, (∀ i, i < n -> Sz (f i) c) -> Sz (sm n f) (1 + (c + 1) * n)
 | 0, _ => D3 0
 | n + 1, h => ((Atj (n := n) λ i hi => h i (by omega)).add (h n (by omega))).mono (by rw [Nat.mul_add]; omega)
theorem Ahy {R : List (List Aa) -> Option Aa} {t : List (List Aa)} {n c : Nat} {T : Nat -> Nat -> Rat} (M : E3 t (n + 2) (n + 2) T) (hn : n + 2 <= 12) (hs : ∀ i j, i < n + 2 -> j < n + 2 -> Sz (T i j) c) (hc : c <= 1000000000) (hN : IntKind.wrap .i64 ((t.length : Int) - 1) = ((n + 1 : Nat) : Int)) :
   Ar (Bj (λ v : (Int × (List Int) × Bool × (List Int) × Bool) => Dw R t v.1 v.2.1 v.2.2.1 v.2.2.2.1 v.2.2.2.2) ((0 : Int), [], false, [], false)) λ r => Cd ⟨⟨r.1, r.2.1⟩, ⟨r.2.2.1, r.2.2.2⟩⟩ (sm (n + 1) (T (n + 1))) := by
 refine As (I := λ s : Int × List Int × Bool × List Int × Bool => ∃ k : Nat, s.1 = (k : Int) /\ k <= n + 1 /\ Cd ⟨⟨s.2.1, s.2.2.1⟩, ⟨s.2.2.2.1, s.2.2.2.2⟩⟩ (sm k (T (n + 1)))) (μ := λ s : Int × List Int × Bool × List Int × Bool => n + 1 - s.1.toNat) ⟨0, rfl, Nat.zero_le _, rz⟩ ?_
 rintro ⟨i, x1, x2, x3, x4⟩ ⟨k, h1, h2, h3⟩
 simp only at h1 h3
 subst h1
 have hm := M.rows
 have hcl := M.cols (n + 1) (by omega)
 unfold Dw
 rw [hN]
 simp only [Ai, Ah, At, Ae, decide_eq_true_eq, Av, Aw, Af, Int.toNat_natCast]
 refine ⟨λ h => ?_, λ h => ?_⟩
 · have hk : k < n + 1 := by omega
   refine ⟨by omega, by omega, ?_⟩
   have s1 : Sz (sm k (T (n + 1))) 12000000013 := (Atj λ i hi => hs (n + 1) i (by omega) (by omega)).mono (by
     have := Nat.mul_le_mul (show c + 1 <= 1000000001 by omega) (show k <= 12 by omega); omega)
   refine (Fm h3 (M.rep (n + 1) k (by omega) (by omega)) s1 (hs _ _ (by omega) (by omega)) (by omega)).mono ?_
   rintro q hq
   rw [Bg (by omega) (by omega)]
   exact ⟨⟨k + 1, by simp, by omega, hq⟩, by omega⟩
 · have : k = n + 1 := by omega
   subst this
   exact h3
theorem Ag3 {R : List (List Aa) -> Option Aa} {t : List (List Aa)} {n c : Nat} {T : Nat -> Nat -> Rat} (M : E3 t (n + 2) (n + 2) T) (hn : n + 2 <= 12) (hs : ∀ i j, i < n + 2 -> j < n + 2 -> Sz (T i j) c) (hc : c <= 1000000000) (hN : IntKind.wrap .i64 ((t.length : Int) - 1) = ((n + 1 : Nat) : Int))
   {r1 : (List Int) × Bool × (List Int) × Bool} (hr1 : Cd ⟨⟨r1.1, r1.2.1⟩, ⟨r1.2.2.1, r1.2.2.2⟩⟩ (sm (n + 1) (T (n + 1)))) (h0 : sm (n + 1) (T (n + 1)) ≠ 0) (hss : Sz (sm (n + 1) (T (n + 1))) (c + 1)) :
   Ar (Bj (λ v : (Int × (List (List Aa))) => D0 R t r1 v.1 v.2) ((0 : Int), List.replicate (n + 1) ([] : (List Aa)))) λ o => E3 o (n + 1) (n + 1) (tru (n + 1) T) := by
 have hm := M.rows
 have hcl := M.cols (n + 1) (by omega)
 refine As (I := λ s : Int × List (List Aa) => ∃ k : Nat, s.1 = (k : Int) /\ k <= n + 1 /\ s.2.length = n + 1 /\ ∀ a, a < k -> (s.2.getD a []).length = n + 1 /\ ∀ b, b < n + 1 -> Cd ((s.2.getD a []).getD b Ao) (tru (n + 1) T a b)) (μ := λ s : Int × List (List Aa) => n + 1 - s.1.toNat)
   ⟨0, rfl, Nat.zero_le _, by simp, λ a ha => by omega⟩ ?_
 rintro ⟨i', w⟩ ⟨i, h1, h2, h3, h4⟩
 simp only at h1 h3 h4
 subst h1
 unfold D0
 rw [hN]
 simp only [Ai, Ah, At, Ae, decide_eq_true_eq, Av, Aw, Af, Int.toNat_natCast]
 refine ⟨λ h => ?_, λ h => ⟨h3, λ a ha => (h4 a (by omega)).1, λ a b ha hb => (h4 a (by omega)).2 b hb⟩⟩
 have hi : i < n + 1 := by omega
 have hci := M.cols i (by omega)
 obtain ⟨row, hrow⟩ : ∃ row, row = List.take (n + 1 - (0 : Int).toNat) (List.drop (0 : Int).toNat (t.getD i [])) := ⟨_, rfl⟩
 have hrl : row.length = n + 1 := by rw [hrow]; show (List.take (n + 1) (t.getD i [])).length = n + 1; rw [List.length_take]; omega
 have hrg : ∀ b, b < n + 1 -> row.getD b Ao = rm t i b := λ b hb => by
   rw [hrow]; show (List.take (n + 1) (t.getD i [])).getD b Ao = (t.getD i []).getD b Ao
   rw [List.getD_eq_getElem?_getD, List.getElem?_take_of_lt hb, <- List.getD_eq_getElem?_getD]
 rw [<- hrow]
 refine ⟨by omega, by omega, by omega, by omega, by rw [hrl]; unfold Ap; omega, by omega, ?_⟩
 refine (As (I := λ s : Int × List (List Aa) => ∃ k : Nat, s.1 = (k : Int) /\ k <= n + 1 /\ s.2.length = n + 1 /\ (∀ a, a ≠ i -> s.2.getD a [] = w.getD a []) /\ (s.2.getD i []).length = n + 1 /\ ∀ b, b < n + 1 -> Cd ((s.2.getD i []).getD b Ao) (if b < k then tru (n + 1) T i b else T i b)) (μ := λ s : Int × List (List Aa) => n + 1 - s.1.toNat)
   (Q := λ o => o.length = n + 1 /\ (∀ a, a ≠ i -> o.getD a [] = w.getD a []) /\ (o.getD i []).length = n + 1 /\ ∀ b, b < n + 1 -> Cd ((o.getD i []).getD b Ao) (tru (n + 1) T i b))
   ⟨0, rfl, Nat.zero_le _, by simp [h3], λ a ha => by show (w.set i row).getD a [] = _; rw [Bf, if_neg (by omega)], by show ((w.set i row).getD i []).length = _; rw [Bf, if_pos ⟨rfl, by omega⟩, hrl], λ b hb => by
     show Cd (((w.set i row).getD i []).getD b Ao) _
     rw [Bf, if_pos ⟨rfl, by omega⟩, if_neg (by omega), hrg b hb]; exact M.rep i b (by omega) (by omega)⟩ ?_).mono ?_
 · rintro ⟨k', u⟩ ⟨k, g1, g2, g3, g4, g5, g6⟩
   simp only at g1 g3 g4 g5 g6
   subst g1
   unfold Fj Dz
   rw [hN]
   simp only [Ai, Ah, At, Ae, decide_eq_true_eq, Av, Aw, Af, Int.toNat_natCast, Bool.not_eq_true', decide_eq_false_iff_not]
   refine ⟨λ h => ⟨λ hne => ?_, λ heq => ?_⟩, λ h => ⟨g3, g4, g5, λ b hb => by have := g6 b hb; rw [if_pos (by omega)] at this; exact this⟩⟩
   · have hk : k < n + 1 := by omega
     have hki : k ≠ i := by omega
     refine ⟨by omega, by omega, by omega, by omega, by omega, by omega, by omega, ?_⟩
     have hTi := hs (n + 1) i (by omega) (by omega)
     have hTk := hs (n + 1) k (by omega) (by omega)
     refine (Ie (M.rep (n + 1) i (by omega) (by omega)) (M.rep (n + 1) k (by omega) (by omega)) hTi hTk (by omega)).mono ?_
     rintro y4 hy4
     refine (Ss hy4 hr1 (hTi.mul hTk) hss (by omega) h0).mono ?_
     rintro y5 hy5
     have hq := g6 k hk
     rw [if_neg (by omega)] at hq
     refine (Fm hq hy5 (hs i k (by omega) (by omega)) ((hTi.mul hTk).div hss h0) (by omega)).mono ?_
     rintro y6 hy6
     rw [Bg (by omega) (by omega)]
     refine ⟨by omega, ⟨k + 1, by simp, by omega, by simp [g3], λ a ha => by rw [Bf, if_neg (by omega)]; exact g4 a ha, by rw [Bf, if_pos ⟨rfl, by omega⟩, List.length_set]; exact g5, λ b hb => ?_⟩, by omega⟩
     rw [Bf, if_pos ⟨rfl, by omega⟩, Bf]
     by_cases hbk : b = k
     · subst hbk; rw [if_pos ⟨rfl, by omega⟩, if_pos (by omega)]; unfold tru; rw [if_neg hki]; exact hy6
     · rw [if_neg (by omega)]
       have := g6 b hb
       by_cases hb2 : b < k
       · rw [if_pos hb2] at this; rw [if_pos (by omega)]; exact this
       · rw [if_neg hb2] at this; rw [if_neg (by omega)]; exact this
   · have hki : k = i := by omega
     rw [Bg (by omega) (by omega)]
     refine ⟨⟨k + 1, by simp, by omega, g3, g4, g5, λ b hb => ?_⟩, by omega⟩
     have := g6 b hb
     by_cases hb2 : b < k
     · rw [if_pos hb2] at this; rw [if_pos (by omega)]; exact this
     · rw [if_neg hb2] at this
       by_cases hbk : b = k
       · rw [if_pos (by omega)]; unfold tru; rw [if_pos (by omega)]; exact this
       · rw [if_neg (by omega)]; exact this
 · rintro o ⟨o1, o2, o3, o4⟩
   rw [Bg (by omega) (by omega)]
   refine ⟨⟨i + 1, by simp, by omega, o1, λ a ha => ?_⟩, by omega⟩
   by_cases hai : a = i
   · subst hai; exact ⟨o3, o4⟩
   · rw [o2 a hai]; exact h4 a (by omega)
theorem X6 : ∀ (n f : Nat), n + 1 <= f -> n + 1 <= 12 -> ∀ {t : List (List Aa)} {T : Nat -> Nat -> Rat} {k X : Nat}, E3 t (n + 1) (n + 1) T -> Xc (n + 1) T -> CD (n + 1) T k -> (k + 2) * 2 ^ (n + 1) <= X -> X <= 1000000000 ->
   Ar (C4 f t) λ q => Cd q (trW (n + 1) T) /\ Sz (trW (n + 1) T) (2 * X - (k + 2))
 | n, 0, hf, _, _, _, _, _, _, _, _, _, _ => by omega
 | 0, f + 1, _, _, t, T, k, X, M, J, hC, hX, hX2 => by
   have hm := M.rows
   show Ar (Ce (C4 f) t) _
   unfold Ce
   rw [hm, Ai]
   refine ⟨λ _ => ?_, λ h => (h (by decide)).elim⟩
   refine (Md (n := 1) (by omega) (by omega)).bind ?_
   rintro q hq
   rw [Ae, Ayn]
   exact ⟨hq, (G6 0).mono (by omega)⟩
 | n + 1, f + 1, hf, hn, t, T, k, X, M, J, hC, hX, hX2 => by
   have hm := M.rows
   have hN : IntKind.wrap .i64 ((t.length : Int) - 1) = ((n + 1 : Nat) : Int) := by rw [hm, Bg (by omega) (by omega)]; omega
   have hp : 2 <= 2 ^ (n + 1 + 1) := by have : 1 <= 2 ^ (n + 1) := Nat.pow_pos (by omega); rw [Nat.pow_succ]; omega
   have hX3 : (k + 2) * 2 <= X := Nat.le_trans (Nat.mul_le_mul (Nat.le_refl _) hp) hX
   show Ar (Ce (C4 f) t) _
   unfold Ce
   rw [hN, Ai]
   refine ⟨λ h => by simp only [decide_eq_true_eq] at h; omega, λ _ => ?_⟩
   refine (Ahy M hn (λ i j hi hj => hC.sz hi hj) (by omega) hN).bind ?_
   rintro r1 hr1
   refine (Nd hr1).bind ?_
   rintro z hz
   rw [Ai]
   refine ⟨λ h => ?_, λ h => ?_⟩
   · rw [Ae, Aqa J (hz.1 h)]
     exact ⟨rz, (D3 0).mono (by omega)⟩
   · have h0 : sm (n + 1) (T (n + 1)) ≠ 0 := λ e => h (hz.2 e)
     obtain ⟨hC', hss⟩ := hC.next h0 (by omega)
     simp only [Ah, Int.toNat_natCast]
     refine ⟨by omega, by omega, by unfold Ap; omega, ?_⟩
     refine (Ag3 M hn (λ i j hi hj => hC.sz hi hj) (by omega) hN hr1 h0 hss).bind ?_
     rintro w hw
     refine (X6 n f (by omega) (by omega) (X := X) hw J.next hC' (by
       have e : (2 * k + 2 + 2) * 2 ^ (n + 1) = (k + 2) * 2 ^ (n + 1 + 1) := by rw [Nat.pow_succ]; grind
       omega) hX2).bind ?_
     rintro q ⟨hq, sq⟩
     refine (Ie hr1 hq hss sq (by omega)).bind ?_
     rintro y hy
     rw [Ae, Aoy J h0]
     exact ⟨hy, (hss.mul sq).mono (by omega)⟩
def tkE (g : An) (e i j : Nat) : Rat := if nA g e ≠ nB g e /\ (i = nA g e /\ j = nB g e \/ i = nB g e /\ j = nA g e) then cond (am g e) else 0
def tkK (g : An) (k i j : Nat) : Rat := sm k λ e => tkE g e i j
theorem Aon {g : An} {n : Nat} (G : GOk g n) : Xc n (tkK g g.Arms.length) := by
 refine ⟨λ i j _ _ => Bl λ e _ => ?_, λ i _ => Ij λ e _ => ?_, λ i j _ _ => Rh λ e he => ?_⟩
 · unfold tkE
   by_cases h : nA g e ≠ nB g e /\ (i = nA g e /\ j = nB g e \/ i = nB g e /\ j = nA g e)
   · rw [if_pos h, if_pos (by omega)]
   · rw [if_neg h, if_neg (by omega)]
 · unfold tkE; rw [if_neg (by omega)]
 · unfold tkE
   split
   · exact Rat.le_of_lt (Qc (G.arm e he))
   · exact Rat.le_refl
theorem A86 {g : An} {n : Nat} (G : GOk g n) {i j : Nat} (hi : i < n) (hj : j < n) : kir n (tkK g g.Arms.length) i j = lap g i j := by
 unfold kir
 have hev : ∀ e i, evE g e i = if nA g e = nB g e then 0 else if i = nA g e then 1 else if i = nB g e then -1 else 0 := λ e i => by
   unfold evE ev
   by_cases h : nA g e = nB g e
   · rw [if_pos h, h]; grind
   · rw [if_neg h]
     by_cases h1 : i = nA g e
     · rw [if_pos h1, if_neg (by omega), if_pos h1]; grind
     · rw [if_neg h1, if_neg h1]; split <;> grind
 by_cases hij : i = j
 · subst hij
   rw [if_pos rfl]
   unfold tkK lap Gi
   rw [My]
   refine Bl λ e he => ?_
   obtain ⟨a1, a2, _, _⟩ := G.ab he
   rw [hev]
   by_cases h : nA g e = nB g e
   · rw [Ij λ j _ => by unfold tkE; rw [if_neg (by omega)], if_pos h]; grind
   · rw [if_neg h]
     by_cases h1 : i = nA g e
     · rw [if_pos h1, H8 (k := nB g e) a2 λ j _ hne => by unfold tkE; rw [if_neg (by omega)]]
       unfold tkE; rw [if_pos (by omega)]; grind
     · rw [if_neg h1]
       by_cases h2 : i = nB g e
       · rw [if_pos h2, H8 (k := nA g e) a1 λ j _ hne => by unfold tkE; rw [if_neg (by omega)]]
         unfold tkE; rw [if_pos (by omega)]; grind
       · rw [if_neg h2, Ij λ j _ => by unfold tkE; rw [if_neg (by omega)]]; grind
 · rw [if_neg hij]
   unfold tkK lap Gi
   have : -sm g.Arms.length (λ e => tkE g e i j) = sm g.Arms.length λ e => -1 * tkE g e i j := by rw [Gu]; grind
   rw [this]
   refine Bl λ e he => ?_
   rw [hev, hev]
   unfold tkE
   by_cases h : nA g e = nB g e
   · rw [if_neg (by omega), if_pos h]; grind
   · rw [if_neg h, if_neg h]
     by_cases h1 : i = nA g e /\ j = nB g e
     · rw [if_pos ⟨h, .inl h1⟩, if_pos h1.1, if_neg (by omega), if_pos h1.2]; grind
     · by_cases h2 : i = nB g e /\ j = nA g e
       · rw [if_pos ⟨h, .inr h2⟩, if_neg (by omega), if_pos h2.1, if_pos h2.2]; grind
       · rw [if_neg (by omega)]
         by_cases h3 : i = nA g e
         · rw [if_pos h3, if_neg (by omega), if_neg (by omega)]; grind
         · rw [if_neg h3]
           by_cases h4 : i = nB g e
           · rw [if_pos h4, if_neg (by omega), if_neg (by omega)]; grind
           · rw [if_neg h4]; grind
theorem A85 {g : An} {n : Nat} (G : GOk g n) : trW n (tkK g g.Arms.length) = tre g n :=
 Gf λ i j hi hj => A86 G (by omega) (by omega)
theorem Avg {g : An} {n : Nat} (G : GOk g n) : ∀ k, k <= g.Arms.length -> CD n (tkK g k) (3 * k + 1)
 | 0, _ => ⟨1, λ _ _ => 0, by omega, by decide, λ i j _ _ => ⟨by show -(4294967296 ^ (3 * 0 + 1)) < (0 : Int); decide, by show (0 : Int) < 4294967296 ^ (3 * 0 + 1); decide, by show (0 : Rat) = _; grind⟩⟩
 | k + 1, h => by
   obtain ⟨d, x, h1, h2, h3⟩ := Avg G k (by omega)
   have arm : Ke n (am g k) := G.arm k (by omega)
   obtain ⟨⟨r1, r2, r3, r4⟩, _⟩ := arm.r
   have r5 := arm.rpos
   have q : ∀ y : Int, -1000000000000 <= y -> y <= 1000000000000 -> -(4294967296 ^ 2) < y /\ y < 4294967296 ^ 2 := λ y a b => by
     have : (4294967296 : Int) ^ 2 = 18446744073709551616 := by decide
     omega
   obtain ⟨n1, n2⟩ := q (am g k).R.N r1 r2
   obtain ⟨d1, d2⟩ := q (am g k).R.D (by omega) r4
   have hd0 : (d : Rat) ≠ 0 := by exact_mod_cast h1
   have hN0 : ((am g k).R.N : Rat) ≠ 0 := by
     have : (am g k).R.N ≠ 0 := by omega
     exact_mod_cast this
   have hD0 : ((am g k).R.D : Rat) ≠ 0 := by
     have : (am g k).R.D ≠ 0 := by omega
     exact_mod_cast this
   have hc : cond (am g k) = ((am g k).R.D : Rat) / ((am g k).R.N : Rat) := by
     unfold cond Ed; rw [Rat.divInt_eq_div]; grind
   have P1 := Dg (show 3 * k + 1 + 2 <= 3 * (k + 1) + 1 by omega)
   have P2 := Afm (3 * k + 1 + 2)
   have P3 : (4294967296 : Int) ^ (3 * k + 1 + 2 + 1) = 4294967296 ^ (3 * (k + 1) + 1) := by congr 1
   have m0 := B7 h2.1 h2.2 n1 n2
   have m2 := B7 h2.1 h2.2 d1 d2
   refine ⟨d * (am g k).R.N, λ i j => if nA g k ≠ nB g k /\ (i = nA g k /\ j = nB g k \/ i = nB g k /\ j = nA g k) then x i j * (am g k).R.N + d * (am g k).R.D else x i j * (am g k).R.N, Int.mul_ne_zero h1 (by omega), by omega, λ i j hi hj => ?_⟩
   obtain ⟨a1, a2, a3⟩ := h3 i j hi hj
   have m1 := B7 a1 a2 n1 n2
   have e : tkK g (k + 1) i j = tkK g k i j + tkE g k i j := rfl
   rw [e, a3]
   unfold tkE
   by_cases hc1 : nA g k ≠ nB g k /\ (i = nA g k /\ j = nB g k \/ i = nB g k /\ j = nA g k)
   · simp only [if_pos hc1]
     refine ⟨by omega, by omega, ?_⟩
     rw [hc, Rat.intCast_mul, Rat.intCast_add, Rat.intCast_mul, Rat.intCast_mul]; grind
   · simp only [if_neg hc1]
     refine ⟨by omega, by omega, ?_⟩
     rw [Rat.intCast_mul, Rat.intCast_mul]; grind
theorem Adc {g : An} {n : Nat} (G : GOk g n) : Ar (Cx g) λ r => r = Ps (tre g n) := by
 have hn := G.nodes
 have h1 := G.n1
 have h12 := G.n12
 have h40 := G.arms
 unfold Cx
 refine Ab4 G ?_
 simp only [Ah, hn, Int.toNat_natCast]
 refine ⟨by omega, by omega, by unfold Ap; omega, ?_⟩
 refine Ar.bind (R := λ o => E3 o n n (tkK g 0)) (As (I := λ s : Int × List (List Aa) => ∃ k : Nat, s.1 = (k : Int) /\ k <= n /\ s.2.length = n /\ ∀ i, i < k -> s.2.getD i [] = List.replicate n ⟨⟨[], false⟩, ⟨[], false⟩⟩) (μ := λ s : Int × List (List Aa) => n - s.1.toNat)
   ⟨0, rfl, Nat.zero_le _, by simp, λ i hi => by omega⟩ ?_) ?_
 · rintro ⟨k', w⟩ ⟨k, h1, h3, h4, h5⟩
   simp only at h1 h4 h5
   subst h1
   unfold Gq
   rw [hn]
   simp only [Ai, Ah, Ae, decide_eq_true_eq, Av, Aw, Af, Int.toNat_natCast]
   refine ⟨λ h => ?_, λ h => ⟨h4, λ i hi => by rw [h5 i (by omega), List.length_replicate], λ i j hi hj => ?_⟩⟩
   · rw [Bg (by omega) (by omega)]
     refine ⟨by omega, by omega, by unfold Ap; omega, by omega, ⟨k + 1, by simp, by omega, by simp [h4], λ i hi => ?_⟩, by omega⟩
     rw [Bf]
     split
     · rfl
     · exact h5 i (by omega)
   · unfold rm; rw [h5 i (by omega)]; exact Ai0 hj
 rintro w0 M0
 refine Ar.bind (R := λ o => E3 o n n (tkK g g.Arms.length)) (As (I := λ s : Int × List (List Aa) => ∃ k : Nat, s.1 = (k : Int) /\ k <= g.Arms.length /\ E3 s.2 n n (tkK g k)) (μ := λ s : Int × List (List Aa) => g.Arms.length - s.1.toNat) ⟨0, rfl, Nat.zero_le _, M0⟩ ?_) ?_
 · rintro ⟨i, w⟩ ⟨k, g1, g2, M⟩
   simp only at g1 M
   subst g1
   unfold Gl Fd
   simp only [Ai, Ah, At, Ae, decide_eq_true_eq, Aw, Af, Int.toNat_natCast, Bool.not_eq_true', decide_eq_false_iff_not]
   refine ⟨λ h => ?_, λ h => ?_⟩
   · have hk : k < g.Arms.length := by omega
     obtain ⟨a1, a2, a3, a4⟩ := G.ab hk
     have eA : (List.getD g.Arms k Ac).A = (nA g k : Int) := a3
     have eB : (List.getD g.Arms k Ac).B = (nB g k : Int) := a4
     have hstep : ∀ i j, tkK g (k + 1) i j = tkK g k i j + tkE g k i j := λ i j => rfl
     rw [eA, eB, Bg (x := (k : Int) + 1) (by omega) (by omega)]
     refine ⟨by omega, λ hne => ?_, λ he => ?_⟩
     · have hAB : nA g k ≠ nB g k := by omega
       have arm : Ke n (am g k) := G.arm k hk
       have sc : Sz (cond (am g k)) 3 := Nf arm
       refine (S4 (x := (am g k).R) arm.r).mono ?_
       rintro q0 hq0
       refine (Sw (x := Ed (am g k).R) hq0 (Fv arm.r) (by omega) (Rat.ne_of_gt (O5 arm.r arm.rpos))).mono ?_
       rintro c hc
       have hc : Cd c (cond (am g k)) := hc
       have hE : ∀ i j, tkE g k i j = if i = nB g k /\ j = nA g k then cond (am g k) else if i = nA g k /\ j = nB g k then cond (am g k) else 0 := λ i j => by
         unfold tkE
         by_cases c1 : i = nB g k /\ j = nA g k
         · rw [if_pos (by omega), if_pos c1]
         · rw [if_neg c1]
           by_cases c2 : i = nA g k /\ j = nB g k
           · rw [if_pos (by omega), if_pos c2]
           · rw [if_neg (by omega), if_neg c2]
       simp only [Int.toNat_natCast, List.length_set]
       generalize hp : nA g k = p at a1 a3 eA hAB hE ⊢
       generalize hq : nB g k = q at a2 a4 eB hAB hE ⊢
       have sL : ∀ i j, i < n -> j < n -> Sz (tkK g k i j) 121 := λ i j hi hj => ((Avg G k (by omega)).sz hi hj).mono (by omega)
       have hm := M.rows
       have r1 := M.cols p a1
       have r2 := M.cols q a2
       refine ⟨by omega, by omega, by omega, by omega, ?_⟩
       refine (Fm (M.rep p q a1 a2) hc (sL p q a1 a2) sc (by omega)).mono ?_
       rintro y4 hy4
       refine ⟨by omega, by omega, ?_⟩
       refine (Fm (M.rep q p a2 a1) hc (sL q p a2 a1) sc (by omega)).mono ?_
       rintro y5 hy5
       have M1 : E3 (w.set p ((w.getD p []).set q y4)) n n (λ i j => if i = p /\ j = q then tkK g k p q + cond (am g k) else tkK g k i j) :=
         M.set a1 a2 (by rw [if_pos ⟨rfl, rfl⟩]; exact hy4) λ a b _ _ h => by rw [if_neg (by omega)]
       generalize hw1 : w.set p ((w.getD p []).set q y4) = w1 at M1 ⊢
       have hm1 := M1.rows
       have r3 := M1.cols q a2
       have M2 : E3 (w1.set q ((w1.getD q []).set p y5)) n n (tkK g (k + 1)) := by
         refine (M1.set a2 a1 (B := λ i j => if i = q /\ j = p then tkK g k q p + cond (am g k) else if i = p /\ j = q then tkK g k p q + cond (am g k) else tkK g k i j)
           (by rw [if_pos ⟨rfl, rfl⟩]; exact hy5) λ a b _ _ h => by rw [if_neg (by omega)]).congr λ a b _ _ => ?_
         rw [hstep, hE]
         by_cases c1 : a = q /\ b = p
         · rw [if_pos c1, if_pos c1, c1.1, c1.2]
         · rw [if_neg c1, if_neg c1]
           by_cases c2 : a = p /\ b = q
           · rw [if_pos c2, if_pos c2, c2.1, c2.2]
           · rw [if_neg c2, if_neg c2]; grind
       rw [Av]
       exact ⟨by omega, by omega, ⟨k + 1, by simp, by omega, M2⟩, by simp; omega⟩
     · have hAB : nA g k = nB g k := by omega
       rw [Av]
       refine ⟨⟨k + 1, by simp, by omega, M.congr λ a b _ _ => ?_⟩, by simp; omega⟩
       rw [hstep]; unfold tkE; rw [if_neg (by omega)]; grind
   · have : k = g.Arms.length := by omega
     subst this
     exact M
 · rintro t M
   obtain ⟨m, rfl⟩ : ∃ m, n = m + 1 := ⟨n - 1, by omega⟩
   have hX : (3 * g.Arms.length + 1 + 2) * 2 ^ (m + 1) <= 1000000 := by
     have e1 : 2 ^ (m + 1) <= 2 ^ 12 := Nat.pow_le_pow_right (by omega) h12
     have e2 := Nat.mul_le_mul (show 3 * g.Arms.length + 1 + 2 <= 123 by omega) e1
     have e3 : 123 * 2 ^ 12 <= 1000000 := by decide
     omega
   refine Ar.bind (R := λ q => Cd q (tre g (m + 1))) ?_ ?_
   · rw [<- A85 G]
     exact (X6 m 20 (by omega) h12 M (Aon G) (Avg G _ (Nat.le_refl _)) hX (by omega)).mono λ _ h => h.1
   · rintro q hq
     refine (Kv hq).bind ?_
     rintro r rfl
     rw [Ae]
theorem Aio {g : An} : Ar (Iv g) λ r => Ar (Cx g) λ s => r = s := by
 by_cases hG : ∃ n, GOk g n
 · obtain ⟨n, G⟩ := hG
   refine (Ug G).mono ?_
   rintro r ⟨h1, h2, h3⟩
   refine (Adc G).mono ?_
   rintro s rfl
   exact Xn h1 h2 h3
 · have h1 : Ar (Iv g) λ r => r = (⟨0, 0⟩, Zy g) := Ww hG (F := λ e => ((⟨0, 0⟩ : Au), e))
   have h2 : Ar (Cx g) λ r => r = (⟨0, 0⟩, Zy g) := Wq hG (F := λ e => ((⟨0, 0⟩ : Au), e))
   refine h1.mono ?_
   rintro _ rfl
   exact h2.mono λ _ h => h.symm
theorem Ahi (g : An) (a b : Int) : Ar (Dx g a b) λ r => r = true := by
 have J3 : ∀ y5 y6, Ar (C3 g a b y5 y6) λ r => r = true := λ y5 y6 => by
   unfold C3
   refine (Z9 a b).bind λ r h => h.bind ?_
   rintro _ rfl
   rw [if_neg (by simp), if_neg (by simp)]
   refine Aio.bind λ s h => h.bind ?_
   rintro _ rfl
   rw [if_pos (by simp), if_pos (by simp)]
   exact Agh.bind λ z hz => Ae.2 hz
 unfold Dx
 refine Ann.bind λ r h => h.bind ?_
 rintro _ ⟨rfl, h1, h2⟩
 rw [if_neg (by simp)]
 refine (Sx (a := r.1) (b := r.1) (by omega)).bind λ z hz => ?_
 rw [if_neg (by simp [hz])]
 refine (Sx (a := r.2.1) (b := r.2.1) (by omega)).bind λ z hz => ?_
 rw [if_neg (by simp [hz])]
 refine Aig.bind λ s h => h.bind ?_
 rintro _ ⟨rfl, h3⟩
 rw [if_neg (by simp), if_neg (by simp), if_neg (by simp), Ai]
 refine ⟨λ h => ?_, λ _ => J3 _ _⟩
 have e := h3 (by simpa using h)
 rw [if_neg (by simp [e])]
 exact J3 _ _
end Go.Ab
namespace Go.Proofs.YtjdgmcngpiookaaGreat
open Go Go.Ab
theorem A5w : RdL yzT Tryz.prog 31 ([.int .i64] ++ ([.int .i64] ++ [])) :=
 R9 (fl := [(0, 3, 1), (1, 3, 1)]) (fin := 2) (by kernel_rfl) (by kernel_rfl) (.cons (Tw (by kernel_rfl)) (.cons (Tw (by kernel_rfl)) .nil))
theorem Bdi : RdL yzT Tryz.prog 56 ([.int .i64] ++ ([.int .i64] ++ (([.int .i64] ++ ([.int .i64] ++ [])) ++ (([.int .i64] ++ ([.int .i64] ++ [])) ++ [])))) :=
 R9 (fl := [(0, 3, 1), (1, 3, 1), (2, 31, 2), (4, 31, 2)]) (fin := 6) (by kernel_rfl) (by kernel_rfl) (.cons (Tw (by kernel_rfl)) (.cons (Tw (by kernel_rfl)) (.cons A5w (.cons A5w .nil))))
def Bdn (_ : D4) : Prop := True
theorem A7v : RdE yzT Tryz.prog 56 (.nm 1) Bdn := Aoz Aiy Bdi (by
 intro ls h
 obtain ⟨a, _, rfl, _, b, _, rfl, _, c, _, rfl, _, d, _, rfl, _, e, _, rfl, _, f, _, rfl, _, rfl⟩ := h
 exact ⟨⟨a, b, ⟨c, d⟩, ⟨e, f⟩⟩, trivial, rfl⟩)
theorem A62 : RdL yzT Tryz.prog 24 ([.int .i64] ++ ([.sl (.nm 1) 48 Bdn] ++ [])) :=
 R9 (fl := [(0, 3, 1), (1, 22, 1)]) (fin := 2) (by kernel_rfl) (by kernel_rfl) (.cons (Tw (by kernel_rfl)) (.cons (by
   have h : Tryz.prog.bytesOf 56 = 48 := by kernel_rfl
   rw [<- h]
   exact An6 (by kernel_rfl) A7v (by kernel_rfl) (by have : Tryz.prog.cellsOf 56 = 6 := (by kernel_rfl); omega)) .nil))
def A22 (g : An) : Prop := g.Arms.length * 48 <= reachBytes
theorem A0i : RdE yzT Tryz.prog 24 (.nm 2) A22 := Aoz Aiy A62 (by
 intro ls h
 obtain ⟨a, _, rfl, _, b, _, rfl, hb, _, rfl⟩ := h
 exact ⟨⟨a, b⟩, hb, rfl⟩)
theorem A9u : Aao yzT Tryz.prog [24, 3, 3] [.nm 2, .int .i64, .int .i64] (λ x => A22 x.1 /\ IntKind.has .i64 x.2.1 /\ IntKind.has .i64 x.2.2.1 /\ True) :=
 .cons (A90 A0i (by kernel_rfl)) (.cons (Alh (Aj6 (by kernel_rfl)) rfl (by kernel_rfl)) (.cons (Alh (Aj6 (by kernel_rfl)) rfl (by kernel_rfl)) .nil))
theorem Aez (os : Os) (started : os.Started) (H : Type) (enc : TypeId × Value -> H) :
   ReturnsInHanded {} Tryz.checked os 3 .any (Rows.libNetsSpec.pre6 enc Tryz.prog Tryz.f3 [] false) (Rows.libNetsSpec.post enc Tryz.prog Tryz.f3 false Rows.libNetsRow.fresh Rows.libNetsRow.handsOn Rows.libNetsRow.again) :=
 Ai4 (C := Tryz.checked) (tb := 4) Ayf (by kernel_rfl) A9u
   (λ x hx => by
     obtain ⟨g, a, b, u⟩ := x
     obtain ⟨r, h1, h2⟩ := Ahi g a b
     subst h2
     show Option.map (λ r => (r, ())) (Dx g a b) = _
     rw [h1]; rfl)
   (by kernel_rfl) (by kernel_rfl) (by kernel_rfl) (by kernel_rfl) (by kernel_rfl) rfl
   (λ ds h => by
     have h : ds.length = 3 := h.trans (by kernel_rfl)
     match ds, h with
     | [d1, d2, d3], _ => rfl)
   started (by kernel_rfl) (by kernel_rfl)
   (ChangeSpec.witness6 (enc := enc) (C := Tryz.checked) false ⟨#[], #[.agg #[.int .i64 0, .slice none 0 0], .int .i64 0, .int .i64 0], []⟩ 8 (by kernel_rfl) (by kernel_rfl) (by kernel_rfl) (by kernel_rfl))
theorem nets_holds : Rows.LibNetsSaid :=
 OpenClaim.holds_of_wide 3 Tryz.f3 rfl rfl rfl rfl rfl rfl rfl ⟨rfl, rfl, rfl, rfl, rfl⟩ rfl rfl rfl rfl rfl (by kernel_rfl) (by kernel_rfl) (by kernel_rfl)
   (of_decide_eq_true (by kernel_rfl)) (by unfold Func.isWrapper; rw [if_neg (by decide +kernel)]; exact ⟨rfl, rfl⟩)
   (λ os started H enc _ => Aez os started H enc)
end Go.Proofs.YtjdgmcngpiookaaGreat
