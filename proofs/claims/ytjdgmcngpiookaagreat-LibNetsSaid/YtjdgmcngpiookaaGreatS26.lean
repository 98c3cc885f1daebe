/- Fractions of isoclineref01: quotients, nought, small ones; what is valid. Gauss's way in isoclineref04: what a round does to a matrix. The solution of isoclineref04, where there is just one. Parts and potentials of a network in the document's answer. Conditions: none beyond those that each theorem names. -/
import Derived.Test.YtjdgmcngpiookaaGreatS25
namespace Go.Ab
open Go
set_option linter.unusedVariables false
set_option linter.unusedSimpArgs false
theorem Aoh : Ar Dy λ w => WOk w /\ B6 w = 1 := by
 unfold Dy
 rw [Ae]
 refine ⟨⟨λ i => ?_, λ _ => by simp, λ h => (by cases h)⟩, ?_⟩
 · cases i <;> simp
 · unfold B6 sgn; simp [Kk]
theorem Md {n : Int} (h1 : -9223372036854775808 <= n) (h2 : n < 9223372036854775808) : Ar (Ci n) λ q => Cd q (n : Rat) := by
 unfold Ci
 refine (Qm h1 h2).bind ?_
 rintro a ⟨a1, a2⟩
 refine Aoh.bind ?_
 rintro b ⟨b1, b2⟩
 rw [Ae]
 exact Cd.of a1 b1 (by rw [a2]; rfl) (by rw [b2]; rfl)
theorem Ss {a b : Aa} {x y : Rat} (ha : Cd a x) (hb : Cd b y) {k m : Nat} (sx : Sz x k) (sy : Sz y m) (hkm : k + m + 1 <= 1099511627776) (h0 : y ≠ 0) : Ar (Db a b) λ c => Cd c (x / y) := by
 have lxN := ha.ltN sx; have lyN := hb.ltN sy
 obtain ⟨a1, a2, a3, a4⟩ := sx.pos
 obtain ⟨b1, b2, b3, b4⟩ := sy.pos
 unfold Db
 refine (Jy hb).bind ?_
 rintro e ⟨e1, e2, e3⟩
 refine (Jk ha.okN e1 (K := k + m) (by omega) (lxN.mono (by omega)) ((Q4 e2 sy).mono (by omega))).bind ?_
 rintro p ⟨p1, p2⟩
 refine (Jy ha).bind ?_
 rintro d ⟨d1, d2, d3⟩
 refine (Jk d1 hb.okN (K := k + m) (by omega) ((Q4 d2 sx).mono (by omega)) (lyN.mono (by omega))).bind ?_
 rintro q ⟨q1, q2⟩
 rw [ha.num, e2] at p2
 rw [d2, hb.num] at q2
 have hyn : y.num ≠ 0 := λ h => h0 (Rat.num_eq_zero.1 h)
 have hxd : (x.den : Int) ≠ 0 := by omega
 refine (Na p1 q1 (K := k + m) (by omega) (by unfold WLt; rw [p2]; exact B7 a1 a2 (by omega) b4) (by unfold WLt; rw [q2]; exact B7 (by omega) a4 b1 b2) (by rw [q2]; exact Int.mul_ne_zero hxd hyn)).bind ?_
 rintro c hc
 rw [Ae, Sl, <- p2, <- q2]
 exact hc
theorem Sw {a : Aa} {x : Rat} (ha : Cd a x) {k : Nat} (sx : Sz x k) (hk : k <= 1099511627774) (h0 : x ≠ 0) : Ar (Dc a) λ c => Cd c (1 / x) := by
 unfold Dc
 refine (Md (n := 1) (by omega) (by omega)).bind ?_
 rintro o ho
 refine (Ss ho ha (k := 1) (m := k) (G6 0) sx (by omega) h0).bind ?_
 rintro c hc
 rw [Ae]; exact hc
theorem Nd {a : Aa} {x : Rat} (ha : Cd a x) : Ar (Ca a) λ b => b = true ↔ x = 0 := by
 unfold Ca Bu
 simp only [At, Ae, decide_eq_true_eq]
 have h1 := ha.num
 have h2 := Afo ha.okN.ww ha.okN.top
 rw [<- Rat.num_eq_zero, <- h1]
 unfold B6 sgn
 have hl : a.n.d.length = 0 ↔ a.n.d = [] := List.length_eq_zero_iff
 constructor
 · intro h
   have : a.n.d = [] := hl.1 (by omega)
   rw [this]; split <;> rfl
 · intro h
   have : val a.n.d = 0 := by split at h <;> omega
   have := hl.2 (h2.1 this)
   omega
theorem Uu {w : Ad} (h : WOk w) : Ar (Ch w) λ r => (r.2 = true -> r.1 = B6 w) /\ (-9223372036854775808 <= B6 w -> B6 w < 9223372036854775808 -> r.2 = true) := by
 have hp := λ hm => h.pos hm
 have hb := h.ww.val
 unfold Ch
 rw [Ai]
 refine ⟨λ hl => ?_, λ hl => ?_⟩
 · simp only [decide_eq_true_eq] at hl
   have hne : w.d ≠ [] := by rintro e; rw [e] at hl; simp at hl
   have h1 := Ni h.ww h.top hne
   have h2 : (4294967296 : Int) ^ 2 <= 4294967296 ^ (w.d.length - 1) := Dg (by omega)
   rw [Ae]
   refine ⟨λ h => (by cases h), λ h3 h4 => ?_⟩
   unfold B6 sgn at h3 h4
   by_cases hm : w.minus = true
   · rw [if_pos hm] at h3 h4; omega
   · rw [if_neg hm] at h3 h4; omega
 · simp only [decide_eq_true_eq] at hl
   have hw := h.ww
   refine Ar.bind (R := λ r => r = val w.d) (As (I := λ s : Int × Int => ∃ k : Nat, s.2 = (k : Int) /\ k <= w.d.length /\ s.1 = vl (λ i => w.d.getD i 0) k) (μ := λ s : Int × Int => w.d.length - s.2.toNat) ⟨0, rfl, Nat.zero_le _, rfl⟩ ?_) ?_
   · rintro ⟨u, i⟩ ⟨k, h1, h2, h3⟩
     simp only at h1 h3
     subst h1
     unfold Es
     simp only [Ai, Ah, Ae, decide_eq_true_eq, Av, Aw, Af, Int.toNat_natCast]
     refine ⟨λ hk => ⟨by omega, by rw [w64]; omega, ?_⟩, λ hk => ?_⟩
     · have hk01 : k = 0 \/ k = 1 := by omega
       have wk := hw k
       refine ⟨⟨k + 1, by rw [Bg (by omega) (by omega)]; simp, by omega, ?_⟩, by rw [Bg (by omega) (by omega)]; omega⟩
       rw [vl]
       simp only [w64]
       generalize hx : w.d.getD k 0 = x at wk ⊢
       rcases hk01 with rfl | rfl
       · have e : ((2 : Int) ^ (min ((32 : Int) * (((0 : Nat) : Int) % 18446744073709551616) % 18446744073709551616).toNat (IntKind.bits .u64))) = 1 := by decide
         rw [e]
         have h3 : u = 0 := h3
         subst h3
         have := O8 (n := IntKind.bits .u64) (k := 32) (a := 0) (b := x % 18446744073709551616 * 1 % 18446744073709551616) (by omega) (by omega) (by omega) (by simp only [IntKind.bits]; omega) (by omega)
         rw [this]
         have h0 : vl (λ i => w.d.getD i 0) 0 = 0 := rfl
         rw [h0]; omega
       · have e : ((2 : Int) ^ (min ((32 : Int) * (((1 : Nat) : Int) % 18446744073709551616) % 18446744073709551616).toNat (IntKind.bits .u64))) = 4294967296 := by decide
         rw [e]
         have w0 := hw 0
         have h4 : u = w.d.getD 0 0 := by rw [h3]; simp [vl]
         rw [<- h3]
         generalize w.d.getD 0 0 = y at w0 h4
         subst h4
         have := O8 (n := IntKind.bits .u64) (k := 32) (a := x % 18446744073709551616 * 4294967296 % 18446744073709551616) (b := u) (by omega) (by omega) (by omega) (by simp only [IntKind.bits]; omega) (by omega)
         rw [BitVec.or_comm] at this
         rw [this]; omega
     · have : k = w.d.length := by omega
       subst this
       exact h3
   · rintro r rfl
     have hlt : val w.d < 18446744073709551616 := by
       have : (4294967296 : Int) ^ w.d.length <= 4294967296 ^ 2 := Dg (by omega)
       omega
     have hv : B6 w = if w.minus = true then -val w.d else val w.d := by unfold B6 sgn; rfl
     simp only [Ai, Ae, decide_eq_true_eq]
     refine ⟨λ hm => ?_, λ hm => ?_⟩
     · rw [hv, if_pos hm]
       have := hp hm
       refine ⟨λ h1 => ?_, λ h1 h2 => by omega⟩
       rw [w64, Arl]; omega
     · rw [hv, if_neg hm]
       refine ⟨λ h1 => ?_, λ h1 h2 => h2⟩
       rw [Bg (by omega) h1]
theorem X4 {q : Aa} {x : Rat} (h : Cd q x) : Ar (Ey q) λ r => (r.2 = true ↔ Jf x) /\ (r.2 = true -> r.1 = ⟨x.num, x.den⟩) := by
 have hd := x.den_pos
 unfold Ey Cw
 refine (Uu h.okN).bind ?_
 rintro ⟨n, bn⟩ ⟨n1, n2⟩
 refine (Jy h).bind ?_
 rintro w ⟨w1, w2, _⟩
 refine (Uu w1).bind ?_
 rintro ⟨d, bd⟩ ⟨d1, d2⟩
 rw [h.num] at n1 n2
 rw [w2] at d1 d2
 simp only at n1 n2 d1 d2
 simp only [Ai, Ae, Bool.not_eq_true', decide_eq_true_eq]
 unfold Jf
 refine ⟨λ h1 => ⟨⟨λ h => (by cases h), λ h => by rw [n2 (by omega) (by omega)] at h1; cases h1⟩, λ h => (by cases h)⟩, λ h1 => ⟨λ h2 => ⟨⟨λ h => (by cases h), λ h => by rw [d2 (by omega) (by omega)] at h2; cases h2⟩, λ h => (by cases h)⟩, λ h2 => ?_⟩⟩
 have e1 := n1 (by simpa using h1)
 have e2 := d1 (by simpa using h2)
 subst e1 e2
 refine ⟨λ h3 => ⟨⟨λ h => (by cases h), λ h => by omega⟩, λ h => (by cases h)⟩, λ h3 => ⟨λ h4 => ⟨⟨λ h => (by cases h), λ h => by omega⟩, λ h => (by cases h)⟩, λ h4 => ⟨λ h5 => ⟨⟨λ h => (by cases h), λ h => by omega⟩, λ h => (by cases h)⟩, λ h5 => ⟨⟨λ _ => ⟨by omega, by omega, by omega⟩, λ _ => trivial⟩, λ _ => rfl⟩⟩⟩⟩
theorem Af7 (x : Au) : Ar (Fl x) λ b => b = true ↔ ROk x := by
 unfold Fl D9
 simp only [Ai, Ae, decide_eq_true_eq]
 have J : ∀ u : Int, 0 <= u -> u.natAbs = x.N.natAbs -> 1 <= x.D -> x.D <= 1000000000000 -> -1000000000000 <= x.N -> x.N <= 1000000000000 -> Ar (Fg x u) λ b => b = true ↔ ROk x := by
   intro u hu he h1 h2 h3 h4
   unfold Fg
   refine Ar.bind (R := λ r => r = (Int.gcd x.N x.D : Int)) (As (I := λ s : Int × Int => 0 <= s.1 /\ 0 <= s.2 /\ Int.gcd s.1 s.2 = Int.gcd x.N x.D) (μ := λ s : Int × Int => s.2.natAbs) ⟨hu, by omega, by rw [Int.gcd_eq_natAbs_gcd_natAbs, Int.gcd_eq_natAbs_gcd_natAbs, he]⟩ ?_) ?_
   · rintro ⟨a, b⟩ ⟨ha, hb, hg⟩
     simp only at ha hb hg
     unfold H4
     simp only [Ai, Ah, Ae, decide_eq_true_eq, Av, Aw]
     refine ⟨λ hp => ⟨by omega, ⟨hb, Int.tmod_nonneg _ ha, by rw [Aav]; exact hg⟩, ?_⟩, λ hp => ?_⟩
     · rw [Int.natAbs_tmod]; exact Nat.mod_lt _ (by omega)
     · have : b = 0 := by omega
       subst this
       rw [<- hg, Int.gcd_zero_right]; omega
   · rintro r rfl
     rw [Ae, decide_eq_true_eq]
     constructor
     · intro h; exact ⟨⟨h3, h4, by omega, h2⟩, by omega⟩
     · intro h; have := h.2; omega
 refine ⟨λ h1 => ⟨λ h => (by cases h), λ h => by have := h.1; unfold Pz at this; omega⟩, λ h1 => ⟨λ h2 => ⟨λ h => (by cases h), λ h => by have := h.1; unfold Pz at this; omega⟩, λ h2 => ⟨λ h3 => ⟨λ h => (by cases h), λ h => by have := h.1; unfold Pz at this; omega⟩, λ h3 => ⟨λ h4 => ⟨λ h => (by cases h), λ h => by have := h.1; unfold Pz at this; omega⟩, λ h4 => ⟨λ h5 => ?_, λ h5 => ?_⟩⟩⟩⟩⟩
 · rw [Bg (by omega) (by omega)]
   exact J _ (by omega) (by omega) (by omega) (by omega) (by omega) (by omega)
 · exact J _ (by omega) rfl (by omega) (by omega) (by omega) (by omega)
theorem P0 (g : An) : Ar (By g) λ e => (e = 0 -> ∃ n, GOk g n) /\ ((∃ n, GOk g n) -> e = 0) /\ (e ≠ 0 -> e = if 40 < g.Arms.length then 3 else 1) := by
 unfold By Du
 simp only [Ai, Ae, At, decide_eq_true_eq]
 refine ⟨λ h => ⟨λ h => by omega, λ ⟨n, h'⟩ => by have := h'.arms; omega, λ _ => by rw [if_pos (by omega)]⟩, λ h1 => ⟨λ h => ⟨λ h => by omega, λ ⟨n, h'⟩ => by have := h'.nodes; have := h'.n1; omega, λ _ => by rw [if_neg (by omega)]⟩, λ h2 => ⟨λ h => ⟨λ h => by omega, λ ⟨n, h'⟩ => by have := h'.nodes; have := h'.n12; omega, λ _ => by rw [if_neg (by omega)]⟩, λ h3 => ?_⟩⟩⟩
 obtain ⟨n, hn⟩ : ∃ n : Nat, g.Nodes = (n : Int) := ⟨g.Nodes.toNat, by omega⟩
 refine (As (I := λ v : Int => ∃ k : Nat, v = (k : Int) /\ k <= g.Arms.length /\ ∀ e, e < k -> Ke n (g.Arms.getD e Ac)) (μ := λ v : Int => g.Arms.length - v.toNat)
   (Q := λ r => match r with | .inl _ => GOk g n | .inr e => e = 1 /\ ¬ ∃ n, GOk g n) ⟨0, rfl, Nat.zero_le _, λ e he => by omega⟩ ?_).mono ?_
 · rintro v ⟨k, rfl, hk, hall⟩
   have bad : (k < g.Arms.length) -> ¬ Ke n (g.Arms.getD k Ac) -> Ar Bp (Id (λ v : Int => ∃ k : Nat, v = (k : Int) /\ k <= g.Arms.length /\ ∀ e, e < k -> Ke n (g.Arms.getD e Ac)) (λ v : Int => g.Arms.length - v.toNat) (k : Int)
       (λ r : Unit ⊕ Int => match r with | .inl _ => GOk g n | .inr e => e = 1 /\ ¬ ∃ n, GOk g n)) := by
     intro hk hb
     unfold Bp
     rw [Ae, Aw]
     refine ⟨rfl, λ ⟨n', h'⟩ => hb ?_⟩
     have e : n' = n := by have := h'.nodes; omega
     subst e
     exact h'.arm k hk
   unfold Fi
   simp only [Ai, Ah, Ae, At, decide_eq_true_eq, Af, Int.toNat_natCast, Av, Aw]
   refine ⟨λ hlt => ⟨by omega, ?_⟩, λ hge => ?_⟩
   · have hk : k < g.Arms.length := by omega
     refine ⟨λ h => bad hk λ h' => by have := h'.a0; omega, λ a0 => ⟨λ h => bad hk λ h' => by have := h'.a1; omega, λ a1 => ⟨λ h => bad hk λ h' => by have := h'.b0; omega, λ b0 => ⟨λ h => bad hk λ h' => by have := h'.b1; omega, λ b1 => ?_⟩⟩⟩⟩
     refine (Af7 _).mono ?_
     rintro v1 hv1
     refine ⟨λ h => bad hk λ h' => ?_, λ h => ⟨λ h5 => bad hk λ h' => by have := h'.rpos; omega, λ h5 => ?_⟩⟩
     · have := hv1.2 h'.r; rw [this] at h; simp at h
     · refine (Af7 _).mono ?_
       rintro v2 hv2
       refine ⟨λ h6 => bad hk λ h' => ?_, λ h6 => ?_⟩
       · have := hv2.2 h'.e; rw [this] at h6; simp at h6
       · rw [Bg (by omega) (by omega)]
         refine ⟨⟨k + 1, by simp, by omega, λ e he => ?_⟩, by omega⟩
         by_cases hek : e = k
         · subst hek
           exact ⟨by omega, by omega, by omega, by omega, hv1.1 (by simpa using h), by omega, hv2.1 (by simpa using h6)⟩
         · exact hall e (by omega)
   · exact ⟨hn, by omega, by omega, by omega, λ e he => hall e (by omega)⟩
 · intro r hr
   cases r with
   | inl u => rw [Ae]; exact ⟨λ _ => ⟨n, hr⟩, λ _ => rfl, λ h => (h rfl).elim⟩
   | inr e => rw [Ae]; exact ⟨λ h => by have := hr.1; omega, λ h => (hr.2 h).elim, λ _ => by rw [if_neg (by omega)]; exact hr.1⟩
def rm (m : List (List Aa)) (i j : Nat) : Aa := (m.getD i []).getD j Ao
structure E3 (m : List (List Aa)) (r c : Nat) (A : Nat -> Nat -> Rat) : Prop where
 rows : m.length = r
 cols : ∀ i, i < r -> (m.getD i []).length = c
 rep : ∀ i j, i < r -> j < c -> Cd (rm m i j) (A i j)
section
variable {m : List (List Aa)} {r c : Nat} {A : Nat -> Nat -> Rat}
theorem E3.congr (M : E3 m r c A) {B : Nat -> Nat -> Rat} (h : ∀ a b, a < r -> b < c -> B a b = A a b) : E3 m r c B :=
 ⟨M.rows, M.cols, λ a b ha hb => by rw [h a b ha hb]; exact M.rep a b ha hb⟩
theorem E3.setRow (M : E3 m r c A) {i : Nat} (hi : i < r) {row : List Aa} (hl : row.length = c) {B : Nat -> Nat -> Rat} (hr : ∀ j, j < c -> Cd (row.getD j Ao) (B i j)) (hB : ∀ a b, a < r -> b < c -> a ≠ i -> B a b = A a b) :
   E3 (m.set i row) r c B := by
 have hm := M.rows
 refine ⟨by simp [hm], λ a ha => ?_, λ a b ha hb => ?_⟩
 · rw [Bf]
   split
   · exact hl
   · exact M.cols a ha
 · unfold rm
   rw [Bf]
   by_cases hai : a = i
   · subst hai; rw [if_pos ⟨rfl, by omega⟩]; exact hr b hb
   · rw [if_neg (by omega), hB a b ha hb hai]; exact M.rep a b ha hb
theorem E3.set (M : E3 m r c A) {i j : Nat} (hi : i < r) (hj : j < c) {q : Aa} {B : Nat -> Nat -> Rat} (hq : Cd q (B i j)) (hB : ∀ a b, a < r -> b < c -> (a ≠ i \/ b ≠ j) -> B a b = A a b) :
   E3 (m.set i ((m.getD i []).set j q)) r c B := by
 have hcl := M.cols i hi
 refine M.setRow hi (by rw [List.length_set]; exact hcl) (λ b hb => ?_) (λ a b ha hb h => hB a b ha hb (.inl h))
 rw [Bf]
 by_cases hbj : b = j
 · subst hbj; rw [if_pos ⟨rfl, by omega⟩]; exact hq
 · rw [if_neg (by omega), hB i b hi hb (.inr hbj)]; exact M.rep i b hi hb
theorem E3.swap (M : E3 m r c A) {p q : Nat} (hp : p < r) (hq : q < r) : E3 ((m.set p (m.getD q [])).set q (m.getD p [])) r c (G7 A p q) := by
 have h1 : E3 (m.set p (m.getD q [])) r c (Dn A p (A q)) := M.setRow hp (M.cols q hq) (λ j hj => by unfold Dn; rw [if_pos rfl]; exact M.rep q j hq hj) (λ a b _ _ h => by unfold Dn; rw [if_neg h])
 refine h1.setRow hq (M.cols p hp) (λ j hj => ?_) (λ a b _ _ h => ?_)
 · unfold G7
   by_cases hqp : q = p
   · rw [if_pos hqp, hqp]; exact M.rep p j hp hj
   · rw [if_neg hqp, if_pos rfl]; exact M.rep p j hp hj
 · unfold G7 Dn
   by_cases hap : a = p
   · rw [if_pos hap, if_pos hap]
   · rw [if_neg hap, if_neg hap, if_neg h]
end
theorem Ad3 {r c : Nat} {A : Nat -> Nat -> Rat} {m : List (List Aa)} (M : E3 m r c A) (hr : r <= 1000) {cc p0 : Nat} (hc : cc < c) (hp : p0 <= r) (a1 : Int) (v6 : List Int) :
   Ar (Bj (λ v : Int => Ef a1 (cc : Int) m v6 v) (p0 : Int)) λ o => ∃ p : Nat, o = (p : Int) /\ p0 <= p /\ p <= r /\ (∀ i, p0 <= i -> i < p -> A i cc = 0) /\ (p < r -> A p cc ≠ 0) := by
 refine As (I := λ s : Int => ∃ p : Nat, s = (p : Int) /\ p0 <= p /\ p <= r /\ ∀ i, p0 <= i -> i < p -> A i cc = 0) (μ := λ s : Int => r - s.toNat) ⟨p0, rfl, Nat.le_refl _, hp, λ i h1 h2 => by omega⟩ ?_
 rintro _ ⟨p, rfl, h2, h3, h4⟩
 have hm := M.rows
 unfold Ef
 simp only [Ai, Ah, At, Ae, decide_eq_true_eq, Av, Aw, Af, Int.toNat_natCast]
 refine ⟨λ hlt => ?_, λ hge => ⟨p, rfl, h2, h3, h4, λ h => by omega⟩⟩
 have hpr : p < r := by omega
 have hcl := M.cols p hpr
 refine ⟨by omega, by omega, ?_⟩
 refine (Nd (M.rep p cc hpr hc)).mono ?_
 rintro z hz
 refine ⟨λ h => ?_, λ h => ⟨p, rfl, h2, h3, h4, λ _ h0 => h (hz.2 h0)⟩⟩
 rw [Bg (by omega) (by omega)]
 refine ⟨⟨p + 1, by simp, by omega, by omega, λ i h1 h5 => ?_⟩, by omega⟩
 by_cases hi : i = p
 · subst hi; exact hz.1 h
 · exact h4 i h1 (by omega)
theorem Z6 {r c : Nat} {A : Nat -> Nat -> Rat} {m : List (List Aa)} (M : E3 m r c A) (hr : r <= 1000) (hcl : c <= 1000) {g : Nat} (S : MSz r c A g) (hg : g <= 5000000000) {cc : Nat} (hc : cc < c) {v6 : List Int} (hp : v6.length < r) (h0 : A v6.length cc ≠ 0)
   (a1 v4 : Int) (v5 : List (List Aa)) {y2 : Aa} (hx : Cd y2 (1 / A v6.length cc)) :
   Ar (Bj (λ v : (Int × (List (List Aa))) => D6 a1 v4 v5 v6 y2 v.1 v.2) ((0 : Int), m)) λ o => E3 o r c (λ i j => if i = v6.length then A i j / A v6.length cc else A i j) := by
 refine As (I := λ s : Int × List (List Aa) => ∃ n : Nat, s.1 = (n : Int) /\ n <= c /\ E3 s.2 r c (λ i j => if i = v6.length /\ j < n then A i j / A v6.length cc else A i j)) (μ := λ s : Int × List (List Aa) => c - s.1.toNat)
   ⟨0, rfl, Nat.zero_le _, M.congr λ a b _ _ => by rw [if_neg (by omega)]⟩ ?_
 rintro ⟨i, w⟩ ⟨n, h1, h3, h5⟩
 simp only at h1 h5
 subst h1
 have hm := h5.rows
 have hcol := h5.cols v6.length hp
 unfold D6
 simp only [Ai, Ah, At, Ae, decide_eq_true_eq, Av, Aw, Af, Int.toNat_natCast]
 refine ⟨by omega, λ hlt => ?_, λ hge => ?_⟩
 · have hn : n < c := by omega
   refine ⟨by omega, by omega, by omega, ?_⟩
   have hq := h5.rep v6.length n hp hn
   rw [if_neg (by omega)] at hq
   refine (Ie hq hx (S _ _ hp hn) ((G6 0).div (S _ _ hp hc) h0) (by omega)).mono ?_
   rintro y hy
   rw [Bg (by omega) (by omega)]
   refine ⟨by omega, ⟨n + 1, by simp, by omega, ?_⟩, by omega⟩
   refine h5.set hp hn (by rw [if_pos ⟨rfl, by omega⟩]; rw [show A v6.length n / A v6.length cc = A v6.length n * (1 / A v6.length cc) by grind]; exact hy) λ a b _ _ hab => ?_
   by_cases ha : a = v6.length
   · by_cases hb : b < n
     · rw [if_pos ⟨ha, by omega⟩, if_pos ⟨ha, hb⟩]
     · rw [if_neg (by omega), if_neg (by omega)]
   · rw [if_neg (by omega), if_neg (by omega)]
 · have : n = c := by omega
   subst this
   refine h5.congr λ a b _ hb => ?_
   by_cases ha : a = v6.length
   · rw [if_pos ha, if_pos ⟨ha, hb⟩]
   · rw [if_neg ha, if_neg (by omega)]
theorem Z4 {r c : Nat} {B : Nat -> Nat -> Rat} {m : List (List Aa)} (M : E3 m r c B) (hr : r <= 1000) (hcl : c <= 1000) {g : Nat} (hg : g <= 5000000000) {v6 : List Int} (hp : v6.length < r) {i : Nat} (hi : i < r) {cc : Nat} (hc : cc < c)
   (Si : ∀ j, i ≠ v6.length -> j < c -> Sz (B i j) g) (Sp : ∀ j, j < c -> Sz (B v6.length j) (2 * g)) (a1 v4 : Int) (v5 : List (List Aa)) {x : Aa} (hx : Cd x (B i cc)) :
   Ar (Bj (λ v : (Int × (List Int) × Bool × (List Int) × Bool × (List (List Aa))) => Ea a1 v4 v5 v6 (i : Int) v.1 v.2.1 v.2.2.1 v.2.2.2.1 v.2.2.2.2.1 v.2.2.2.2.2) ((0 : Int), x.n.d, x.n.minus, x.d.d, x.d.minus, m))
     λ o => E3 o r c (λ a j => if a = i /\ i ≠ v6.length then B i j - B i cc * B v6.length j else B a j) := by
 refine As (I := λ s : Int × (List Int) × Bool × (List Int) × Bool × (List (List Aa)) => ∃ n : Nat, s.1 = (n : Int) /\ n <= c /\ Cd ⟨⟨s.2.1, s.2.2.1⟩, ⟨s.2.2.2.1, s.2.2.2.2.1⟩⟩ (B i cc) /\
     E3 s.2.2.2.2.2 r c (λ a j => if a = i /\ i ≠ v6.length /\ j < n then B i j - B i cc * B v6.length j else B a j)) (μ := λ s : Int × (List Int) × Bool × (List Int) × Bool × (List (List Aa)) => c - s.1.toNat)
   ⟨0, rfl, Nat.zero_le _, hx, M.congr λ a b _ _ => by rw [if_neg (by omega)]⟩ ?_
 rintro ⟨k, x1, x2, x3, x4, w⟩ ⟨n, h1, h3, h4, h5⟩
 simp only at h1 h4 h5
 subst h1
 have hm := h5.rows
 have hcp := h5.cols v6.length hp
 have hci := h5.cols i hi
 have fin : (i = v6.length \/ B i cc = 0 \/ n = c) -> E3 w r c (λ a j => if a = i /\ i ≠ v6.length then B i j - B i cc * B v6.length j else B a j) := λ h => h5.congr λ a b _ hb => by
   by_cases ha : a = i /\ i ≠ v6.length
   · rw [if_pos ha]
     by_cases hbn : b < n
     · rw [if_pos ⟨ha.1, ha.2, hbn⟩]
     · rw [if_neg (by omega)]
       rcases h with h | h | h
       · omega
       · rw [h, ha.1]; grind
       · omega
   · rw [if_neg ha, if_neg (by omega)]
 unfold Ea
 simp only [Ai, Ah, At, Ae, decide_eq_true_eq, Av, Aw, Af, Int.toNat_natCast, Bool.not_eq_true', decide_eq_false_iff_not]
 refine ⟨by omega, λ hlt => ⟨λ hne => ?_, λ he => fin (.inl (by omega))⟩, λ hge => fin (.inr (.inr (by omega)))⟩
 have hn : n < c := by omega
 have hne : i ≠ v6.length := by omega
 refine (Nd h4).mono ?_
 rintro z hz
 refine ⟨λ h => ?_, λ h => fin (.inr (.inl (hz.1 (by simpa using h))))⟩
 have hqp := h5.rep v6.length n hp hn
 rw [if_neg (by omega)] at hqp
 have hqi := h5.rep i n hi hn
 rw [if_neg (by omega)] at hqi
 refine ⟨by omega, by omega, by omega, by omega, by omega, ?_⟩
 refine (Ie h4 hqp (Si _ hne hc) (Sp _ hn) (by omega)).mono ?_
 rintro y hy
 refine (Jl hqi hy (Si _ hne hn) ((Si _ hne hc).mul (Sp _ hn)) (by omega)).mono ?_
 rintro y' hy'
 rw [Bg (by omega) (by omega)]
 refine ⟨by omega, ⟨n + 1, by simp, by omega, h4, ?_⟩, by omega⟩
 refine h5.set hi hn (by rw [if_pos ⟨rfl, hne, by omega⟩]; exact hy') λ a b _ _ hab => ?_
 by_cases ha : a = i
 · by_cases hb : b < n
   · rw [if_pos ⟨ha, hne, by omega⟩, if_pos ⟨ha, hne, hb⟩]
   · rw [if_neg (by omega), if_neg (by omega)]
 · rw [if_neg (by omega), if_neg (by omega)]
theorem Adn {r c : Nat} {B : Nat -> Nat -> Rat} {m : List (List Aa)} (M : E3 m r c B) (hr : r <= 1000) (hcl : c <= 1000) {g : Nat} (hg : g <= 5000000000) {v6 : List Int} (hp : v6.length < r) {cc : Nat} (hc : cc < c)
   (Si : ∀ i j, i < r -> i ≠ v6.length -> j < c -> Sz (B i j) g) (Sp : ∀ j, j < c -> Sz (B v6.length j) (2 * g)) (a1 : Int) (v5 : List (List Aa)) :
   Ar (Bj (λ v : (Int × (List (List Aa))) => Eh a1 (cc : Int) v5 v6 v.1 v.2) ((0 : Int), m)) λ o => E3 o r c (λ a j => if a ≠ v6.length then B a j - B a cc * B v6.length j else B a j) := by
 refine As (I := λ s : Int × List (List Aa) => ∃ n : Nat, s.1 = (n : Int) /\ n <= r /\ E3 s.2 r c (λ a j => if a < n /\ a ≠ v6.length then B a j - B a cc * B v6.length j else B a j)) (μ := λ s : Int × List (List Aa) => r - s.1.toNat)
   ⟨0, rfl, Nat.zero_le _, M.congr λ a b _ _ => by rw [if_neg (by omega)]⟩ ?_
 rintro ⟨i, w⟩ ⟨n, h1, h2, h3⟩
 simp only at h1 h3
 subst h1
 have hm := h3.rows
 unfold Eh
 simp only [Ai, Ah, At, Ae, decide_eq_true_eq, Av, Aw, Af, Int.toNat_natCast]
 refine ⟨λ hlt => ?_, λ hge => ?_⟩
 · have hn : n < r := by omega
   have hcn := h3.cols n hn
   have k2 : (v6.length < n /\ v6.length ≠ v6.length) = False := by simp
   have k1 : (n < n /\ n ≠ v6.length) = False := by simp
   have hq := h3.rep n cc hn hc
   refine ⟨by omega, by omega, ?_⟩
   refine (Z4 h3 hr hcl hg hp hn hc (λ j hne hj => by rw [if_neg (by omega)]; exact Si n j hn hne hj) (λ j hj => by rw [if_neg (by omega)]; exact Sp j hj) a1 (cc : Int) v5 hq).mono ?_
   rintro o ho
   rw [Bg (by omega) (by omega)]
   refine ⟨⟨n + 1, by simp, by omega, ho.congr λ a b _ _ => ?_⟩, by omega⟩
   by_cases ha : a = n
   · subst ha
     by_cases hv : a = v6.length
     · rw [if_neg (by omega), if_neg (by omega), if_neg (by omega)]
     · rw [if_pos (by omega), if_pos ⟨rfl, hv⟩]; simp only [k1, k2, if_false]
   · rw [if_neg (show ¬ (a = n /\ n ≠ v6.length) by omega)]
     by_cases ha2 : a < n /\ a ≠ v6.length
     · rw [if_pos (by omega), if_pos ha2]
     · rw [if_neg (by omega), if_neg ha2]
 · have : n = r := by omega
   subst this
   refine h3.congr λ a b ha _ => ?_
   by_cases hav : a = v6.length
   · rw [if_neg (by omega), if_neg (by omega)]
   · rw [if_pos hav, if_pos ⟨ha, hav⟩]
theorem Bcw {α : Type} (d : α) {o a : List α} (hl : o.length = a.length) (h : ∀ i, i < a.length -> o.getD i d = a.getD i d) : o = a := Ul d hl λ i hi => h i (by omega)
theorem Z5 {m : List (List Aa)} {r c cols : Nat} {A0 : Nat -> Nat -> Rat} (M : E3 m r c A0) (hr : r <= 100) (hc : c <= 13) (hcols : cols <= c) (h12 : cols <= 12) {g0 : Nat} (S : MSz r c A0 g0) (hg : 3 <= g0) (hg2 : g0 <= 290) :
   Ar (Ds m (cols : Int)) λ o => ∃ (D : Rat) (A : Nat -> Nat -> Rat) (cc : Nat), E3 o.1 r c A /\ N1 r c cols A0 g0 cc D o.2 A /\ (cc = cols \/ o.2.length = r) := by
 have hm := M.rows
 unfold Ds
 simp only [Ah]
 refine ⟨by omega, by omega, by unfold Ap; omega, ?_⟩
 refine Ar.bind (R := λ o => o = m) ((As (I := λ s : Int × List (List Aa) => ∃ n : Nat, s.1 = (n : Int) /\ n <= r /\ s.2.length = r /\ ∀ i, i < n -> s.2.getD i [] = m.getD i []) (μ := λ s : Int × List (List Aa) => r - s.1.toNat)
   (Q := λ o => o = m) ⟨0, rfl, Nat.zero_le _, by simp [hm], λ i hi => by omega⟩ ?_)) ?_
 · rintro ⟨i, w⟩ ⟨n, g1, g2, g3, g4⟩
   simp only at g1 g3 g4
   subst g1
   unfold Fw
   simp only [Ai, Ah, Ae, decide_eq_true_eq, Av, Aw, Af, Int.toNat_natCast]
   refine ⟨λ h => ?_, λ h => Bcw [] (by omega) λ i hi => g4 i (by omega)⟩
   have hn : n < r := by omega
   have hl := M.cols n hn
   rw [Bg (by omega) (by omega)]
   refine ⟨by omega, by rw [hl]; unfold Ap; omega, by omega, ⟨n + 1, by simp, by omega, by simp [g3], λ i hi => ?_⟩, by omega⟩
   rw [Bf]
   by_cases hin : i = n
   · subst hin; rw [if_pos ⟨rfl, by omega⟩]
   · rw [if_neg (by omega), g4 i (by omega)]
 rintro _ rfl
 refine Ar.bind (R := λ s => ∃ (D : Rat) (A : Nat -> Nat -> Rat) (cc : Nat), E3 s.1 r c A /\ N1 r c cols A0 g0 cc D s.2 A /\ (cc = cols \/ s.2.length = r)) (As (I := λ s : Int × List (List Aa) × List Int => ∃ (cc : Nat) (D : Rat) (A : Nat -> Nat -> Rat), s.1 = (cc : Int) /\ E3 s.2.1 r c A /\ N1 r c cols A0 g0 cc D s.2.2 A)
   (μ := λ s : Int × List (List Aa) × List Int => cols - s.1.toNat) ⟨0, 1, A0, rfl, M, ?_⟩ ?_) ?_
 · refine ⟨Nat.le_refl _, Nat.zero_le _, Nat.zero_le _, by simpa [gr] using S, ?_, λ k hk => by simp at hk, λ k k' _ hk => by simp at hk, λ i k _ hk => by simp at hk, λ i j _ _ hj _ => by omega, λ x => Iff.rfl, by grind⟩
   exact (G6 0).mono (Nat.le_trans (by omega) (Apw _ _))
 · rintro ⟨i, w, piv⟩ ⟨cc, D, A, h1, h3, I⟩
   simp only at h1 h3 I
   subst h1
   have hw := h3.rows
   have hle := I.le
   have hlec := I.lec
   unfold Fx
   simp only [Ai, At, Ae, Ah, decide_eq_true_eq, Av, Aw, Af]
   refine ⟨λ hcc => ⟨λ hp => ?_, λ hp => ⟨D, A, cc, h3, I, .inr (by have := I.ler; omega)⟩⟩, λ hcc => ⟨D, A, cc, h3, I, .inl (by omega)⟩⟩
   have hcc : cc < cols := by omega
   have hp : piv.length < r := by omega
   refine (Ad3 h3 (by omega) (cc := cc) (p0 := piv.length) (by omega) (by omega) (cols : Int) piv).mono ?_
   rintro _ ⟨q, rfl, hq1, hq2, hq3, hq4⟩
   simp only [Int.toNat_natCast]
   refine ⟨λ he => ?_, λ hne => ?_⟩
   · rw [Bg (by omega) (by omega)]
     exact ⟨⟨cc + 1, D, A, by simp, h3, I.skip hcc λ i h1 h2 => hq3 i h1 (by omega)⟩, by omega⟩
   have hqr : q < r := by omega
   have hS := h3.swap hp hqr
   have hSr := hS.rows
   have hSc := hS.cols piv.length hp
   -- the swapped matrix
   obtain ⟨D', S', hS', hI, h0⟩ : ∃ D' S', E3 ((w.set piv.length (w.getD q [])).set q (w.getD piv.length [])) r c S' /\ N1 r c cols A0 g0 cc D' piv S' /\ S' piv.length cc ≠ 0 := by
     by_cases hqp : q = piv.length
     · refine ⟨D, A, hS.congr λ a b _ _ => ?_, I, hqp ▸ hq4 hqr⟩
       unfold G7; rw [hqp]
       by_cases ha : a = piv.length
       · rw [if_pos ha, ha]
       · rw [if_neg ha, if_neg ha]
     · refine ⟨-D, G7 A q piv.length, hS.congr λ a b _ _ => ?_, I.turn hp hqr hq1 hqp, ?_⟩
       · have hpq : ¬ piv.length = q := λ e => hqp e.symm
         unfold G7
         by_cases ha : a = piv.length <;> simp [ha, hpq]
       · unfold G7; rw [if_neg (by omega), if_pos rfl]; exact hq4 hqr
   have hgp := Ak9 (p := piv.length) (by omega) hg2
   have hx := hS'.rep piv.length cc hp (by omega)
   refine ⟨by omega, by omega, by omega, by omega, trivial, trivial, by omega, by omega, ?_⟩
   refine (Sw hx (hI.sz _ _ hp (by omega)) (by omega) h0).mono ?_
   rintro y hy
   refine (Z6 hS' (by omega) (by omega) hI.sz hgp (by omega) hp h0 (cols : Int) (cc : Int) w hy).mono ?_
   rintro w1 hw1
   have hwB : E3 w1 r c (piB S' piv.length cc) := hw1
   refine (Adn hwB (by omega) (by omega) hgp hp (by omega) (λ i j hi hne hj => by unfold piB; rw [if_neg hne]; exact hI.sz i j hi hj)
     (λ j hj => by unfold piB; rw [if_pos rfl]; exact ((hI.sz _ _ hp hj).div (hI.sz _ _ hp (by omega)) h0).mono (by omega)) (cols : Int) w).mono ?_
   rintro w2 hw2
   rw [Bg (by omega) (by omega)]
   refine ⟨by unfold Ap; simp only [List.length_singleton]; omega, ⟨cc + 1, D' * S' piv.length cc, piF S' piv.length cc, by simp, hw2, hI.pivot hp hcc (by omega) h0 hg⟩, by omega⟩
 · rintro ⟨w, piv⟩ h
   rw [Ae]
   exact h
theorem Af8 {β : Type} (x y : Int) (v : β) : ∀ l : List (Int × β), Qb kqI y (T6 kqI x v l) = if y = x then some v else Qb kqI y l
 | [] => by simp [T6, Qb, kqI]
 | (z, w) :: l => by
   simp only [T6, kqI, decide_eq_true_eq]
   by_cases hz : x = z
   · subst hz
     rw [if_pos rfl]
     simp only [Qb, kqI, decide_eq_true_eq]
     by_cases hy : y = x
     · rw [if_pos hy, if_pos hy]
     · rw [if_neg hy, if_neg hy, if_neg hy]
   · rw [if_neg hz]
     simp only [Qb, kqI, decide_eq_true_eq]
     by_cases hy : y = z
     · subst hy; rw [if_pos rfl, if_neg (Ne.symm hz), if_pos rfl]
     · rw [if_neg hy, if_neg hy]; exact Af8 x y v l
theorem Abt {t : List (List Aa)} {piv : List Int} {n : Nat} (hp : piv.length = n) (hn : n <= 1000) (hpv : ∀ k, k < n -> piv.getD k 0 = (k : Int)) : Ar (Ex t piv (n : Int)) λ _ => True := by
 unfold Ex
 refine Ar.bind (R := λ l => ∀ j : Nat, j < n -> Qb kqI (j : Int) l = some true) (As (I := λ s : Int × List (Int × Bool) => ∃ k : Nat, s.1 = (k : Int) /\ k <= n /\ ∀ j : Nat, j < k -> Qb kqI (j : Int) s.2 = some true) (μ := λ s : Int × List (Int × Bool) => n - s.1.toNat) ⟨0, rfl, Nat.zero_le _, λ j hj => by omega⟩ ?_) ?_
 · rintro ⟨i, l⟩ ⟨k, h1, h2, h3⟩
   simp only at h1 h3
   subst h1
   unfold Gj
   simp only [Ai, Ah, Ae, decide_eq_true_eq, Av, Aw, Af, Int.toNat_natCast]
   refine ⟨λ h => ⟨by omega, ?_⟩, λ h j hj => h3 j (by omega)⟩
   rw [Bg (by omega) (by omega), hpv k (by omega)]
   refine ⟨⟨k + 1, by simp, by omega, λ j hj => ?_⟩, by omega⟩
   rw [Af8]
   by_cases hjk : j = k
   · rw [if_pos (by omega)]
   · rw [if_neg (by omega)]; exact h3 j (by omega)
 rintro l hl
 refine Ar.bind (R := λ _ => True) (As (I := λ s : Int × List (List Aa) => ∃ k : Nat, s.1 = (k : Int) /\ k <= n) (μ := λ s : Int × List (List Aa) => n - s.1.toNat) ⟨0, rfl, Nat.zero_le _⟩ ?_) λ _ _ => Ae.2 trivial
 rintro ⟨i, o⟩ ⟨k, h1, h2⟩
 simp only at h1
 subst h1
 unfold Gh
 rw [Ai]
 refine ⟨λ h => ?_, λ h => Ae.2 trivial⟩
 simp only [decide_eq_true_eq] at h
 rw [hl k (by omega), Ai]
 refine ⟨λ _ => ?_, λ h => (h rfl).elim⟩
 rw [Ae, Av, Bg (by omega) (by omega)]
 exact ⟨⟨k + 1, by simp, by omega⟩, by simp; omega⟩
theorem V7 {m : List (List Aa)} {r n : Nat} {A : Nat -> Nat -> Rat} {b : List Aa} {y x0 : Nat -> Rat} (M : E3 m r n A) (hr : r <= 100) (hn : n <= 12) (hnr : n <= r) {g0 : Nat} (S : MSz r n A g0) (hg : 3 <= g0) (hg2 : g0 <= 290)
   (hbl : b.length = r) (hb : ∀ i, i < r -> Cd (b.getD i Ao) (y i)) (hbs : ∀ i, i < r -> Sz (y i) g0) (htriv : ∀ x, Ker n r A x -> ∀ i, i < n -> x i = 0) (hx0 : ∀ i, i < r -> sm n (λ j => A i j * x0 j) = y i) :
   Ar (De m (n : Int) b) λ o => o.1.length = n /\ ∀ i, i < n -> Cd (o.1.getD i Ao) (x0 i) := by
 have hm := M.rows
 unfold De
 simp only [Ah]
 refine ⟨by omega, by omega, by unfold Ap; omega, ?_⟩
 refine Ar.bind (R := λ o => E3 o r (n + 1) λ i j => if j < n then A i j else y i) (As (I := λ s : Int × List (List Aa) => ∃ k : Nat, s.1 = (k : Int) /\ k <= r /\ s.2.length = r /\ ∀ i, i < k -> s.2.getD i [] = m.getD i [] ++ [b.getD i Ao]) (μ := λ s : Int × List (List Aa) => r - s.1.toNat)
   ⟨0, rfl, Nat.zero_le _, by simp [hm], λ i hi => by omega⟩ ?_) ?_
 · rintro ⟨i, w⟩ ⟨k, g1, g2, g3, g4⟩
   simp only at g1 g3 g4
   subst g1
   unfold Ff
   simp only [Ai, Ah, Ae, decide_eq_true_eq, Av, Aw, Af, Int.toNat_natCast]
   refine ⟨λ h => ?_, λ h => ?_⟩
   · have hk : k < r := by omega
     have hl := M.cols k hk
     rw [Bg (by omega) (by omega)]
     refine ⟨by omega, by rw [hl]; unfold Ap; omega, by omega, by simp only [List.length_singleton]; rw [hl]; unfold Ap; omega, by omega, ⟨k + 1, by simp, by omega, by simp [g3], λ i hi => ?_⟩, by omega⟩
     rw [Bf]
     by_cases hik : i = k
     · subst hik; rw [if_pos ⟨rfl, by omega⟩]
     · rw [if_neg (by omega), g4 i (by omega)]
   · refine ⟨g3, λ i hi => by rw [g4 i (by omega), List.length_append, M.cols i hi]; rfl, λ i j hi hj => ?_⟩
     unfold rm
     rw [g4 i (by omega), Eg, M.cols i hi]
     by_cases hjn : j < n
     · rw [if_pos hjn, if_pos hjn]; exact M.rep i j hi hjn
     · rw [if_neg hjn, if_pos (by omega), if_neg hjn]; exact hb i hi
 rintro r1 hr1
 have S2 : MSz r (n + 1) (λ i j => if j < n then A i j else y i) g0 := λ i j hi hj => by
   show Sz (if j < n then A i j else y i) g0
   split
   · rename_i h; exact S i j hi h
   · exact hbs i hi
 refine (Z5 hr1 hr (by omega) (Nat.le_succ n) hn S2 hg hg2).bind ?_
 rintro ⟨o, piv⟩ ⟨D, A', cc, h2, I, h4⟩
 simp only at h2 I h4
 have hp := Agk I h4 hnr htriv
 have hpv : ∀ k, k < n -> piv.getD k 0 = (k : Int) := λ k hk => Adj (λ k hk => by have := I.inc k (by omega); have := I.lec; omega) (λ k k' h1 h2 => I.mono k k' h1 (by omega)) hk
 have hunit : ∀ i j, i < r -> j < n -> A' i j = if i = j then 1 else 0 := λ i j hi hj => by
   have := I.unit i j hi (by omega)
   rw [hpv j hj, Int.toNat_natCast] at this
   exact this
 -- the last column
 obtain ⟨xv, v1, v2⟩ : ∃ xv : Nat -> Rat, (∀ j, j < n -> xv j = x0 j) /\ xv n = -1 := ⟨λ j => if j < n then x0 j else -1, λ j hj => if_pos hj, if_neg (by omega)⟩
 have hk0 := (I.ker xv).1 (λ i hi => by
   rw [Ab9, v2, <- hx0 i hi, Bl (g := λ j => A i j * x0 j) (λ j hj => by rw [v1 j hj])]
   grind)
 have hlast : ∀ i, i < r -> A' i n = if i < n then x0 i else 0 := λ i hi => by
   have := hk0 i hi
   rw [sm, v2, Bl (g := λ j => if j = i then x0 i else 0) (λ j hj => by
     rw [hunit i j hi hj, v1 j hj]
     by_cases hij : i = j
     · rw [if_pos hij, if_pos hij.symm, hij]; grind
     · rw [if_neg hij, if_neg (Ne.symm hij)]; grind)] at this
   by_cases hin : i < n
   · rw [H8 (k := i) hin (λ j _ h => if_neg h), if_pos rfl] at this
     rw [if_pos hin]; grind
   · rw [Ij (λ j hj => if_neg (by omega))] at this
     rw [if_neg hin]; grind
 have hro := h2.rows
 rw [At]
 have L2 : Ar (Bj (λ v : Int => Dp (n : Int) (o, piv) v) ((piv.length : Nat) : Int)) λ z => ∃ u, z = .inl u := by
   refine As (I := λ s : Int => ∃ k : Nat, s = (k : Int) /\ n <= k /\ k <= r) (μ := λ s : Int => r - s.toNat) ⟨piv.length, rfl, by omega, by omega⟩ ?_
   rintro _ ⟨k, rfl, g2, g3⟩
   unfold Dp
   simp only [Ai, Ah, At, Ae, decide_eq_true_eq, Av, Aw, Af, Int.toNat_natCast]
   refine ⟨λ h => ?_, λ h => ⟨(), trivial⟩⟩
   have hk : k < r := by omega
   have hcl := h2.cols k hk
   refine ⟨by omega, by omega, ?_⟩
   refine (Nd (h2.rep k n hk (by omega))).mono ?_
   rintro z hz
   have hz1 : z = true := hz.2 (by rw [hlast k hk, if_neg (by omega)])
   rw [hz1, Bg (by omega) (by omega)]
   exact ⟨λ h => (by cases h), λ _ => ⟨⟨k + 1, by simp, by omega, by omega⟩, by omega⟩⟩
 refine L2.mono ?_
 rintro _ ⟨u, rfl⟩
 simp only [Ah, At, Int.toNat_natCast]
 refine ⟨by omega, by omega, by unfold Ap; omega, ?_⟩
 refine (As (I := λ s : Int × List Aa => ∃ k : Nat, s.1 = (k : Int) /\ k <= n /\ s.2.length = n /\ ∀ i, i < k -> Cd (s.2.getD i Ao) (x0 i)) (μ := λ s : Int × List Aa => n - s.1.toNat)
   (Q := λ w => w.length = n /\ ∀ i, i < n -> Cd (w.getD i Ao) (x0 i)) ⟨0, rfl, Nat.zero_le _, by simp, λ i hi => by omega⟩ ?_).mono ?_
 · rintro ⟨i, w⟩ ⟨k, g1, g2, g3, g4⟩
   simp only at g1 g3 g4
   subst g1
   unfold Fk
   simp only [Ai, Ah, Ae, decide_eq_true_eq, Av, Aw, Af, Int.toNat_natCast]
   refine ⟨λ h => ?_, λ h => ⟨g3, λ i hi => g4 i (by omega)⟩⟩
   have hk : k < n := by omega
   have hcl := h2.cols k (by omega)
   have hq := h2.rep k n (by omega) (by omega)
   rw [hlast k (by omega), if_pos hk] at hq
   rw [Bg (by omega) (by omega), hpv k hk]
   refine ⟨by omega, by omega, by omega, by omega, ⟨k + 1, by simp, by omega, by simp [g3], λ i hi => ?_⟩, by omega⟩
   rw [Int.toNat_natCast, Bf]
   by_cases hik : i = k
   · subst hik; rw [if_pos ⟨rfl, by omega⟩]; exact hq
   · rw [if_neg (by omega)]; exact g4 i (by omega)
 · rintro w hw
   refine (Abt (t := o) hp (by omega) hpv).mono ?_
   rintro z _
   rw [Ae]
   exact hw
theorem JOk.rep_iff {g : An} {n : Nat} {l l' : List Int} (J : JOk g n l) (J' : JOk g n l') {i : Nat} (hi : i < n) : rep l i -> rep l' i := by
 intro h
 obtain ⟨h1, h2⟩ := J'.lab hi
 have r' := J'.lok.rng i hi
 have e := (J.iff (a := (l'.getD i 0).toNat) (b := i) (by omega) hi).2 (J'.lok.eqv i hi).symm
 have r := J.lok.rng _ h1
 unfold rep at h ⊢
 omega
def tot : Nat -> List Int -> Int
 | 0, _ => 0
 | n + 1, l => tot n l + l.getD n 0
theorem Aie {a b : List Int} : ∀ {n}, (∀ i, i < n -> a.getD i 0 <= b.getD i 0) -> tot n a <= tot n b
 | 0, _ => Int.le_refl _
 | n + 1, h => by have := Aie (n := n) λ i hi => h i (by omega); have := h n (by omega); rw [tot, tot]; omega
theorem Ahr {a b : List Int} {k : Nat} : ∀ {n}, (∀ i, i < n -> a.getD i 0 <= b.getD i 0) -> k < n -> a.getD k 0 < b.getD k 0 -> tot n a < tot n b
 | 0, _, h, _ => by omega
 | n + 1, h, hk, hl => by
   rw [tot, tot]
   by_cases hkn : k = n
   · have := Aie (n := n) λ i hi => h i (by omega); subst hkn; omega
   · have := Ahr (n := n) (λ i hi => h i (by omega)) (by omega) hl; have := h n (by omega); omega
theorem Sg {a : List Int} : ∀ {n}, (∀ i, i < n -> 0 <= a.getD i 0) -> 0 <= tot n a
 | 0, _ => Int.le_refl _
 | n + 1, h => by have := Sg (n := n) λ i hi => h i (by omega); have := h n (by omega); rw [tot]; omega
theorem Acv {g : An} {n : Nat} (G : GOk g n) {l : List Int} (L : LOk g n l) :
   Ar (Bj (λ v : (Bool × Int × (List Int)) => E6 g v.1 v.2.1 v.2.2) (false, (0 : Int), l)) λ o => LOk g n o.2 /\ (o.1 = false -> ∀ e, e < g.Arms.length -> o.2.getD (nA g e) 0 = o.2.getD (nB g e) 0) /\ (o.1 = true -> tot n o.2 < tot n l) := by
 refine As (I := λ s : Bool × Int × List Int => ∃ k : Nat, s.2.1 = (k : Int) /\ k <= g.Arms.length /\ LOk g n s.2.2 /\ (∀ i, i < n -> s.2.2.getD i 0 <= l.getD i 0) /\ (s.1 = false -> ∀ e, e < k -> s.2.2.getD (nA g e) 0 = s.2.2.getD (nB g e) 0) /\ (s.1 = true -> tot n s.2.2 < tot n l))
   (μ := λ s : Bool × Int × List Int => g.Arms.length - s.2.1.toNat) ⟨0, rfl, Nat.zero_le _, L, λ i _ => Int.le_refl _, λ _ e he => by omega, λ h => by cases h⟩ ?_
 rintro ⟨b, i, w⟩ ⟨k, h1, h2, h3, h4, h5, h6⟩
 simp only at h1 h3 h4 h5 h6
 subst h1
 have hw := h3.len
 have h40 := G.arms
 unfold E6 Gk E9
 simp only [Ai, Ah, Ae, decide_eq_true_eq, Av, Aw, Af, Int.toNat_natCast, List.length_set, Bool.not_eq_true', decide_eq_false_iff_not]
 refine ⟨λ h => ?_, λ h => ?_⟩
 · have hk : k < g.Arms.length := by omega
   obtain ⟨a1, a2, a3, a4⟩ := G.ab hk
   have eA : (List.getD g.Arms k Ac).A = (nA g k : Int) := a3
   have eB : (List.getD g.Arms k Ac).B = (nB g k : Int) := a4
   rw [eA, eB, Bg (by omega) (by omega)]
   simp only [Int.toNat_natCast]
   refine ⟨by omega, by omega, by omega, by omega, λ hne => ?_, λ he => ?_⟩
   · obtain ⟨m, hm⟩ : ∃ m, m = (if w.getD (nB g k) 0 < w.getD (nA g k) 0 then w.getD (nB g k) 0 else w.getD (nA g k) 0) := ⟨_, rfl⟩
     rw [<- hm]
     have m1 : m <= w.getD (nA g k) 0 /\ m <= w.getD (nB g k) 0 /\ (m = w.getD (nA g k) 0 \/ m = w.getD (nB g k) 0) := by rw [hm]; split <;> omega
     have e0 : (w.set (nA g k) m).getD (nA g k) 0 = m := by rw [getD_set, if_pos ⟨rfl, by omega⟩]
     rw [e0]
     have hget : ∀ i, ((w.set (nA g k) m).set (nB g k) m).getD i 0 = if i = nA g k \/ i = nB g k then m else w.getD i 0 := by
       intro i
       rw [getD_set, getD_set, List.length_set]
       by_cases hi : i = nB g k
       · rw [if_pos ⟨hi, by omega⟩, if_pos (.inr hi)]
       · rw [if_neg (by omega)]
         by_cases hi2 : i = nA g k
         · rw [if_pos ⟨hi2, by omega⟩, if_pos (.inl hi2)]
         · rw [if_neg (by omega), if_neg (by omega)]
     have rA := h3.rng _ a1
     have rB := h3.rng _ a2
     have dec : ∀ i, i < n -> ((w.set (nA g k) m).set (nB g k) m).getD i 0 <= w.getD i 0 := λ i hi => by
       rw [hget]
       split
       · rename_i h; rcases h with h | h <;> subst h <;> omega
       · exact Int.le_refl _
     have down : tot n ((w.set (nA g k) m).set (nB g k) m) < tot n w := by
       rcases m1.2.2 with h' | h'
       · exact Ahr dec a2 (by rw [hget, if_pos (.inr rfl)]; omega)
       · exact Ahr dec a1 (by rw [hget, if_pos (.inl rfl)]; omega)
     have le := Aie (n := n) h4
     refine ⟨by omega, by omega, by omega, by omega, by omega, ⟨k + 1, by simp, by omega, ⟨by simp [hw], λ i hi => ?_, λ i hi => ?_⟩, λ i hi => Int.le_trans (dec i hi) (h4 i hi), λ h => (by cases h), λ _ => by omega⟩, by omega⟩
     · rw [hget]
       split
       · rename_i h; rcases h with h | h <;> subst h <;> omega
       · exact h3.rng i hi
     · rw [hget]
       split
       · rename_i h
         have e1 : Eqv g i (nA g k) := by
           rcases h with h | h
           · rw [h]; exact Eqv.refl _ _
           · rw [h]; exact (Eqv.arm hk).symm
         rcases m1.2.2 with h' | h'
         · rw [h']; exact e1.trans (h3.eqv _ a1)
         · rw [h']; exact (e1.trans (Eqv.arm hk)).trans (h3.eqv _ a2)
       · exact h3.eqv i hi
   · refine ⟨⟨k + 1, by simp, by omega, h3, h4, λ hb e hek => ?_, h6⟩, by omega⟩
     by_cases hek' : e = k
     · subst hek'; omega
     · exact h5 hb e (by omega)
 · have : k = g.Arms.length := by omega
   subst this
   exact ⟨h3, h5, h6⟩
theorem R4 {g : An} {n : Nat} (G : GOk g n) : Ar (Dm g) λ l => JOk g n l := by
 have hn := G.nodes
 have hn12 := G.n12
 unfold Dm
 simp only [Ah, hn, Int.toNat_natCast]
 refine ⟨by omega, by omega, by unfold Ap; omega, ?_⟩
 refine Ar.bind (R := λ l => l.length = n /\ ∀ i, i < n -> l.getD i 0 = (i : Int)) (As (I := λ s : Int × List Int => ∃ k : Nat, s.1 = (k : Int) /\ k <= n /\ s.2.length = n /\ ∀ i, i < k -> s.2.getD i 0 = (i : Int)) (μ := λ s : Int × List Int => n - s.1.toNat)
   ⟨0, rfl, Nat.zero_le _, by simp, λ i hi => by omega⟩ ?_) ?_
 · rintro ⟨k', w⟩ ⟨k, h1, h3, h4, h5⟩
   simp only at h1 h4 h5
   subst h1
   unfold Gm
   rw [hn]
   simp only [Ai, Ah, Ae, decide_eq_true_eq, Av, Aw, Af, Int.toNat_natCast]
   refine ⟨λ h => ?_, λ h => ⟨h4, λ i hi => h5 i (by omega)⟩⟩
   rw [Bg (by omega) (by omega)]
   refine ⟨by omega, ⟨k + 1, by simp, by omega, by simp [h4], λ i hi => ?_⟩, by omega⟩
   rw [getD_set]
   split
   · rename_i h; rw [h.1]
   · exact h5 i (by omega)
 · rintro l0 ⟨l1, l2⟩
   refine Ar.bind (R := λ l => JOk g n l) (As (I := λ s : Bool × List Int => LOk g n s.2 /\ (s.1 = false -> ∀ e, e < g.Arms.length -> s.2.getD (nA g e) 0 = s.2.getD (nB g e) 0)) (μ := λ s : Bool × List Int => if s.1 = true then (tot n s.2).toNat + 1 else 0)
     ⟨⟨l1, λ i hi => by show 0 <= l0.getD i 0 /\ _; rw [l2 i hi]; omega, λ i hi => by show Eqv g i (l0.getD i 0).toNat; rw [l2 i hi, Int.toNat_natCast]; exact Eqv.refl _ _⟩, λ h => by cases h⟩ ?_) λ l hl => Ae.2 hl
   rintro ⟨b, l⟩ ⟨L, h2⟩
   simp only at L h2
   unfold Gp
   rw [Ai]
   refine ⟨λ hb => ?_, λ hb => Ae.2 ⟨L, h2 (by simpa using hb)⟩⟩
   subst hb
   refine (Acv G L).bind ?_
   rintro ⟨b', l'⟩ ⟨L', k1, k2⟩
   rw [Ae, Av]
   refine ⟨⟨L', k1⟩, ?_⟩
   have t1 := Sg (n := n) λ i hi => (L.rng i hi).1
   have t2 : 0 <= tot n l' := Sg (n := n) λ i hi => (L'.rng i hi).1
   show (if b' = true then (tot n l').toNat + 1 else 0) < (if true = true then (tot n l).toNat + 1 else 0)
   rw [if_pos rfl]
   split
   · rename_i h; have h3 : tot n l' < tot n l := k2 h; omega
   · omega
theorem rz : Cd ⟨⟨[], false⟩, ⟨[], false⟩⟩ 0 := by
 refine ⟨⟨λ i => by simp, λ h => (h rfl).elim, λ h => (by cases h)⟩, ⟨λ i => by simp, λ h => (h rfl).elim, λ h => (by cases h)⟩, ?_, λ _ => rfl, λ h => (h rfl).elim⟩
 show B6 _ = 0
 unfold B6 sgn; rw [if_neg (by simp)]; exact G3
theorem E3.push {m : List (List Aa)} {r c : Nat} {A : Nat -> Nat -> Rat} (M : E3 m r c A) {row : List Aa} (hl : row.length = c) {B : Nat -> Nat -> Rat} (hr : ∀ j, j < c -> Cd (row.getD j Ao) (B r j)) (hB : ∀ a b, a < r -> b < c -> B a b = A a b) :
   E3 (m ++ [row]) (r + 1) c B := by
 have hm := M.rows
 refine ⟨by simp [hm], λ a ha => ?_, λ a b ha hb => ?_⟩
 · rw [Eg, hm]
   by_cases h : a < r
   · rw [if_pos h]; exact M.cols a h
   · rw [if_neg h, if_pos (by omega)]; exact hl
 · unfold rm
   rw [Eg, hm]
   by_cases h : a < r
   · rw [if_pos h, hB a b h hb]; exact M.rep a b h hb
   · have : a = r := by omega
     subst this
     rw [if_neg h, if_pos rfl]; exact hr b hb
theorem Ai0 {n j : Nat} (hj : j < n) : Cd ((List.replicate n (⟨⟨[], false⟩, ⟨[], false⟩⟩ : Aa)).getD j Ao) 0 := by
 rw [V2 _ _ _ _ hj]; exact rz
theorem S4 {x : Au} (h : ROk x) : Ar (B8 x) λ q => Cd q (Ed x) := by
 obtain ⟨⟨h1, h2, h3, h4⟩, _⟩ := h
 exact Anr (by omega) (by omega) (by omega) (by omega) (by omega)
def inK (g : An) (src : Bool) (x : Nat -> Rat) (k i : Nat) : Rat := x i + if src = true then flK g k i else 0
theorem Ae5 {g : An} {n : Nat} (G : GOk g n) {v : List Aa} (hv : v.length = n) {x : Nat -> Rat} (hx : ∀ i, i < n -> Cd (v.getD i Ao) (x i)) (hxs : ∀ i, i < n -> Sz (x i) 1) (src : Bool) (y1 : List Int) {w0 : List (List Aa)} (M0 : E3 w0 n n λ _ _ => 0) :
   Ar (Bj (λ v : (Int × (List (List Aa)) × (List Aa)) => Ev g src y1 v.1 v.2.1 v.2.2) ((0 : Int), w0, v))
     λ o => E3 o.1 n n (lap g) /\ o.2.length = n /\ ∀ i, i < n -> Cd (o.2.getD i Ao) (inK g src x g.Arms.length i) := by
 have h40 := G.arms
 have h12 := G.n12
 refine As (I := λ s : Int × (List (List Aa)) × (List Aa) => ∃ k : Nat, s.1 = (k : Int) /\ k <= g.Arms.length /\ E3 s.2.1 n n (Gi g k) /\ s.2.2.length = n /\ ∀ i, i < n -> Cd (s.2.2.getD i Ao) (inK g src x k i)) (μ := λ s : Int × (List (List Aa)) × (List Aa) => g.Arms.length - s.1.toNat)
   ⟨0, rfl, Nat.zero_le _, M0, hv, λ i hi => by
     have : inK g src x 0 i = x i := by simp only [inK, flK, sm]; split <;> grind
     rw [this]; exact hx i hi⟩ ?_
 rintro ⟨i, w, b⟩ ⟨k, h1, h2, M, hb, hbr⟩
 simp only at h1 M hb hbr
 subst h1
 unfold Ev
 simp only [Ai, Ah, At, Ae, decide_eq_true_eq, Aw, Af, Int.toNat_natCast]
 refine ⟨λ h => ?_, λ h => ?_⟩
 rotate_left
 · have : k = g.Arms.length := by omega
   subst this
   exact ⟨M, hb, hbr⟩
 have hk : k < g.Arms.length := by omega
 obtain ⟨a1, a2, a3, a4⟩ := G.ab hk
 have eA : (List.getD g.Arms k Ac).A = (nA g k : Int) := a3
 have eB : (List.getD g.Arms k Ac).B = (nB g k : Int) := a4
 have hstep : ∀ i j, Gi g (k + 1) i j = Gi g k i j + cond (am g k) * evE g k i * evE g k j := λ i j => rfl
 have hin : ∀ i, inK g src x (k + 1) i = inK g src x k i + if src = true then -(drv g k * evE g k i) else 0 := λ i => by
   simp only [inK, flK, sm]; split <;> grind
 rw [eA, eB, Bg (x := (k : Int) + 1) (by omega) (by omega)]
 refine ⟨by omega, λ he => ?_, λ hne => ?_⟩
 · rw [Av]
   have hAB : nA g k = nB g k := by omega
   have z : ∀ a, evE g k a = 0 := λ a => by unfold evE ev; rw [hAB]; grind
   refine ⟨⟨k + 1, by simp, by omega, M.congr λ a b _ _ => by rw [hstep, z a]; grind, hb, λ i hi => ?_⟩, by simp; omega⟩
   have : inK g src x (k + 1) i = inK g src x k i := by rw [hin, z i]; split <;> grind
   show Cd (b.getD i Ao) (inK g src x (k + 1) i)
   rw [this]; exact hbr i hi
 · have hAB : nA g k ≠ nB g k := by omega
   have arm : Ke n (am g k) := G.arm k hk
   have sc : Sz (cond (am g k)) 3 := Nf arm
   refine (S4 (x := (am g k).R) arm.r).mono ?_
   rintro q0 hq0
   refine (Sw (x := Ed (am g k).R) hq0 (Fv arm.r) (by omega) (Rat.ne_of_gt (O5 arm.r arm.rpos))).mono ?_
   rintro c hc
   have hc : Cd c (cond (am g k)) := hc
   have hfl : ∀ i, i < n -> Sz (inK g src x k i) 243 := λ i hi => by
     unfold inK
     have f := (Yx G i k (by omega)).mono (show 1 + 6 * k <= 241 by omega)
     split
     · exact ((hxs i hi).add f).mono (by omega)
     · exact ((hxs i hi).add (D3 0)).mono (by omega)
   have eE : (List.getD g.Arms k Ac).E = (am g k).E := rfl
   have hdr : drv g k = Ed (am g k).E * cond (am g k) := by unfold drv; grind
   have hev : ∀ i, evE g k i = if i = nA g k then 1 else if i = nB g k then -1 else 0 := λ i => by
     unfold evE ev
     by_cases h1 : i = nA g k
     · rw [if_pos h1, if_neg (by omega), if_pos h1]; grind
     · rw [if_neg h1, if_neg h1]; split <;> grind
   have hE := S4 arm.e
   have sE := Fv arm.e
   unfold Ga F8 Eu
   simp only [Ai, Ah, At, Ae, Av, Af, Int.toNat_natCast]
   rw [eA, eB, eE, Bg (x := (k : Int) + 1) (by omega) (by omega)]
   simp only [Int.toNat_natCast, List.length_set]
   generalize hp : nA g k = p at a1 a3 eA hAB hev ⊢
   generalize hq : nB g k = q at a2 a4 eB hAB hev ⊢
   have sL : ∀ i j, Sz (Gi g k i j) 161 := λ i j => (Vf G i j k (by omega)).mono (by omega)
   have hm := M.rows
   have r1 := M.cols p a1
   have r2 := M.cols q a2
   refine ⟨by omega, by omega, by omega, by omega, ?_⟩
   refine (Fm (M.rep p p a1 a1) hc (sL p p) sc (by omega)).mono ?_
   rintro y4 hy4
   refine ⟨by omega, by omega, ?_⟩
   refine (Fm (M.rep q q a2 a2) hc (sL q q) sc (by omega)).mono ?_
   rintro y5 hy5
   have M1 : E3 (w.set p ((w.getD p []).set p y4)) n n (λ i j => if i = p /\ j = p then Gi g k p p + cond (am g k) else Gi g k i j) :=
     M.set a1 a1 (by rw [if_pos ⟨rfl, rfl⟩]; exact hy4) λ a b _ _ h => by rw [if_neg (by omega)]
   generalize hw1 : w.set p ((w.getD p []).set p y4) = w1 at M1 ⊢
   have hm1 := M1.rows
   have r3 := M1.cols q a2
   have M2 : E3 (w1.set q ((w1.getD q []).set q y5)) n n (λ i j => if i = q /\ j = q then Gi g k q q + cond (am g k) else if i = p /\ j = p then Gi g k p p + cond (am g k) else Gi g k i j) :=
     M1.set a2 a2 (by rw [if_pos ⟨rfl, rfl⟩]; exact hy5) λ a b _ _ h => by rw [if_neg (by omega)]
   generalize hw2 : w1.set q ((w1.getD q []).set q y5) = w2 at M2 ⊢
   have hm2 := M2.rows
   have r4 := M2.cols p a1
   have r5 := M2.cols q a2
   have v2 := M2.rep p q a1 a2
   rw [if_neg (by omega), if_neg (by omega)] at v2
   have v3 := M2.rep q p a2 a1
   rw [if_neg (by omega), if_neg (by omega)] at v3
   refine ⟨by omega, by omega, by omega, by omega, by omega, by omega, ?_⟩
   refine (Jl v2 hc (sL p q) sc (by omega)).mono ?_
   rintro y6 hy6
   refine ⟨by omega, by omega, ?_⟩
   refine (Jl v3 hc (sL q p) sc (by omega)).mono ?_
   rintro y7 hy7
   have M3 : E3 (w2.set p ((w2.getD p []).set q y6)) n n (λ i j => if i = p /\ j = q then Gi g k p q - cond (am g k) else if i = q /\ j = q then Gi g k q q + cond (am g k) else if i = p /\ j = p then Gi g k p p + cond (am g k) else Gi g k i j) :=
     M2.set a1 a2 (by rw [if_pos ⟨rfl, rfl⟩]; exact hy6) λ a b _ _ h => by rw [if_neg (by omega)]
   generalize hw3 : w2.set p ((w2.getD p []).set q y6) = w3 at M3 ⊢
   have hm3 := M3.rows
   have r6 := M3.cols q a2
   have M4 : E3 (w3.set q ((w3.getD q []).set p y7)) n n (Gi g (k + 1)) := by
     refine (M3.set a2 a1 (B := λ i j => if i = q /\ j = p then Gi g k q p - cond (am g k) else if i = p /\ j = q then Gi g k p q - cond (am g k) else if i = q /\ j = q then Gi g k q q + cond (am g k) else if i = p /\ j = p then Gi g k p p + cond (am g k) else Gi g k i j)
       (by rw [if_pos ⟨rfl, rfl⟩]; exact hy7) λ a b _ _ h => by rw [if_neg (by omega)]).congr λ a b _ _ => ?_
     rw [hstep]
     unfold evE
     rw [hp, hq]
     exact Afc (show p ≠ q by omega) (Gi g k) (cond (am g k)) a b
   refine ⟨by omega, by omega, λ hs => ?_, λ hs => ⟨⟨k + 1, by simp, by omega, M4, hb, λ i hi => ?_⟩, by omega⟩⟩
   · refine hE.mono ?_
     rintro y8 hy8
     refine (Ie hy8 hc sE sc (by omega)).mono ?_
     rintro y9 hy9
     rw [<- hdr] at hy9
     have s9 : Sz (drv g k) 5 := Ait G hk
     refine ⟨by omega, ?_⟩
     refine (Jl (hbr p a1) hy9 (hfl p a1) s9 (by omega)).mono ?_
     rintro y10 hy10
     refine ⟨by omega, ?_⟩
     refine (Fm (hbr q a2) hy9 (hfl q a2) s9 (by omega)).mono ?_
     rintro y11 hy11
     refine ⟨by omega, by omega, ⟨k + 1, by simp, by omega, M4, by simp [hb], λ i hi => ?_⟩, by omega⟩
     show Cd (((b.set p y10).set q y11).getD i Ao) (inK g src x (k + 1) i)
     rw [hin, if_pos hs, hev, Bf, Bf, List.length_set]
     by_cases hiq : i = q
     · rw [if_pos ⟨hiq, by omega⟩, if_neg (by omega), if_pos hiq, hiq, show inK g src x k q + -(drv g k * -1) = inK g src x k q + drv g k by grind]; exact hy11
     · rw [if_neg (by omega)]
       by_cases hip : i = p
       · rw [if_pos ⟨hip, by omega⟩, if_pos hip, hip, show inK g src x k p + -(drv g k * 1) = inK g src x k p - drv g k by grind]; exact hy10
       · rw [if_neg (by omega), if_neg hip, if_neg hiq, show inK g src x k i + -(drv g k * 0) = inK g src x k i by grind]; exact hbr i hi
   · show Cd (b.getD i Ao) (inK g src x (k + 1) i)
     rw [hin, if_neg hs, show inK g src x k i + 0 = inK g src x k i by grind]; exact hbr i hi
end Go.Ab
