/- Networks of package lib: what is valid, conductances, numbers told. Networks of package lib: the joined parts. Networks of package lib: the matrix of conductances, potentials. Networks of package lib: resistances between nodes. Conditions: none beyond those that each theorem names. -/
import Derived.Test.YtjdgmcngpiookaaS25
import Derived.Test.YtjdgmcngpiookaaS24
namespace Go.Ab
open Go
set_option linter.unusedVariables false
set_option linter.unusedSimpArgs false
theorem Ys (a b : Int) : Int.gcd b (a.tmod b) = Int.gcd a b := by
 rw [Int.gcd_eq_natAbs_gcd_natAbs, Int.gcd_eq_natAbs_gcd_natAbs, Int.natAbs_tmod, Nat.gcd_comm a.natAbs, Nat.gcd_rec b.natAbs a.natAbs, Nat.gcd_comm]
def ROk (x : A7) : Prop := Oi x /\ Int.gcd x.N x.D = 1
theorem Tm (x : A7) : Ar (Kk x) λ b => (b = true -> ROk x) /\ (ROk x -> b = true) := by
 unfold Kk Hp
 simp only [Ai, Ac, Au, decide_eq_true_eq]
 refine ⟨λ h => ⟨λ h => (by cases h), λ h' => by have := h'.1; unfold Oi at this; omega⟩, λ h1 => ⟨λ h => ⟨λ h => (by cases h), λ h' => by have := h'.1; unfold Oi at this; omega⟩, λ h2 => ⟨λ h => ⟨λ h => (by cases h), λ h' => by have := h'.1; unfold Oi at this; omega⟩, λ h3 => ⟨λ h => ⟨λ h => (by cases h), λ h' => by have := h'.1; unfold Oi at this; omega⟩, λ h4 => ?_⟩⟩⟩⟩
 refine (Av (I := λ s : Int × Int => Int.gcd s.1 s.2 = Int.gcd x.N x.D) (μ := λ s : Int × Int => s.2.natAbs) (Q := λ r => r.natAbs = Int.gcd x.N x.D) rfl ?_).mono ?_
 · rintro ⟨a, b⟩ h
   simp only at h
   unfold Nl
   simp only [Ai, An, Ac, Bool.not_eq_true', decide_eq_false_iff_not, Aw, At]
   refine ⟨λ hb => ⟨hb, by rw [Ys]; exact h, ?_⟩, λ hb => ?_⟩
   · rw [Int.natAbs_tmod]; exact Nat.mod_lt _ (by omega)
   · have hb : b = 0 := by omega
     subst hb
     rw [<- h, Int.gcd_zero_right]
 · intro r hr
   have hs : Oi x := by unfold Oi; omega
   refine ⟨λ h => ⟨λ _ => ⟨hs, by rw [<- hr]; omega⟩, λ _ => trivial⟩, λ h => ⟨λ h' => ⟨hs, by rw [<- hr]; omega⟩, λ h' => by have := h'.2; omega⟩⟩
theorem Z8 {x : A7} (h : ROk x) : (Gp x).num = x.N /\ ((Gp x).den : Int) = x.D := by
 obtain ⟨⟨_, _, h3, _⟩, hg⟩ := h
 unfold Gp
 rw [Rat.num_divInt, Rat.den_divInt, if_neg (by omega), Int.gcd_comm, hg, Int.sign_eq_one_of_pos h3]
 simp
 omega
theorem Vl {x : A7} (h : ROk x) : Ar (Tw x) λ q => B3 q (Gp x) := by
 obtain ⟨e1, e2⟩ := Z8 h
 obtain ⟨h1, h2, h3, h4⟩ := h.1
 unfold Tw U7
 simp only [Au, Ac]
 exact ⟨ZOk.small (by omega) (by omega), ZOk.small (by omega) (by omega), by rw [Cr, e1], by rw [Cr, e2]⟩
theorem Qh {x : A7} (h : ROk x) : Sz (Gp x) 2 := sz2 h.1.1 h.1.2.1 h.1.2.2.1 h.1.2.2.2
theorem Un {x : A7} (h : ROk x) (hp : 1 <= x.N) : 0 < Gp x := by
 have h1 : 0 <= Gp x := Rat.num_nonneg.1 (by rw [(Z8 h).1]; omega)
 have h2 : Gp x ≠ 0 := λ e => by
   have := (Z8 h).1
   rw [e] at this
   simp at this
   omega
 exact Rat.lt_of_le_of_ne h1 (Ne.symm h2)
structure N2 (n : Nat) (a : Aq) : Prop where
 a0 : 0 <= a.A
 a1 : a.A < (n : Int)
 b0 : 0 <= a.B
 b1 : a.B < (n : Int)
 r : ROk a.R
 rpos : 1 <= a.R.N
 e : ROk a.E
structure GOk (g : Ah) (n : Nat) : Prop where
 nodes : g.Nodes = (n : Int)
 n1 : 1 <= n
 n12 : n <= 12
 arms : g.Arms.length <= 40
 arm : ∀ e, e < g.Arms.length -> N2 n (g.Arms.getD e Aa)
theorem Ng (g : Ah) : Ar (Jo g) λ e => (e = 0 -> ∃ n, GOk g n) /\ ((∃ n, GOk g n) -> e = 0) /\ (e ≠ 0 -> e = if 40 < g.Arms.length then 3 else 1) := by
 unfold Jo Mc
 simp only [Ai, Ac, Au, decide_eq_true_eq]
 refine ⟨λ h => ⟨λ h => by omega, λ ⟨n, h'⟩ => by have := h'.arms; omega, λ _ => by rw [if_pos (by omega)]⟩, λ h1 => ⟨λ h => ⟨λ h => by omega, λ ⟨n, h'⟩ => by have := h'.nodes; have := h'.n1; omega, λ _ => by rw [if_neg (by omega)]⟩, λ h2 => ⟨λ h => ⟨λ h => by omega, λ ⟨n, h'⟩ => by have := h'.nodes; have := h'.n12; omega, λ _ => by rw [if_neg (by omega)]⟩, λ h3 => ?_⟩⟩⟩
 obtain ⟨n, hn⟩ : ∃ n : Nat, g.Nodes = (n : Int) := ⟨g.Nodes.toNat, by omega⟩
 refine (Av (I := λ v : Int => ∃ k : Nat, v = (k : Int) /\ k <= g.Arms.length /\ ∀ e, e < k -> N2 n (g.Arms.getD e Aa)) (μ := λ v : Int => g.Arms.length - v.toNat)
   (Q := λ r => match r with | .inl _ => GOk g n | .inr e => e = 1 /\ ¬ ∃ n, GOk g n) ⟨0, rfl, Nat.zero_le _, λ e he => by omega⟩ ?_).mono ?_
 · rintro v ⟨k, rfl, hk, hall⟩
   have bad : (k < g.Arms.length) -> ¬ N2 n (g.Arms.getD k Aa) -> Ar Fq (Fk (λ v : Int => ∃ k : Nat, v = (k : Int) /\ k <= g.Arms.length /\ ∀ e, e < k -> N2 n (g.Arms.getD e Aa)) (λ v : Int => g.Arms.length - v.toNat) (k : Int)
       (λ r : Unit ⊕ Int => match r with | .inl _ => GOk g n | .inr e => e = 1 /\ ¬ ∃ n, GOk g n)) := by
     intro hk hb
     unfold Fq
     rw [Ac, At]
     refine ⟨rfl, λ ⟨n', h'⟩ => hb ?_⟩
     have e : n' = n := by have := h'.nodes; omega
     subst e
     exact h'.arm k hk
   unfold Pf
   simp only [Ai, An, Ac, Au, decide_eq_true_eq, Ae, Int.toNat_natCast, Aw, At]
   refine ⟨λ hlt => ⟨by omega, ?_⟩, λ hge => ?_⟩
   · have hk : k < g.Arms.length := by omega
     refine ⟨λ h => bad hk λ h' => by have := h'.a0; omega, λ a0 => ⟨λ h => bad hk λ h' => by have := h'.a1; omega, λ a1 => ⟨λ h => bad hk λ h' => by have := h'.b0; omega, λ b0 => ⟨λ h => bad hk λ h' => by have := h'.b1; omega, λ b1 => ?_⟩⟩⟩⟩
     refine (Tm _).mono ?_
     rintro v1 ⟨hv1, hv1'⟩
     refine ⟨λ h => bad hk λ h' => ?_, λ h => ⟨λ h5 => bad hk λ h' => by have := h'.rpos; omega, λ h5 => ?_⟩⟩
     · have := hv1' h'.r; rw [this] at h; simp at h
     · refine (Tm _).mono ?_
       rintro v2 ⟨hv2, hv2'⟩
       refine ⟨λ h6 => bad hk λ h' => ?_, λ h6 => ?_⟩
       · have := hv2' h'.e; rw [this] at h6; simp at h6
       · rw [Bg (by omega) (by omega)]
         refine ⟨⟨k + 1, by simp, by omega, λ e he => ?_⟩, by omega⟩
         by_cases hek : e = k
         · subst hek
           exact ⟨by omega, by omega, by omega, by omega, hv1 (by simpa using h), by omega, hv2 (by simpa using h6)⟩
         · exact hall e (by omega)
   · exact ⟨hn, by omega, by omega, by omega, λ e he => hall e (by omega)⟩
 · intro r hr
   cases r with
   | inl u => rw [Ac]; exact ⟨λ _ => ⟨n, hr⟩, λ _ => rfl, λ h => (h rfl).elim⟩
   | inr e => rw [Ac]; exact ⟨λ h => by have := hr.1; omega, λ h => (hr.2 h).elim, λ _ => by rw [if_neg (by omega)]; exact hr.1⟩
def cond (a : Aq) : Rat := 1 / Gp a.R
theorem Me {n : Nat} {a : Aq} (h : N2 n a) : 0 < cond a := by
 have := Un h.r h.rpos
 unfold cond
 rw [Rat.div_def, Rat.one_mul]
 exact Rat.inv_pos.2 this
theorem Ig {n : Nat} {a : Aq} (h : N2 n a) : Sz (cond a) 3 := by
 have h0 := Rat.ne_of_gt (Un h.r h.rpos)
 have := (Nk 0).div (Qh h.r) h0
 unfold cond
 exact this
theorem Ja {n : Nat} {a : Aq} (h : N2 n a) : Ar (Ha a) λ q => B3 q (cond a) := by
 unfold Ha
 refine (E0 (n := 1) (by omega) (by omega)).bind ?_
 rintro x hx
 refine (Vl h.r).bind ?_
 rintro y hy
 refine (Qi hx hy (k := 1) (m := 2) (Nk 0) (Qh h.r) (by omega) (Rat.ne_of_gt (Un h.r h.rpos))).bind ?_
 rintro q hq
 rw [Ac]
 exact hq
def Io (x : Rat) : Prop := -1000000000000 <= x.num /\ x.num <= 1000000000000 /\ (x.den : Int) <= 1000000000000
theorem Ass {x : Rat} (h : Io x) : ROk ⟨x.num, x.den⟩ /\ Gp ⟨x.num, x.den⟩ = x := by
 have hd := x.den_pos
 refine ⟨⟨⟨h.1, h.2.1, by show 0 < (x.den : Int); omega, h.2.2⟩, ?_⟩, ?_⟩
 · have := x.reduced
   rw [Int.gcd_eq_natAbs_gcd_natAbs]
   exact this
 · show Rat.divInt x.num (x.den : Int) = x
   exact Rat.num_divInt_den x
theorem X9 {q : Aj} {x : Rat} (h : B3 q x) : Ar (Mw q) λ r => (r.2 = true ↔ Io x) /\ (r.2 = true -> r.1 = ⟨x.num, x.den⟩) := by
 unfold Mw Mq
 refine (Wt h.okN (most := 1000000000000) (by omega) (by omega)).bind ?_
 rintro ⟨n, bn⟩ ⟨n1, n2, n3⟩
 refine (Wt h.okD (most := 1000000000000) (by omega) (by omega)).bind ?_
 rintro ⟨d, bd⟩ ⟨d1, d2, d3⟩
 simp only at n1 n2 n3 d1 d2 d3
 have hd := x.den_pos
 rw [h.num] at n1 n2
 rw [h.den] at d1 d2
 unfold Io
 cases bn <;> cases bd <;> simp [Ai, Ac] at n1 n2 n3 d1 d2 d3 ⊢
 · omega
 · omega
 · omega
 · exact ⟨by omega, n2, d2⟩
theorem Mz {q : Aj} {x : Rat} (h : B3 q x) : Ar (H6 q) λ r => (r.2 = 0 ↔ Io x) /\ (r.2 = 0 -> r.1 = ⟨x.num, x.den⟩) /\ (r.2 ≠ 0 -> r = (⟨0, 0⟩, 3)) := by
 unfold H6
 refine (X9 h).bind ?_
 rintro ⟨a, b⟩ ⟨h1, h2⟩
 simp only at h1 h2
 simp only [Ai, Ac, Bool.not_eq_true']
 refine ⟨λ hb => ⟨⟨λ h => by omega, λ h => by rw [h1.2 h] at hb; cases hb⟩, λ h => by omega, λ _ => trivial⟩, λ hb => ?_⟩
 have hb : b = true := by simpa using hb
 exact ⟨⟨λ _ => h1.1 hb, λ _ => trivial⟩, λ _ => h2 hb, λ h => (h rfl).elim⟩
def am (g : Ah) (e : Nat) : Aq := g.Arms.getD e Aa
def nA (g : Ah) (e : Nat) : Nat := (am g e).A.toNat
def nB (g : Ah) (e : Nat) : Nat := (am g e).B.toNat
def Eqv (g : Ah) (i j : Nat) : Prop := ∀ f : Nat -> Int, (∀ e, e < g.Arms.length -> f (nA g e) = f (nB g e)) -> f i = f j
theorem Eqv.refl (g : Ah) (i : Nat) : Eqv g i i := λ _ _ => rfl
theorem Eqv.symm {g : Ah} {i j : Nat} (h : Eqv g i j) : Eqv g j i := λ f hf => (h f hf).symm
theorem Eqv.trans {g : Ah} {i j k : Nat} (h : Eqv g i j) (h' : Eqv g j k) : Eqv g i k := λ f hf => (h f hf).trans (h' f hf)
theorem Eqv.arm {g : Ah} {e : Nat} (he : e < g.Arms.length) : Eqv g (nA g e) (nB g e) := λ f hf => hf e he
theorem GOk.ab {g : Ah} {n : Nat} (G : GOk g n) {e : Nat} (he : e < g.Arms.length) : nA g e < n /\ nB g e < n /\ (am g e).A = (nA g e : Int) /\ (am g e).B = (nB g e : Int) := by
 have h := G.arm e he
 have h0 := h.a0; have h1 := h.a1; have h2 := h.b0; have h3 := h.b1
 unfold nA nB am
 omega
def cnt : Nat -> (Nat -> Bool) -> Nat
 | 0, _ => 0
 | n + 1, p => cnt n p + if p n then 1 else 0
theorem Aoy (p : Nat -> Bool) : ∀ n, cnt n p <= n
 | 0 => Nat.le_refl _
 | n + 1 => by have := Aoy p n; rw [cnt]; split <;> omega
theorem Ac1 {p q : Nat -> Bool} : ∀ {n}, (∀ i, i < n -> p i = true -> q i = true) -> cnt n p <= cnt n q
 | 0, _ => Nat.le_refl _
 | n + 1, h => by
   have := Ac1 (n := n) (λ i hi => h i (by omega))
   have h1 := h n (by omega)
   rw [cnt, cnt]
   cases hp : p n
   · simp; omega
   · rw [h1 hp]; simp; omega
theorem V2 {p q : Nat -> Bool} : ∀ {n}, (∀ i, i < n -> p i = true -> q i = true) -> (∃ i, i < n /\ p i = false /\ q i = true) -> cnt n p + 1 <= cnt n q
 | 0, _, ⟨i, hi, _⟩ => by omega
 | n + 1, h, ⟨i, hi, h1, h2⟩ => by
   rw [cnt, cnt]
   by_cases hin : i = n
   · subst hin
     have := Ac1 (n := i) (λ j hj => h j (by omega))
     rw [h1, h2]; simp; omega
   · have := V2 (n := n) (λ j hj => h j (by omega)) ⟨i, by omega, h1, h2⟩
     have h3 := h n (by omega)
     cases hp : p n
     · simp; omega
     · rw [h3 hp]; simp; omega
theorem Avo {p : Nat -> Bool} {n i : Nat} (hi : i < n) (h : p i = true) : 1 <= cnt n p := by
 have := V2 (p := λ _ => false) (q := p) (n := n) (λ _ _ h => by cases h) ⟨i, hi, rfl, h⟩
 omega
theorem Bce {P : Nat -> Prop} (m : Nat) (h : P m) : ∃ k, P k /\ k <= m /\ ∀ j, j < k -> ¬ P j := by
 induction m using Nat.strongRecOn with
 | _ m ih =>
   rcases Classical.em (∃ j, j < m /\ P j) with ⟨j, hj, hp⟩ | hno
   · obtain ⟨k, h1, h2, h3⟩ := ih j hj hp
     exact ⟨k, h1, by omega, h3⟩
   · exact ⟨m, h, Nat.le_refl _, λ j hj hp => hno ⟨j, hj, hp⟩⟩
structure LOk (g : Ah) (n : Nat) (l : List Int) : Prop where
 len : l.length = n
 rng : ∀ i, i < n -> 0 <= l.getD i 0 /\ l.getD i 0 <= (i : Int)
 eqv : ∀ i, i < n -> Eqv g i (l.getD i 0).toNat
theorem LOk.ge {g : Ah} {n : Nat} {l : List Int} (L : LOk g n l) {μ : Nat} (hμ : ∀ m, m < μ -> ¬ Eqv g m μ) {i : Nat} (hi : i < n) (he : Eqv g i μ) : (μ : Int) <= l.getD i 0 := by
 have h1 := L.rng i hi
 have h2 := L.eqv i hi
 by_cases h : l.getD i 0 < (μ : Int)
 · exact (hμ _ (by omega) (h2.symm.trans he)).elim
 · omega
theorem Ael {g : Ah} {n : Nat} (G : GOk g n) (v5 : Int) {l : List Int} (L : LOk g n l) :
   Ar (Br (λ v : (Int × (List Int)) => I8 g v5 v.1 v.2) ((0 : Int), l)) λ l' => LOk g n l' /\ (∀ i, i < n -> l'.getD i 0 <= l.getD i 0) /\ ∀ e, e < g.Arms.length -> l'.getD (nA g e) 0 <= l.getD (nB g e) 0 /\ l'.getD (nB g e) 0 <= l.getD (nA g e) 0 := by
 refine Av (I := λ s : Int × List Int => ∃ k : Nat, s.1 = (k : Int) /\ k <= g.Arms.length /\ LOk g n s.2 /\ (∀ i, i < n -> s.2.getD i 0 <= l.getD i 0) /\ ∀ e, e < k -> s.2.getD (nA g e) 0 <= l.getD (nB g e) 0 /\ s.2.getD (nB g e) 0 <= l.getD (nA g e) 0)
   (μ := λ s : Int × List Int => g.Arms.length - s.1.toNat) ⟨0, rfl, Nat.zero_le _, L, λ i _ => Int.le_refl _, λ e he => by omega⟩ ?_
 rintro ⟨i, w⟩ ⟨k, h1, h2, h3, h4, h5⟩
 simp only at h1 h3 h4 h5
 subst h1
 have hw := h3.len
 have h40 := G.arms
 unfold I8
 simp only [Ai, An, Ac, decide_eq_true_eq, Aw, At, Ae, Int.toNat_natCast, List.length_set]
 refine ⟨λ h => ?_, λ h => ?_⟩
 · have hk : k < g.Arms.length := by omega
   obtain ⟨a1, a2, a3, a4⟩ := G.ab hk
   have eA : (List.getD g.Arms k Aa).A = (nA g k : Int) := a3
   have eB : (List.getD g.Arms k Aa).B = (nB g k : Int) := a4
   rw [eA, eB, Bg (by omega) (by omega)]
   simp only [Int.toNat_natCast]
   obtain ⟨m, hm⟩ : ∃ m, m = (if w.getD (nB g k) 0 < w.getD (nA g k) 0 then w.getD (nB g k) 0 else w.getD (nA g k) 0) := ⟨_, rfl⟩
   rw [<- hm]
   have m1 : m <= w.getD (nA g k) 0 /\ m <= w.getD (nB g k) 0 /\ (m = w.getD (nA g k) 0 \/ m = w.getD (nB g k) 0) := by rw [hm]; split <;> omega
   have hget : ∀ i, ((w.set (nA g k) m).set (nB g k) m).getD i 0 = if i = nA g k \/ i = nB g k then m else w.getD i 0 := by
     intro i
     rw [getD_set, getD_set, List.length_set]
     by_cases hi : i = nB g k
     · rw [if_pos ⟨hi, by omega⟩, if_pos (.inr hi)]
     · rw [if_neg (by omega)]
       by_cases hi2 : i = nA g k
       · rw [if_pos ⟨hi2, by omega⟩, if_pos (.inl hi2)]
       · rw [if_neg (by omega), if_neg (by omega)]
   have rA := h3.rng _ a1
   have rB := h3.rng _ a2
   refine ⟨by omega, by omega, by omega, by omega, by omega, ⟨k + 1, by simp, by omega, ⟨by simp [hw], λ i hi => ?_, λ i hi => ?_⟩, λ i hi => ?_, λ e he => ?_⟩, by omega⟩
   · rw [hget]
     split
     · rename_i h; rcases h with h | h <;> subst h <;> omega
     · exact h3.rng i hi
   · rw [hget]
     split
     · rename_i h
       have e1 : Eqv g i (nA g k) := by
         rcases h with h | h
         · rw [h]; exact Eqv.refl _ _
         · rw [h]; exact (Eqv.arm hk).symm
       rcases m1.2.2 with h' | h'
       · rw [h']; exact e1.trans (h3.eqv _ a1)
       · rw [h']; exact (e1.trans (Eqv.arm hk)).trans (h3.eqv _ a2)
     · exact h3.eqv i hi
   · rw [hget]
     have q1 := h4 _ a1; have q2 := h4 _ a2
     split
     · rename_i h; rcases h with h | h <;> subst h <;> omega
     · exact h4 i hi
   · have q1 := h4 _ a1; have q2 := h4 _ a2
     have dec : ∀ i, i < n -> ((w.set (nA g k) m).set (nB g k) m).getD i 0 <= w.getD i 0 := by
       intro i hi
       rw [hget]
       split
       · rename_i h; rcases h with h | h <;> subst h <;> omega
       · exact Int.le_refl _
     by_cases hek : e = k
     · subst hek
       rw [hget, if_pos (.inl rfl), hget, if_pos (.inr rfl)]
       omega
     · obtain ⟨b1, b2, _, _⟩ := G.ab (show e < g.Arms.length by omega)
       have := h5 e (by omega)
       have := dec _ b1; have := dec _ b2
       omega
 · have : k = g.Arms.length := by omega
   subst this
   exact ⟨h3, h4, h5⟩
structure JOk (g : Ah) (n : Nat) (l : List Int) : Prop where
 lok : LOk g n l
 arm : ∀ e, e < g.Arms.length -> l.getD (nA g e) 0 = l.getD (nB g e) 0
theorem Rj {g : Ah} {n : Nat} (G : GOk g n) : Ar (Ij g) λ l => JOk g n l := by
 have hn := G.nodes
 have hn12 := G.n12
 unfold Ij
 simp only [An, Au, hn, Int.toNat_natCast, List.length_replicate]
 refine ⟨by omega, by omega, by unfold As; omega, ?_⟩
 refine (Av (I := λ s : Int × Int × List Int => ∃ k : Nat, s.1 = (n : Int) /\ s.2.1 = (k : Int) /\ k <= n /\ s.2.2.length = n /\ ∀ i, i < k -> s.2.2.getD i 0 = (i : Int)) (μ := λ s : Int × Int × List Int => n - s.2.1.toNat)
   (Q := λ l => l.length = n /\ ∀ i, i < n -> l.getD i 0 = (i : Int)) ⟨0, rfl, rfl, Nat.zero_le _, by simp, λ i hi => by omega⟩ ?_).mono ?_
 · rintro ⟨n', k', w⟩ ⟨k, h1, h2, h3, h4, h5⟩
   simp only at h1 h2 h4 h5
   subst h1 h2
   unfold Li
   simp only [Ai, An, Ac, decide_eq_true_eq, Aw, At, Ae, Int.toNat_natCast]
   refine ⟨λ h => ?_, λ h => ?_⟩
   · rw [Bg (by omega) (by omega)]
     refine ⟨by omega, ⟨k + 1, trivial, by simp, by omega, by simp [h4], λ i hi => ?_⟩, by omega⟩
     rw [getD_set]
     split
     · rename_i h; rw [h.1]
     · exact h5 i (by omega)
   · have : k = n := by omega
     subst this
     exact ⟨h4, h5⟩
 · rintro l0 ⟨l1, l2⟩
   refine (Av (I := λ s : Int × List Int => ∃ k : Nat, s.1 = (k : Int) /\ k <= n /\ LOk g n s.2 /\ ∀ μ, μ < n -> (∀ m, m < μ -> ¬ Eqv g m μ) -> (∀ i, i < n -> Eqv g i μ -> s.2.getD i 0 = (μ : Int)) \/ k + 1 <= cnt n λ i => decide (s.2.getD i 0 = (μ : Int)))
     (μ := λ s : Int × List Int => n - s.1.toNat) (Q := λ l => JOk g n l) ⟨0, rfl, Nat.zero_le _, ⟨l1, λ i hi => by show 0 <= l0.getD i 0 /\ _; rw [l2 i hi]; omega, λ i hi => by show Eqv g i (l0.getD i 0).toNat; rw [l2 i hi, Int.toNat_natCast]; exact Eqv.refl _ _⟩, λ μ hμ _ => .inr (Avo hμ (by show decide (l0.getD μ 0 = (μ : Int)) = true; rw [l2 μ hμ]; simp))⟩ ?_).mono λ l hl => Ac.2 hl
   rintro ⟨k', l⟩ ⟨k, h1, h2, h3, h4⟩
   simp only at h1 h3 h4
   subst h1
   unfold K9
   rw [Ai, hn]
   simp only [decide_eq_true_eq, Au, Ac, At]
   refine ⟨λ h => ?_, λ h => ?_⟩
   · refine (Ael G (k : Int) h3).mono ?_
     rintro l' ⟨L', dec, cross⟩
     rw [Aw, Bg (by omega) (by omega)]
     refine ⟨⟨k + 1, by simp, by omega, L', λ μ hμ hmin => ?_⟩, by simp; omega⟩
     show (∀ i, i < n -> Eqv g i μ -> l'.getD i 0 = (μ : Int)) \/ _
     have keep : ∀ i, i < n -> l.getD i 0 = (μ : Int) -> l'.getD i 0 = (μ : Int) := by
       intro i hi he
       have e1 := h3.eqv i hi
       rw [he, Int.toNat_natCast] at e1
       have := L'.ge hmin hi e1
       have := dec i hi
       omega
     rcases h4 μ hμ hmin with h5 | h5
     · exact .inl λ i hi he => keep i hi (h5 i hi he)
     · rcases Classical.em (∀ i, i < n -> Eqv g i μ -> l.getD i 0 = (μ : Int)) with h6 | h6
       · exact .inl λ i hi he => keep i hi (h6 i hi he)
       · refine .inr ?_
         have hlμ : l.getD μ 0 = (μ : Int) := by
           have := h3.ge hmin hμ (Eqv.refl _ _)
           have := h3.rng μ hμ
           omega
         -- an arm with one end in
         have : ∃ e, e < g.Arms.length /\ ¬ ((l.getD (nA g e) 0 = (μ : Int)) ↔ (l.getD (nB g e) 0 = (μ : Int))) := by
           refine Classical.byContradiction λ hno => h6 λ i hi he => ?_
           have hf := he (λ j => if l.getD j 0 = (μ : Int) then 1 else 0) λ e hel => by
             have : (l.getD (nA g e) 0 = (μ : Int)) ↔ (l.getD (nB g e) 0 = (μ : Int)) := Classical.byContradiction λ hc => hno ⟨e, hel, hc⟩
             simp only [this]
           simp only [hlμ, if_true] at hf
           refine Classical.byContradiction λ hc => ?_
           rw [if_neg hc] at hf
           omega
         obtain ⟨e, hel, hne⟩ := this
         obtain ⟨b1, b2, _, _⟩ := G.ab hel
         have hc := cross e hel
         have more : ∃ i, i < n /\ decide (l.getD i 0 = (μ : Int)) = false /\ decide (l'.getD i 0 = (μ : Int)) = true := by
           by_cases hA : l.getD (nA g e) 0 = (μ : Int)
           · have hB : l.getD (nB g e) 0 ≠ (μ : Int) := λ h => hne ⟨λ _ => h, λ _ => hA⟩
             have e1 := h3.eqv _ b1
             rw [hA, Int.toNat_natCast] at e1
             have := L'.ge hmin b2 ((Eqv.arm hel).symm.trans e1)
             exact ⟨nB g e, b2, by simpa using hB, by simp only [decide_eq_true_eq]; omega⟩
           · have hB : l.getD (nB g e) 0 = (μ : Int) := Classical.byContradiction λ h => hne ⟨λ h' => (hA h').elim, λ h' => (h h').elim⟩
             have e1 := h3.eqv _ b2
             rw [hB, Int.toNat_natCast] at e1
             have := L'.ge hmin b1 ((Eqv.arm hel).trans e1)
             exact ⟨nA g e, b1, by simpa using hA, by simp only [decide_eq_true_eq]; omega⟩
         have := V2 (n := n) (p := λ i => decide (l.getD i 0 = (μ : Int))) (q := λ i => decide (l'.getD i 0 = (μ : Int))) (λ i hi h => by
           simp only [decide_eq_true_eq] at h ⊢; exact keep i hi h) more
         show k + 1 + 1 <= cnt n λ i => decide (l'.getD i 0 = (μ : Int))
         omega
   · have hk : k = n := by omega
     subst hk
     refine ⟨h3, λ e he => ?_⟩
     obtain ⟨b1, b2, _, _⟩ := G.ab he
     obtain ⟨μ, m1, m2, m3⟩ := Bce (P := λ m => Eqv g m (nA g e)) (nA g e) (Eqv.refl _ _)
     rcases h4 μ (by omega) (λ m hm h => m3 m hm (h.trans m1)) with h5 | h5
     · rw [h5 _ b1 m1.symm, h5 _ b2 ((Eqv.arm he).symm.trans m1.symm)]
     · have := Aoy (λ i => decide (l.getD i 0 = (μ : Int))) k
       omega
def ev (a b i : Nat) : Rat := (if i = a then 1 else 0) - (if i = b then 1 else 0)
def evE (g : Ah) (e i : Nat) : Rat := ev (nA g e) (nB g e) i
def K2 (g : Ah) (k i j : Nat) : Rat := sm k λ e => cond (am g e) * evE g e i * evE g e j
def lap (g : Ah) (i j : Nat) : Rat := K2 g g.Arms.length i j
theorem V8 {n a b : Nat} (ha : a < n) (hb : b < n) (x : Nat -> Rat) : sm n (λ j => ev a b j * x j) = x a - x b := by
 have h : sm n (λ j => ev a b j * x j) = sm n (λ j => (if j = a then 1 else 0) * x j) - sm n (λ j => (if j = b then 1 else 0) * x j) := by
   rw [<- Od]; exact Bc λ j _ => by unfold ev; grind
 rw [h, G6 (k := a) ha (λ i _ hne => by rw [if_neg hne]; grind), G6 (k := b) hb (λ i _ hne => by rw [if_neg hne]; grind), if_pos rfl, if_pos rfl]
 grind
theorem Sa {g : Ah} {n : Nat} (G : GOk g n) (x : Nat -> Rat) (i : Nat) : sm n (λ j => lap g i j * x j) = sm g.Arms.length λ e => cond (am g e) * evE g e i * (x (nA g e) - x (nB g e)) := by
 have h : sm n (λ j => lap g i j * x j) = sm n (λ j => sm g.Arms.length λ e => cond (am g e) * evE g e i * evE g e j * x j) := by
   refine Bc λ j _ => ?_
   unfold lap K2
   rw [Rat.mul_comm, <- Fl]
   exact Bc λ e _ => by grind
 rw [h, Lm]
 refine Bc λ e he => ?_
 obtain ⟨a1, a2, _, _⟩ := G.ab he
 have := V8 a1 a2 x
 rw [<- this, <- Fl]
 exact Bc λ j _ => by unfold evE; grind
theorem Pv {f : Nat -> Rat} : ∀ {n}, (∀ i, i < n -> 0 <= f i) -> 0 <= sm n f
 | 0, _ => Rat.le_refl
 | n + 1, h => Rat.add_nonneg (Pv λ i hi => h i (by omega)) (h n (by omega))
theorem Gv {f : Nat -> Rat} : ∀ {n}, (∀ i, i < n -> 0 <= f i) -> sm n f = 0 -> ∀ i, i < n -> f i = 0
 | 0, _, _, i, hi => by omega
 | n + 1, h, h0, i, hi => by
   have h1 := Pv (n := n) λ i hi => h i (by omega)
   have h2 := h n (by omega)
   rw [sm] at h0
   have h3 : sm n f = 0 := by grind
   by_cases hin : i = n
   · subst hin; grind
   · exact Gv (λ i hi => h i (by omega)) h3 i (by omega)
theorem Asv {g : Ah} {n : Nat} (G : GOk g n) (x : Nat -> Rat) : sm n (λ i => x i * sm n λ j => lap g i j * x j) = sm g.Arms.length λ e => cond (am g e) * ((x (nA g e) - x (nB g e)) * (x (nA g e) - x (nB g e))) := by
 have h : sm n (λ i => x i * sm n λ j => lap g i j * x j) = sm n (λ i => sm g.Arms.length λ e => x i * (cond (am g e) * evE g e i * (x (nA g e) - x (nB g e)))) := by
   refine Bc λ i _ => ?_
   rw [Sa G, <- Fl]
 rw [h, Lm]
 refine Bc λ e he => ?_
 obtain ⟨a1, a2, _, _⟩ := G.ab he
 have := V8 a1 a2 x
 have e2 : sm n (λ i => x i * (cond (am g e) * evE g e i * (x (nA g e) - x (nB g e)))) = sm n (λ i => (cond (am g e) * (x (nA g e) - x (nB g e))) * (ev (nA g e) (nB g e) i * x i)) := Bc λ i _ => by unfold evE; grind
 rw [e2, Fl, this]; grind
theorem N0 (x : Rat) : 0 <= x * x := by
 rcases Rat.le_total (a := 0) (b := x) with h | h
 · exact Rat.mul_nonneg h h
 · have h' : 0 <= -x := by grind
   have := Rat.mul_nonneg h' h'
   grind
def rep (l : List Int) (i : Nat) : Prop := l.getD i 0 = (i : Int)
instance (l : List Int) (i : Nat) : Decidable (rep l i) := inferInstanceAs (Decidable (_ = _))
theorem JOk.lab {g : Ah} {n : Nat} {l : List Int} (J : JOk g n l) {i : Nat} (hi : i < n) : (l.getD i 0).toNat < n /\ rep l (l.getD i 0).toNat := by
 have h1 := J.lok.rng i hi
 have h2 := J.lok.eqv i hi (λ j => l.getD j 0) J.arm
 exact ⟨by omega, by unfold rep; rw [<- h2]; omega⟩
theorem Ac7 {g : Ah} {n : Nat} (G : GOk g n) {l : List Int} (J : JOk g n l) (x : Nat -> Rat) (h1 : ∀ i, i < n -> rep l i -> x i = 0) (h2 : ∀ i, i < n -> ¬ rep l i -> sm n (λ j => lap g i j * x j) = 0) : ∀ i, i < n -> x i = 0 := by
 have he := Asv G x
 have h0 : sm n (λ i => x i * sm n λ j => lap g i j * x j) = 0 := Fv λ i hi => by
   by_cases hr : rep l i
   · rw [h1 i hi hr]; grind
   · rw [h2 i hi hr]; grind
 rw [h0] at he
 have each := Gv (f := λ e => cond (am g e) * ((x (nA g e) - x (nB g e)) * (x (nA g e) - x (nB g e)))) (n := g.Arms.length) (λ e he => Rat.mul_nonneg (Rat.le_of_lt (Me (G.arm e he))) (N0 _)) he.symm
 have heq : ∀ e, e < g.Arms.length -> x (nA g e) = x (nB g e) := by
   intro e hel
   have := each e hel
   have hc := Rat.ne_of_gt (Me (G.arm e hel))
   rcases Rat.mul_eq_zero.1 this with h | h
   · exact (hc h).elim
   · rcases Rat.mul_eq_zero.1 h with h | h <;> grind
 intro i hi
 -- what is joined is alike
 have key : ∀ j, Eqv g i j -> x i = x j := by
   intro j hj
   refine Classical.byContradiction λ hne => ?_
   have := hj (λ m => if x m = x i then 1 else 0) λ e hel => by show (if x (nA g e) = x i then (1 : Int) else 0) = if x (nB g e) = x i then 1 else 0; rw [heq e hel]
   simp only [if_true] at this
   rw [if_neg (Ne.symm hne)] at this
   omega
 obtain ⟨k1, k2⟩ := J.lab hi
 rw [key _ (J.lok.eqv i hi)]
 exact h1 _ k1 k2
theorem Ad3 {g : Ah} {n : Nat} (G : GOk g n) {l : List Int} (J : JOk g n l) (x y : Nat -> Rat) (h : ∀ i, i < n -> ¬ rep l i -> sm n (λ j => lap g i j * x j) = y i) (hy : ∀ k, sm n (λ i => (if l.getD i 0 = (k : Int) then 1 else 0) * y i) = 0) :
   ∀ i, i < n -> sm n (λ j => lap g i j * x j) = y i := by
 intro k hk
 by_cases hr : rep l k
 · have h0 : sm n (λ i => (if l.getD i 0 = (k : Int) then 1 else 0) * sm n λ j => lap g i j * x j) = 0 := by
     have e1 : sm n (λ i => (if l.getD i 0 = (k : Int) then 1 else 0) * sm n λ j => lap g i j * x j) = sm n (λ i => sm g.Arms.length λ e => (if l.getD i 0 = (k : Int) then 1 else 0) * (cond (am g e) * evE g e i * (x (nA g e) - x (nB g e)))) := by
       refine Bc λ i _ => ?_
       rw [Sa G, <- Fl]
     rw [e1, Lm]
     refine Fv λ e he => ?_
     obtain ⟨a1, a2, _, _⟩ := G.ab he
     have := V8 a1 a2 (λ i => if l.getD i 0 = (k : Int) then 1 else 0)
     have e2 : sm n (λ i => (if l.getD i 0 = (k : Int) then 1 else 0) * (cond (am g e) * evE g e i * (x (nA g e) - x (nB g e)))) = sm n (λ i => (cond (am g e) * (x (nA g e) - x (nB g e))) * (ev (nA g e) (nB g e) i * (if l.getD i 0 = (k : Int) then 1 else 0))) := Bc λ i _ => by unfold evE; grind
     rw [e2, Fl, this, J.arm e he]; grind
   have h1 : sm n (λ i => (if l.getD i 0 = (k : Int) then 1 else 0) * ((sm n λ j => lap g i j * x j) - y i)) = 0 := by
     have : sm n (λ i => (if l.getD i 0 = (k : Int) then 1 else 0) * ((sm n λ j => lap g i j * x j) - y i)) = sm n (λ i => (if l.getD i 0 = (k : Int) then 1 else 0) * sm n λ j => lap g i j * x j) - sm n (λ i => (if l.getD i 0 = (k : Int) then 1 else 0) * y i) := by
       rw [<- Od]; exact Bc λ i _ => by grind
     rw [this, h0, hy k]; grind
   rw [G6 (k := k) hk (λ i hi hne => by
     by_cases hl : l.getD i 0 = (k : Int)
     · rw [h i hi (by unfold rep; omega)]; grind
     · rw [if_neg hl]; grind), if_pos (show l.getD k 0 = (k : Int) from hr)] at h1
   grind
 · exact h k hk hr
theorem R7 (a b i : Nat) : ev a b i = 0 \/ ev a b i = 1 \/ ev a b i = -1 := by
 unfold ev; split <;> split
 · left; grind
 · right; left; grind
 · right; right; grind
 · left; grind
theorem Zf {g : Ah} {n : Nat} (G : GOk g n) (i j : Nat) : ∀ k, k <= g.Arms.length -> Sz (K2 g k i j) (1 + 4 * k)
 | 0, _ => G5 0
 | k + 1, h => by
   have IH := Zf G i j k (by omega)
   have hc := Ig (G.arm k (by omega))
   have ht : Sz (cond (am g k) * evE g k i * evE g k j) 3 := by
     have z : Sz 0 3 := G5 2
     have hc' : Sz (cond (am g k)) 3 := hc
     have hn := hc'.neg
     unfold evE
     rcases R7 (nA g k) (nB g k) i with h1 | h1 | h1 <;> rcases R7 (nA g k) (nB g k) j with h2 | h2 | h2 <;> rw [h1, h2]
     · have e : cond (am g k) * 0 * 0 = 0 := by grind
       rw [e]; exact z
     · have e : cond (am g k) * 0 * 1 = 0 := by grind
       rw [e]; exact z
     · have e : cond (am g k) * 0 * -1 = 0 := by grind
       rw [e]; exact z
     · have e : cond (am g k) * 1 * 0 = 0 := by grind
       rw [e]; exact z
     · have e : cond (am g k) * 1 * 1 = cond (am g k) := by grind
       rw [e]; exact hc'
     · have e : cond (am g k) * 1 * -1 = -cond (am g k) := by grind
       rw [e]; exact hn
     · have e : cond (am g k) * -1 * 0 = 0 := by grind
       rw [e]; exact z
     · have e : cond (am g k) * -1 * 1 = -cond (am g k) := by grind
       rw [e]; exact hn
     · have e : cond (am g k) * -1 * -1 = cond (am g k) := by grind
       rw [e]; exact hc'
   have := (IH.add ht).mono (show 1 + 4 * k + 3 + 1 <= 1 + 4 * (k + 1) by omega)
   exact this
theorem Ap1 {p q : Nat} (h : p ≠ q) (L : Nat -> Nat -> Rat) (c : Rat) (a b : Nat) : L a b + c * ev p q a * ev p q b = if a = q /\ b = p then L q p - c else if a = p /\ b = q then L p q - c else if a = q /\ b = q then L q q + c else if a = p /\ b = p then L p p + c else L a b := by
 unfold ev
 by_cases h1 : a = p <;> by_cases h2 : a = q <;> by_cases h3 : b = p <;> by_cases h4 : b = q <;> first | omega | (simp only [h1, h2, h3, h4, h, Ne.symm h, if_true, if_false, true_and, and_true, false_and, and_false]; grind) | grind
theorem P5 {g : Ah} {n : Nat} (G : GOk g n) : Ar (Ho g) λ o => o.C = (n : Int) /\ D2 o.V n n (lap g) := by
 have hn := G.nodes
 have h12 := G.n12
 have h40 := G.arms
 unfold Ho
 rw [hn]
 refine (Yl (r := n) (c := n) (by omega) (by omega)).bind ?_
 rintro y ⟨yC, yM⟩
 rw [Au]
 refine (Av (I := λ s : Int × List (List Aj) => ∃ k : Nat, s.1 = (k : Int) /\ k <= g.Arms.length /\ D2 s.2 n n (K2 g k)) (μ := λ s : Int × List (List Aj) => g.Arms.length - s.1.toNat) (Q := λ o => D2 o n n (lap g)) ⟨0, rfl, Nat.zero_le _, yM⟩ ?_).mono ?_
 · rintro ⟨i, w⟩ ⟨k, h1, h2, M⟩
   simp only at h1 M
   subst h1
   unfold Jp
   simp only [Ai, An, Au, Ac, decide_eq_true_eq, At, Ae, Int.toNat_natCast]
   refine ⟨λ h => ?_, λ h => ?_⟩
   · have hk : k < g.Arms.length := by omega
     obtain ⟨a1, a2, a3, a4⟩ := G.ab hk
     have eA : (List.getD g.Arms k Aa).A = (nA g k : Int) := a3
     have eB : (List.getD g.Arms k Aa).B = (nB g k : Int) := a4
     rw [Bg (x := (k : Int) + 1) (by omega) (by omega)]
     have hstep : ∀ i j, K2 g (k + 1) i j = K2 g k i j + cond (am g k) * evE g k i * evE g k j := λ i j => rfl
     refine ⟨by omega, λ he => ?_, λ hne => ?_⟩
     · rw [Aw]
       have hAB : nA g k = nB g k := by omega
       refine ⟨⟨k + 1, by simp, by omega, M.congr λ a b _ _ => ?_⟩, by simp; omega⟩
       rw [hstep]
       have : evE g k a = 0 := by unfold evE ev; rw [hAB]; grind
       rw [this]; grind
     · have hAB : nA g k ≠ nB g k := by omega
       have arm := G.arm k hk
       refine (Ja (n := n) (a := am g k) arm).mono ?_
       rintro c hc
       have sc := Ig arm
       have sc : Sz (cond (am g k)) 3 := sc
       rw [eA, eB]
       simp only [Int.toNat_natCast]
       generalize hp : nA g k = p at a1 a3 eA hAB ⊢
       generalize hq : nB g k = q at a2 a4 eB hAB ⊢
       have sL : ∀ i j, Sz (K2 g k i j) 161 := λ i j => (Zf G i j k (by omega)).mono (by omega)
       have hm := M.rows
       have r1 := M.cols p a1
       refine ⟨by omega, by omega, by omega, ?_⟩
       refine (Gs (M.rep p p a1 a1) hc (sL p p) sc (by omega)).mono ?_
       rintro y3 hy3
       obtain ⟨w1, hw1⟩ : ∃ w1, w1 = w.set p ((w.getD p []).set p y3) := ⟨_, rfl⟩
       rw [<- hw1]
       have M1 : D2 w1 n n (λ i j => if i = p /\ j = p then K2 g k p p + cond (am g k) else K2 g k i j) := by
         rw [hw1]
         exact M.set a1 a1 (by rw [if_pos ⟨rfl, rfl⟩]; exact hy3) λ a b _ _ h => by rw [if_neg (by omega)]
       have hm1 := M1.rows
       have r2 := M1.cols q a2
       refine ⟨by omega, by omega, by omega, by omega, ?_⟩
       have v1 := M1.rep q q a2 a2
       rw [if_neg (by omega)] at v1
       refine (Gs v1 hc (sL q q) sc (by omega)).mono ?_
       rintro y4 hy4
       obtain ⟨w2, hw2⟩ : ∃ w2, w2 = w1.set q ((w1.getD q []).set q y4) := ⟨_, rfl⟩
       rw [<- hw2]
       have M2 : D2 w2 n n (λ i j => if i = q /\ j = q then K2 g k q q + cond (am g k) else if i = p /\ j = p then K2 g k p p + cond (am g k) else K2 g k i j) := by
         rw [hw2]
         exact M1.set a2 a2 (by rw [if_pos ⟨rfl, rfl⟩]; exact hy4) λ a b _ _ h => by rw [if_neg (by omega)]
       have hm2 := M2.rows
       have r3 := M2.cols p a1
       refine ⟨by omega, by omega, by omega, by omega, ?_⟩
       have v2 := M2.rep p q a1 a2
       rw [if_neg (by omega), if_neg (by omega)] at v2
       refine (Hr v2 hc (sL p q) sc (by omega)).mono ?_
       rintro y5 hy5
       obtain ⟨w3, hw3⟩ : ∃ w3, w3 = w2.set p ((w2.getD p []).set q y5) := ⟨_, rfl⟩
       rw [<- hw3]
       have M3 : D2 w3 n n (λ i j => if i = p /\ j = q then K2 g k p q - cond (am g k) else if i = q /\ j = q then K2 g k q q + cond (am g k) else if i = p /\ j = p then K2 g k p p + cond (am g k) else K2 g k i j) := by
         rw [hw3]
         exact M2.set a1 a2 (by rw [if_pos ⟨rfl, rfl⟩]; exact hy5) λ a b _ _ h => by rw [if_neg (by omega)]
       have hm3 := M3.rows
       have r4 := M3.cols q a2
       refine ⟨by omega, by omega, by omega, by omega, ?_⟩
       have v3 := M3.rep q p a2 a1
       rw [if_neg (by omega), if_neg (by omega), if_neg (by omega)] at v3
       refine (Hr v3 hc (sL q p) sc (by omega)).mono ?_
       rintro y6 hy6
       refine ⟨by omega, ?_⟩
       rw [Aw]
       refine ⟨⟨k + 1, by simp, by omega, ?_⟩, by simp; omega⟩
       have M4 : D2 (w3.set q ((w3.getD q []).set p y6)) n n (λ i j => if i = q /\ j = p then K2 g k q p - cond (am g k) else if i = p /\ j = q then K2 g k p q - cond (am g k) else if i = q /\ j = q then K2 g k q q + cond (am g k) else if i = p /\ j = p then K2 g k p p + cond (am g k) else K2 g k i j) :=
         M3.set a2 a1 (by rw [if_pos ⟨rfl, rfl⟩]; exact hy6) λ a b _ _ h => by rw [if_neg (by omega)]
       refine M4.congr λ a b _ _ => ?_
       rw [hstep]
       have hpq : p ≠ q := by omega
       unfold evE
       rw [hp, hq]
       exact Ap1 hpq (K2 g k) (cond (am g k)) a b
   · have : k = g.Arms.length := by omega
     subst this
     exact M
 · rintro o ho
   rw [Ac]
   exact ⟨yC, ho⟩
theorem Qy {g : Ah} {n : Nat} (G : GOk g n) {v : List Aj} (hv : v.length = n) {x : Nat -> Rat} (hx : ∀ i, i < n -> B3 (v.getD i Ba) (x i)) {s : Nat} (hs : s <= 400) (hs3 : 161 <= s) (hxs : ∀ i, i < n -> Sz (x i) s) :
   Ar (Is g v) λ o => ∃ (l : List Int) (p : Nat -> Rat), JOk g n l /\ o.length = n /\ (∀ i, i < n -> B3 (o.getD i Ba) (p i) /\ Sz (p i) 100000000000) /\ (∀ i, i < n -> rep l i -> p i = 0) /\ (∀ i, i < n -> ¬ rep l i -> sm n (λ j => lap g i j * p j) = x i) := by
 have hn := G.nodes
 have h12 := G.n12
 unfold Is
 refine (P5 G).bind ?_
 rintro m ⟨mC, mM⟩
 refine (Rj G).bind ?_
 rintro l J
 have hll := J.lok.len
 rw [Au]
 refine (Av (I := λ t : Int × List Aj × List (List Aj) => ∃ k : Nat, t.1 = (k : Int) /\ k <= n /\ t.2.1.length = n /\ (∀ i, i < n -> B3 (t.2.1.getD i Ba) (if i < k /\ rep l i then 0 else x i)) /\ D2 t.2.2 n n (λ i j => if i < k /\ rep l i then (if i = j then 1 else 0) else lap g i j))
   (μ := λ t : Int × List Aj × List (List Aj) => n - t.1.toNat) (Q := λ o : List Aj × List (List Aj) => o.1.length = n /\ (∀ i, i < n -> B3 (o.1.getD i Ba) (if rep l i then 0 else x i)) /\ D2 o.2 n n (λ i j => if rep l i then (if i = j then 1 else 0) else lap g i j))
   ⟨0, rfl, Nat.zero_le _, hv, λ i hi => by rw [if_neg (by omega)]; exact hx i hi, mM.congr λ a b _ _ => by rw [if_neg (by omega)]⟩ ?_).mono ?_
 · rintro ⟨i, w, u⟩ ⟨k, h1, h2, h3, h4, M⟩
   simp only at h1 h3 h4 M
   subst h1
   have hm := M.rows
   unfold Le Jb
   simp only [Ai, An, Au, Ac, decide_eq_true_eq, Aw, At, Ae, Int.toNat_natCast, hn, hll]
   refine ⟨λ h => ?_, λ h => ?_⟩
   · have hk : k < n := by omega
     rw [Bg (x := (k : Int) + 1) (by omega) (by omega)]
     refine ⟨by omega, λ he => ?_, λ hne => ?_⟩
     · have hr : rep l k := by unfold rep; omega
       refine (Yl (r := 1) (c := n) (by omega) (by omega)).mono ?_
       rintro y3 ⟨yC, yM⟩
       have y1 := yM.rows
       have y2 := yM.cols 0 (by omega)
       refine ⟨by omega, ?_⟩
       refine (E0 (n := 1) (by omega) (by omega)).mono ?_
       rintro y4 hy4
       have y2' : (y3.V.getD (0 : Int).toNat []).length = n := y2
       refine ⟨by omega, ?_⟩
       refine (E0 (n := 0) (by omega) (by omega)).mono ?_
       rintro y5 hy5
       have er : (List.set y3.V (0 : Int).toNat (List.set (List.getD y3.V (0 : Int).toNat []) k y4)).getD (0 : Int).toNat [] = (y3.V.getD 0 []).set k y4 := by
         rw [B0, if_pos ⟨rfl, by show 0 < y3.V.length; omega⟩]; rfl
       rw [er]
       refine ⟨by omega, by omega, ⟨k + 1, by simp, by omega, by simp [h3], λ i hi => ?_, ?_⟩, by omega⟩
       · rw [B0]
         by_cases hik : i = k
         · subst hik; rw [if_pos ⟨rfl, by omega⟩, if_pos ⟨by omega, hr⟩]; exact hy5
         · rw [if_neg (by omega)]
           by_cases hlt : i < k /\ rep l i
           · rw [if_pos ⟨by omega, hlt.2⟩]; have := h4 i hi; rw [if_pos hlt] at this; exact this
           · rw [if_neg (λ h => hlt ⟨by omega, h.2⟩)]; have := h4 i hi; rw [if_neg hlt] at this; exact this
       · refine M.setRow hk (by rw [List.length_set]; exact y2) (λ j hj => ?_) (λ a b _ _ hab => ?_)
         · rw [if_pos ⟨by omega, hr⟩, B0]
           by_cases hjk : k = j
           · subst hjk; rw [if_pos ⟨rfl, by omega⟩, if_pos rfl]; exact hy4
           · rw [if_neg (by omega), if_neg hjk]; exact yM.rep 0 j (by omega) hj
         · by_cases hlt : a < k /\ rep l a
           · rw [if_pos ⟨by omega, hlt.2⟩, if_pos hlt]
           · rw [if_neg (λ h => hlt ⟨by omega, h.2⟩), if_neg hlt]
     · have hr : ¬ rep l k := by unfold rep; omega
       refine ⟨⟨k + 1, by simp, by omega, h3, λ i hi => ?_, M.congr λ a b _ _ => ?_⟩, by omega⟩
       · by_cases hik : i = k
         · subst hik; rw [if_neg (λ h => hr h.2)]; have := h4 i hi; rw [if_neg (by omega)] at this; exact this
         · by_cases hlt : i < k /\ rep l i
           · rw [if_pos ⟨by omega, hlt.2⟩]; have := h4 i hi; rw [if_pos hlt] at this; exact this
           · rw [if_neg (λ h => hlt ⟨by omega, h.2⟩)]; have := h4 i hi; rw [if_neg hlt] at this; exact this
       · by_cases hak : a = k
         · subst hak; rw [if_neg (λ h => hr h.2), if_neg (by omega)]
         · by_cases hlt : a < k /\ rep l a
           · rw [if_pos ⟨by omega, hlt.2⟩, if_pos hlt]
           · rw [if_neg (λ h => hlt ⟨by omega, h.2⟩), if_neg hlt]
   · have : k = n := by omega
     subst this
     refine ⟨h3, λ i hi => ?_, M.congr λ a b ha _ => ?_⟩
     · have := h4 i hi
       by_cases hr : rep l i
       · rw [if_pos hr]; rw [if_pos ⟨hi, hr⟩] at this; exact this
       · rw [if_neg hr]; rw [if_neg (λ h => hr h.2)] at this; exact this
     · by_cases hr : rep l a
       · rw [if_pos hr, if_pos (show a < k /\ rep l a from ⟨ha, hr⟩)]
       · rw [if_neg hr, if_neg (show ¬ (a < k /\ rep l a) from λ h => hr h.2)]
 · rintro ⟨w, u⟩ ⟨w1, w2, M⟩
   simp only at w1 w2 M
   have e01 : ∀ i j : Nat, sm n (λ k => (if i = k then (1 : Rat) else 0) * (λ k => if j = k then (1 : Rat) else 0) k) = sm n (λ k => (if i = k then (1 : Rat) else 0) * (if j = k then (1 : Rat) else 0)) := λ _ _ => rfl
   have rowrep : ∀ (p : Nat -> Rat) (i : Nat), i < n -> rep l i -> sm n (λ j => (if rep l i then (if i = j then 1 else 0) else lap g i j) * p j) = p i := by
     intro p i hi hr
     rw [G6 (k := i) hi (λ j _ hne => by rw [if_pos hr, if_neg (Ne.symm hne)]; grind), if_pos hr, if_pos rfl]; grind
   have rownot : ∀ (p : Nat -> Rat) (i : Nat), ¬ rep l i -> sm n (λ j => (if rep l i then (if i = j then 1 else 0) else lap g i j) * p j) = sm n (λ j => lap g i j * p j) := λ p i hr => Bc λ j _ => by rw [if_neg hr]
   refine (Adh (m := ⟨m.C, u⟩) M mC h12 (g0 := s) (λ i j hi hj => ?_) (by omega) hs w1 w2 (λ i hi => ?_) (λ p hp => ?_)).bind ?_
   · show Sz (if rep l i then (if i = j then 1 else 0) else lap g i j) s
     split
     · split
       · exact (Nk 0).mono (by omega)
       · exact (G5 0).mono (by omega)
     · exact (Zf G i j _ (Nat.le_refl _)).mono (by have := G.arms; omega)
   · show Sz (if rep l i then 0 else x i) s
     split
     · exact (G5 0).mono (by omega)
     · exact hxs i hi
   · exact Ac7 G J p (λ i hi hr => by have := hp i hi; rw [rowrep p i hi hr] at this; exact this) (λ i hi hr => by have := hp i hi; rw [rownot p i hr] at this; exact this)
   · rintro o ⟨p, p1, p2, p3⟩
     rw [Ac]
     refine ⟨l, p, J, p1, p2, λ i hi hr => ?_, λ i hi hr => ?_⟩
     · have := p3 i hi; rw [rowrep p i hi hr, if_pos hr] at this; exact this
     · have := p3 i hi; rw [rownot p i hr, if_neg hr] at this; exact this
theorem JOk.iff {g : Ah} {n : Nat} {l : List Int} (J : JOk g n l) {a b : Nat} (ha : a < n) (hb : b < n) : l.getD a 0 = l.getD b 0 ↔ Eqv g a b := by
 constructor
 · intro h
   have h1 := J.lok.eqv a ha
   rw [h] at h1
   exact h1.trans (J.lok.eqv b hb).symm
 · intro h
   exact h (λ j => l.getD j 0) J.arm
theorem JOk.rep0 {g : Ah} {n : Nat} {l : List Int} (J : JOk g n l) (hn : 1 <= n) : rep l 0 := by
 have := J.lok.rng 0 hn
 unfold rep; omega
theorem A2l {g : Ah} {n : Nat} {l : List Int} (J : JOk g n l) {a b : Nat} (ha : a < n) (hb : b < n) (h : Eqv g a b) (k : Int) : sm n (λ i => (if l.getD i 0 = k then 1 else 0) * ev a b i) = 0 := by
 have e : sm n (λ i => (if l.getD i 0 = (k : Int) then 1 else 0) * ev a b i) = sm n (λ i => ev a b i * (if l.getD i 0 = (k : Int) then 1 else 0)) := Bc λ i _ => Rat.mul_comm _ _
 rw [e, V8 ha hb (λ i => if l.getD i 0 = (k : Int) then 1 else 0), (J.iff ha hb).2 h]
 grind
theorem Ox {n : Nat} (hn : n <= 1000) (g : Ah) (a b : Int) : Ar (Br (λ v : (Int × Int × List Aj) => G4 g a b v.1 v.2.1 v.2.2) ((n : Int), (0 : Int), List.replicate n QZ0)) λ o => o.length = n /\ ∀ i, i < n -> B3 (o.getD i Ba) 0 :=
 U3 (n := n) (v := List.replicate n QZ0) (by simp) hn (f := λ x y z => G4 g a b x y z) (λ i w Q hw hi hQ hE => by
   unfold G4
   simp only [Ai, Au, An, Ac, decide_eq_true_eq, Ae, Int.toNat_natCast]
   refine ⟨λ h => ?_, λ h => hE (by omega)⟩
   refine (E0 (n := 0) (by omega) (by omega)).mono ?_
   rintro q hq
   rw [Bg (by omega) (by omega)]
   exact ⟨by omega, hQ (by omega) q hq⟩)
theorem Lu {g : Ah} {n : Nat} (G : GOk g n) (a b : Int) : Ar (Fe g a b) λ r =>
   (¬ (0 <= a /\ a < (n : Int) /\ 0 <= b /\ b < (n : Int)) -> r = (⟨0, 0⟩, 1)) /\
   ∀ a' b' : Nat, a = (a' : Int) -> b = (b' : Int) -> a' < n -> b' < n -> (¬ Eqv g a' b' -> r = (⟨0, 0⟩, 4)) /\
     (Eqv g a' b' -> ∃ p : Nat -> Rat, p 0 = 0 /\ (∀ i, i < n -> sm n (λ j => lap g i j * p j) = ev a' b' i) /\ (r.2 = 0 ↔ Io (p a' - p b')) /\ (r.2 = 0 -> r.1 = ⟨(p a' - p b').num, (p a' - p b').den⟩) /\ (r.2 ≠ 0 -> r = (⟨0, 0⟩, 3))) := by
 have hn := G.nodes
 have h1 := G.n1
 have h12 := G.n12
 unfold Fe Fx
 refine (Ng g).bind ?_
 rintro e ⟨_, e2, _⟩
 have e0 : e = 0 := e2 ⟨n, G⟩
 subst e0
 rw [if_neg (by simp)]
 simp only [Ai, Ac, decide_eq_true_eq, hn]
 refine ⟨λ h => ⟨λ _ => trivial, λ a' b' ha hb => by omega⟩, λ g1 => ⟨λ h => ⟨λ _ => trivial, λ a' b' ha hb => by omega⟩, λ g2 => ⟨λ h => ⟨λ _ => trivial, λ a' b' ha hb => by omega⟩, λ g3 => ⟨λ h => ⟨λ _ => trivial, λ a' b' ha hb => by omega⟩, λ g4 => ?_⟩⟩⟩⟩
 obtain ⟨a, rfl⟩ : ∃ k : Nat, a = (k : Int) := ⟨a.toNat, by omega⟩
 obtain ⟨b, rfl⟩ : ∃ k : Nat, b = (k : Int) := ⟨b.toNat, by omega⟩
 have ha : a < n := by omega
 have hb : b < n := by omega
 refine (Rj G).bind ?_
 rintro l J
 have hll := J.lok.len
 simp only [An, Ai, Ac, Int.toNat_natCast, Ae, hll, Bool.not_eq_true', decide_eq_false_iff_not]
 refine ⟨by omega, by omega, λ hne => ⟨λ h => by omega, λ a' b' ea eb _ _ => ?_⟩, λ he => ?_⟩
 · have ea : a = a' := by omega
   have eb : b = b' := by omega
   subst ea eb
   exact ⟨λ _ => trivial, λ h => (hne ((J.iff ha hb).2 h)).elim⟩
 · have he : l.getD a 0 = l.getD b 0 := by omega
   have hE := (J.iff ha hb).1 he
   refine ⟨by omega, by omega, by unfold As; omega, ?_⟩
   rw [List.length_replicate]
   refine (Ox (n := n) (by omega) g (a : Int) (b : Int)).bind ?_
   rintro z ⟨z1, z2⟩
   rw [An]
   refine ⟨by omega, ?_⟩
   refine (E0 (n := 1) (by omega) (by omega)).bind ?_
   rintro y4 hy4
   refine (Gs (z2 a ha) hy4 (k := 1) (m := 1) (G5 0) (Nk 0) (by omega)).bind ?_
   rintro y5 hy5
   simp only [An, List.length_set, z1]
   refine ⟨by omega, by omega, ?_⟩
   refine (E0 (n := 1) (by omega) (by omega)).bind ?_
   rintro y6 hy6
   have hz : B3 ((z.set a y5).getD b Ba) (if b = a then 1 else 0) := by
     rw [B0]
     by_cases hba : b = a
     · rw [if_pos ⟨hba, by omega⟩, if_pos hba]
       have : (0 : Rat) + ((1 : Int) : Rat) = 1 := by grind
       rw [this] at hy5; exact hy5
     · rw [if_neg (by omega), if_neg hba]; exact z2 b hb
   have hzs : Sz (if b = a then (1 : Rat) else 0) 1 := by
     split
     · exact Nk 0
     · exact G5 0
   refine (Hr hz hy6 (k := 1) (m := 1) hzs (Nk 0) (by omega)).bind ?_
   rintro y7 hy7
   rw [An]
   refine ⟨by omega, ?_⟩
   have hv : ∀ i, i < n -> B3 (((z.set a y5).set b y7).getD i Ba) (ev a b i) := by
     intro i hi
     rw [B0, List.length_set]
     unfold ev
     by_cases hib : i = b
     · rw [if_pos ⟨hib, by omega⟩, if_pos hib, hib]; exact hy7
     · rw [if_neg (by omega), if_neg hib, B0]
       by_cases hia : i = a
       · rw [if_pos ⟨hia, by omega⟩, if_pos hia]
         have : (0 : Rat) + ((1 : Int) : Rat) = 1 - 0 := by grind
         rw [this] at hy5; exact hy5
       · rw [if_neg (by omega), if_neg hia]
         have : (0 : Rat) - 0 = 0 := by grind
         rw [this]; exact z2 i hi
   have hvs : ∀ i, i < n -> Sz (ev a b i) 161 := by
     intro i _
     rcases R7 a b i with h | h | h <;> rw [h]
     · exact (G5 0).mono (by omega)
     · exact (Nk 0).mono (by omega)
     · exact (Nk 0).neg.mono (by omega)
   refine (Qy G (by simp [z1]) hv (s := 161) (by omega) (by omega) hvs).bind ?_
   rintro o ⟨l', p, J', o1, o2, p1, p2⟩
   rw [An, An]
   refine ⟨by omega, by omega, ?_⟩
   have hp := Ad3 G J' p (ev a b) p2 (A2l J' ha hb hE)
   obtain ⟨qa, sa⟩ := o2 a ha
   obtain ⟨qb, sb⟩ := o2 b hb
   refine (Hr qa qb sa sb (by omega)).bind ?_
   rintro y9 hy9
   refine (Mz hy9).bind ?_
   rintro y10 ⟨t1, t2, t3⟩
   rw [Ac]
   refine ⟨λ h => by omega, λ a' b' ea eb _ _ => ?_⟩
   have ea : a = a' := by omega
   have eb : b = b' := by omega
   subst ea eb
   exact ⟨λ h => (h hE).elim, λ _ => ⟨p, p1 0 (by omega) (J'.rep0 h1), hp, t1, t2, t3⟩⟩
def tre (g : Ah) (n : Nat) : Rat := det (n - 1) λ i j => lap g (i + 1) (j + 1)
theorem Ac6 {g : Ah} {n : Nat} (G : GOk g n) : Ar (Mb g) λ r => (r.2 = 0 ↔ Io (tre g n)) /\ (r.2 = 0 -> r.1 = ⟨(tre g n).num, (tre g n).den⟩) := by
 have hn := G.nodes
 have h1 := G.n1
 have h12 := G.n12
 unfold Mb
 refine (Ng g).bind ?_
 rintro e ⟨_, e2, _⟩
 have e0 : e = 0 := e2 ⟨n, G⟩
 subst e0
 rw [if_neg (by simp)]
 refine (P5 G).bind ?_
 rintro m ⟨mC, mM⟩
 have hm := mM.rows
 simp only [An, Au]
 refine ⟨by omega, by omega, by omega, ?_⟩
 have hd : List.take (((m.V.length : Nat) : Int).toNat - (1 : Int).toNat) (List.drop (1 : Int).toNat m.V) = m.V.drop 1 := by
   show List.take (m.V.length - 1) (m.V.drop 1) = m.V.drop 1
   exact List.take_of_length_le (by simp)
 rw [hd]
 have hdl : (m.V.drop 1).length = n - 1 := by simp [hm]
 have hdg : ∀ i, i < n - 1 -> (m.V.drop 1).getD i [] = m.V.getD (i + 1) [] := by
   intro i _
   simp only [List.getD_eq_getElem?_getD, List.getElem?_drop, Nat.add_comm]
 rw [hdl]
 refine (Av (I := λ s : List (List Aj) × Int × Int × List (List Aj) => ∃ k : Nat, s.1 = m.V.drop 1 /\ s.2.1 = ((n - 1 : Nat) : Int) /\ s.2.2.1 = (k : Int) /\ k <= n - 1 /\ s.2.2.2.length = k /\ ∀ i, i < k -> s.2.2.2.getD i [] = (m.V.getD (i + 1) []).drop 1)
   (μ := λ s : List (List Aj) × Int × Int × List (List Aj) => n - 1 - s.2.2.1.toNat) (Q := λ o => o.length = n - 1 /\ ∀ i, i < n - 1 -> o.getD i [] = (m.V.getD (i + 1) []).drop 1)
   ⟨0, rfl, rfl, rfl, Nat.zero_le _, rfl, λ i hi => by omega⟩ ?_).mono ?_
 · rintro ⟨d, c, i, w⟩ ⟨k, g1, g2, g3, g4, g5, g6⟩
   simp only at g1 g2 g3 g5 g6
   subst g1 g2 g3
   unfold Mv
   simp only [Ai, An, Ac, decide_eq_true_eq, Aw, At, Ae, Int.toNat_natCast, hdl]
   refine ⟨λ h => ?_, λ h => ?_⟩
   · have hk : k < n - 1 := by omega
     rw [hdg k hk]
     have hc := mM.cols (k + 1) (by omega)
     have ht : List.take ((m.V.getD (k + 1) []).length - (1 : Int).toNat) (List.drop (1 : Int).toNat (m.V.getD (k + 1) [])) = (m.V.getD (k + 1) []).drop 1 := by
       show List.take ((m.V.getD (k + 1) []).length - 1) ((m.V.getD (k + 1) []).drop 1) = _
       exact List.take_of_length_le (by simp)
     rw [ht, Bg (by omega) (by omega)]
     refine ⟨by omega, by omega, by omega, by omega, by simp only [List.length_singleton]; unfold As; omega, ⟨k + 1, trivial, trivial, by simp, by omega, by simp [g5], λ i hi => ?_⟩, by omega⟩
     rw [Ie]
     by_cases hik : i = k
     · subst hik; rw [if_neg (by omega), if_pos (by omega)]
     · rw [if_pos (by omega)]; exact g6 i (by omega)
   · have : k = n - 1 := by omega
     subst this
     exact ⟨g5, g6⟩
 · rintro w ⟨w1, w2⟩
   have W : D2 w (n - 1) (n - 1) (λ i j => lap g (i + 1) (j + 1)) := by
     refine ⟨w1, λ i hi => ?_, λ i j hi hj => ?_⟩
     · rw [w2 i hi, List.length_drop, mM.cols (i + 1) (by omega)]
     · unfold mg
       rw [w2 i hi]
       have : ((m.V.getD (i + 1) []).drop 1).getD j Ba = (m.V.getD (i + 1) []).getD (j + 1) Ba := by
         simp only [List.getD_eq_getElem?_getD, List.getElem?_drop, Nat.add_comm]
       rw [this]
       exact mM.rep (i + 1) (j + 1) (by omega) (by omega)
   refine (Anq (m := ⟨IntKind.wrap .i64 (g.Nodes - (1 : Int)), w⟩) W (by show IntKind.wrap .i64 (g.Nodes - 1) = _; rw [hn, Bg (by omega) (by omega)]; omega) (by omega) (g0 := 161) (λ i j _ _ => (Zf G (i + 1) (j + 1) _ (Nat.le_refl _)).mono (by have := G.arms; omega)) (by omega) (by omega)).mono ?_
   rintro q ⟨hq, _⟩
   refine (Mz hq).mono ?_
   rintro r ⟨r1, r2, _⟩
   rw [Ac]
   exact ⟨r1, r2⟩
end Go.Ab
