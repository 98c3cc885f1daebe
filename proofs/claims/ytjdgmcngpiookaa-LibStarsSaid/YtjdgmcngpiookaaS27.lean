/- Networks of package lib: potentials and currents. Networks of package lib: the document's example, and the part of the trees that have an arm. Fractions of isoclineref01: quotients, nought, small ones; what is valid. The network without a node: what it is, told on fractions. lib.Star is the network without the node. Conditions: none beyond those that each theorem names. -/
import Derived.Test.YtjdgmcngpiookaaS26
namespace Go.Ab
open Go
set_option linter.unusedVariables false
set_option linter.unusedSimpArgs false
def drv (g : Ah) (e : Nat) : Rat := cond (am g e) * Gp (am g e).E
def flK (g : Ah) (k i : Nat) : Rat := sm k λ e => -(drv g e * evE g e i)
def cur (g : Ah) (p : Nat -> Rat) (e : Nat) : Rat := (p (nA g e) - p (nB g e) + Gp (am g e).E) * cond (am g e)
theorem Apx {g : Ah} {n : Nat} (G : GOk g n) {e : Nat} (he : e < g.Arms.length) : Sz (drv g e) 5 :=
 Sz.mono (Sz.mul (Ig (G.arm e he)) (Qh (G.arm e he).e)) (by omega)
theorem Af4 {g : Ah} {n : Nat} (G : GOk g n) (i : Nat) : ∀ k, k <= g.Arms.length -> Sz (flK g k i) (1 + 6 * k)
 | 0, _ => G5 0
 | k + 1, h => by
   have IH := Af4 G i k (by omega)
   have hd := Apx G (show k < g.Arms.length by omega)
   have ht : Sz (-(drv g k * evE g k i)) 5 := by
     unfold evE
     rcases R7 (nA g k) (nB g k) i with h1 | h1 | h1 <;> rw [h1]
     · have e : -(drv g k * 0) = 0 := by grind
       rw [e]; exact G5 4
     · have e : -(drv g k * 1) = -drv g k := by grind
       rw [e]; exact hd.neg
     · have e : -(drv g k * -1) = drv g k := by grind
       rw [e]; exact hd
   exact (IH.add ht).mono (show 1 + 6 * k + 5 + 1 <= 1 + 6 * (k + 1) by omega)
theorem A3h {g : Ah} {n : Nat} (G : GOk g n) {l : List Int} (J : JOk g n l) (k : Int) : sm n (λ i => (if l.getD i 0 = k then 1 else 0) * flK g g.Arms.length i) = 0 := by
 have e1 : sm n (λ i => (if l.getD i 0 = k then 1 else 0) * flK g g.Arms.length i) = sm n (λ i => sm g.Arms.length λ e => (if l.getD i 0 = k then 1 else 0) * -(drv g e * evE g e i)) := by
   refine Bc λ i _ => ?_
   unfold flK
   rw [<- Fl]
 rw [e1, Lm]
 refine Fv λ e he => ?_
 obtain ⟨a1, a2, _, _⟩ := G.ab he
 have := V8 a1 a2 (λ i => if l.getD i 0 = k then 1 else 0)
 have e2 : sm n (λ i => (if l.getD i 0 = k then 1 else 0) * -(drv g e * evE g e i)) = sm n (λ i => -(drv g e) * (ev (nA g e) (nB g e) i * (if l.getD i 0 = k then 1 else 0))) := Bc λ i _ => by unfold evE; grind
 rw [e2, Fl, this, J.arm e he]; grind
theorem Acx {g : Ah} {n : Nat} (G : GOk g n) {z : List Aj} (z1 : z.length = n) (z2 : ∀ i, i < n -> B3 (z.getD i Ba) 0) :
   Ar (Br (λ v : (Int × (List Aj)) => Md g v.1 v.2) ((0 : Int), z)) λ o => o.length = n /\ ∀ i, i < n -> B3 (o.getD i Ba) (flK g g.Arms.length i) := by
 have h40 := G.arms
 have h12 := G.n12
 refine Av (I := λ s : Int × List Aj => ∃ k : Nat, s.1 = (k : Int) /\ k <= g.Arms.length /\ s.2.length = n /\ ∀ i, i < n -> B3 (s.2.getD i Ba) (flK g k i)) (μ := λ s : Int × List Aj => g.Arms.length - s.1.toNat) ⟨0, rfl, Nat.zero_le _, z1, z2⟩ ?_
 rintro ⟨i, w⟩ ⟨k, h1, h2, h3, h4⟩
 simp only at h1 h3 h4
 subst h1
 unfold Md
 rw [Ai]
 simp only [decide_eq_true_eq, An, Ac, Ae, Int.toNat_natCast, At]
 refine ⟨λ h => ⟨by omega, ?_⟩, λ h => ?_⟩
 · have hk : k < g.Arms.length := by omega
   obtain ⟨a1, a2, a3, a4⟩ := G.ab hk
   have eA : (List.getD g.Arms k Aa).A = (nA g k : Int) := a3
   have eB : (List.getD g.Arms k Aa).B = (nB g k : Int) := a4
   have arm := G.arm k hk
   refine (Ja (n := n) (a := am g k) arm).bind ?_
   rintro c hc
   refine (Vl arm.e).bind ?_
   rintro e he
   refine (Ko hc he (Ig arm) (Qh arm.e) (by omega)).bind ?_
   rintro t ht
   have ht : B3 t (drv g k) := ht
   have hd := Apx G hk
   rw [eA, eB]
   generalize hp : nA g k = p at a1 eA ⊢
   generalize hq : nB g k = q at a2 eB ⊢
   simp only [An, Int.toNat_natCast, List.length_set, h3]
   refine ⟨by omega, ?_⟩
   have sF : ∀ i, Sz (flK g k i) 241 := λ i => (Af4 G i k (by omega)).mono (by omega)
   refine (Hr (h4 p a1) ht (sF p) hd (by omega)).bind ?_
   rintro y5 hy5
   simp only [An]
   refine ⟨by omega, by omega, ?_⟩
   have v1 : B3 ((w.set p y5).getD q Ba) (if q = p then flK g k p - drv g k else flK g k q) := by
     rw [B0]
     by_cases hqp : q = p
     · rw [if_pos ⟨hqp, by omega⟩, if_pos hqp]; exact hy5
     · rw [if_neg (by omega), if_neg hqp]; exact h4 q a2
   have s1 : Sz (if q = p then flK g k p - drv g k else flK g k q) 250 := by
     split
     · exact ((sF p).sub hd).mono (by omega)
     · exact (sF q).mono (by omega)
   refine (Gs v1 ht s1 hd (by omega)).bind ?_
   rintro y6 hy6
   rw [An, Ac, Aw, Bg (by omega) (by omega)]
   refine ⟨by omega, ⟨k + 1, by simp, by omega, by simp [h3], λ i hi => ?_⟩, by simp; omega⟩
   show B3 (((w.set p y5).set q y6).getD i Ba) (flK g (k + 1) i)
   have hstep : flK g (k + 1) i = flK g k i + -(drv g k * evE g k i) := rfl
   rw [hstep, B0, List.length_set]
   unfold evE ev
   rw [hp, hq]
   by_cases hiq : i = q
   · rw [if_pos ⟨hiq, by omega⟩]
     by_cases hqp : q = p
     · rw [if_pos hqp] at hy6
       rw [if_pos (hiq.trans hqp), if_pos hiq]
       have : flK g k i + -(drv g k * (1 - 1)) = flK g k p - drv g k + drv g k := by rw [hiq, hqp]; grind
       rw [this]; exact hy6
     · rw [if_neg hqp] at hy6
       rw [if_neg (by omega), if_pos hiq]
       have : flK g k i + -(drv g k * (0 - 1)) = flK g k q + drv g k := by rw [hiq]; grind
       rw [this]; exact hy6
   · rw [if_neg (by omega), if_neg hiq, B0]
     by_cases hip : i = p
     · rw [if_pos ⟨hip, by omega⟩, if_pos hip]
       have : flK g k i + -(drv g k * (1 - 0)) = flK g k p - drv g k := by rw [hip]; grind
       rw [this]; exact hy5
     · rw [if_neg (by omega), if_neg hip]
       have : flK g k i + -(drv g k * (0 - 0)) = flK g k i := by grind
       rw [this]; exact h4 i hi
 · have : k = g.Arms.length := by omega
   subst this
   exact ⟨h3, h4⟩
theorem Af9 {g : Ah} {n : Nat} (G : GOk g n) : Ar (Pg g) λ o => ∃ (l : List Int) (p : Nat -> Rat), JOk g n l /\ (∀ i, i < n -> rep l i -> p i = 0) /\ (∀ i, i < n -> sm n (λ j => lap g i j * p j) = flK g g.Arms.length i) /\
   o.1.length = n /\ (∀ i, i < n -> B3 (o.1.getD i Ba) (p i)) /\ o.2.length = g.Arms.length /\ ∀ e, e < g.Arms.length -> B3 (o.2.getD e Ba) (cur g p e) := by
 have hn := G.nodes
 have h1 := G.n1
 have h12 := G.n12
 have h40 := G.arms
 unfold Pg
 simp only [An, hn, Int.toNat_natCast]
 refine ⟨by omega, by omega, by unfold As; omega, ?_⟩
 rw [List.length_replicate]
 refine Ar.bind (Ox (n := n) (by omega) g 0 0) ?_
 rintro z ⟨z1, z2⟩
 refine (Acx G z1 z2).bind ?_
 rintro v ⟨v1, v2⟩
 refine (Qy G v1 v2 (s := 241) (by omega) (by omega) (λ i _ => (Af4 G i _ (Nat.le_refl _)).mono (by omega))).bind ?_
 rintro o ⟨l, p, J, o1, o2, p1, p2⟩
 have hp := Ad3 G J p _ p2 (A3h G J)
 refine Ar.bind (R := λ r => r.length = g.Arms.length /\ ∀ e, e < g.Arms.length -> B3 (r.getD e Ba) (cur g p e)) (Av (I := λ s : Int × List Aj => ∃ k : Nat, s.1 = (k : Int) /\ k <= g.Arms.length /\ s.2.length = k /\ ∀ e, e < k -> B3 (s.2.getD e Ba) (cur g p e)) (μ := λ s : Int × List Aj => g.Arms.length - s.1.toNat) ⟨0, rfl, Nat.zero_le _, rfl, λ e he => by omega⟩ ?_) ?_
 · rintro ⟨i, w⟩ ⟨k, g1, g2, g3, g4⟩
   simp only at g1 g3 g4
   subst g1
   unfold Ps
   rw [Ai]
   simp only [decide_eq_true_eq, An, Ac, Ae, Int.toNat_natCast, At]
   refine ⟨λ h => ?_, λ h => ?_⟩
   · have hk : k < g.Arms.length := by omega
     obtain ⟨a1, a2, a3, a4⟩ := G.ab hk
     have eA : (List.getD g.Arms k Aa).A = (nA g k : Int) := a3
     have eB : (List.getD g.Arms k Aa).B = (nB g k : Int) := a4
     have arm := G.arm k hk
     rw [eA, eB]
     refine ⟨by omega, by omega, by omega, ?_⟩
     simp only [Int.toNat_natCast]
     obtain ⟨qa, sa⟩ := o2 _ a1
     obtain ⟨qb, sb⟩ := o2 _ a2
     refine (Hr qa qb sa sb (by omega)).bind ?_
     rintro y8 hy8
     refine (Vl arm.e).bind ?_
     rintro y9 hy9
     have s8 := sa.sub sb
     refine (Gs hy8 hy9 s8 (Qh arm.e) (by omega)).bind ?_
     rintro y10 hy10
     have s10 := s8.add (Qh arm.e)
     refine Ar.bind (R := λ c => B3 c (cond (am g k))) (by
       have := Ja (n := n) (a := am g k) arm
       have e : (⟨(nA g k : Int), (nB g k : Int), (List.getD g.Arms k Aa).R, (List.getD g.Arms k Aa).E⟩ : Aq) = am g k := by rw [<- a3, <- a4]; rfl
       rw [e]; exact this) ?_
     rintro y11 hy11
     refine (Ko hy10 hy11 s10 (Ig arm) (by omega)).bind ?_
     rintro y12 hy12
     rw [An, Ac, Aw, Bg (by omega) (by omega)]
     refine ⟨by simp only [List.length_singleton]; unfold As; omega, ⟨k + 1, by simp, by omega, by simp [g3], λ e he => ?_⟩, by simp; omega⟩
     show B3 ((w ++ [y12]).getD e Ba) (cur g p e)
     rw [Ie]
     by_cases hek : e = k
     · subst hek; rw [if_neg (by omega), if_pos (by omega)]; exact hy12
     · rw [if_pos (by omega)]; exact g4 e (by omega)
   · have : k = g.Arms.length := by omega
     subst this
     exact ⟨g3, g4⟩
 · rintro r ⟨r1, r2⟩
   rw [Ac]
   exact ⟨l, p, J, p1, hp, o1, λ i hi => (o2 i hi).1, r1, r2⟩
theorem U8 {v : List Aj} {m : Nat} (hv : v.length = m) (hm : m <= 1000) {x : Nat -> Rat} (hx : ∀ i, i < m -> B3 (v.getD i Ba) (x i)) :
   Ar (Nb v) λ r => (r.2 = true ↔ ∀ i, i < m -> Io (x i)) /\ (r.2 = true -> r.1.length = m /\ ∀ i, i < m -> r.1.getD i C0 = ⟨(x i).num, (x i).den⟩) /\ (r.2 = false -> r.1 = []) := by
 unfold Nb
 simp only [An]
 refine ⟨by omega, by omega, by unfold As; omega, ?_⟩
 refine Ar.bind (R := λ r : List A7 ⊕ (List A7 × Bool) => match r with
   | .inl w => w.length = m /\ ∀ i, i < m -> Io (x i) /\ w.getD i C0 = ⟨(x i).num, (x i).den⟩
   | .inr e => e = ([], false) /\ ¬ ∀ i, i < m -> Io (x i))
   (Av (I := λ s : Int × List A7 => ∃ k : Nat, s.1 = (k : Int) /\ k <= m /\ s.2.length = m /\ ∀ i, i < k -> Io (x i) /\ s.2.getD i C0 = ⟨(x i).num, (x i).den⟩) (μ := λ s : Int × List A7 => m - s.1.toNat) ⟨0, rfl, Nat.zero_le _, by simp [hv], λ i hi => by omega⟩ ?_) ?_
 · rintro ⟨i, w⟩ ⟨k, g1, g2, g3, g4⟩
   simp only at g1 g3 g4
   subst g1
   unfold Pk
   rw [Ai]
   simp only [decide_eq_true_eq, An, Ac, Ae, Int.toNat_natCast, At, hv]
   refine ⟨λ h => ⟨by omega, ?_⟩, λ h => ?_⟩
   · have hk : k < m := by omega
     refine (X9 (hx k hk)).bind ?_
     rintro ⟨a, b⟩ ⟨t1, t2⟩
     simp only at t1 t2
     simp only [Ai, An, Ac, Bool.not_eq_true', At, Aw, g3]
     refine ⟨λ hb => ⟨trivial, λ hall => ?_⟩, λ hb => ?_⟩
     · rw [t1.2 (hall k hk)] at hb; cases hb
     · have hb : b = true := by simpa using hb
       rw [Bg (by omega) (by omega)]
       refine ⟨by omega, ⟨k + 1, by simp, by omega, by simp [g3], λ i hi => ?_⟩, by simp; omega⟩
       show Io (x i) /\ (w.set k a).getD i C0 = _
       rw [B0]
       by_cases hik : i = k
       · subst hik; rw [if_pos ⟨rfl, by omega⟩]; exact ⟨t1.1 hb, t2 hb⟩
       · rw [if_neg (by omega)]; exact g4 i (by omega)
   · have : k = m := by omega
     subst this
     exact ⟨g3, g4⟩
 · rintro r hr
   cases r with
   | inl w =>
     rw [Ac]
     exact ⟨⟨λ _ i hi => (hr.2 i hi).1, λ _ => rfl⟩, λ _ => ⟨hr.1, λ i hi => (hr.2 i hi).2⟩, λ h => by cases h⟩
   | inr e =>
     rw [Ac]
     obtain ⟨rfl, h2⟩ := hr
     exact ⟨⟨λ h => (by cases h), λ h => (h2 h).elim⟩, λ h => (by cases h), λ _ => rfl⟩
def Aof (g : Ah) (n : Nat) (p : Nat -> Rat) : Prop := (∀ i, i < n -> Io (p i)) /\ ∀ e, e < g.Arms.length -> Io (cur g p e)
theorem So {g : Ah} {n : Nat} (G : GOk g n) : Ar (Ge g) λ r => ∃ (l : List Int) (p : Nat -> Rat), JOk g n l /\ (∀ i, i < n -> rep l i -> p i = 0) /\ (∀ i, i < n -> sm n (λ j => lap g i j * p j) = flK g g.Arms.length i) /\
   (¬ Aof g n p -> r = ([], [], 3)) /\ (Aof g n p -> r.2.2 = 0 /\ r.1.length = n /\ (∀ i, i < n -> r.1.getD i C0 = ⟨(p i).num, (p i).den⟩) /\ r.2.1.length = g.Arms.length /\ ∀ e, e < g.Arms.length -> r.2.1.getD e C0 = ⟨(cur g p e).num, (cur g p e).den⟩) := by
 have h12 := G.n12
 have h40 := G.arms
 unfold Ge F3
 refine (Ng g).bind ?_
 rintro e ⟨_, e2, _⟩
 have e0 : e = 0 := e2 ⟨n, G⟩
 subst e0
 rw [if_neg (by simp)]
 refine (Af9 G).bind ?_
 rintro o ⟨l, p, J, p1, p2, o1, o2, c1, c2⟩
 refine (U8 o1 (by omega) o2).bind ?_
 rintro ⟨ra, ba⟩ ⟨a1, a2, a3⟩
 refine (U8 c1 (by omega) c2).bind ?_
 rintro ⟨rb, bb⟩ ⟨b1, b2, b3⟩
 simp only at a1 a2 a3 b1 b2 b3
 simp only [Ai, Ac, Bool.not_eq_true']
 refine ⟨λ h => ⟨l, p, J, p1, p2, λ _ => trivial, λ hp => ?_⟩, λ ha => ⟨λ h => ⟨l, p, J, p1, p2, λ _ => trivial, λ hp => ?_⟩, λ hb => ?_⟩⟩
 · rw [a1.2 hp.1] at h; cases h
 · rw [b1.2 hp.2] at h; cases h
 · have ha : ba = true := by simpa using ha
   have hb : bb = true := by simpa using hb
   refine ⟨l, p, J, p1, p2, λ hp => (hp ⟨a1.1 ha, b1.1 hb⟩).elim, λ _ => ⟨trivial, (a2 ha).1, (a2 ha).2, (b2 hb).1, (b2 hb).2⟩⟩
theorem Ajk {α : Type} (d : α) {a b : List α} (hl : a.length = b.length) (h : ∀ i, i < a.length -> a.getD i d = b.getD i d) : a = b := by
 refine List.ext_getElem hl λ i h1 h2 => ?_
 have := h i h1
 simp only [List.getD_eq_getElem?_getD, List.getElem?_eq_getElem h1, List.getElem?_eq_getElem h2, Option.getD_some] at this
 exact this
theorem Ahd {a b : List A7} (ha : a.length <= 1000) : Ar (Ed a b) λ r => r = true ↔ a = b := by
 unfold Ed
 refine Ar.bind (R := λ r : Unit ⊕ Bool => match r with
   | .inl _ => ∀ i, i < a.length -> i < b.length -> a.getD i C0 = b.getD i C0
   | .inr e => e = false /\ a ≠ b)
   (Av (I := λ v : Int => ∃ k : Nat, v = (k : Int) /\ k <= a.length /\ k <= b.length /\ ∀ i, i < k -> a.getD i C0 = b.getD i C0) (μ := λ v : Int => a.length - v.toNat) ⟨0, rfl, Nat.zero_le _, Nat.zero_le _, λ i hi => by omega⟩ ?_) ?_
 · rintro v ⟨k, rfl, g1, g2, g3⟩
   unfold Fg
   simp only [Ai, An, Ac, decide_eq_true_eq, At, Aw, Ae, Int.toNat_natCast]
   refine ⟨λ h => ⟨λ h' => ⟨by omega, by omega, λ hne => ⟨trivial, λ he => ?_⟩, λ heq => ?_⟩, λ h' i h1 h2 => g3 i (by omega)⟩, λ h i h1 h2 => g3 i (by omega)⟩
   · subst he
     simp at hne
   · rw [Bg (by omega) (by omega)]
     refine ⟨⟨k + 1, by simp, by omega, by omega, λ i hi => ?_⟩, by omega⟩
     by_cases hik : i = k
     · subst hik
       have heq : (a.getD i C0).N = (b.getD i C0).N /\ (a.getD i C0).D = (b.getD i C0).D := by simpa using heq
       cases hx : a.getD i C0
       cases hy : b.getD i C0
       rw [hx, hy] at heq
       simp only at heq
       rw [heq.1, heq.2]
     · exact g3 i (by omega)
 · intro r hr
   cases r with
   | inl u =>
     rw [Ac, decide_eq_true_eq]
     constructor
     · intro hl
       exact Ajk C0 (by omega) λ i hi => hr i hi (by omega)
     · rintro rfl; rfl
   | inr e =>
     rw [Ac]
     obtain ⟨rfl, h2⟩ := hr
     exact ⟨λ h => (by cases h), λ h => (h2 h).elim⟩
def gX : Ah := ⟨3, [⟨0, 1, ⟨1, 1⟩, ⟨3, 1⟩⟩, ⟨1, 2, ⟨1, 1⟩, ⟨0, 1⟩⟩, ⟨2, 0, ⟨1, 1⟩, ⟨0, 1⟩⟩]⟩
theorem Nn {k : Int} (h1 : -1000000000000 <= k) (h2 : k <= 1000000000000) : ROk ⟨k, 1⟩ :=
 ⟨⟨h1, h2, by show (0 : Int) < 1; omega, by show (1 : Int) <= 1000000000000; omega⟩, by show Int.gcd k 1 = 1; simp⟩
theorem Arn : GOk gX 3 := by
 refine ⟨rfl, by omega, by omega, by show 3 <= 40; omega, λ e he => ?_⟩
 have he : e < 3 := he
 have : e = 0 \/ e = 1 \/ e = 2 := by omega
 rcases this with rfl | rfl | rfl
 · exact ⟨by decide, by decide, by decide, by decide, Nn (by omega) (by omega), by decide, Nn (by omega) (by omega)⟩
 · exact ⟨by decide, by decide, by decide, by decide, Nn (by omega) (by omega), by decide, Nn (by omega) (by omega)⟩
 · exact ⟨by decide, by decide, by decide, by decide, Nn (by omega) (by omega), by decide, Nn (by omega) (by omega)⟩
theorem A37 : lap gX 0 0 = 2 /\ lap gX 0 1 = -1 /\ lap gX 0 2 = -1 /\ lap gX 1 0 = -1 /\ lap gX 1 1 = 2 /\ lap gX 1 2 = -1 /\ lap gX 2 0 = -1 /\ lap gX 2 1 = -1 /\ lap gX 2 2 = 2 := by
 decide +kernel
theorem A7d : flK gX 3 0 = -3 /\ flK gX 3 1 = 3 /\ flK gX 3 2 = 0 := by
 decide +kernel
theorem A16 : tre gX 3 = 3 := by
 decide +kernel
theorem A26 (p : Nat -> Rat) : cur gX p 0 = p 0 - p 1 + 3 /\ cur gX p 1 = p 1 - p 2 /\ cur gX p 2 = p 2 - p 0 := by
 have e0 : nA gX 0 = 0 /\ nB gX 0 = 1 /\ nA gX 1 = 1 /\ nB gX 1 = 2 /\ nA gX 2 = 2 /\ nB gX 2 = 0 := by decide
 have e1 : cond (am gX 0) = 1 /\ cond (am gX 1) = 1 /\ cond (am gX 2) = 1 := by decide +kernel
 have e2 : Gp (am gX 0).E = 3 /\ Gp (am gX 1).E = 0 /\ Gp (am gX 2).E = 0 := by decide +kernel
 obtain ⟨a1, a2, a3, a4, a5, a6⟩ := e0
 obtain ⟨b1, b2, b3⟩ := e1
 obtain ⟨c1, c2, c3⟩ := e2
 unfold cur
 rw [a1, a2, a3, a4, a5, a6, b1, b2, b3, c1, c2, c3]
 refine ⟨?_, ?_, ?_⟩ <;> grind
theorem Acj (f : Nat -> Rat) : sm 3 f = f 0 + f 1 + f 2 := by
 show 0 + f 0 + f 1 + f 2 = _
 grind
theorem Oz : Ar Cq λ b => b = true := by
 obtain ⟨l00, l01, l02, l10, l11, l12, l20, l21, l22⟩ := A37
 obtain ⟨f0, f1, f2⟩ := A7d
 unfold Cq Bi
 simp only [Au, Ac]
 refine (So Arn).mono ?_
 rintro ⟨pa, pc, pe⟩ ⟨l, p, J, p1, p2, k1, k2⟩
 have hr0 := p1 0 (by omega) (J.rep0 (by omega))
 have q0 := p2 0 (by omega)
 have q1 := p2 1 (by omega)
 have q2 := p2 2 (by omega)
 rw [Acj] at q0 q1 q2
 have f0 : flK gX gX.Arms.length 0 = -3 := f0
 have f1 : flK gX gX.Arms.length 1 = 3 := f1
 have f2 : flK gX gX.Arms.length 2 = 0 := f2
 rw [l00, l01, l02, f0] at q0
 rw [l10, l11, l12, f1] at q1
 rw [l20, l21, l22, f2] at q2
 have v1 : p 1 = 2 := by grind
 have v2 : p 2 = 1 := by grind
 obtain ⟨c0, c1, c2⟩ := A26 p
 have c0 : cur gX p 0 = 1 := by rw [c0, hr0, v1]; grind
 have c1 : cur gX p 1 = 1 := by rw [c1, v1, v2]; grind
 have c2 : cur gX p 2 = 1 := by rw [c2, v2, hr0]; grind
 have P : Aof gX 3 p := by
   refine ⟨λ i hi => ?_, λ e he => ?_⟩
   · have : i = 0 \/ i = 1 \/ i = 2 := by omega
     rcases this with rfl | rfl | rfl
     · rw [hr0]; unfold Io; decide
     · rw [v1]; unfold Io; decide
     · rw [v2]; unfold Io; decide
   · have he : e < 3 := he
     have : e = 0 \/ e = 1 \/ e = 2 := by omega
     rcases this with rfl | rfl | rfl
     · rw [c0]; unfold Io; decide
     · rw [c1]; unfold Io; decide
     · rw [c2]; unfold Io; decide
 obtain ⟨k3, _, _, k4, k5⟩ := k2 P
 simp only at k3 k4 k5
 have k4 : pc.length = 3 := k4
 have hpc : pc = [⟨1, 1⟩, ⟨1, 1⟩, ⟨1, 1⟩] := by
   refine Ajk C0 (by rw [k4]; rfl) λ i hi => ?_
   rw [k4] at hi
   rw [k5 i (by show i < 3; exact hi)]
   have : i = 0 \/ i = 1 \/ i = 2 := by omega
   rcases this with rfl | rfl | rfl
   · rw [c0]; rfl
   · rw [c1]; rfl
   · rw [c2]; rfl
 refine (Ac6 Arn).mono ?_
 rintro ⟨t, f⟩ ⟨t1, t2⟩
 rw [A16] at t1 t2
 simp only at t1 t2
 have tf : f = 0 := t1.2 (by unfold Io; decide)
 have tt := t2 tf
 have tt : t = ⟨3, 1⟩ := by rw [tt]; rfl
 refine (Lu Arn 0 1).mono ?_
 rintro ⟨x, h⟩ ⟨_, b2⟩
 obtain ⟨_, b4⟩ := b2 0 1 rfl rfl (by omega) (by omega)
 obtain ⟨r, r0, r1, r2, r3, _⟩ := b4 (by
   intro f hf
   exact hf 0 (by show 0 < 3; omega))
 have s0 := r1 0 (by omega)
 have s1 := r1 1 (by omega)
 have s2 := r1 2 (by omega)
 rw [Acj] at s0 s1 s2
 have e0 : ev 0 1 0 = 1 := by decide +kernel
 have e1 : ev 0 1 1 = -1 := by decide +kernel
 have e2 : ev 0 1 2 = 0 := by decide +kernel
 rw [l00, l01, l02, e0] at s0
 rw [l10, l11, l12, e1] at s1
 rw [l20, l21, l22, e2] at s2
 have hx : r 0 - r 1 = 2 / 3 := by
   have : (3 : Rat) * (r 0 - r 1) = 2 := by grind
   grind
 have en : ((2 : Rat) / 3).num = 2 := by decide +kernel
 have ed : ((2 : Rat) / 3).den = 3 := by decide +kernel
 rw [hx] at r2 r3
 simp only at r2 r3
 have hh : h = 0 := r2.2 (by unfold Io; rw [en, ed]; decide)
 have xx := r3 hh
 rw [en, ed] at xx
 rw [hpc]
 refine (Ahd (by simp)).mono ?_
 rintro y hy
 have hy : y = true := hy.2 rfl
 subst hy tf hh k3
 rw [tt, xx]
 simp [Ac]
def skp (k e : Nat) : Nat := if e < k then e else e + 1
def lss (g : Ah) (k : Nat) : Ah := ⟨g.Nodes, g.Arms.take k ++ g.Arms.drop (k + 1)⟩
theorem Am5 : Ar C8 λ w => WOk w /\ B2 w = 1 := by
 unfold C8
 rw [Ac]
 refine ⟨⟨λ i => ?_, λ _ => by simp, λ h => (by cases h)⟩, ?_⟩
 · cases i <;> simp
 · unfold B2 sgn; simp [Iy]
theorem Afb {n : Int} (h1 : -9223372036854775808 <= n) (h2 : n < 9223372036854775808) : Ar (Ey n) λ q => Fo q (n : Rat) := by
 unfold Ey
 refine (Oc h1 h2).bind ?_
 rintro a ⟨a1, a2⟩
 refine Am5.bind ?_
 rintro b ⟨b1, b2⟩
 rw [Ac]
 exact Fo.of a1 b1 (by rw [a2]; rfl) (by rw [b2]; rfl)
theorem Wa {a b : Ag} {x y : Rat} (ha : Fo a x) (hb : Fo b y) {k m : Nat} (sx : Sz x k) (sy : Sz y m) (hkm : k + m + 1 <= 1099511627776) (h0 : y ≠ 0) : Ar (Di a b) λ c => Fo c (x / y) := by
 have lxN := ha.ltN sx; have lyN := hb.ltN sy
 obtain ⟨a1, a2, a3, a4⟩ := sx.pos
 obtain ⟨b1, b2, b3, b4⟩ := sy.pos
 unfold Di
 refine (Il hb).bind ?_
 rintro e ⟨e1, e2, e3⟩
 refine (Hu ha.okN e1 (K := k + m) (by omega) (lxN.mono (by omega)) ((O4 e2 sy).mono (by omega))).bind ?_
 rintro p ⟨p1, p2⟩
 refine (Il ha).bind ?_
 rintro d ⟨d1, d2, d3⟩
 refine (Hu d1 hb.okN (K := k + m) (by omega) ((O4 d2 sx).mono (by omega)) (lyN.mono (by omega))).bind ?_
 rintro q ⟨q1, q2⟩
 rw [ha.num, e2] at p2
 rw [d2, hb.num] at q2
 have hyn : y.num ≠ 0 := λ h => h0 (Rat.num_eq_zero.1 h)
 have hxd : (x.den : Int) ≠ 0 := by omega
 refine (Lj p1 q1 (K := k + m) (by omega) (by unfold WLt; rw [p2]; exact Cv a1 a2 (by omega) b4) (by unfold WLt; rw [q2]; exact Cv (by omega) a4 b1 b2) (by rw [q2]; exact Int.mul_ne_zero hxd hyn)).bind ?_
 rintro c hc
 rw [Ac, Qv, <- p2, <- q2]
 exact hc
theorem Af0 {a : Ag} {x : Rat} (ha : Fo a x) {k : Nat} (sx : Sz x k) (hk : k <= 1099511627774) (h0 : x ≠ 0) : Ar (Dh a) λ c => Fo c (1 / x) := by
 unfold Dh
 refine (Afb (n := 1) (by omega) (by omega)).bind ?_
 rintro o ho
 refine (Wa ho ha (k := 1) (m := k) (Nk 0) sx (by omega) h0).bind ?_
 rintro c hc
 rw [Ac]; exact hc
theorem Tp {a : Ag} {x : Rat} (ha : Fo a x) : Ar (Cm a) λ b => b = true ↔ x = 0 := by
 unfold Cm Bp
 simp only [Au, Ac, decide_eq_true_eq]
 have h1 := ha.num
 have h2 := Aew ha.okN.ww ha.okN.top
 rw [<- Rat.num_eq_zero, <- h1]
 unfold B2 sgn
 have hl : a.n.d.length = 0 ↔ a.n.d = [] := List.length_eq_zero_iff
 constructor
 · intro h
   have : a.n.d = [] := hl.1 (by omega)
   rw [this]; split <;> rfl
 · intro h
   have : val a.n.d = 0 := by split at h <;> omega
   have := hl.2 (h2.1 this)
   omega
theorem Sd {w : Af} (h : WOk w) : Ar (B6 w) λ r => (r.2 = true -> r.1 = B2 w) /\ (-9223372036854775808 <= B2 w -> B2 w < 9223372036854775808 -> r.2 = true) := by
 have hp := λ hm => h.pos hm
 have hb := h.ww.val
 unfold B6
 rw [Ai]
 refine ⟨λ hl => ?_, λ hl => ?_⟩
 · simp only [decide_eq_true_eq] at hl
   have hne : w.d ≠ [] := by rintro e; rw [e] at hl; simp at hl
   have h1 := Ls h.ww h.top hne
   have h2 : (4294967296 : Int) ^ 2 <= 4294967296 ^ (w.d.length - 1) := Ef (by omega)
   rw [Ac]
   refine ⟨λ h => (by cases h), λ h3 h4 => ?_⟩
   unfold B2 sgn at h3 h4
   by_cases hm : w.minus = true
   · rw [if_pos hm] at h3 h4; omega
   · rw [if_neg hm] at h3 h4; omega
 · simp only [decide_eq_true_eq] at hl
   have hw := h.ww
   refine Ar.bind (R := λ r => r = val w.d) (Av (I := λ s : Int × Int => ∃ k : Nat, s.2 = (k : Int) /\ k <= w.d.length /\ s.1 = vl (λ i => w.d.getD i 0) k) (μ := λ s : Int × Int => w.d.length - s.2.toNat) ⟨0, rfl, Nat.zero_le _, rfl⟩ ?_) ?_
   · rintro ⟨u, i⟩ ⟨k, h1, h2, h3⟩
     simp only at h1 h3
     subst h1
     unfold Dx
     simp only [Ai, An, Ac, decide_eq_true_eq, Aw, At, Ae, Int.toNat_natCast]
     refine ⟨λ hk => ⟨by omega, by rw [w64]; omega, ?_⟩, λ hk => ?_⟩
     · have hk01 : k = 0 \/ k = 1 := by omega
       have wk := hw k
       refine ⟨⟨k + 1, by rw [Bg (by omega) (by omega)]; simp, by omega, ?_⟩, by rw [Bg (by omega) (by omega)]; omega⟩
       rw [vl]
       simp only [w64]
       generalize hx : w.d.getD k 0 = x at wk ⊢
       rcases hk01 with rfl | rfl
       · have e : ((2 : Int) ^ (min ((32 : Int) * (((0 : Nat) : Int) % 18446744073709551616) % 18446744073709551616).toNat (IntKind.bits .u64))) = 1 := by decide
         rw [e]
         have h3 : u = 0 := h3
         subst h3
         have := M5 (n := IntKind.bits .u64) (k := 32) (a := 0) (b := x % 18446744073709551616 * 1 % 18446744073709551616) (by omega) (by omega) (by omega) (by simp only [IntKind.bits]; omega) (by omega)
         rw [this]
         have h0 : vl (λ i => w.d.getD i 0) 0 = 0 := rfl
         rw [h0]; omega
       · have e : ((2 : Int) ^ (min ((32 : Int) * (((1 : Nat) : Int) % 18446744073709551616) % 18446744073709551616).toNat (IntKind.bits .u64))) = 4294967296 := by decide
         rw [e]
         have w0 := hw 0
         have h4 : u = w.d.getD 0 0 := by rw [h3]; simp [vl]
         rw [<- h3]
         generalize w.d.getD 0 0 = y at w0 h4
         subst h4
         have := M5 (n := IntKind.bits .u64) (k := 32) (a := x % 18446744073709551616 * 4294967296 % 18446744073709551616) (b := u) (by omega) (by omega) (by omega) (by simp only [IntKind.bits]; omega) (by omega)
         rw [BitVec.or_comm] at this
         rw [this]; omega
     · have : k = w.d.length := by omega
       subst this
       exact h3
   · rintro r rfl
     have hlt : val w.d < 18446744073709551616 := by
       have : (4294967296 : Int) ^ w.d.length <= 4294967296 ^ 2 := Ef (by omega)
       omega
     have hv : B2 w = if w.minus = true then -val w.d else val w.d := by unfold B2 sgn; rfl
     simp only [Ai, Ac, decide_eq_true_eq]
     refine ⟨λ hm => ?_, λ hm => ?_⟩
     · rw [hv, if_pos hm]
       have := hp hm
       refine ⟨λ h1 => ?_, λ h1 h2 => by omega⟩
       rw [w64, Anv]; omega
     · rw [hv, if_neg hm]
       refine ⟨λ h1 => ?_, λ h1 h2 => h2⟩
       rw [Bg (by omega) h1]
theorem Afi {q : Ag} {x : Rat} (h : Fo q x) : Ar (Ew q) λ r => (r.2 = true ↔ Io x) /\ (r.2 = true -> r.1 = ⟨x.num, x.den⟩) := by
 have hd := x.den_pos
 unfold Ew Cp
 refine (Sd h.okN).bind ?_
 rintro ⟨n, bn⟩ ⟨n1, n2⟩
 refine (Il h).bind ?_
 rintro w ⟨w1, w2, _⟩
 refine (Sd w1).bind ?_
 rintro ⟨d, bd⟩ ⟨d1, d2⟩
 rw [h.num] at n1 n2
 rw [w2] at d1 d2
 simp only at n1 n2 d1 d2
 simp only [Ai, Ac, Bool.not_eq_true', decide_eq_true_eq]
 unfold Io
 refine ⟨λ h1 => ⟨⟨λ h => (by cases h), λ h => by rw [n2 (by omega) (by omega)] at h1; cases h1⟩, λ h => (by cases h)⟩, λ h1 => ⟨λ h2 => ⟨⟨λ h => (by cases h), λ h => by rw [d2 (by omega) (by omega)] at h2; cases h2⟩, λ h => (by cases h)⟩, λ h2 => ?_⟩⟩
 have e1 := n1 (by simpa using h1)
 have e2 := d1 (by simpa using h2)
 subst e1 e2
 refine ⟨λ h3 => ⟨⟨λ h => (by cases h), λ h => by omega⟩, λ h => (by cases h)⟩, λ h3 => ⟨λ h4 => ⟨⟨λ h => (by cases h), λ h => by omega⟩, λ h => (by cases h)⟩, λ h4 => ⟨λ h5 => ⟨⟨λ h => (by cases h), λ h => by omega⟩, λ h => (by cases h)⟩, λ h5 => ⟨⟨λ _ => ⟨by omega, by omega, by omega⟩, λ _ => trivial⟩, λ _ => rfl⟩⟩⟩⟩
theorem Aco (x : A7) : Ar (Ei x) λ b => b = true ↔ ROk x := by
 unfold Ei Df
 simp only [Ai, Ac, decide_eq_true_eq]
 have J : ∀ u : Int, 0 <= u -> u.natAbs = x.N.natAbs -> 1 <= x.D -> x.D <= 1000000000000 -> -1000000000000 <= x.N -> x.N <= 1000000000000 -> Ar (Eg x u) λ b => b = true ↔ ROk x := by
   intro u hu he h1 h2 h3 h4
   unfold Eg
   refine Ar.bind (R := λ r => r = (Int.gcd x.N x.D : Int)) (Av (I := λ s : Int × Int => 0 <= s.1 /\ 0 <= s.2 /\ Int.gcd s.1 s.2 = Int.gcd x.N x.D) (μ := λ s : Int × Int => s.2.natAbs) ⟨hu, by omega, by rw [Int.gcd_eq_natAbs_gcd_natAbs, Int.gcd_eq_natAbs_gcd_natAbs, he]⟩ ?_) ?_
   · rintro ⟨a, b⟩ ⟨ha, hb, hg⟩
     simp only at ha hb hg
     unfold Gi
     simp only [Ai, An, Ac, decide_eq_true_eq, Aw, At]
     refine ⟨λ hp => ⟨by omega, ⟨hb, Int.tmod_nonneg _ ha, by rw [Ys]; exact hg⟩, ?_⟩, λ hp => ?_⟩
     · rw [Int.natAbs_tmod]; exact Nat.mod_lt _ (by omega)
     · have : b = 0 := by omega
       subst this
       rw [<- hg, Int.gcd_zero_right]; omega
   · rintro r rfl
     rw [Ac, decide_eq_true_eq]
     constructor
     · intro h; exact ⟨⟨h3, h4, by omega, h2⟩, by omega⟩
     · intro h; have := h.2; omega
 refine ⟨λ h1 => ⟨λ h => (by cases h), λ h => by have := h.1; unfold Oi at this; omega⟩, λ h1 => ⟨λ h2 => ⟨λ h => (by cases h), λ h => by have := h.1; unfold Oi at this; omega⟩, λ h2 => ⟨λ h3 => ⟨λ h => (by cases h), λ h => by have := h.1; unfold Oi at this; omega⟩, λ h3 => ⟨λ h4 => ⟨λ h => (by cases h), λ h => by have := h.1; unfold Oi at this; omega⟩, λ h4 => ⟨λ h5 => ?_, λ h5 => ?_⟩⟩⟩⟩⟩
 · rw [Bg (by omega) (by omega)]
   exact J _ (by omega) (by omega) (by omega) (by omega) (by omega) (by omega)
 · exact J _ (by omega) rfl (by omega) (by omega) (by omega) (by omega)
theorem V0 (g : Ah) : Ar (Cz g) λ e => (e = 0 -> ∃ n, GOk g n) /\ ((∃ n, GOk g n) -> e = 0) /\ (e ≠ 0 -> e = if 40 < g.Arms.length then 3 else 1) := by
 unfold Cz C7
 simp only [Ai, Ac, Au, decide_eq_true_eq]
 refine ⟨λ h => ⟨λ h => by omega, λ ⟨n, h'⟩ => by have := h'.arms; omega, λ _ => by rw [if_pos (by omega)]⟩, λ h1 => ⟨λ h => ⟨λ h => by omega, λ ⟨n, h'⟩ => by have := h'.nodes; have := h'.n1; omega, λ _ => by rw [if_neg (by omega)]⟩, λ h2 => ⟨λ h => ⟨λ h => by omega, λ ⟨n, h'⟩ => by have := h'.nodes; have := h'.n12; omega, λ _ => by rw [if_neg (by omega)]⟩, λ h3 => ?_⟩⟩⟩
 obtain ⟨n, hn⟩ : ∃ n : Nat, g.Nodes = (n : Int) := ⟨g.Nodes.toNat, by omega⟩
 refine (Av (I := λ v : Int => ∃ k : Nat, v = (k : Int) /\ k <= g.Arms.length /\ ∀ e, e < k -> N2 n (g.Arms.getD e Aa)) (μ := λ v : Int => g.Arms.length - v.toNat)
   (Q := λ r => match r with | .inl _ => GOk g n | .inr e => e = 1 /\ ¬ ∃ n, GOk g n) ⟨0, rfl, Nat.zero_le _, λ e he => by omega⟩ ?_).mono ?_
 · rintro v ⟨k, rfl, hk, hall⟩
   have bad : (k < g.Arms.length) -> ¬ N2 n (g.Arms.getD k Aa) -> Ar Bm (Fk (λ v : Int => ∃ k : Nat, v = (k : Int) /\ k <= g.Arms.length /\ ∀ e, e < k -> N2 n (g.Arms.getD e Aa)) (λ v : Int => g.Arms.length - v.toNat) (k : Int)
       (λ r : Unit ⊕ Int => match r with | .inl _ => GOk g n | .inr e => e = 1 /\ ¬ ∃ n, GOk g n)) := by
     intro hk hb
     unfold Bm
     rw [Ac, At]
     refine ⟨rfl, λ ⟨n', h'⟩ => hb ?_⟩
     have e : n' = n := by have := h'.nodes; omega
     subst e
     exact h'.arm k hk
   unfold Ea
   simp only [Ai, An, Ac, Au, decide_eq_true_eq, Ae, Int.toNat_natCast, Aw, At]
   refine ⟨λ hlt => ⟨by omega, ?_⟩, λ hge => ?_⟩
   · have hk : k < g.Arms.length := by omega
     refine ⟨λ h => bad hk λ h' => by have := h'.a0; omega, λ a0 => ⟨λ h => bad hk λ h' => by have := h'.a1; omega, λ a1 => ⟨λ h => bad hk λ h' => by have := h'.b0; omega, λ b0 => ⟨λ h => bad hk λ h' => by have := h'.b1; omega, λ b1 => ?_⟩⟩⟩⟩
     refine (Aco _).mono ?_
     rintro v1 hv1
     refine ⟨λ h => bad hk λ h' => ?_, λ h => ⟨λ h5 => bad hk λ h' => by have := h'.rpos; omega, λ h5 => ?_⟩⟩
     · have := hv1.2 h'.r; rw [this] at h; simp at h
     · refine (Aco _).mono ?_
       rintro v2 hv2
       refine ⟨λ h6 => bad hk λ h' => ?_, λ h6 => ?_⟩
       · have := hv2.2 h'.e; rw [this] at h6; simp at h6
       · rw [Bg (by omega) (by omega)]
         refine ⟨⟨k + 1, by simp, by omega, λ e he => ?_⟩, by omega⟩
         by_cases hek : e = k
         · subst hek
           exact ⟨by omega, by omega, by omega, by omega, hv1.1 (by simpa using h), by omega, hv2.1 (by simpa using h6)⟩
         · exact hall e (by omega)
   · exact ⟨hn, by omega, by omega, by omega, λ e he => hall e (by omega)⟩
 · intro r hr
   cases r with
   | inl u => rw [Ac]; exact ⟨λ _ => ⟨n, hr⟩, λ _ => rfl, λ h => (h rfl).elim⟩
   | inr e => rw [Ac]; exact ⟨λ h => by have := hr.1; omega, λ h => (hr.2 h).elim, λ _ => by rw [if_neg (by omega)]; exact hr.1⟩
def dn (node u : Nat) : Nat := if node < u then u - 1 else u
def tch (g : Ah) (node e : Nat) : Prop := nA g e = node \/ nB g e = node
instance (g : Ah) (node e : Nat) : Decidable (tch g node e) := inferInstanceAs (Decidable (_ \/ _))
def tE (g : Ah) (node e u : Nat) : Rat := if tch g node e /\ nA g e ≠ nB g e /\ nA g e + nB g e = node + u then cond (am g e) else 0
def toK (g : Ah) (node k u : Nat) : Rat := sm k λ e => tE g node e u
def alE (g : Ah) (node e : Nat) : Rat := if tch g node e /\ nA g e ≠ nB g e then cond (am g e) else 0
def alK (g : Ah) (node k : Nat) : Rat := sm k λ e => alE g node e
def kpE (g : Ah) (node e : Nat) : Aq := ⟨(dn node (nA g e) : Int), (dn node (nB g e) : Int), (am g e).R, (am g e).E⟩
def kpK (g : Ah) (node : Nat) : Nat -> List Aq
 | 0 => []
 | k + 1 => if tch g node k then kpK g node k else kpK g node k ++ [kpE g node k]
def bad (g : Ah) (node : Nat) : Prop := ∃ e, e < g.Arms.length /\ tch g node e /\ (am g e).E.N ≠ 0
def msE (to : Nat -> Rat) (al : Rat) (node a b : Nat) : Aq := ⟨(dn node a : Int), (dn node b : Int), ⟨(al / (to a * to b)).num, (al / (to a * to b)).den⟩, ⟨0, 1⟩⟩
open Classical in
noncomputable def E4 (to : Nat -> Rat) (al : Rat) (node a : Nat) : Nat -> Nat -> List Aq -> Option (List Aq)
 | 0, _, l => some l
 | m + 1, b, l => if to a = 0 \/ to b = 0 then E4 to al node a m (b + 1) l else if Io (al / (to a * to b)) then E4 to al node a m (b + 1) (l ++ [msE to al node a b]) else none
noncomputable def F4 (to : Nat -> Rat) (al : Rat) (node n : Nat) : Nat -> Nat -> List Aq -> Option (List Aq)
 | 0, _, l => some l
 | m + 1, a, l => match E4 to al node a (n - (a + 1)) (a + 1) l with
   | some l' => F4 to al node n m (a + 1) l'
   | none => none
open Classical in
noncomputable def Anj (g : Ah) (n node : Nat) : Ah × Int :=
 if bad g node then (⟨0, []⟩, 7) else
 match F4 (toK g node g.Arms.length) (alK g node g.Arms.length) node n n 0 (kpK g node g.Arms.length) with
 | some l => if 40 < l.length then (⟨0, []⟩, 3) else (⟨(n : Int) - 1, l⟩, 0)
 | none => (⟨0, []⟩, 3)
open Classical in
noncomputable def Ku (g : Ah) (node : Int) : Ah × Int :=
 if h : ∃ n, GOk g n then (if node < 0 \/ g.Nodes <= node \/ g.Nodes = 1 then (⟨0, []⟩, 1) else Anj g h.choose node.toNat) else (⟨0, []⟩, if 40 < g.Arms.length then 3 else 1)
theorem Ww {g : Ah} {n : Nat} (G : GOk g n) (node : Int) : Ku g node = if node < 0 \/ g.Nodes <= node \/ g.Nodes = 1 then (⟨0, []⟩, 1) else Anj g n node.toNat := by
 unfold Ku
 have h : ∃ n, GOk g n := ⟨n, G⟩
 rw [dif_pos h]
 have : h.choose = n := by have h1 := h.choose_spec.nodes; have h2 := G.nodes; omega
 rw [this]
theorem Bbc {g : Ah} {n : Nat} (G : GOk g n) {e : Nat} (he : e < g.Arms.length) (node u : Nat) : Sz (tE g node e u) 3 := by
 unfold tE
 split
 · exact Ig (G.arm e he)
 · exact G5 2
theorem A2b {g : Ah} {n : Nat} (G : GOk g n) {e : Nat} (he : e < g.Arms.length) (node : Nat) : Sz (alE g node e) 3 := by
 unfold alE
 split
 · exact Ig (G.arm e he)
 · exact G5 2
theorem Aqh {f : Nat -> Rat} : ∀ {k}, (∀ e, e < k -> Sz (f e) 3) -> Sz (sm k f) (1 + 4 * k)
 | 0, _ => G5 0
 | k + 1, h => ((Aqh λ e he => h e (by omega)).add (h k (by omega))).mono (show 1 + 4 * k + 3 + 1 <= 1 + 4 * (k + 1) by omega)
theorem Aas {g : Ah} {n : Nat} (G : GOk g n) (node u : Nat) {k : Nat} (hk : k <= g.Arms.length) : Sz (toK g node k u) 161 :=
 (Aqh λ e he => Bbc G (by omega) node u).mono (by have := G.arms; omega)
theorem Aai {g : Ah} {n : Nat} (G : GOk g n) (node : Nat) {k : Nat} (hk : k <= g.Arms.length) : Sz (alK g node k) 161 :=
 (Aqh λ e he => A2b G (by omega) node).mono (by have := G.arms; omega)
theorem Qz (g : Ah) (node : Nat) : ∀ k, (kpK g node k).length <= k
 | 0 => Nat.le_refl _
 | k + 1 => by
   have := Qz g node k
   rw [kpK]
   split
   · omega
   · simp; omega
theorem Qw {node x : Nat} (hx : x <= 1000) : Ar (Gz (node : Int) (x : Int)) λ r => r = (dn node x : Int) := by
 unfold Gz dn
 simp only [Ai, Ac, decide_eq_true_eq]
 refine ⟨λ h => ?_, λ h => ?_⟩
 · rw [if_pos (by omega), Bg (by omega) (by omega)]; omega
 · rw [if_neg (by omega)]
def Atm (g : Ah) (n node k : Nat) (t : Int × List Int × Bool × Int × List Int × Bool × List Aj × List Aq) : Prop :=
 B3 ⟨⟨t.1, t.2.1, t.2.2.1⟩, ⟨t.2.2.2.1, t.2.2.2.2.1, t.2.2.2.2.2.1⟩⟩ (alK g node k) /\ t.2.2.2.2.2.2.1.length = n /\ (∀ u, u < n -> B3 (t.2.2.2.2.2.2.1.getD u Ba) (toK g node k u)) /\ t.2.2.2.2.2.2.2 = kpK g node k /\ ∀ e, e < k -> tch g node e -> (am g e).E.N = 0
theorem Adp {g : Ah} {n : Nat} (G : GOk g n) {node : Nat} (hno : node < n) {z : List Aj} (z1 : z.length = n) (z2 : ∀ i, i < n -> B3 (z.getD i Ba) 0) {y : Aj} (hy : B3 y 0) :
   Ar (Br (λ v : (Int × Int × (List Int) × Bool × Int × (List Int) × Bool × (List Aj) × (List Aq)) => L7 g (node : Int) v.1 v.2.1 v.2.2.1 v.2.2.2.1 v.2.2.2.2.1 v.2.2.2.2.2.1 v.2.2.2.2.2.2.1 v.2.2.2.2.2.2.2.1 v.2.2.2.2.2.2.2.2) ((0 : Int), y.N.v, y.N.m, y.N.neg, y.D.v, y.D.m, y.D.neg, z, []))
     λ r => match r with
       | .inl t => Atm g n node g.Arms.length t /\ ¬ bad g node
       | .inr x => x = (⟨0, []⟩, 7) /\ bad g node := by
 have h40 := G.arms
 have h12 := G.n12
 refine Av (I := λ s => ∃ k : Nat, s.1 = (k : Int) /\ k <= g.Arms.length /\ Atm g n node k s.2) (μ := λ s => g.Arms.length - s.1.toNat) ⟨0, rfl, Nat.zero_le _, hy, z1, z2, rfl, λ e he => by omega⟩ ?_
 rintro ⟨i, v6, v7, v8, v9, v10, v11, w, l⟩ ⟨k, h1, h2, hal, hwl, hto, hkp, hbd⟩
 simp only at h1 hal hwl hto hkp
 subst h1 hkp
 unfold L7
 rw [Ai]
 simp only [decide_eq_true_eq, An, Ac, Ae, Int.toNat_natCast, At]
 refine ⟨λ h => ⟨by omega, ?_⟩, λ h => ?_⟩
 · have hk : k < g.Arms.length := by omega
   obtain ⟨a1, a2, a3, a4⟩ := G.ab hk
   have eA : (List.getD g.Arms k Aa).A = (nA g k : Int) := a3
   have eB : (List.getD g.Arms k Aa).B = (nB g k : Int) := a4
   have arm := G.arm k hk
   have J : tch g node k -> Ar (Kd g (node : Int) (k : Int) v6 v7 v8 v9 v10 v11 w (kpK g node k)) (Fk (λ s => ∃ k : Nat, s.1 = (k : Int) /\ k <= g.Arms.length /\ Atm g n node k s.2) (λ s => g.Arms.length - s.1.toNat) ((k : Int), v6, v7, v8, v9, v10, v11, w, kpK g node k) (λ r => match r with
       | .inl t => Atm g n node g.Arms.length t /\ ¬ bad g node
       | .inr x => x = (⟨0, []⟩, 7) /\ bad g node)) := by
     intro ht
     unfold Kd
     simp only [Ai, Ac, At, Aw, Bool.not_eq_true', decide_eq_false_iff_not, Int.toNat_natCast, decide_eq_true_eq]
     refine ⟨λ hE => ⟨trivial, k, hk, ht, hE⟩, λ hE => ?_⟩
     have hE : (am g k).E.N = 0 := Classical.byContradiction λ h => hE h
     rw [eA, eB, Bg (x := (k : Int) + 1) (by omega) (by omega)]
     have hbd' : ∀ e, e < k + 1 -> tch g node e -> (am g e).E.N = 0 := by
       intro e he h
       by_cases hek : e = k
       · subst hek; exact hE
       · exact hbd e (by omega) h
     have hkp' : kpK g node (k + 1) = kpK g node k := by rw [kpK, if_pos ht]
     refine ⟨λ hAB => ?_, λ hAB => ?_⟩
     · have hAB : nA g k = nB g k := by omega
       refine ⟨⟨k + 1, by simp, by omega, ?_, hwl, λ u hu => ?_, hkp'.symm, hbd'⟩, by simp; omega⟩
       · have : alK g node (k + 1) = alK g node k := by
           show alK g node k + alE g node k = _
           have : alE g node k = 0 := by unfold alE; rw [if_neg (by rintro ⟨_, h⟩; exact h hAB)]
           rw [this]; grind
         rw [this]; exact hal
       · have : toK g node (k + 1) u = toK g node k u := by
           show toK g node k u + tE g node k u = _
           have : tE g node k u = 0 := by unfold tE; rw [if_neg (by rintro ⟨_, h, _⟩; exact h hAB)]
           rw [this]; grind
         rw [this]; exact hto u hu
     · have hAB : nA g k ≠ nB g k := by omega
       obtain ⟨u, hu⟩ : ∃ u, nA g k + nB g k = node + u := by
         rcases ht with h | h
         · exact ⟨nB g k, by omega⟩
         · exact ⟨nA g k, by omega⟩
       have hun : u < n := by rcases ht with h | h <;> omega
       rw [Bg (x := (nA g k : Int) + (nB g k : Int)) (by omega) (by omega)]
       have eu : (nA g k : Int) + (nB g k : Int) - (node : Int) = (u : Int) := by omega
       rw [eu, Bg (x := (u : Int)) (by omega) (by omega), An]
       refine ⟨by unfold Ae; omega, ?_⟩
       have eG : (⟨(nA g k : Int), (nB g k : Int), (List.getD g.Arms k Aa).R, (List.getD g.Arms k Aa).E⟩ : Aq) = am g k := by rw [<- a3, <- a4]; rfl
       rw [eG]
       refine (Ja (n := n) (a := am g k) arm).bind ?_
       rintro c hc
       rw [Int.toNat_natCast]
       refine (Gs (hto u hun) hc (Aas G node u (by omega)) (Ig arm) (by omega)).bind ?_
       rintro y7 hy7
       rw [An]
       refine ⟨by unfold Ae; omega, ?_⟩
       refine (Ja (n := n) (a := am g k) arm).bind ?_
       rintro c' hc'
       refine (Gs hal hc' (Aai G node (by omega)) (Ig arm) (by omega)).bind ?_
       rintro y9 hy9
       rw [Ac, Aw]
       refine ⟨⟨k + 1, by simp, by omega, ?_, by simp [hwl], λ u' hu' => ?_, hkp'.symm, hbd'⟩, by simp; omega⟩
       · have : alK g node (k + 1) = alK g node k + cond (am g k) := by
           show alK g node k + alE g node k = _
           have : alE g node k = cond (am g k) := by unfold alE; rw [if_pos ⟨ht, hAB⟩]
           rw [this]
         rw [this]; exact hy9
       · show B3 ((w.set u y7).getD u' Ba) (toK g node k u' + tE g node k u')
         rw [B0]
         by_cases huu : u' = u
         · subst huu
           have : tE g node k u' = cond (am g k) := by unfold tE; rw [if_pos ⟨ht, hAB, hu⟩]
           rw [if_pos ⟨rfl, by omega⟩, this]; exact hy7
         · have : tE g node k u' = 0 := by unfold tE; rw [if_neg (by rintro ⟨_, _, h⟩; omega)]
           rw [if_neg (by omega), this]
           have e0 : toK g node k u' + 0 = toK g node k u' := by grind
           rw [e0]; exact hto u' hu'
   simp only [Ai, Bool.not_eq_true', decide_eq_false_iff_not]
   refine ⟨λ hA => ⟨λ hB => ?_, λ hB => J (.inr (by have : (List.getD g.Arms k Aa).B = (node : Int) := Classical.byContradiction λ h => hB h; omega))⟩, λ hA => J (.inl (by have : (List.getD g.Arms k Aa).A = (node : Int) := Classical.byContradiction λ h => hA h; omega))⟩
   have hnt : ¬ tch g node k := by rintro (h | h) <;> omega
   rw [eA, eB]
   refine (Qw (node := node) (x := nA g k) (by omega)).bind ?_
   rintro _ rfl
   refine (Qw (node := node) (x := nB g k) (by omega)).bind ?_
   rintro _ rfl
   have hlen := Qz g node k
   rw [An, Ac, Aw, Bg (x := (k : Int) + 1) (by omega) (by omega)]
   refine ⟨by simp only [List.length_singleton]; unfold As; omega, ⟨k + 1, by simp, by omega, ?_, hwl, λ u hu => ?_, ?_, λ e he ht => ?_⟩, by simp; omega⟩
   · have : alK g node (k + 1) = alK g node k := by
       show alK g node k + alE g node k = _
       have : alE g node k = 0 := by unfold alE; rw [if_neg (by rintro ⟨h, _⟩; exact hnt h)]
       rw [this]; grind
     rw [this]; exact hal
   · have : toK g node (k + 1) u = toK g node k u := by
       show toK g node k u + tE g node k u = _
       have : tE g node k u = 0 := by unfold tE; rw [if_neg (by rintro ⟨h, _⟩; exact hnt h)]
       rw [this]; grind
     rw [this]; exact hto u hu
   · rw [kpK, if_neg hnt]; rfl
   · by_cases hek : e = k
     · subst hek; exact (hnt ht).elim
     · exact hbd e (by omega) ht
 · have : k = g.Arms.length := by omega
   subst this
   refine ⟨⟨hal, hwl, hto, rfl, hbd⟩, ?_⟩
   rintro ⟨e, he, ht, hE⟩
   exact hE (hbd e he ht)
theorem Aeq {n : Nat} (h12 : n <= 12) {node : Nat} (hno : node < n) {to : Nat -> Rat} {al : Rat} (sto : ∀ u, u < n -> Sz (to u) 161) (sal : Sz al 161) (g : Ah) {r2 : Int × List Int × Bool × Int × List Int × Bool × List Aj × List Aq}
   (hal : B3 ⟨⟨r2.1, r2.2.1, r2.2.2.1⟩, ⟨r2.2.2.2.1, r2.2.2.2.2.1, r2.2.2.2.2.2.1⟩⟩ al) (hwl : r2.2.2.2.2.2.2.1.length = n) (hto : ∀ u, u < n -> B3 (r2.2.2.2.2.2.2.1.getD u Ba) (to u)) {a : Nat} (ha : a < n) {l0 : List Aq} (hl0 : l0.length <= 40 + 12 * a) :
   Ar (Br (λ v : (Int × (List Aq)) => L5 g (node : Int) (a : Int) r2 v.1 v.2) ((a : Int) + 1, l0)) λ r => match r with
     | .inl l' => E4 to al node a (n - (a + 1)) (a + 1) l0 = some l' /\ l'.length <= 40 + 12 * (a + 1)
     | .inr x => x = (⟨0, []⟩, 3) /\ E4 to al node a (n - (a + 1)) (a + 1) l0 = none := by
 refine Av (I := λ s : Int × List Aq => ∃ b : Nat, s.1 = (b : Int) /\ a + 1 <= b /\ b <= n /\ s.2.length <= 40 + 12 * a + (b - (a + 1)) /\ E4 to al node a (n - b) b s.2 = E4 to al node a (n - (a + 1)) (a + 1) l0) (μ := λ s : Int × List Aq => n - s.1.toNat)
   ⟨a + 1, by simp, Nat.le_refl _, by omega, by simpa using hl0, rfl⟩ ?_
 rintro ⟨i, l⟩ ⟨b, h1, h2, h3, h4, h5⟩
 simp only at h1 h4 h5
 subst h1
 unfold L5
 rw [Ai]
 simp only [decide_eq_true_eq, An, Ac, Ae, Int.toNat_natCast, At]
 refine ⟨λ h => ⟨by omega, ?_⟩, λ h => ?_⟩
 · have hb : b < n := by omega
   have hm : n - b = (n - (b + 1)) + 1 := by omega
   rw [hm, E4] at h5
   have J : (to a = 0 \/ to b = 0) -> Ar (Kg g (node : Int) (a : Int) (b : Int) l r2) (Fk (λ s : Int × List Aq => ∃ b : Nat, s.1 = (b : Int) /\ a + 1 <= b /\ b <= n /\ s.2.length <= 40 + 12 * a + (b - (a + 1)) /\ E4 to al node a (n - b) b s.2 = E4 to al node a (n - (a + 1)) (a + 1) l0) (λ s : Int × List Aq => n - s.1.toNat) ((b : Int), l) (λ r => match r with
       | .inl l' => E4 to al node a (n - (a + 1)) (a + 1) l0 = some l' /\ l'.length <= 40 + 12 * (a + 1)
       | .inr x => x = (⟨0, []⟩, 3) /\ E4 to al node a (n - (a + 1)) (a + 1) l0 = none)) := by
     intro h0
     unfold Kg
     rw [if_pos h0] at h5
     rw [Ac, Aw, Bg (by omega) (by omega)]
     exact ⟨⟨b + 1, by simp, by omega, by omega, by show l.length <= _; omega, h5⟩, by simp; omega⟩
   refine (Jc (hto a ha)).bind ?_
   rintro y10 hy10
   rw [Ai]
   refine ⟨λ h => J (.inl (hy10.1 h)), λ h => ?_⟩
   have ha0 : to a ≠ 0 := λ e => h (hy10.2 e)
   rw [An]
   refine ⟨by omega, ?_⟩
   refine (Jc (hto b hb)).bind ?_
   rintro y11 hy11
   rw [Ai]
   refine ⟨λ h => J (.inr (hy11.1 h)), λ h => ?_⟩
   have hb0 : to b ≠ 0 := λ e => h (hy11.2 e)
   rw [An, An]
   refine ⟨by omega, by omega, ?_⟩
   refine (Ko (hto a ha) (hto b hb) (sto a ha) (sto b hb) (by omega)).bind ?_
   rintro y12 hy12
   have hne : to a * to b ≠ 0 := λ e => by rcases Rat.mul_eq_zero.1 e with e | e <;> contradiction
   refine (Qi hal hy12 sal ((sto a ha).mul (sto b hb)) (by omega) hne).bind ?_
   rintro y13 hy13
   refine (Mz hy13).bind ?_
   rintro ⟨nr, ec⟩ ⟨t1, t2, t3⟩
   simp only at t1 t2 t3
   rw [if_neg (by rintro (h | h) <;> contradiction)] at h5
   simp only [Ai, Ac, Bool.not_eq_true', decide_eq_false_iff_not, At]
   refine ⟨λ he => ?_, λ he => ?_⟩
   · have e3 := t3 he
     rw [if_neg (λ h => he (t1.2 h))] at h5
     cases e3
     exact ⟨rfl, h5.symm⟩
   · have he : ec = 0 := Classical.byContradiction λ h => he h
     rw [if_pos (t1.1 he)] at h5
     refine (Qw (node := node) (x := a) (by omega)).bind ?_
     rintro _ rfl
     refine (Qw (node := node) (x := b) (by omega)).bind ?_
     rintro _ rfl
     rw [An, Ac, Aw, Bg (by omega) (by omega), t2 he]
     refine ⟨by simp only [List.length_singleton]; unfold As; omega, ⟨b + 1, by simp, by omega, by omega, ?_, h5⟩, by simp; omega⟩
     show (l ++ [_]).length <= _
     simp; omega
 · have : b = n := by omega
   subst this
   rw [Nat.sub_self, E4] at h5
   exact ⟨h5.symm, by omega⟩
theorem Aev {n : Nat} (h12 : n <= 12) {node : Nat} (hno : node < n) {to : Nat -> Rat} {al : Rat} (sto : ∀ u, u < n -> Sz (to u) 161) (sal : Sz al 161) (g : Ah) {r2 : Int × List Int × Bool × Int × List Int × Bool × List Aj × List Aq}
   (hal : B3 ⟨⟨r2.1, r2.2.1, r2.2.2.1⟩, ⟨r2.2.2.2.1, r2.2.2.2.2.1, r2.2.2.2.2.2.1⟩⟩ al) (hwl : r2.2.2.2.2.2.2.1.length = n) (hto : ∀ u, u < n -> B3 (r2.2.2.2.2.2.2.1.getD u Ba) (to u)) {l0 : List Aq} (hl0 : l0.length <= 40) :
   Ar (Br (λ v : (Int × (List Aq)) => Mf g (node : Int) r2 v.1 v.2) ((0 : Int), l0)) λ r => match r with
     | .inl l' => F4 to al node n n 0 l0 = some l' /\ l'.length <= 40 + 12 * n
     | .inr x => x = (⟨0, []⟩, 3) /\ F4 to al node n n 0 l0 = none := by
 refine Av (I := λ s : Int × List Aq => ∃ a : Nat, s.1 = (a : Int) /\ a <= n /\ s.2.length <= 40 + 12 * a /\ F4 to al node n (n - a) a s.2 = F4 to al node n n 0 l0) (μ := λ s : Int × List Aq => n - s.1.toNat)
   ⟨0, rfl, Nat.zero_le _, by simpa using hl0, rfl⟩ ?_
 rintro ⟨i, l⟩ ⟨a, h1, h2, h3, h4⟩
 simp only at h1 h3 h4
 subst h1
 unfold Mf
 rw [Ai]
 simp only [decide_eq_true_eq, Ac, At]
 refine ⟨λ h => ?_, λ h => ?_⟩
 · have ha : a < n := by omega
   have hm : n - a = (n - (a + 1)) + 1 := by omega
   rw [hm, F4] at h4
   rw [Bg (x := (a : Int) + 1) (by omega) (by omega)]
   refine (Aeq h12 hno sto sal g hal hwl hto ha h3).bind ?_
   intro r hr
   cases r with
   | inl l' =>
     obtain ⟨r1, r2⟩ := hr
     rw [r1] at h4
     rw [Ac, Aw]
     exact ⟨⟨a + 1, by simp, by omega, r2, h4⟩, by simp; omega⟩
   | inr x =>
     obtain ⟨r1, r2⟩ := hr
     rw [r2] at h4
     rw [Ac, At]
     exact ⟨r1, h4.symm⟩
 · have : a = n := by omega
   subst this
   rw [Nat.sub_self, F4] at h4
   exact ⟨h4.symm, h3⟩
theorem Ag9 (g : Ah) (node : Int) : Ar (O7 g node) λ r => r = Ku g node := by
 unfold O7 Jy
 refine (Ng g).bind ?_
 rintro e ⟨e1, e2, e3⟩
 rw [Ai]
 refine ⟨λ h => ?_, λ h => ?_⟩
 · have h : e ≠ 0 := by simpa using h
   rw [Ac]
   unfold Ku
   rw [dif_neg (λ hg => h (e2 hg)), e3 h]
 · have h : e = 0 := by simpa using h
   obtain ⟨n, G⟩ := e1 h
   have hn := G.nodes
   have h1 := G.n1
   have h12 := G.n12
   rw [Ww G]
   simp only [Ai, Ac, decide_eq_true_eq, hn]
   refine ⟨λ h => by rw [if_pos (.inl h)], λ g1 => ⟨λ h => by rw [if_pos (.inr (.inl h))], λ g2 => ⟨λ h => by rw [if_pos (.inr (.inr h))], λ g3 => ?_⟩⟩⟩
   rw [if_neg (by omega)]
   obtain ⟨node, rfl⟩ : ∃ k : Nat, node = (k : Int) := ⟨node.toNat, by omega⟩
   have hno : node < n := by omega
   simp only [An, Int.toNat_natCast]
   refine ⟨by omega, by omega, by unfold As; omega, ?_⟩
   rw [List.length_replicate]
   refine Ar.bind (Ox (n := n) (by omega) g 0 0) ?_
   rintro z ⟨z1, z2⟩
   refine (E0 (n := 0) (by omega) (by omega)).bind ?_
   rintro y hy
   refine (Adp G hno z1 z2 hy).bind ?_
   intro r hr
   unfold Anj
   cases r with
   | inr x =>
     obtain ⟨rfl, hb⟩ := hr
     rw [Ac, if_pos hb]
   | inl t =>
     obtain ⟨⟨hal, hwl, hto, hkp, _⟩, hb⟩ := hr
     rw [if_neg hb]
     have hkl := Qz g node g.Arms.length
     have h40 := G.arms
     refine (Aev h12 hno (λ u hu => Aas G node u (Nat.le_refl _)) (Aai G node (Nat.le_refl _)) g hal hwl hto (l0 := t.2.2.2.2.2.2.2) (by rw [hkp]; omega)).bind ?_
     intro r hr
     rw [hkp] at hr
     cases r with
     | inr x =>
       obtain ⟨rfl, hm⟩ := hr
       rw [Ac, hm]
     | inl l =>
       obtain ⟨hm, hl⟩ := hr
       rw [hm]
       simp only [Ai, Ac, decide_eq_true_eq]
       refine ⟨λ h => by rw [if_pos (by omega)], λ h => ?_⟩
       rw [if_neg (by omega), Bg (by omega) (by omega)]
end Go.Ab
