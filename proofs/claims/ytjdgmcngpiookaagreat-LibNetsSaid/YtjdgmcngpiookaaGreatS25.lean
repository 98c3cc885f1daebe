/- Networks of package lib: the matrix of conductances, potentials. Networks of package lib: resistances between nodes. Networks of package lib: potentials and currents. Networks of package lib: the document's example, and the part of the trees that have an arm. Conditions: none beyond those that each theorem names. -/
import Derived.Test.YtjdgmcngpiookaaGreatS24
namespace Go.Ab
open Go
set_option linter.unusedVariables false
set_option linter.unusedSimpArgs false
def ev (a b i : Nat) : Rat := (if i = a then 1 else 0) - (if i = b then 1 else 0)
def evE (g : An) (e i : Nat) : Rat := ev (nA g e) (nB g e) i
def Gi (g : An) (k i j : Nat) : Rat := sm k λ e => cond (am g e) * evE g e i * evE g e j
def lap (g : An) (i j : Nat) : Rat := Gi g g.Arms.length i j
theorem Uy {n a b : Nat} (ha : a < n) (hb : b < n) (x : Nat -> Rat) : sm n (λ j => ev a b j * x j) = x a - x b := by
 have h : sm n (λ j => ev a b j * x j) = sm n (λ j => (if j = a then 1 else 0) * x j) - sm n (λ j => (if j = b then 1 else 0) * x j) := by
   rw [<- Sn]; exact Bl λ j _ => by unfold ev; grind
 rw [h, H8 (k := a) ha (λ i _ hne => by rw [if_neg hne]; grind), H8 (k := b) hb (λ i _ hne => by rw [if_neg hne]; grind), if_pos rfl, if_pos rfl]
 grind
theorem Alv {g : An} {n : Nat} (G : GOk g n) (x : Nat -> Rat) (i : Nat) : sm n (λ j => lap g i j * x j) = sm g.Arms.length λ e => cond (am g e) * evE g e i * (x (nA g e) - x (nB g e)) := by
 have h : sm n (λ j => lap g i j * x j) = sm n (λ j => sm g.Arms.length λ e => cond (am g e) * evE g e i * evE g e j * x j) := by
   refine Bl λ j _ => ?_
   unfold lap Gi
   rw [Rat.mul_comm, <- Gu]
   exact Bl λ e _ => by grind
 rw [h, My]
 refine Bl λ e he => ?_
 obtain ⟨a1, a2, _, _⟩ := G.ab he
 have := Uy a1 a2 x
 rw [<- this, <- Gu]
 exact Bl λ j _ => by unfold evE; grind
theorem Rh {f : Nat -> Rat} : ∀ {n}, (∀ i, i < n -> 0 <= f i) -> 0 <= sm n f
 | 0, _ => Rat.le_refl
 | n + 1, h => Rat.add_nonneg (Rh λ i hi => h i (by omega)) (h n (by omega))
theorem Lg {f : Nat -> Rat} : ∀ {n}, (∀ i, i < n -> 0 <= f i) -> sm n f = 0 -> ∀ i, i < n -> f i = 0
 | 0, _, _, i, hi => by omega
 | n + 1, h, h0, i, hi => by
   have h1 := Rh (n := n) λ i hi => h i (by omega)
   have h2 := h n (by omega)
   rw [sm] at h0
   have h3 : sm n f = 0 := by grind
   by_cases hin : i = n
   · subst hin; grind
   · exact Lg (λ i hi => h i (by omega)) h3 i (by omega)
theorem Ah4 {g : An} {n : Nat} (G : GOk g n) (x : Nat -> Rat) : sm n (λ i => x i * sm n λ j => lap g i j * x j) = sm g.Arms.length λ e => cond (am g e) * ((x (nA g e) - x (nB g e)) * (x (nA g e) - x (nB g e))) := by
 have h : sm n (λ i => x i * sm n λ j => lap g i j * x j) = sm n (λ i => sm g.Arms.length λ e => x i * (cond (am g e) * evE g e i * (x (nA g e) - x (nB g e)))) := by
   refine Bl λ i _ => ?_
   rw [Alv G, <- Gu]
 rw [h, My]
 refine Bl λ e he => ?_
 obtain ⟨a1, a2, _, _⟩ := G.ab he
 have := Uy a1 a2 x
 have e2 : sm n (λ i => x i * (cond (am g e) * evE g e i * (x (nA g e) - x (nB g e)))) = sm n (λ i => (cond (am g e) * (x (nA g e) - x (nB g e))) * (ev (nA g e) (nB g e) i * x i)) := Bl λ i _ => by unfold evE; grind
 rw [e2, Gu, this]; grind
theorem Pv (x : Rat) : 0 <= x * x := by
 rcases Rat.le_total (a := 0) (b := x) with h | h
 · exact Rat.mul_nonneg h h
 · have h' : 0 <= -x := by grind
   have := Rat.mul_nonneg h' h'
   grind
def rep (l : List Int) (i : Nat) : Prop := l.getD i 0 = (i : Int)
instance (l : List Int) (i : Nat) : Decidable (rep l i) := inferInstanceAs (Decidable (_ = _))
theorem JOk.lab {g : An} {n : Nat} {l : List Int} (J : JOk g n l) {i : Nat} (hi : i < n) : (l.getD i 0).toNat < n /\ rep l (l.getD i 0).toNat := by
 have h1 := J.lok.rng i hi
 have h2 := J.lok.eqv i hi (λ j => l.getD j 0) J.arm
 exact ⟨by omega, by unfold rep; rw [<- h2]; omega⟩
theorem P7 {g : An} {n : Nat} (G : GOk g n) {l : List Int} (J : JOk g n l) (x : Nat -> Rat) (h1 : ∀ i, i < n -> rep l i -> x i = 0) (h2 : ∀ i, i < n -> ¬ rep l i -> sm n (λ j => lap g i j * x j) = 0) : ∀ i, i < n -> x i = 0 := by
 have he := Ah4 G x
 have h0 : sm n (λ i => x i * sm n λ j => lap g i j * x j) = 0 := Ij λ i hi => by
   by_cases hr : rep l i
   · rw [h1 i hi hr]; grind
   · rw [h2 i hi hr]; grind
 rw [h0] at he
 have each := Lg (f := λ e => cond (am g e) * ((x (nA g e) - x (nB g e)) * (x (nA g e) - x (nB g e)))) (n := g.Arms.length) (λ e he => Rat.mul_nonneg (Rat.le_of_lt (Qc (G.arm e he))) (Pv _)) he.symm
 have heq : ∀ e, e < g.Arms.length -> x (nA g e) = x (nB g e) := by
   intro e hel
   have := each e hel
   have hc := Rat.ne_of_gt (Qc (G.arm e hel))
   rcases Rat.mul_eq_zero.1 this with h | h
   · exact (hc h).elim
   · rcases Rat.mul_eq_zero.1 h with h | h <;> grind
 intro i hi
 -- what is joined is alike
 have key : ∀ j, Eqv g i j -> x i = x j := by
   intro j hj
   refine Classical.byContradiction λ hne => ?_
   have := hj (λ m => if x m = x i then 1 else 0) λ e hel => by show (if x (nA g e) = x i then (1 : Int) else 0) = if x (nB g e) = x i then 1 else 0; rw [heq e hel]
   simp only [if_true] at this
   rw [if_neg (Ne.symm hne)] at this
   omega
 obtain ⟨k1, k2⟩ := J.lab hi
 rw [key _ (J.lok.eqv i hi)]
 exact h1 _ k1 k2
theorem Xx {g : An} {n : Nat} (G : GOk g n) {l : List Int} (J : JOk g n l) (x y : Nat -> Rat) (h : ∀ i, i < n -> ¬ rep l i -> sm n (λ j => lap g i j * x j) = y i) (hy : ∀ k, sm n (λ i => (if l.getD i 0 = (k : Int) then 1 else 0) * y i) = 0) :
   ∀ i, i < n -> sm n (λ j => lap g i j * x j) = y i := by
 intro k hk
 by_cases hr : rep l k
 · have h0 : sm n (λ i => (if l.getD i 0 = (k : Int) then 1 else 0) * sm n λ j => lap g i j * x j) = 0 := by
     have e1 : sm n (λ i => (if l.getD i 0 = (k : Int) then 1 else 0) * sm n λ j => lap g i j * x j) = sm n (λ i => sm g.Arms.length λ e => (if l.getD i 0 = (k : Int) then 1 else 0) * (cond (am g e) * evE g e i * (x (nA g e) - x (nB g e)))) := by
       refine Bl λ i _ => ?_
       rw [Alv G, <- Gu]
     rw [e1, My]
     refine Ij λ e he => ?_
     obtain ⟨a1, a2, _, _⟩ := G.ab he
     have := Uy a1 a2 (λ i => if l.getD i 0 = (k : Int) then 1 else 0)
     have e2 : sm n (λ i => (if l.getD i 0 = (k : Int) then 1 else 0) * (cond (am g e) * evE g e i * (x (nA g e) - x (nB g e)))) = sm n (λ i => (cond (am g e) * (x (nA g e) - x (nB g e))) * (ev (nA g e) (nB g e) i * (if l.getD i 0 = (k : Int) then 1 else 0))) := Bl λ i _ => by unfold evE; grind
     rw [e2, Gu, this, J.arm e he]; grind
   have h1 : sm n (λ i => (if l.getD i 0 = (k : Int) then 1 else 0) * ((sm n λ j => lap g i j * x j) - y i)) = 0 := by
     have : sm n (λ i => (if l.getD i 0 = (k : Int) then 1 else 0) * ((sm n λ j => lap g i j * x j) - y i)) = sm n (λ i => (if l.getD i 0 = (k : Int) then 1 else 0) * sm n λ j => lap g i j * x j) - sm n (λ i => (if l.getD i 0 = (k : Int) then 1 else 0) * y i) := by
       rw [<- Sn]; exact Bl λ i _ => by grind
     rw [this, h0, hy k]; grind
   rw [H8 (k := k) hk (λ i hi hne => by
     by_cases hl : l.getD i 0 = (k : Int)
     · rw [h i hi (by unfold rep; omega)]; grind
     · rw [if_neg hl]; grind), if_pos (show l.getD k 0 = (k : Int) from hr)] at h1
   grind
 · exact h k hk hr
theorem L3 (a b i : Nat) : ev a b i = 0 \/ ev a b i = 1 \/ ev a b i = -1 := by
 unfold ev; split <;> split
 · left; grind
 · right; left; grind
 · right; right; grind
 · left; grind
theorem Vf {g : An} {n : Nat} (G : GOk g n) (i j : Nat) : ∀ k, k <= g.Arms.length -> Sz (Gi g k i j) (1 + 4 * k)
 | 0, _ => D3 0
 | k + 1, h => by
   have IH := Vf G i j k (by omega)
   have hc := Nf (G.arm k (by omega))
   have ht : Sz (cond (am g k) * evE g k i * evE g k j) 3 := by
     have z : Sz 0 3 := D3 2
     have hc' : Sz (cond (am g k)) 3 := hc
     have hn := hc'.neg
     unfold evE
     rcases L3 (nA g k) (nB g k) i with h1 | h1 | h1 <;> rcases L3 (nA g k) (nB g k) j with h2 | h2 | h2 <;> rw [h1, h2]
     · have e : cond (am g k) * 0 * 0 = 0 := by grind
       rw [e]; exact z
     · have e : cond (am g k) * 0 * 1 = 0 := by grind
       rw [e]; exact z
     · have e : cond (am g k) * 0 * -1 = 0 := by grind
       rw [e]; exact z
     · have e : cond (am g k) * 1 * 0 = 0 := by grind
       rw [e]; exact z
     · have e : cond (am g k) * 1 * 1 = cond (am g k) := by grind
       rw [e]; exact hc'
     · have e : cond (am g k) * 1 * -1 = -cond (am g k) := by grind
       rw [e]; exact hn
     · have e : cond (am g k) * -1 * 0 = 0 := by grind
       rw [e]; exact z
     · have e : cond (am g k) * -1 * 1 = -cond (am g k) := by grind
       rw [e]; exact hn
     · have e : cond (am g k) * -1 * -1 = cond (am g k) := by grind
       rw [e]; exact hc'
   have := (IH.add ht).mono (show 1 + 4 * k + 3 + 1 <= 1 + 4 * (k + 1) by omega)
   exact this
theorem Afc {p q : Nat} (h : p ≠ q) (L : Nat -> Nat -> Rat) (c : Rat) (a b : Nat) : L a b + c * ev p q a * ev p q b = if a = q /\ b = p then L q p - c else if a = p /\ b = q then L p q - c else if a = q /\ b = q then L q q + c else if a = p /\ b = p then L p p + c else L a b := by
 unfold ev
 by_cases h1 : a = p <;> by_cases h2 : a = q <;> by_cases h3 : b = p <;> by_cases h4 : b = q <;> first | omega | (simp only [h1, h2, h3, h4, h, Ne.symm h, if_true, if_false, true_and, and_true, false_and, and_false]; grind) | grind
theorem Rz {g : An} {n : Nat} (G : GOk g n) : Ar (Jp g) λ o => o.C = (n : Int) /\ E4 o.V n n (lap g) := by
 have hn := G.nodes
 have h12 := G.n12
 have h40 := G.arms
 unfold Jp
 rw [hn]
 refine (Abl (r := n) (c := n) (by omega) (by omega)).bind ?_
 rintro y ⟨yC, yM⟩
 rw [At]
 refine (As (I := λ s : Int × List (List Al) => ∃ k : Nat, s.1 = (k : Int) /\ k <= g.Arms.length /\ E4 s.2 n n (Gi g k)) (μ := λ s : Int × List (List Al) => g.Arms.length - s.1.toNat) (Q := λ o => E4 o n n (lap g)) ⟨0, rfl, Nat.zero_le _, yM⟩ ?_).mono ?_
 · rintro ⟨i, w⟩ ⟨k, h1, h2, M⟩
   simp only at h1 M
   subst h1
   unfold Le
   simp only [Ai, Ah, At, Ae, decide_eq_true_eq, Aw, Af, Int.toNat_natCast]
   refine ⟨λ h => ?_, λ h => ?_⟩
   · have hk : k < g.Arms.length := by omega
     obtain ⟨a1, a2, a3, a4⟩ := G.ab hk
     have eA : (List.getD g.Arms k Ac).A = (nA g k : Int) := a3
     have eB : (List.getD g.Arms k Ac).B = (nB g k : Int) := a4
     rw [Bg (x := (k : Int) + 1) (by omega) (by omega)]
     have hstep : ∀ i j, Gi g (k + 1) i j = Gi g k i j + cond (am g k) * evE g k i * evE g k j := λ i j => rfl
     refine ⟨by omega, λ he => ?_, λ hne => ?_⟩
     · rw [Av]
       have hAB : nA g k = nB g k := by omega
       refine ⟨⟨k + 1, by simp, by omega, M.congr λ a b _ _ => ?_⟩, by simp; omega⟩
       rw [hstep]
       have : evE g k a = 0 := by unfold evE ev; rw [hAB]; grind
       rw [this]; grind
     · have hAB : nA g k ≠ nB g k := by omega
       have arm := G.arm k hk
       refine (Qu (n := n) (a := am g k) arm).mono ?_
       rintro c hc
       have sc := Nf arm
       have sc : Sz (cond (am g k)) 3 := sc
       rw [eA, eB]
       simp only [Int.toNat_natCast]
       generalize hp : nA g k = p at a1 a3 eA hAB ⊢
       generalize hq : nB g k = q at a2 a4 eB hAB ⊢
       have sL : ∀ i j, Sz (Gi g k i j) 161 := λ i j => (Vf G i j k (by omega)).mono (by omega)
       have hm := M.rows
       have r1 := M.cols p a1
       refine ⟨by omega, by omega, by omega, ?_⟩
       refine (Ib (M.rep p p a1 a1) hc (sL p p) sc (by omega)).mono ?_
       rintro y3 hy3
       obtain ⟨w1, hw1⟩ : ∃ w1, w1 = w.set p ((w.getD p []).set p y3) := ⟨_, rfl⟩
       rw [<- hw1]
       have M1 : E4 w1 n n (λ i j => if i = p /\ j = p then Gi g k p p + cond (am g k) else Gi g k i j) := by
         rw [hw1]
         exact M.set a1 a1 (by rw [if_pos ⟨rfl, rfl⟩]; exact hy3) λ a b _ _ h => by rw [if_neg (by omega)]
       have hm1 := M1.rows
       have r2 := M1.cols q a2
       refine ⟨by omega, by omega, by omega, by omega, ?_⟩
       have v1 := M1.rep q q a2 a2
       rw [if_neg (by omega)] at v1
       refine (Ib v1 hc (sL q q) sc (by omega)).mono ?_
       rintro y4 hy4
       obtain ⟨w2, hw2⟩ : ∃ w2, w2 = w1.set q ((w1.getD q []).set q y4) := ⟨_, rfl⟩
       rw [<- hw2]
       have M2 : E4 w2 n n (λ i j => if i = q /\ j = q then Gi g k q q + cond (am g k) else if i = p /\ j = p then Gi g k p p + cond (am g k) else Gi g k i j) := by
         rw [hw2]
         exact M1.set a2 a2 (by rw [if_pos ⟨rfl, rfl⟩]; exact hy4) λ a b _ _ h => by rw [if_neg (by omega)]
       have hm2 := M2.rows
       have r3 := M2.cols p a1
       refine ⟨by omega, by omega, by omega, by omega, ?_⟩
       have v2 := M2.rep p q a1 a2
       rw [if_neg (by omega), if_neg (by omega)] at v2
       refine (Ji v2 hc (sL p q) sc (by omega)).mono ?_
       rintro y5 hy5
       obtain ⟨w3, hw3⟩ : ∃ w3, w3 = w2.set p ((w2.getD p []).set q y5) := ⟨_, rfl⟩
       rw [<- hw3]
       have M3 : E4 w3 n n (λ i j => if i = p /\ j = q then Gi g k p q - cond (am g k) else if i = q /\ j = q then Gi g k q q + cond (am g k) else if i = p /\ j = p then Gi g k p p + cond (am g k) else Gi g k i j) := by
         rw [hw3]
         exact M2.set a1 a2 (by rw [if_pos ⟨rfl, rfl⟩]; exact hy5) λ a b _ _ h => by rw [if_neg (by omega)]
       have hm3 := M3.rows
       have r4 := M3.cols q a2
       refine ⟨by omega, by omega, by omega, by omega, ?_⟩
       have v3 := M3.rep q p a2 a1
       rw [if_neg (by omega), if_neg (by omega), if_neg (by omega)] at v3
       refine (Ji v3 hc (sL q p) sc (by omega)).mono ?_
       rintro y6 hy6
       refine ⟨by omega, ?_⟩
       rw [Av]
       refine ⟨⟨k + 1, by simp, by omega, ?_⟩, by simp; omega⟩
       have M4 : E4 (w3.set q ((w3.getD q []).set p y6)) n n (λ i j => if i = q /\ j = p then Gi g k q p - cond (am g k) else if i = p /\ j = q then Gi g k p q - cond (am g k) else if i = q /\ j = q then Gi g k q q + cond (am g k) else if i = p /\ j = p then Gi g k p p + cond (am g k) else Gi g k i j) :=
         M3.set a2 a1 (by rw [if_pos ⟨rfl, rfl⟩]; exact hy6) λ a b _ _ h => by rw [if_neg (by omega)]
       refine M4.congr λ a b _ _ => ?_
       rw [hstep]
       have hpq : p ≠ q := by omega
       unfold evE
       rw [hp, hq]
       exact Afc hpq (Gi g k) (cond (am g k)) a b
   · have : k = g.Arms.length := by omega
     subst this
     exact M
 · rintro o ho
   rw [Ae]
   exact ⟨yC, ho⟩
theorem Ov {g : An} {n : Nat} (G : GOk g n) {v : List Al} (hv : v.length = n) {x : Nat -> Rat} (hx : ∀ i, i < n -> Cc (v.getD i Bd) (x i)) {s : Nat} (hs : s <= 290) (hs3 : 161 <= s) (hxs : ∀ i, i < n -> Sz (x i) s) :
   Ar (Kj g v) λ o => ∃ (l : List Int) (p : Nat -> Rat), JOk g n l /\ o.length = n /\ (∀ i, i < n -> Cc (o.getD i Bd) (p i) /\ Sz (p i) 5000000000) /\ (∀ i, i < n -> rep l i -> p i = 0) /\ (∀ i, i < n -> ¬ rep l i -> sm n (λ j => lap g i j * p j) = x i) := by
 have hn := G.nodes
 have h12 := G.n12
 unfold Kj
 refine (Rz G).bind ?_
 rintro m ⟨mC, mM⟩
 refine (Uh G).bind ?_
 rintro l J
 have hll := J.lok.len
 rw [At]
 refine (As (I := λ t : Int × List Al × List (List Al) => ∃ k : Nat, t.1 = (k : Int) /\ k <= n /\ t.2.1.length = n /\ (∀ i, i < n -> Cc (t.2.1.getD i Bd) (if i < k /\ rep l i then 0 else x i)) /\ E4 t.2.2 n n (λ i j => if i < k /\ rep l i then (if i = j then 1 else 0) else lap g i j))
   (μ := λ t : Int × List Al × List (List Al) => n - t.1.toNat) (Q := λ o : List Al × List (List Al) => o.1.length = n /\ (∀ i, i < n -> Cc (o.1.getD i Bd) (if rep l i then 0 else x i)) /\ E4 o.2 n n (λ i j => if rep l i then (if i = j then 1 else 0) else lap g i j))
   ⟨0, rfl, Nat.zero_le _, hv, λ i hi => by rw [if_neg (by omega)]; exact hx i hi, mM.congr λ a b _ _ => by rw [if_neg (by omega)]⟩ ?_).mono ?_
 · rintro ⟨i, w, u⟩ ⟨k, h1, h2, h3, h4, M⟩
   simp only at h1 h3 h4 M
   subst h1
   have hm := M.rows
   unfold Mu K8
   simp only [Ai, Ah, At, Ae, decide_eq_true_eq, Av, Aw, Af, Int.toNat_natCast, hn, hll]
   refine ⟨λ h => ?_, λ h => ?_⟩
   · have hk : k < n := by omega
     rw [Bg (x := (k : Int) + 1) (by omega) (by omega)]
     refine ⟨by omega, λ he => ?_, λ hne => ?_⟩
     · have hr : rep l k := by unfold rep; omega
       refine (Abl (r := 1) (c := n) (by omega) (by omega)).mono ?_
       rintro y3 ⟨yC, yM⟩
       have y1 := yM.rows
       have y2 := yM.cols 0 (by omega)
       refine ⟨by omega, ?_⟩
       refine (Dj (n := 1) (by omega) (by omega)).mono ?_
       rintro y4 hy4
       have y2' : (y3.V.getD (0 : Int).toNat []).length = n := y2
       refine ⟨by omega, ?_⟩
       refine (Dj (n := 0) (by omega) (by omega)).mono ?_
       rintro y5 hy5
       have er : (List.set y3.V (0 : Int).toNat (List.set (List.getD y3.V (0 : Int).toNat []) k y4)).getD (0 : Int).toNat [] = (y3.V.getD 0 []).set k y4 := by
         rw [Bf, if_pos ⟨rfl, by show 0 < y3.V.length; omega⟩]; rfl
       rw [er]
       refine ⟨by omega, by omega, ⟨k + 1, by simp, by omega, by simp [h3], λ i hi => ?_, ?_⟩, by omega⟩
       · rw [Bf]
         by_cases hik : i = k
         · subst hik; rw [if_pos ⟨rfl, by omega⟩, if_pos ⟨by omega, hr⟩]; exact hy5
         · rw [if_neg (by omega)]
           by_cases hlt : i < k /\ rep l i
           · rw [if_pos ⟨by omega, hlt.2⟩]; have := h4 i hi; rw [if_pos hlt] at this; exact this
           · rw [if_neg (λ h => hlt ⟨by omega, h.2⟩)]; have := h4 i hi; rw [if_neg hlt] at this; exact this
       · refine M.setRow hk (by rw [List.length_set]; exact y2) (λ j hj => ?_) (λ a b _ _ hab => ?_)
         · rw [if_pos ⟨by omega, hr⟩, Bf]
           by_cases hjk : k = j
           · subst hjk; rw [if_pos ⟨rfl, by omega⟩, if_pos rfl]; exact hy4
           · rw [if_neg (by omega), if_neg hjk]; exact yM.rep 0 j (by omega) hj
         · by_cases hlt : a < k /\ rep l a
           · rw [if_pos ⟨by omega, hlt.2⟩, if_pos hlt]
           · rw [if_neg (λ h => hlt ⟨by omega, h.2⟩), if_neg hlt]
     · have hr : ¬ rep l k := by unfold rep; omega
       refine ⟨⟨k + 1, by simp, by omega, h3, λ i hi => ?_, M.congr λ a b _ _ => ?_⟩, by omega⟩
       · by_cases hik : i = k
         · subst hik; rw [if_neg (λ h => hr h.2)]; have := h4 i hi; rw [if_neg (by omega)] at this; exact this
         · by_cases hlt : i < k /\ rep l i
           · rw [if_pos ⟨by omega, hlt.2⟩]; have := h4 i hi; rw [if_pos hlt] at this; exact this
           · rw [if_neg (λ h => hlt ⟨by omega, h.2⟩)]; have := h4 i hi; rw [if_neg hlt] at this; exact this
       · by_cases hak : a = k
         · subst hak; rw [if_neg (λ h => hr h.2), if_neg (by omega)]
         · by_cases hlt : a < k /\ rep l a
           · rw [if_pos ⟨by omega, hlt.2⟩, if_pos hlt]
           · rw [if_neg (λ h => hlt ⟨by omega, h.2⟩), if_neg hlt]
   · have : k = n := by omega
     subst this
     refine ⟨h3, λ i hi => ?_, M.congr λ a b ha _ => ?_⟩
     · have := h4 i hi
       by_cases hr : rep l i
       · rw [if_pos hr]; rw [if_pos ⟨hi, hr⟩] at this; exact this
       · rw [if_neg hr]; rw [if_neg (λ h => hr h.2)] at this; exact this
     · by_cases hr : rep l a
       · rw [if_pos hr, if_pos (show a < k /\ rep l a from ⟨ha, hr⟩)]
       · rw [if_neg hr, if_neg (show ¬ (a < k /\ rep l a) from λ h => hr h.2)]
 · rintro ⟨w, u⟩ ⟨w1, w2, M⟩
   simp only at w1 w2 M
   have e01 : ∀ i j : Nat, sm n (λ k => (if i = k then (1 : Rat) else 0) * (λ k => if j = k then (1 : Rat) else 0) k) = sm n (λ k => (if i = k then (1 : Rat) else 0) * (if j = k then (1 : Rat) else 0)) := λ _ _ => rfl
   have rowrep : ∀ (p : Nat -> Rat) (i : Nat), i < n -> rep l i -> sm n (λ j => (if rep l i then (if i = j then 1 else 0) else lap g i j) * p j) = p i := by
     intro p i hi hr
     rw [H8 (k := i) hi (λ j _ hne => by rw [if_pos hr, if_neg (Ne.symm hne)]; grind), if_pos hr, if_pos rfl]; grind
   have rownot : ∀ (p : Nat -> Rat) (i : Nat), ¬ rep l i -> sm n (λ j => (if rep l i then (if i = j then 1 else 0) else lap g i j) * p j) = sm n (λ j => lap g i j * p j) := λ p i hr => Bl λ j _ => by rw [if_neg hr]
   refine (Afn (m := ⟨m.C, u⟩) M mC h12 (g0 := s) (λ i j hi hj => ?_) (by omega) hs w1 w2 (λ i hi => ?_) (λ p hp => ?_)).bind ?_
   · show Sz (if rep l i then (if i = j then 1 else 0) else lap g i j) s
     split
     · split
       · exact (G6 0).mono (by omega)
       · exact (D3 0).mono (by omega)
     · exact (Vf G i j _ (Nat.le_refl _)).mono (by have := G.arms; omega)
   · show Sz (if rep l i then 0 else x i) s
     split
     · exact (D3 0).mono (by omega)
     · exact hxs i hi
   · exact P7 G J p (λ i hi hr => by have := hp i hi; rw [rowrep p i hi hr] at this; exact this) (λ i hi hr => by have := hp i hi; rw [rownot p i hr] at this; exact this)
   · rintro o ⟨p, p1, p2, p3⟩
     rw [Ae]
     refine ⟨l, p, J, p1, p2, λ i hi hr => ?_, λ i hi hr => ?_⟩
     · have := p3 i hi; rw [rowrep p i hi hr, if_pos hr] at this; exact this
     · have := p3 i hi; rw [rownot p i hr, if_neg hr] at this; exact this
theorem JOk.iff {g : An} {n : Nat} {l : List Int} (J : JOk g n l) {a b : Nat} (ha : a < n) (hb : b < n) : l.getD a 0 = l.getD b 0 ↔ Eqv g a b := by
 constructor
 · intro h
   have h1 := J.lok.eqv a ha
   rw [h] at h1
   exact h1.trans (J.lok.eqv b hb).symm
 · intro h
   exact h (λ j => l.getD j 0) J.arm
theorem JOk.rep0 {g : An} {n : Nat} {l : List Int} (J : JOk g n l) (hn : 1 <= n) : rep l 0 := by
 have := J.lok.rng 0 hn
 unfold rep; omega
theorem Asf {g : An} {n : Nat} {l : List Int} (J : JOk g n l) {a b : Nat} (ha : a < n) (hb : b < n) (h : Eqv g a b) (k : Int) : sm n (λ i => (if l.getD i 0 = k then 1 else 0) * ev a b i) = 0 := by
 have e : sm n (λ i => (if l.getD i 0 = (k : Int) then 1 else 0) * ev a b i) = sm n (λ i => ev a b i * (if l.getD i 0 = (k : Int) then 1 else 0)) := Bl λ i _ => Rat.mul_comm _ _
 rw [e, Uy ha hb (λ i => if l.getD i 0 = (k : Int) then 1 else 0), (J.iff ha hb).2 h]
 grind
theorem Vm {n : Nat} (hn : n <= 1000) (g : An) (a b : Int) : Ar (Bj (λ v : (Int × Int × List Al) => Il g a b v.1 v.2.1 v.2.2) ((n : Int), (0 : Int), List.replicate n QZ0)) λ o => o.length = n /\ ∀ i, i < n -> Cc (o.getD i Bd) 0 :=
 Zr (n := n) (v := List.replicate n QZ0) (by simp) hn (f := λ x y z => Il g a b x y z) (λ i w Q hw hi hQ hE => by
   unfold Il
   simp only [Ai, At, Ah, Ae, decide_eq_true_eq, Af, Int.toNat_natCast]
   refine ⟨λ h => ?_, λ h => hE (by omega)⟩
   refine (Dj (n := 0) (by omega) (by omega)).mono ?_
   rintro q hq
   rw [Bg (by omega) (by omega)]
   exact ⟨by omega, hQ (by omega) q hq⟩)
theorem R5 {g : An} {n : Nat} (G : GOk g n) (a b : Int) : Ar (Hg g a b) λ r =>
   (¬ (0 <= a /\ a < (n : Int) /\ 0 <= b /\ b < (n : Int)) -> r = (⟨0, 0⟩, 1)) /\
   ∀ a' b' : Nat, a = (a' : Int) -> b = (b' : Int) -> a' < n -> b' < n -> (¬ Eqv g a' b' -> r = (⟨0, 0⟩, 4)) /\
     (Eqv g a' b' -> ∃ p : Nat -> Rat, p 0 = 0 /\ (∀ i, i < n -> sm n (λ j => lap g i j * p j) = ev a' b' i) /\ (r.2 = 0 ↔ Jf (p a' - p b')) /\ (r.2 = 0 -> r.1 = ⟨(p a' - p b').num, (p a' - p b').den⟩) /\ (r.2 ≠ 0 -> r = (⟨0, 0⟩, 3))) := by
 have hn := G.nodes
 have h1 := G.n1
 have h12 := G.n12
 unfold Hg Hi
 refine (Me g).bind ?_
 rintro e ⟨_, e2, _⟩
 have e0 : e = 0 := e2 ⟨n, G⟩
 subst e0
 rw [if_neg (by simp)]
 simp only [Ai, Ae, decide_eq_true_eq, hn]
 refine ⟨λ h => ⟨λ _ => trivial, λ a' b' ha hb => by omega⟩, λ g1 => ⟨λ h => ⟨λ _ => trivial, λ a' b' ha hb => by omega⟩, λ g2 => ⟨λ h => ⟨λ _ => trivial, λ a' b' ha hb => by omega⟩, λ g3 => ⟨λ h => ⟨λ _ => trivial, λ a' b' ha hb => by omega⟩, λ g4 => ?_⟩⟩⟩⟩
 obtain ⟨a, rfl⟩ : ∃ k : Nat, a = (k : Int) := ⟨a.toNat, by omega⟩
 obtain ⟨b, rfl⟩ : ∃ k : Nat, b = (k : Int) := ⟨b.toNat, by omega⟩
 have ha : a < n := by omega
 have hb : b < n := by omega
 refine (Uh G).bind ?_
 rintro l J
 have hll := J.lok.len
 simp only [Ah, Ai, Ae, Int.toNat_natCast, Af, hll, Bool.not_eq_true', decide_eq_false_iff_not]
 refine ⟨by omega, by omega, λ hne => ⟨λ h => by omega, λ a' b' ea eb _ _ => ?_⟩, λ he => ?_⟩
 · have ea : a = a' := by omega
   have eb : b = b' := by omega
   subst ea eb
   exact ⟨λ _ => trivial, λ h => (hne ((J.iff ha hb).2 h)).elim⟩
 · have he : l.getD a 0 = l.getD b 0 := by omega
   have hE := (J.iff ha hb).1 he
   refine ⟨by omega, by omega, by unfold Ap; omega, ?_⟩
   rw [List.length_replicate]
   refine (Vm (n := n) (by omega) g (a : Int) (b : Int)).bind ?_
   rintro z ⟨z1, z2⟩
   rw [Ah]
   refine ⟨by omega, ?_⟩
   refine (Dj (n := 1) (by omega) (by omega)).bind ?_
   rintro y4 hy4
   refine (Ib (z2 a ha) hy4 (k := 1) (m := 1) (D3 0) (G6 0) (by omega)).bind ?_
   rintro y5 hy5
   simp only [Ah, List.length_set, z1]
   refine ⟨by omega, by omega, ?_⟩
   refine (Dj (n := 1) (by omega) (by omega)).bind ?_
   rintro y6 hy6
   have hz : Cc ((z.set a y5).getD b Bd) (if b = a then 1 else 0) := by
     rw [Bf]
     by_cases hba : b = a
     · rw [if_pos ⟨hba, by omega⟩, if_pos hba]
       have : (0 : Rat) + ((1 : Int) : Rat) = 1 := by grind
       rw [this] at hy5; exact hy5
     · rw [if_neg (by omega), if_neg hba]; exact z2 b hb
   have hzs : Sz (if b = a then (1 : Rat) else 0) 1 := by
     split
     · exact G6 0
     · exact D3 0
   refine (Ji hz hy6 (k := 1) (m := 1) hzs (G6 0) (by omega)).bind ?_
   rintro y7 hy7
   rw [Ah]
   refine ⟨by omega, ?_⟩
   have hv : ∀ i, i < n -> Cc (((z.set a y5).set b y7).getD i Bd) (ev a b i) := by
     intro i hi
     rw [Bf, List.length_set]
     unfold ev
     by_cases hib : i = b
     · rw [if_pos ⟨hib, by omega⟩, if_pos hib, hib]; exact hy7
     · rw [if_neg (by omega), if_neg hib, Bf]
       by_cases hia : i = a
       · rw [if_pos ⟨hia, by omega⟩, if_pos hia]
         have : (0 : Rat) + ((1 : Int) : Rat) = 1 - 0 := by grind
         rw [this] at hy5; exact hy5
       · rw [if_neg (by omega), if_neg hia]
         have : (0 : Rat) - 0 = 0 := by grind
         rw [this]; exact z2 i hi
   have hvs : ∀ i, i < n -> Sz (ev a b i) 161 := by
     intro i _
     rcases L3 a b i with h | h | h <;> rw [h]
     · exact (D3 0).mono (by omega)
     · exact (G6 0).mono (by omega)
     · exact (G6 0).neg.mono (by omega)
   refine (Ov G (by simp [z1]) hv (s := 161) (by omega) (by omega) hvs).bind ?_
   rintro o ⟨l', p, J', o1, o2, p1, p2⟩
   rw [Ah, Ah]
   refine ⟨by omega, by omega, ?_⟩
   have hp := Xx G J' p (ev a b) p2 (Asf J' ha hb hE)
   obtain ⟨qa, sa⟩ := o2 a ha
   obtain ⟨qb, sb⟩ := o2 b hb
   refine (Ji qa qb sa sb (by omega)).bind ?_
   rintro y9 hy9
   refine (O6 hy9).bind ?_
   rintro y10 ⟨t1, t2, t3⟩
   rw [Ae]
   refine ⟨λ h => by omega, λ a' b' ea eb _ _ => ?_⟩
   have ea : a = a' := by omega
   have eb : b = b' := by omega
   subst ea eb
   exact ⟨λ h => (h hE).elim, λ _ => ⟨p, p1 0 (by omega) (J'.rep0 h1), hp, t1, t2, t3⟩⟩
def tre (g : An) (n : Nat) : Rat := det (n - 1) λ i j => lap g (i + 1) (j + 1)
theorem Ug {g : An} {n : Nat} (G : GOk g n) : Ar (Iv g) λ r => (r.2 = 0 ↔ Jf (tre g n)) /\ (r.2 = 0 -> r.1 = ⟨(tre g n).num, (tre g n).den⟩) /\ (r.2 ≠ 0 -> r = (⟨0, 0⟩, 3)) := by
 have hn := G.nodes
 have h1 := G.n1
 have h12 := G.n12
 unfold Iv
 refine (Me g).bind ?_
 rintro e ⟨_, e2, _⟩
 have e0 : e = 0 := e2 ⟨n, G⟩
 subst e0
 rw [if_neg (by simp)]
 refine (Rz G).bind ?_
 rintro m ⟨mC, mM⟩
 have hm := mM.rows
 simp only [Ah, At]
 refine ⟨by omega, by omega, by omega, ?_⟩
 have hd : List.take (((m.V.length : Nat) : Int).toNat - (1 : Int).toNat) (List.drop (1 : Int).toNat m.V) = m.V.drop 1 := by
   show List.take (m.V.length - 1) (m.V.drop 1) = m.V.drop 1
   exact List.take_of_length_le (by simp)
 rw [hd]
 have hdl : (m.V.drop 1).length = n - 1 := by simp [hm]
 have hdg : ∀ i, i < n - 1 -> (m.V.drop 1).getD i [] = m.V.getD (i + 1) [] := by
   intro i _
   simp only [List.getD_eq_getElem?_getD, List.getElem?_drop, Nat.add_comm]
 rw [hdl]
 refine (As (I := λ s : List (List Al) × Int × Int × List (List Al) => ∃ k : Nat, s.1 = m.V.drop 1 /\ s.2.1 = ((n - 1 : Nat) : Int) /\ s.2.2.1 = (k : Int) /\ k <= n - 1 /\ s.2.2.2.length = k /\ ∀ i, i < k -> s.2.2.2.getD i [] = (m.V.getD (i + 1) []).drop 1)
   (μ := λ s : List (List Al) × Int × Int × List (List Al) => n - 1 - s.2.2.1.toNat) (Q := λ o => o.length = n - 1 /\ ∀ i, i < n - 1 -> o.getD i [] = (m.V.getD (i + 1) []).drop 1)
   ⟨0, rfl, rfl, rfl, Nat.zero_le _, rfl, λ i hi => by omega⟩ ?_).mono ?_
 · rintro ⟨d, c, i, w⟩ ⟨k, g1, g2, g3, g4, g5, g6⟩
   simp only at g1 g2 g3 g5 g6
   subst g1 g2 g3
   unfold Pa
   simp only [Ai, Ah, Ae, decide_eq_true_eq, Av, Aw, Af, Int.toNat_natCast, hdl]
   refine ⟨λ h => ?_, λ h => ?_⟩
   · have hk : k < n - 1 := by omega
     rw [hdg k hk]
     have hc := mM.cols (k + 1) (by omega)
     have ht : List.take ((m.V.getD (k + 1) []).length - (1 : Int).toNat) (List.drop (1 : Int).toNat (m.V.getD (k + 1) [])) = (m.V.getD (k + 1) []).drop 1 := by
       show List.take ((m.V.getD (k + 1) []).length - 1) ((m.V.getD (k + 1) []).drop 1) = _
       exact List.take_of_length_le (by simp)
     rw [ht, Bg (by omega) (by omega)]
     refine ⟨by omega, by omega, by omega, by omega, by simp only [List.length_singleton]; unfold Ap; omega, ⟨k + 1, trivial, trivial, by simp, by omega, by simp [g5], λ i hi => ?_⟩, by omega⟩
     rw [Eg]
     by_cases hik : i = k
     · subst hik; rw [if_neg (by omega), if_pos (by omega)]
     · rw [if_pos (by omega)]; exact g6 i (by omega)
   · have : k = n - 1 := by omega
     subst this
     exact ⟨g5, g6⟩
 · rintro w ⟨w1, w2⟩
   have W : E4 w (n - 1) (n - 1) (λ i j => lap g (i + 1) (j + 1)) := by
     refine ⟨w1, λ i hi => ?_, λ i j hi hj => ?_⟩
     · rw [w2 i hi, List.length_drop, mM.cols (i + 1) (by omega)]
     · unfold mg
       rw [w2 i hi]
       have : ((m.V.getD (i + 1) []).drop 1).getD j Bd = (m.V.getD (i + 1) []).getD (j + 1) Bd := by
         simp only [List.getD_eq_getElem?_getD, List.getElem?_drop, Nat.add_comm]
       rw [this]
       exact mM.rep (i + 1) (j + 1) (by omega) (by omega)
   refine (Anb (m := ⟨IntKind.wrap .i64 (g.Nodes - (1 : Int)), w⟩) W (by show IntKind.wrap .i64 (g.Nodes - 1) = _; rw [hn, Bg (by omega) (by omega)]; omega) (by omega) (g0 := 161) (λ i j _ _ => (Vf G (i + 1) (j + 1) _ (Nat.le_refl _)).mono (by have := G.arms; omega)) (by omega) (by omega)).mono ?_
   rintro q ⟨hq, _⟩
   refine (O6 hq).mono ?_
   rintro r ⟨r1, r2, r3⟩
   rw [Ae]
   exact ⟨r1, r2, r3⟩
theorem Aeo {g : An} {n : Nat} (G : GOk g n) : Ar (Iv g) λ r => (r.2 = 0 ↔ Jf (tre g n)) /\ (r.2 = 0 -> r.1 = ⟨(tre g n).num, (tre g n).den⟩) := (Ug G).mono λ _ h => ⟨h.1, h.2.1⟩
theorem Aiu {g : An} {n : Nat} (G : GOk g n) {x y : Nat -> Rat} (h : ∀ i, i < n -> sm n (λ j => lap g i j * x j) = sm n λ j => lap g i j * y j) {a b : Nat} (hE : Eqv g a b) : x a - x b = y a - y b := by
 let d : Nat -> Rat := λ i => x i - y i
 have hd : ∀ i, i < n -> sm n (λ j => lap g i j * d j) = 0 := by
   intro i hi
   have : sm n (λ j => lap g i j * d j) = sm n (λ j => lap g i j * x j) - sm n (λ j => lap g i j * y j) := by
     rw [<- Sn]; exact Bl λ j _ => by show lap g i j * (x j - y j) = _; grind
   rw [this, h i hi]; grind
 have he := Ah4 G d
 have h0 : sm n (λ i => d i * sm n λ j => lap g i j * d j) = 0 := Ij λ i hi => by rw [hd i hi]; grind
 rw [h0] at he
 have each := Lg (f := λ e => cond (am g e) * ((d (nA g e) - d (nB g e)) * (d (nA g e) - d (nB g e)))) (n := g.Arms.length) (λ e he => Rat.mul_nonneg (Rat.le_of_lt (Qc (G.arm e he))) (Pv _)) he.symm
 have heq : ∀ e, e < g.Arms.length -> d (nA g e) = d (nB g e) := by
   intro e hel
   have := each e hel
   have hc := Rat.ne_of_gt (Qc (G.arm e hel))
   rcases Rat.mul_eq_zero.1 this with h | h
   · exact (hc h).elim
   · rcases Rat.mul_eq_zero.1 h with h | h <;> grind
 have key : d a = d b := by
   refine Classical.byContradiction λ hne => ?_
   have := hE (λ m => if d m = d a then 1 else 0) λ e hel => by show (if d (nA g e) = d a then (1 : Int) else 0) = if d (nB g e) = d a then 1 else 0; rw [heq e hel]
   simp only [if_true] at this
   rw [if_neg (Ne.symm hne)] at this
   omega
 have key : x a - y a = x b - y b := key
 grind
def drv (g : An) (e : Nat) : Rat := cond (am g e) * Ed (am g e).E
def flK (g : An) (k i : Nat) : Rat := sm k λ e => -(drv g e * evE g e i)
def cur (g : An) (p : Nat -> Rat) (e : Nat) : Rat := (p (nA g e) - p (nB g e) + Ed (am g e).E) * cond (am g e)
theorem Ait {g : An} {n : Nat} (G : GOk g n) {e : Nat} (he : e < g.Arms.length) : Sz (drv g e) 5 :=
 Sz.mono (Sz.mul (Nf (G.arm e he)) (Fv (G.arm e he).e)) (by omega)
theorem Yx {g : An} {n : Nat} (G : GOk g n) (i : Nat) : ∀ k, k <= g.Arms.length -> Sz (flK g k i) (1 + 6 * k)
 | 0, _ => D3 0
 | k + 1, h => by
   have IH := Yx G i k (by omega)
   have hd := Ait G (show k < g.Arms.length by omega)
   have ht : Sz (-(drv g k * evE g k i)) 5 := by
     unfold evE
     rcases L3 (nA g k) (nB g k) i with h1 | h1 | h1 <;> rw [h1]
     · have e : -(drv g k * 0) = 0 := by grind
       rw [e]; exact D3 4
     · have e : -(drv g k * 1) = -drv g k := by grind
       rw [e]; exact hd.neg
     · have e : -(drv g k * -1) = drv g k := by grind
       rw [e]; exact hd
   exact (IH.add ht).mono (show 1 + 6 * k + 5 + 1 <= 1 + 6 * (k + 1) by omega)
theorem A64 {g : An} {n : Nat} (G : GOk g n) {l : List Int} (J : JOk g n l) (k : Int) : sm n (λ i => (if l.getD i 0 = k then 1 else 0) * flK g g.Arms.length i) = 0 := by
 have e1 : sm n (λ i => (if l.getD i 0 = k then 1 else 0) * flK g g.Arms.length i) = sm n (λ i => sm g.Arms.length λ e => (if l.getD i 0 = k then 1 else 0) * -(drv g e * evE g e i)) := by
   refine Bl λ i _ => ?_
   unfold flK
   rw [<- Gu]
 rw [e1, My]
 refine Ij λ e he => ?_
 obtain ⟨a1, a2, _, _⟩ := G.ab he
 have := Uy a1 a2 (λ i => if l.getD i 0 = k then 1 else 0)
 have e2 : sm n (λ i => (if l.getD i 0 = k then 1 else 0) * -(drv g e * evE g e i)) = sm n (λ i => -(drv g e) * (ev (nA g e) (nB g e) i * (if l.getD i 0 = k then 1 else 0))) := Bl λ i _ => by unfold evE; grind
 rw [e2, Gu, this, J.arm e he]; grind
theorem Afp {g : An} {n : Nat} (G : GOk g n) {z : List Al} (z1 : z.length = n) (z2 : ∀ i, i < n -> Cc (z.getD i Bd) 0) :
   Ar (Bj (λ v : (Int × (List Al)) => Nv g v.1 v.2) ((0 : Int), z)) λ o => o.length = n /\ ∀ i, i < n -> Cc (o.getD i Bd) (flK g g.Arms.length i) := by
 have h40 := G.arms
 have h12 := G.n12
 refine As (I := λ s : Int × List Al => ∃ k : Nat, s.1 = (k : Int) /\ k <= g.Arms.length /\ s.2.length = n /\ ∀ i, i < n -> Cc (s.2.getD i Bd) (flK g k i)) (μ := λ s : Int × List Al => g.Arms.length - s.1.toNat) ⟨0, rfl, Nat.zero_le _, z1, z2⟩ ?_
 rintro ⟨i, w⟩ ⟨k, h1, h2, h3, h4⟩
 simp only at h1 h3 h4
 subst h1
 unfold Nv
 rw [Ai]
 simp only [decide_eq_true_eq, Ah, Ae, Af, Int.toNat_natCast, Aw]
 refine ⟨λ h => ⟨by omega, ?_⟩, λ h => ?_⟩
 · have hk : k < g.Arms.length := by omega
   obtain ⟨a1, a2, a3, a4⟩ := G.ab hk
   have eA : (List.getD g.Arms k Ac).A = (nA g k : Int) := a3
   have eB : (List.getD g.Arms k Ac).B = (nB g k : Int) := a4
   have arm := G.arm k hk
   refine (Qu (n := n) (a := am g k) arm).bind ?_
   rintro c hc
   refine (Qn arm.e).bind ?_
   rintro e he
   refine (Jm hc he (Nf arm) (Fv arm.e) (by omega)).bind ?_
   rintro t ht
   have ht : Cc t (drv g k) := ht
   have hd := Ait G hk
   rw [eA, eB]
   generalize hp : nA g k = p at a1 eA ⊢
   generalize hq : nB g k = q at a2 eB ⊢
   simp only [Ah, Int.toNat_natCast, List.length_set, h3]
   refine ⟨by omega, ?_⟩
   have sF : ∀ i, Sz (flK g k i) 241 := λ i => (Yx G i k (by omega)).mono (by omega)
   refine (Ji (h4 p a1) ht (sF p) hd (by omega)).bind ?_
   rintro y5 hy5
   simp only [Ah]
   refine ⟨by omega, by omega, ?_⟩
   have v1 : Cc ((w.set p y5).getD q Bd) (if q = p then flK g k p - drv g k else flK g k q) := by
     rw [Bf]
     by_cases hqp : q = p
     · rw [if_pos ⟨hqp, by omega⟩, if_pos hqp]; exact hy5
     · rw [if_neg (by omega), if_neg hqp]; exact h4 q a2
   have s1 : Sz (if q = p then flK g k p - drv g k else flK g k q) 250 := by
     split
     · exact ((sF p).sub hd).mono (by omega)
     · exact (sF q).mono (by omega)
   refine (Ib v1 ht s1 hd (by omega)).bind ?_
   rintro y6 hy6
   rw [Ah, Ae, Av, Bg (by omega) (by omega)]
   refine ⟨by omega, ⟨k + 1, by simp, by omega, by simp [h3], λ i hi => ?_⟩, by simp; omega⟩
   show Cc (((w.set p y5).set q y6).getD i Bd) (flK g (k + 1) i)
   have hstep : flK g (k + 1) i = flK g k i + -(drv g k * evE g k i) := rfl
   rw [hstep, Bf, List.length_set]
   unfold evE ev
   rw [hp, hq]
   by_cases hiq : i = q
   · rw [if_pos ⟨hiq, by omega⟩]
     by_cases hqp : q = p
     · rw [if_pos hqp] at hy6
       rw [if_pos (hiq.trans hqp), if_pos hiq]
       have : flK g k i + -(drv g k * (1 - 1)) = flK g k p - drv g k + drv g k := by rw [hiq, hqp]; grind
       rw [this]; exact hy6
     · rw [if_neg hqp] at hy6
       rw [if_neg (by omega), if_pos hiq]
       have : flK g k i + -(drv g k * (0 - 1)) = flK g k q + drv g k := by rw [hiq]; grind
       rw [this]; exact hy6
   · rw [if_neg (by omega), if_neg hiq, Bf]
     by_cases hip : i = p
     · rw [if_pos ⟨hip, by omega⟩, if_pos hip]
       have : flK g k i + -(drv g k * (1 - 0)) = flK g k p - drv g k := by rw [hip]; grind
       rw [this]; exact hy5
     · rw [if_neg (by omega), if_neg hip]
       have : flK g k i + -(drv g k * (0 - 0)) = flK g k i := by grind
       rw [this]; exact h4 i hi
 · have : k = g.Arms.length := by omega
   subst this
   exact ⟨h3, h4⟩
theorem Sa {g : An} {n : Nat} (G : GOk g n) : Ar (O4 g) λ o => ∃ (l : List Int) (p : Nat -> Rat), JOk g n l /\ (∀ i, i < n -> rep l i -> p i = 0) /\ (∀ i, i < n -> sm n (λ j => lap g i j * p j) = flK g g.Arms.length i) /\
   o.1.length = n /\ (∀ i, i < n -> Cc (o.1.getD i Bd) (p i)) /\ o.2.length = g.Arms.length /\ (∀ e, e < g.Arms.length -> Cc (o.2.getD e Bd) (cur g p e)) /\ ∀ i, i < n -> Sz (p i) 5000000000 := by
 have hn := G.nodes
 have h1 := G.n1
 have h12 := G.n12
 have h40 := G.arms
 unfold O4
 simp only [Ah, hn, Int.toNat_natCast]
 refine ⟨by omega, by omega, by unfold Ap; omega, ?_⟩
 rw [List.length_replicate]
 refine Ar.bind (Vm (n := n) (by omega) g 0 0) ?_
 rintro z ⟨z1, z2⟩
 refine (Afp G z1 z2).bind ?_
 rintro v ⟨v1, v2⟩
 refine (Ov G v1 v2 (s := 241) (by omega) (by omega) (λ i _ => (Yx G i _ (Nat.le_refl _)).mono (by omega))).bind ?_
 rintro o ⟨l, p, J, o1, o2, p1, p2⟩
 have hp := Xx G J p _ p2 (A64 G J)
 refine Ar.bind (R := λ r => r.length = g.Arms.length /\ ∀ e, e < g.Arms.length -> Cc (r.getD e Bd) (cur g p e)) (As (I := λ s : Int × List Al => ∃ k : Nat, s.1 = (k : Int) /\ k <= g.Arms.length /\ s.2.length = k /\ ∀ e, e < k -> Cc (s.2.getD e Bd) (cur g p e)) (μ := λ s : Int × List Al => g.Arms.length - s.1.toNat) ⟨0, rfl, Nat.zero_le _, rfl, λ e he => by omega⟩ ?_) ?_
 · rintro ⟨i, w⟩ ⟨k, g1, g2, g3, g4⟩
   simp only at g1 g3 g4
   subst g1
   unfold Rd
   rw [Ai]
   simp only [decide_eq_true_eq, Ah, Ae, Af, Int.toNat_natCast, Aw]
   refine ⟨λ h => ?_, λ h => ?_⟩
   · have hk : k < g.Arms.length := by omega
     obtain ⟨a1, a2, a3, a4⟩ := G.ab hk
     have eA : (List.getD g.Arms k Ac).A = (nA g k : Int) := a3
     have eB : (List.getD g.Arms k Ac).B = (nB g k : Int) := a4
     have arm := G.arm k hk
     rw [eA, eB]
     refine ⟨by omega, by omega, by omega, ?_⟩
     simp only [Int.toNat_natCast]
     obtain ⟨qa, sa⟩ := o2 _ a1
     obtain ⟨qb, sb⟩ := o2 _ a2
     refine (Ji qa qb sa sb (by omega)).bind ?_
     rintro y8 hy8
     refine (Qn arm.e).bind ?_
     rintro y9 hy9
     have s8 := sa.sub sb
     refine (Ib hy8 hy9 s8 (Fv arm.e) (by omega)).bind ?_
     rintro y10 hy10
     have s10 := s8.add (Fv arm.e)
     refine Ar.bind (R := λ c => Cc c (cond (am g k))) (by
       have := Qu (n := n) (a := am g k) arm
       have e : (⟨(nA g k : Int), (nB g k : Int), (List.getD g.Arms k Ac).R, (List.getD g.Arms k Ac).E⟩ : D4) = am g k := by rw [<- a3, <- a4]; rfl
       rw [e]; exact this) ?_
     rintro y11 hy11
     refine (Jm hy10 hy11 s10 (Nf arm) (by omega)).bind ?_
     rintro y12 hy12
     rw [Ah, Ae, Av, Bg (by omega) (by omega)]
     refine ⟨by simp only [List.length_singleton]; unfold Ap; omega, ⟨k + 1, by simp, by omega, by simp [g3], λ e he => ?_⟩, by simp; omega⟩
     show Cc ((w ++ [y12]).getD e Bd) (cur g p e)
     rw [Eg]
     by_cases hek : e = k
     · subst hek; rw [if_neg (by omega), if_pos (by omega)]; exact hy12
     · rw [if_pos (by omega)]; exact g4 e (by omega)
   · have : k = g.Arms.length := by omega
     subst this
     exact ⟨g3, g4⟩
 · rintro r ⟨r1, r2⟩
   rw [Ae]
   exact ⟨l, p, J, p1, hp, o1, λ i hi => (o2 i hi).1, r1, r2, λ i hi => (o2 i hi).2⟩
theorem Xo {v : List Al} {m : Nat} (hv : v.length = m) (hm : m <= 1000) {x : Nat -> Rat} (hx : ∀ i, i < m -> Cc (v.getD i Bd) (x i)) :
   Ar (Ph v) λ r => (r.2 = true ↔ ∀ i, i < m -> Jf (x i)) /\ (r.2 = true -> r.1.length = m /\ ∀ i, i < m -> r.1.getD i Cj = ⟨(x i).num, (x i).den⟩) /\ (r.2 = false -> r.1 = []) := by
 unfold Ph
 simp only [Ah]
 refine ⟨by omega, by omega, by unfold Ap; omega, ?_⟩
 refine Ar.bind (R := λ r : List Au ⊕ (List Au × Bool) => match r with
   | .inl w => w.length = m /\ ∀ i, i < m -> Jf (x i) /\ w.getD i Cj = ⟨(x i).num, (x i).den⟩
   | .inr e => e = ([], false) /\ ¬ ∀ i, i < m -> Jf (x i))
   (As (I := λ s : Int × List Au => ∃ k : Nat, s.1 = (k : Int) /\ k <= m /\ s.2.length = m /\ ∀ i, i < k -> Jf (x i) /\ s.2.getD i Cj = ⟨(x i).num, (x i).den⟩) (μ := λ s : Int × List Au => m - s.1.toNat) ⟨0, rfl, Nat.zero_le _, by simp [hv], λ i hi => by omega⟩ ?_) ?_
 · rintro ⟨i, w⟩ ⟨k, g1, g2, g3, g4⟩
   simp only at g1 g3 g4
   subst g1
   unfold Re
   rw [Ai]
   simp only [decide_eq_true_eq, Ah, Ae, Af, Int.toNat_natCast, Aw, hv]
   refine ⟨λ h => ⟨by omega, ?_⟩, λ h => ?_⟩
   · have hk : k < m := by omega
     refine (Abg (hx k hk)).bind ?_
     rintro ⟨a, b⟩ ⟨t1, t2⟩
     simp only at t1 t2
     simp only [Ai, Ah, Ae, Bool.not_eq_true', Aw, Av, g3]
     refine ⟨λ hb => ⟨trivial, λ hall => ?_⟩, λ hb => ?_⟩
     · rw [t1.2 (hall k hk)] at hb; cases hb
     · have hb : b = true := by simpa using hb
       rw [Bg (by omega) (by omega)]
       refine ⟨by omega, ⟨k + 1, by simp, by omega, by simp [g3], λ i hi => ?_⟩, by simp; omega⟩
       show Jf (x i) /\ (w.set k a).getD i Cj = _
       rw [Bf]
       by_cases hik : i = k
       · subst hik; rw [if_pos ⟨rfl, by omega⟩]; exact ⟨t1.1 hb, t2 hb⟩
       · rw [if_neg (by omega)]; exact g4 i (by omega)
   · have : k = m := by omega
     subst this
     exact ⟨g3, g4⟩
 · rintro r hr
   cases r with
   | inl w =>
     rw [Ae]
     exact ⟨⟨λ _ i hi => (hr.2 i hi).1, λ _ => rfl⟩, λ _ => ⟨hr.1, λ i hi => (hr.2 i hi).2⟩, λ h => by cases h⟩
   | inr e =>
     rw [Ae]
     obtain ⟨rfl, h2⟩ := hr
     exact ⟨⟨λ h => (by cases h), λ h => (h2 h).elim⟩, λ h => (by cases h), λ _ => rfl⟩
def Xe (g : An) (n : Nat) (p : Nat -> Rat) : Prop := (∀ i, i < n -> Jf (p i)) /\ ∀ e, e < g.Arms.length -> Jf (cur g p e)
theorem N6 {g : An} {n : Nat} (G : GOk g n) : Ar (E2 g) λ r => ∃ (l : List Int) (p : Nat -> Rat), JOk g n l /\ (∀ i, i < n -> rep l i -> p i = 0) /\ (∀ i, i < n -> sm n (λ j => lap g i j * p j) = flK g g.Arms.length i) /\
   (¬ Xe g n p -> r = ([], [], 3)) /\ (Xe g n p -> r.2.2 = 0 /\ r.1.length = n /\ (∀ i, i < n -> r.1.getD i Cj = ⟨(p i).num, (p i).den⟩) /\ r.2.1.length = g.Arms.length /\ ∀ e, e < g.Arms.length -> r.2.1.getD e Cj = ⟨(cur g p e).num, (cur g p e).den⟩) := by
 have h12 := G.n12
 have h40 := G.arms
 unfold E2 Hp
 refine (Me g).bind ?_
 rintro e ⟨_, e2, _⟩
 have e0 : e = 0 := e2 ⟨n, G⟩
 subst e0
 rw [if_neg (by simp)]
 refine (Sa G).bind ?_
 rintro o ⟨l, p, J, p1, p2, o1, o2, c1, c2, _⟩
 refine (Xo o1 (by omega) o2).bind ?_
 rintro ⟨ra, ba⟩ ⟨a1, a2, a3⟩
 refine (Xo c1 (by omega) c2).bind ?_
 rintro ⟨rb, bb⟩ ⟨b1, b2, b3⟩
 simp only at a1 a2 a3 b1 b2 b3
 simp only [Ai, Ae, Bool.not_eq_true']
 refine ⟨λ h => ⟨l, p, J, p1, p2, λ _ => trivial, λ hp => ?_⟩, λ ha => ⟨λ h => ⟨l, p, J, p1, p2, λ _ => trivial, λ hp => ?_⟩, λ hb => ?_⟩⟩
 · rw [a1.2 hp.1] at h; cases h
 · rw [b1.2 hp.2] at h; cases h
 · have ha : ba = true := by simpa using ha
   have hb : bb = true := by simpa using hb
   refine ⟨l, p, J, p1, p2, λ hp => (hp ⟨a1.1 ha, b1.1 hb⟩).elim, λ _ => ⟨trivial, (a2 ha).1, (a2 ha).2, (b2 hb).1, (b2 hb).2⟩⟩
theorem Ul {α : Type} (d : α) {a b : List α} (hl : a.length = b.length) (h : ∀ i, i < a.length -> a.getD i d = b.getD i d) : a = b := by
 refine List.ext_getElem hl λ i h1 h2 => ?_
 have := h i h1
 simp only [List.getD_eq_getElem?_getD, List.getElem?_eq_getElem h1, List.getElem?_eq_getElem h2, Option.getD_some] at this
 exact this
theorem Sx {a b : List Au} (ha : a.length <= 1000) : Ar (Da a b) λ r => r = true ↔ a = b := by
 unfold Da
 refine Ar.bind (R := λ r : Unit ⊕ Bool => match r with
   | .inl _ => ∀ i, i < a.length -> i < b.length -> a.getD i Cj = b.getD i Cj
   | .inr e => e = false /\ a ≠ b)
   (As (I := λ v : Int => ∃ k : Nat, v = (k : Int) /\ k <= a.length /\ k <= b.length /\ ∀ i, i < k -> a.getD i Cj = b.getD i Cj) (μ := λ v : Int => a.length - v.toNat) ⟨0, rfl, Nat.zero_le _, Nat.zero_le _, λ i hi => by omega⟩ ?_) ?_
 · rintro v ⟨k, rfl, g1, g2, g3⟩
   unfold G5
   simp only [Ai, Ah, Ae, decide_eq_true_eq, Aw, Av, Af, Int.toNat_natCast]
   refine ⟨λ h => ⟨λ h' => ⟨by omega, by omega, λ hne => ⟨trivial, λ he => ?_⟩, λ heq => ?_⟩, λ h' i h1 h2 => g3 i (by omega)⟩, λ h i h1 h2 => g3 i (by omega)⟩
   · subst he
     simp at hne
   · rw [Bg (by omega) (by omega)]
     refine ⟨⟨k + 1, by simp, by omega, by omega, λ i hi => ?_⟩, by omega⟩
     by_cases hik : i = k
     · subst hik
       have heq : (a.getD i Cj).N = (b.getD i Cj).N /\ (a.getD i Cj).D = (b.getD i Cj).D := by simpa using heq
       cases hx : a.getD i Cj
       cases hy : b.getD i Cj
       rw [hx, hy] at heq
       simp only at heq
       rw [heq.1, heq.2]
     · exact g3 i (by omega)
 · intro r hr
   cases r with
   | inl u =>
     rw [Ae, decide_eq_true_eq]
     constructor
     · intro hl
       exact Ul Cj (by omega) λ i hi => hr i hi (by omega)
     · rintro rfl; rfl
   | inr e =>
     rw [Ae]
     obtain ⟨rfl, h2⟩ := hr
     exact ⟨λ h => (by cases h), λ h => (h2 h).elim⟩
def gX : An := ⟨3, [⟨0, 1, ⟨1, 1⟩, ⟨3, 1⟩⟩, ⟨1, 2, ⟨1, 1⟩, ⟨0, 1⟩⟩, ⟨2, 0, ⟨1, 1⟩, ⟨0, 1⟩⟩]⟩
theorem Q8 {k : Int} (h1 : -1000000000000 <= k) (h2 : k <= 1000000000000) : ROk ⟨k, 1⟩ :=
 ⟨⟨h1, h2, by show (0 : Int) < 1; omega, by show (1 : Int) <= 1000000000000; omega⟩, by show Int.gcd k 1 = 1; simp⟩
theorem Ava : GOk gX 3 := by
 refine ⟨rfl, by omega, by omega, by show 3 <= 40; omega, λ e he => ?_⟩
 have he : e < 3 := he
 have : e = 0 \/ e = 1 \/ e = 2 := by omega
 rcases this with rfl | rfl | rfl
 · exact ⟨by decide, by decide, by decide, by decide, Q8 (by omega) (by omega), by decide, Q8 (by omega) (by omega)⟩
 · exact ⟨by decide, by decide, by decide, by decide, Q8 (by omega) (by omega), by decide, Q8 (by omega) (by omega)⟩
 · exact ⟨by decide, by decide, by decide, by decide, Q8 (by omega) (by omega), by decide, Q8 (by omega) (by omega)⟩
theorem A7q : lap gX 0 0 = 2 /\ lap gX 0 1 = -1 /\ lap gX 0 2 = -1 /\ lap gX 1 0 = -1 /\ lap gX 1 1 = 2 /\ lap gX 1 2 = -1 /\ lap gX 2 0 = -1 /\ lap gX 2 1 = -1 /\ lap gX 2 2 = 2 := by
 decide +kernel
theorem Beq : flK gX 3 0 = -3 /\ flK gX 3 1 = 3 /\ flK gX 3 2 = 0 := by
 decide +kernel
theorem A82 : tre gX 3 = 3 := by
 decide +kernel
theorem A8z (p : Nat -> Rat) : cur gX p 0 = p 0 - p 1 + 3 /\ cur gX p 1 = p 1 - p 2 /\ cur gX p 2 = p 2 - p 0 := by
 have e0 : nA gX 0 = 0 /\ nB gX 0 = 1 /\ nA gX 1 = 1 /\ nB gX 1 = 2 /\ nA gX 2 = 2 /\ nB gX 2 = 0 := by decide
 have e1 : cond (am gX 0) = 1 /\ cond (am gX 1) = 1 /\ cond (am gX 2) = 1 := by decide +kernel
 have e2 : Ed (am gX 0).E = 3 /\ Ed (am gX 1).E = 0 /\ Ed (am gX 2).E = 0 := by decide +kernel
 obtain ⟨a1, a2, a3, a4, a5, a6⟩ := e0
 obtain ⟨b1, b2, b3⟩ := e1
 obtain ⟨c1, c2, c3⟩ := e2
 unfold cur
 rw [a1, a2, a3, a4, a5, a6, b1, b2, b3, c1, c2, c3]
 refine ⟨?_, ?_, ?_⟩ <;> grind
theorem Adz (f : Nat -> Rat) : sm 3 f = f 0 + f 1 + f 2 := by
 show 0 + f 0 + f 1 + f 2 = _
 grind
theorem Agh : Ar E1 λ b => b = true := by
 obtain ⟨l00, l01, l02, l10, l11, l12, l20, l21, l22⟩ := A7q
 obtain ⟨f0, f1, f2⟩ := Beq
 unfold E1 Bn
 simp only [At, Ae]
 refine (N6 Ava).mono ?_
 rintro ⟨pa, pc, pe⟩ ⟨l, p, J, p1, p2, k1, k2⟩
 have hr0 := p1 0 (by omega) (J.rep0 (by omega))
 have q0 := p2 0 (by omega)
 have q1 := p2 1 (by omega)
 have q2 := p2 2 (by omega)
 rw [Adz] at q0 q1 q2
 have f0 : flK gX gX.Arms.length 0 = -3 := f0
 have f1 : flK gX gX.Arms.length 1 = 3 := f1
 have f2 : flK gX gX.Arms.length 2 = 0 := f2
 rw [l00, l01, l02, f0] at q0
 rw [l10, l11, l12, f1] at q1
 rw [l20, l21, l22, f2] at q2
 have v1 : p 1 = 2 := by grind
 have v2 : p 2 = 1 := by grind
 obtain ⟨c0, c1, c2⟩ := A8z p
 have c0 : cur gX p 0 = 1 := by rw [c0, hr0, v1]; grind
 have c1 : cur gX p 1 = 1 := by rw [c1, v1, v2]; grind
 have c2 : cur gX p 2 = 1 := by rw [c2, v2, hr0]; grind
 have P : Xe gX 3 p := by
   refine ⟨λ i hi => ?_, λ e he => ?_⟩
   · have : i = 0 \/ i = 1 \/ i = 2 := by omega
     rcases this with rfl | rfl | rfl
     · rw [hr0]; unfold Jf; decide
     · rw [v1]; unfold Jf; decide
     · rw [v2]; unfold Jf; decide
   · have he : e < 3 := he
     have : e = 0 \/ e = 1 \/ e = 2 := by omega
     rcases this with rfl | rfl | rfl
     · rw [c0]; unfold Jf; decide
     · rw [c1]; unfold Jf; decide
     · rw [c2]; unfold Jf; decide
 obtain ⟨k3, _, _, k4, k5⟩ := k2 P
 simp only at k3 k4 k5
 have k4 : pc.length = 3 := k4
 have hpc : pc = [⟨1, 1⟩, ⟨1, 1⟩, ⟨1, 1⟩] := by
   refine Ul Cj (by rw [k4]; rfl) λ i hi => ?_
   rw [k4] at hi
   rw [k5 i (by show i < 3; exact hi)]
   have : i = 0 \/ i = 1 \/ i = 2 := by omega
   rcases this with rfl | rfl | rfl
   · rw [c0]; rfl
   · rw [c1]; rfl
   · rw [c2]; rfl
 refine (Aeo Ava).mono ?_
 rintro ⟨t, f⟩ ⟨t1, t2⟩
 rw [A82] at t1 t2
 simp only at t1 t2
 have tf : f = 0 := t1.2 (by unfold Jf; decide)
 have tt := t2 tf
 have tt : t = ⟨3, 1⟩ := by rw [tt]; rfl
 refine (R5 Ava 0 1).mono ?_
 rintro ⟨x, h⟩ ⟨_, b2⟩
 obtain ⟨_, b4⟩ := b2 0 1 rfl rfl (by omega) (by omega)
 obtain ⟨r, r0, r1, r2, r3, _⟩ := b4 (by
   intro f hf
   exact hf 0 (by show 0 < 3; omega))
 have s0 := r1 0 (by omega)
 have s1 := r1 1 (by omega)
 have s2 := r1 2 (by omega)
 rw [Adz] at s0 s1 s2
 have e0 : ev 0 1 0 = 1 := by decide +kernel
 have e1 : ev 0 1 1 = -1 := by decide +kernel
 have e2 : ev 0 1 2 = 0 := by decide +kernel
 rw [l00, l01, l02, e0] at s0
 rw [l10, l11, l12, e1] at s1
 rw [l20, l21, l22, e2] at s2
 have hx : r 0 - r 1 = 2 / 3 := by
   have : (3 : Rat) * (r 0 - r 1) = 2 := by grind
   grind
 have en : ((2 : Rat) / 3).num = 2 := by decide +kernel
 have ed : ((2 : Rat) / 3).den = 3 := by decide +kernel
 rw [hx] at r2 r3
 simp only at r2 r3
 have hh : h = 0 := r2.2 (by unfold Jf; rw [en, ed]; decide)
 have xx := r3 hh
 rw [en, ed] at xx
 rw [hpc]
 refine (Sx (by simp)).mono ?_
 rintro y hy
 have hy : y = true := hy.2 rfl
 subst hy tf hh k3
 rw [tt, xx]
 simp [Ae]
def lss (g : An) (k : Nat) : An := ⟨g.Nodes, g.Arms.take k ++ g.Arms.drop (k + 1)⟩
end Go.Ab
