/- Networks of package lib: the matrix of conductances, potentials. Networks of package lib: resistances between nodes. Networks of package lib: potentials and currents. Conditions: none beyond those that each theorem names. -/
import Derived.Test.YtjdgmcngpiookaaK24
namespace Go.Ab
open Go
set_option linter.unusedVariables false
set_option linter.unusedSimpArgs false
def ev (a b i : Nat) : Rat := (if i = a then 1 else 0) - (if i = b then 1 else 0)
def evE (g : ApiGrid) (e i : Nat) : Rat := ev (nA g e) (nB g e) i
def lapK (g : ApiGrid) (k i j : Nat) : Rat := sm k fun e => cond (am g e) * evE g e i * evE g e j
def lap (g : ApiGrid) (i j : Nat) : Rat := lapK g g.Arms.length i j
theorem lap_symm (g : ApiGrid) (k i j : Nat) : lapK g k i j = lapK g k j i := sm_congr fun e _ => by grind
theorem ev_sum {n a b : Nat} (ha : a < n) (hb : b < n) (x : Nat → Rat) : sm n (fun j => ev a b j * x j) = x a - x b := by
  have h : sm n (fun j => ev a b j * x j) = sm n (fun j => (if j = a then 1 else 0) * x j) - sm n (fun j => (if j = b then 1 else 0) * x j) := by
    rw [← sm_sub]; exact sm_congr fun j _ => by unfold ev; grind
  rw [h, sm_one (k := a) ha (fun i _ hne => by rw [if_neg hne]; grind), sm_one (k := b) hb (fun i _ hne => by rw [if_neg hne]; grind), if_pos rfl, if_pos rfl]
  grind
theorem lap_mul {g : ApiGrid} {n : Nat} (G : GOk g n) (x : Nat → Rat) (i : Nat) : sm n (fun j => lap g i j * x j) = sm g.Arms.length fun e => cond (am g e) * evE g e i * (x (nA g e) - x (nB g e)) := by
  have h : sm n (fun j => lap g i j * x j) = sm n (fun j => sm g.Arms.length fun e => cond (am g e) * evE g e i * evE g e j * x j) := by
    refine sm_congr fun j _ => ?_
    unfold lap lapK
    rw [Rat.mul_comm, ← sm_mul]
    exact sm_congr fun e _ => by grind
  rw [h, sm_swap]
  refine sm_congr fun e he => ?_
  obtain ⟨a1, a2, _, _⟩ := G.ab he
  have := ev_sum a1 a2 x
  rw [← this, ← sm_mul]
  exact sm_congr fun j _ => by unfold evE; grind
theorem sm_nonneg {f : Nat → Rat} : ∀ {n}, (∀ i, i < n → 0 ≤ f i) → 0 ≤ sm n f
  | 0, _ => Rat.le_refl
  | n + 1, h => Rat.add_nonneg (sm_nonneg fun i hi => h i (by omega)) (h n (by omega))
theorem sm_zero_each {f : Nat → Rat} : ∀ {n}, (∀ i, i < n → 0 ≤ f i) → sm n f = 0 → ∀ i, i < n → f i = 0
  | 0, _, _, i, hi => by omega
  | n + 1, h, h0, i, hi => by
    have h1 := sm_nonneg (n := n) fun i hi => h i (by omega)
    have h2 := h n (by omega)
    rw [sm] at h0
    have h3 : sm n f = 0 := by grind
    by_cases hin : i = n
    · subst hin; grind
    · exact sm_zero_each (fun i hi => h i (by omega)) h3 i (by omega)
theorem energy {g : ApiGrid} {n : Nat} (G : GOk g n) (x : Nat → Rat) : sm n (fun i => x i * sm n fun j => lap g i j * x j) = sm g.Arms.length fun e => cond (am g e) * ((x (nA g e) - x (nB g e)) * (x (nA g e) - x (nB g e))) := by
  have h : sm n (fun i => x i * sm n fun j => lap g i j * x j) = sm n (fun i => sm g.Arms.length fun e => x i * (cond (am g e) * evE g e i * (x (nA g e) - x (nB g e)))) := by
    refine sm_congr fun i _ => ?_
    rw [lap_mul G, ← sm_mul]
  rw [h, sm_swap]
  refine sm_congr fun e he => ?_
  obtain ⟨a1, a2, _, _⟩ := G.ab he
  have := ev_sum a1 a2 x
  have e2 : sm n (fun i => x i * (cond (am g e) * evE g e i * (x (nA g e) - x (nB g e)))) = sm n (fun i => (cond (am g e) * (x (nA g e) - x (nB g e))) * (ev (nA g e) (nB g e) i * x i)) := sm_congr fun i _ => by unfold evE; grind
  rw [e2, sm_mul, this]; grind
theorem mul_self_nonneg (x : Rat) : 0 ≤ x * x := by
  rcases Rat.le_total (a := 0) (b := x) with h | h
  · exact Rat.mul_nonneg h h
  · have h' : 0 ≤ -x := by grind
    have := Rat.mul_nonneg h' h'
    grind
def rep (l : List Int) (i : Nat) : Prop := l.getD i 0 = (i : Int)
instance (l : List Int) (i : Nat) : Decidable (rep l i) := inferInstanceAs (Decidable (_ = _))
theorem JOk.lab {g : ApiGrid} {n : Nat} {l : List Int} (J : JOk g n l) {i : Nat} (hi : i < n) : (l.getD i 0).toNat < n ∧ rep l (l.getD i 0).toNat := by
  have h1 := J.lok.rng i hi
  have h2 := J.lok.eqv i hi (fun j => l.getD j 0) J.arm
  exact ⟨by omega, by unfold rep; rw [← h2]; omega⟩
theorem net_trivial {g : ApiGrid} {n : Nat} (G : GOk g n) {l : List Int} (J : JOk g n l) (x : Nat → Rat) (h1 : ∀ i, i < n → rep l i → x i = 0) (h2 : ∀ i, i < n → ¬ rep l i → sm n (fun j => lap g i j * x j) = 0) : ∀ i, i < n → x i = 0 := by
  have he := energy G x
  have h0 : sm n (fun i => x i * sm n fun j => lap g i j * x j) = 0 := sm_zero fun i hi => by
    by_cases hr : rep l i
    · rw [h1 i hi hr]; grind
    · rw [h2 i hi hr]; grind
  rw [h0] at he
  have each := sm_zero_each (f := fun e => cond (am g e) * ((x (nA g e) - x (nB g e)) * (x (nA g e) - x (nB g e)))) (n := g.Arms.length) (fun e he => Rat.mul_nonneg (Rat.le_of_lt (cond_pos (G.arm e he))) (mul_self_nonneg _)) he.symm
  have heq : ∀ e, e < g.Arms.length → x (nA g e) = x (nB g e) := by
    intro e hel
    have := each e hel
    have hc := Rat.ne_of_gt (cond_pos (G.arm e hel))
    rcases Rat.mul_eq_zero.1 this with h | h
    · exact (hc h).elim
    · rcases Rat.mul_eq_zero.1 h with h | h <;> grind
  intro i hi
  -- what is joined is alike
  have key : ∀ j, Eqv g i j → x i = x j := by
    intro j hj
    refine Classical.byContradiction fun hne => ?_
    have := hj (fun m => if x m = x i then 1 else 0) fun e hel => by show (if x (nA g e) = x i then (1 : Int) else 0) = if x (nB g e) = x i then 1 else 0; rw [heq e hel]
    simp only [if_true] at this
    rw [if_neg (Ne.symm hne)] at this
    omega
  obtain ⟨k1, k2⟩ := J.lab hi
  rw [key _ (J.lok.eqv i hi)]
  exact h1 _ k1 k2
theorem net_rest {g : ApiGrid} {n : Nat} (G : GOk g n) {l : List Int} (J : JOk g n l) (x y : Nat → Rat) (h : ∀ i, i < n → ¬ rep l i → sm n (fun j => lap g i j * x j) = y i) (hy : ∀ k, sm n (fun i => (if l.getD i 0 = (k : Int) then 1 else 0) * y i) = 0) :
    ∀ i, i < n → sm n (fun j => lap g i j * x j) = y i := by
  intro k hk
  by_cases hr : rep l k
  · have h0 : sm n (fun i => (if l.getD i 0 = (k : Int) then 1 else 0) * sm n fun j => lap g i j * x j) = 0 := by
      have e1 : sm n (fun i => (if l.getD i 0 = (k : Int) then 1 else 0) * sm n fun j => lap g i j * x j) = sm n (fun i => sm g.Arms.length fun e => (if l.getD i 0 = (k : Int) then 1 else 0) * (cond (am g e) * evE g e i * (x (nA g e) - x (nB g e)))) := by
        refine sm_congr fun i _ => ?_
        rw [lap_mul G, ← sm_mul]
      rw [e1, sm_swap]
      refine sm_zero fun e he => ?_
      obtain ⟨a1, a2, _, _⟩ := G.ab he
      have := ev_sum a1 a2 (fun i => if l.getD i 0 = (k : Int) then 1 else 0)
      have e2 : sm n (fun i => (if l.getD i 0 = (k : Int) then 1 else 0) * (cond (am g e) * evE g e i * (x (nA g e) - x (nB g e)))) = sm n (fun i => (cond (am g e) * (x (nA g e) - x (nB g e))) * (ev (nA g e) (nB g e) i * (if l.getD i 0 = (k : Int) then 1 else 0))) := sm_congr fun i _ => by unfold evE; grind
      rw [e2, sm_mul, this, J.arm e he]; grind
    have h1 : sm n (fun i => (if l.getD i 0 = (k : Int) then 1 else 0) * ((sm n fun j => lap g i j * x j) - y i)) = 0 := by
      have : sm n (fun i => (if l.getD i 0 = (k : Int) then 1 else 0) * ((sm n fun j => lap g i j * x j) - y i)) = sm n (fun i => (if l.getD i 0 = (k : Int) then 1 else 0) * sm n fun j => lap g i j * x j) - sm n (fun i => (if l.getD i 0 = (k : Int) then 1 else 0) * y i) := by
        rw [← sm_sub]; exact sm_congr fun i _ => by grind
      rw [this, h0, hy k]; grind
    rw [sm_one (k := k) hk (fun i hi hne => by
      by_cases hl : l.getD i 0 = (k : Int)
      · rw [h i hi (by unfold rep; omega)]; grind
      · rw [if_neg hl]; grind), if_pos (show l.getD k 0 = (k : Int) from hr)] at h1
    grind
  · exact h k hk hr
theorem ev_cases (a b i : Nat) : ev a b i = 0 ∨ ev a b i = 1 ∨ ev a b i = -1 := by
  unfold ev; split <;> split
  · left; grind
  · right; left; grind
  · right; right; grind
  · left; grind
theorem lap_sz {g : ApiGrid} {n : Nat} (G : GOk g n) (i j : Nat) : ∀ k, k ≤ g.Arms.length → Sz (lapK g k i j) (1 + 4 * k)
  | 0, _ => sz_zero 0
  | k + 1, h => by
    have IH := lap_sz G i j k (by omega)
    have hc := cond_sz (G.arm k (by omega))
    have ht : Sz (cond (am g k) * evE g k i * evE g k j) 3 := by
      have z : Sz 0 3 := sz_zero 2
      have hc' : Sz (cond (am g k)) 3 := hc
      have hn := hc'.neg
      unfold evE
      rcases ev_cases (nA g k) (nB g k) i with h1 | h1 | h1 <;> rcases ev_cases (nA g k) (nB g k) j with h2 | h2 | h2 <;> rw [h1, h2]
      · have e : cond (am g k) * 0 * 0 = 0 := by grind
        rw [e]; exact z
      · have e : cond (am g k) * 0 * 1 = 0 := by grind
        rw [e]; exact z
      · have e : cond (am g k) * 0 * -1 = 0 := by grind
        rw [e]; exact z
      · have e : cond (am g k) * 1 * 0 = 0 := by grind
        rw [e]; exact z
      · have e : cond (am g k) * 1 * 1 = cond (am g k) := by grind
        rw [e]; exact hc'
      · have e : cond (am g k) * 1 * -1 = -cond (am g k) := by grind
        rw [e]; exact hn
      · have e : cond (am g k) * -1 * 0 = 0 := by grind
        rw [e]; exact z
      · have e : cond (am g k) * -1 * 1 = -cond (am g k) := by grind
        rw [e]; exact hn
      · have e : cond (am g k) * -1 * -1 = cond (am g k) := by grind
        rw [e]; exact hc'
    have := (IH.add ht).mono (show 1 + 4 * k + 3 + 1 ≤ 1 + 4 * (k + 1) by omega)
    exact this
theorem lap_step {p q : Nat} (h : p ≠ q) (L : Nat → Nat → Rat) (c : Rat) (a b : Nat) : L a b + c * ev p q a * ev p q b = if a = q ∧ b = p then L q p - c else if a = p ∧ b = q then L p q - c else if a = q ∧ b = q then L q q + c else if a = p ∧ b = p then L p p + c else L a b := by
  unfold ev
  by_cases h1 : a = p <;> by_cases h2 : a = q <;> by_cases h3 : b = p <;> by_cases h4 : b = q <;> first | omega | (simp only [h1, h2, h3, h4, h, Ne.symm h, if_true, if_false, true_and, and_true, false_and, and_false]; grind) | grind
theorem laplace_gives {g : ApiGrid} {n : Nat} (G : GOk g n) : Gives (libLaplace g) fun o => o.C = (n : Int) ∧ MRep o.V n n (lap g) := by
  have hn := G.nodes
  have h12 := G.n12
  have h40 := G.arms
  unfold libLaplace
  rw [hn]
  refine (new_gives (r := n) (c := n) (by omega) (by omega)).bind ?_
  rintro y ⟨yC, yM⟩
  rw [gives_bind]
  refine (gives_iter (I := fun s : Int × List (List NumQ) => ∃ k : Nat, s.1 = (k : Int) ∧ k ≤ g.Arms.length ∧ MRep s.2 n n (lapK g k)) (μ := fun s : Int × List (List NumQ) => g.Arms.length - s.1.toNat) (Q := fun o => MRep o n n (lap g)) ⟨0, rfl, Nat.zero_le _, yM⟩ ?_).mono ?_
  · rintro ⟨i, w⟩ ⟨k, h1, h2, M⟩
    simp only at h1 M
    subst h1
    unfold libLaplaceL1
    simp only [gives_ite, gives_need, gives_bind, gives_some, decide_eq_true_eq, round_inr, inRange, Int.toNat_natCast]
    refine ⟨fun h => ?_, fun h => ?_⟩
    · have hk : k < g.Arms.length := by omega
      obtain ⟨a1, a2, a3, a4⟩ := G.ab hk
      have eA : (List.getD g.Arms k ApiArmZ).A = (nA g k : Int) := a3
      have eB : (List.getD g.Arms k ApiArmZ).B = (nB g k : Int) := a4
      rw [wi64 (x := (k : Int) + 1) (by omega) (by omega)]
      have hstep : ∀ i j, lapK g (k + 1) i j = lapK g k i j + cond (am g k) * evE g k i * evE g k j := fun i j => rfl
      refine ⟨by omega, fun he => ?_, fun hne => ?_⟩
      · rw [round_inl]
        have hAB : nA g k = nB g k := by omega
        refine ⟨⟨k + 1, by simp, by omega, M.congr fun a b _ _ => ?_⟩, by simp; omega⟩
        rw [hstep]
        have : evE g k a = 0 := by unfold evE ev; rw [hAB]; grind
        rw [this]; grind
      · have hAB : nA g k ≠ nB g k := by omega
        have arm := G.arm k hk
        refine (guide_gives (n := n) (a := am g k) arm).mono ?_
        rintro c hc
        have sc := cond_sz arm
        have sc : Sz (cond (am g k)) 3 := sc
        rw [eA, eB]
        simp only [Int.toNat_natCast]
        generalize hp : nA g k = p at a1 a3 eA hAB ⊢
        generalize hq : nB g k = q at a2 a4 eB hAB ⊢
        have sL : ∀ i j, Sz (lapK g k i j) 161 := fun i j => (lap_sz G i j k (by omega)).mono (by omega)
        have hm := M.rows
        have r1 := M.cols p a1
        refine ⟨by omega, by omega, by omega, ?_⟩
        refine (qadd_gives (M.rep p p a1 a1) hc (sL p p) sc (by omega)).mono ?_
        rintro y3 hy3
        obtain ⟨w1, hw1⟩ : ∃ w1, w1 = w.set p ((w.getD p []).set p y3) := ⟨_, rfl⟩
        rw [← hw1]
        have M1 : MRep w1 n n (fun i j => if i = p ∧ j = p then lapK g k p p + cond (am g k) else lapK g k i j) := by
          rw [hw1]
          exact M.set a1 a1 (by rw [if_pos ⟨rfl, rfl⟩]; exact hy3) fun a b _ _ h => by rw [if_neg (by omega)]
        have hm1 := M1.rows
        have r2 := M1.cols q a2
        refine ⟨by omega, by omega, by omega, by omega, ?_⟩
        have v1 := M1.rep q q a2 a2
        rw [if_neg (by omega)] at v1
        refine (qadd_gives v1 hc (sL q q) sc (by omega)).mono ?_
        rintro y4 hy4
        obtain ⟨w2, hw2⟩ : ∃ w2, w2 = w1.set q ((w1.getD q []).set q y4) := ⟨_, rfl⟩
        rw [← hw2]
        have M2 : MRep w2 n n (fun i j => if i = q ∧ j = q then lapK g k q q + cond (am g k) else if i = p ∧ j = p then lapK g k p p + cond (am g k) else lapK g k i j) := by
          rw [hw2]
          exact M1.set a2 a2 (by rw [if_pos ⟨rfl, rfl⟩]; exact hy4) fun a b _ _ h => by rw [if_neg (by omega)]
        have hm2 := M2.rows
        have r3 := M2.cols p a1
        refine ⟨by omega, by omega, by omega, by omega, ?_⟩
        have v2 := M2.rep p q a1 a2
        rw [if_neg (by omega), if_neg (by omega)] at v2
        refine (qsub_gives v2 hc (sL p q) sc (by omega)).mono ?_
        rintro y5 hy5
        obtain ⟨w3, hw3⟩ : ∃ w3, w3 = w2.set p ((w2.getD p []).set q y5) := ⟨_, rfl⟩
        rw [← hw3]
        have M3 : MRep w3 n n (fun i j => if i = p ∧ j = q then lapK g k p q - cond (am g k) else if i = q ∧ j = q then lapK g k q q + cond (am g k) else if i = p ∧ j = p then lapK g k p p + cond (am g k) else lapK g k i j) := by
          rw [hw3]
          exact M2.set a1 a2 (by rw [if_pos ⟨rfl, rfl⟩]; exact hy5) fun a b _ _ h => by rw [if_neg (by omega)]
        have hm3 := M3.rows
        have r4 := M3.cols q a2
        refine ⟨by omega, by omega, by omega, by omega, ?_⟩
        have v3 := M3.rep q p a2 a1
        rw [if_neg (by omega), if_neg (by omega), if_neg (by omega)] at v3
        refine (qsub_gives v3 hc (sL q p) sc (by omega)).mono ?_
        rintro y6 hy6
        refine ⟨by omega, ?_⟩
        rw [round_inl]
        refine ⟨⟨k + 1, by simp, by omega, ?_⟩, by simp; omega⟩
        have M4 : MRep (w3.set q ((w3.getD q []).set p y6)) n n (fun i j => if i = q ∧ j = p then lapK g k q p - cond (am g k) else if i = p ∧ j = q then lapK g k p q - cond (am g k) else if i = q ∧ j = q then lapK g k q q + cond (am g k) else if i = p ∧ j = p then lapK g k p p + cond (am g k) else lapK g k i j) :=
          M3.set a2 a1 (by rw [if_pos ⟨rfl, rfl⟩]; exact hy6) fun a b _ _ h => by rw [if_neg (by omega)]
        refine M4.congr fun a b _ _ => ?_
        rw [hstep]
        have hpq : p ≠ q := by omega
        unfold evE
        rw [hp, hq]
        exact lap_step hpq (lapK g k) (cond (am g k)) a b
    · have : k = g.Arms.length := by omega
      subst this
      exact M
  · rintro o ho
    rw [gives_some]
    exact ⟨yC, ho⟩
theorem solved_gives {g : ApiGrid} {n : Nat} (G : GOk g n) {v : List NumQ} (hv : v.length = n) {x : Nat → Rat} (hx : ∀ i, i < n → QRep (v.getD i NumQZ) (x i)) {s : Nat} (hs : s ≤ 400) (hs3 : 161 ≤ s) (hxs : ∀ i, i < n → Sz (x i) s) :
    Gives (libSolved g v) fun o => ∃ (l : List Int) (p : Nat → Rat), JOk g n l ∧ o.length = n ∧ (∀ i, i < n → QRep (o.getD i NumQZ) (p i) ∧ Sz (p i) 100000000000) ∧ (∀ i, i < n → rep l i → p i = 0) ∧ (∀ i, i < n → ¬ rep l i → sm n (fun j => lap g i j * p j) = x i) := by
  have hn := G.nodes
  have h12 := G.n12
  unfold libSolved
  refine (laplace_gives G).bind ?_
  rintro m ⟨mC, mM⟩
  refine (joined_gives G).bind ?_
  rintro l J
  have hll := J.lok.len
  rw [gives_bind]
  refine (gives_iter (I := fun t : Int × List NumQ × List (List NumQ) => ∃ k : Nat, t.1 = (k : Int) ∧ k ≤ n ∧ t.2.1.length = n ∧ (∀ i, i < n → QRep (t.2.1.getD i NumQZ) (if i < k ∧ rep l i then 0 else x i)) ∧ MRep t.2.2 n n (fun i j => if i < k ∧ rep l i then (if i = j then 1 else 0) else lap g i j))
    (μ := fun t : Int × List NumQ × List (List NumQ) => n - t.1.toNat) (Q := fun o : List NumQ × List (List NumQ) => o.1.length = n ∧ (∀ i, i < n → QRep (o.1.getD i NumQZ) (if rep l i then 0 else x i)) ∧ MRep o.2 n n (fun i j => if rep l i then (if i = j then 1 else 0) else lap g i j))
    ⟨0, rfl, Nat.zero_le _, hv, fun i hi => by rw [if_neg (by omega)]; exact hx i hi, mM.congr fun a b _ _ => by rw [if_neg (by omega)]⟩ ?_).mono ?_
  · rintro ⟨i, w, u⟩ ⟨k, h1, h2, h3, h4, M⟩
    simp only at h1 h3 h4 M
    subst h1
    have hm := M.rows
    unfold libSolvedL1 libSolvedJ1
    simp only [gives_ite, gives_need, gives_bind, gives_some, decide_eq_true_eq, round_inl, round_inr, inRange, Int.toNat_natCast, hn, hll]
    refine ⟨fun h => ?_, fun h => ?_⟩
    · have hk : k < n := by omega
      rw [wi64 (x := (k : Int) + 1) (by omega) (by omega)]
      refine ⟨by omega, fun he => ?_, fun hne => ?_⟩
      · have hr : rep l k := by unfold rep; omega
        refine (new_gives (r := 1) (c := n) (by omega) (by omega)).mono ?_
        rintro y3 ⟨yC, yM⟩
        have y1 := yM.rows
        have y2 := yM.cols 0 (by omega)
        refine ⟨by omega, ?_⟩
        refine (qint_gives (n := 1) (by omega) (by omega)).mono ?_
        rintro y4 hy4
        have y2' : (y3.V.getD (0 : Int).toNat []).length = n := y2
        refine ⟨by omega, ?_⟩
        refine (qint_gives (n := 0) (by omega) (by omega)).mono ?_
        rintro y5 hy5
        have er : (List.set y3.V (0 : Int).toNat (List.set (List.getD y3.V (0 : Int).toNat []) k y4)).getD (0 : Int).toNat [] = (y3.V.getD 0 []).set k y4 := by
          rw [getD_setG, if_pos ⟨rfl, by show 0 < y3.V.length; omega⟩]; rfl
        rw [er]
        refine ⟨by omega, by omega, ⟨k + 1, by simp, by omega, by simp [h3], fun i hi => ?_, ?_⟩, by omega⟩
        · rw [getD_setG]
          by_cases hik : i = k
          · subst hik; rw [if_pos ⟨rfl, by omega⟩, if_pos ⟨by omega, hr⟩]; exact hy5
          · rw [if_neg (by omega)]
            by_cases hlt : i < k ∧ rep l i
            · rw [if_pos ⟨by omega, hlt.2⟩]; have := h4 i hi; rw [if_pos hlt] at this; exact this
            · rw [if_neg (fun h => hlt ⟨by omega, h.2⟩)]; have := h4 i hi; rw [if_neg hlt] at this; exact this
        · refine M.setRow hk (by rw [List.length_set]; exact y2) (fun j hj => ?_) (fun a b _ _ hab => ?_)
          · rw [if_pos ⟨by omega, hr⟩, getD_setG]
            by_cases hjk : k = j
            · subst hjk; rw [if_pos ⟨rfl, by omega⟩, if_pos rfl]; exact hy4
            · rw [if_neg (by omega), if_neg hjk]; exact yM.rep 0 j (by omega) hj
          · by_cases hlt : a < k ∧ rep l a
            · rw [if_pos ⟨by omega, hlt.2⟩, if_pos hlt]
            · rw [if_neg (fun h => hlt ⟨by omega, h.2⟩), if_neg hlt]
      · have hr : ¬ rep l k := by unfold rep; omega
        refine ⟨⟨k + 1, by simp, by omega, h3, fun i hi => ?_, M.congr fun a b _ _ => ?_⟩, by omega⟩
        · by_cases hik : i = k
          · subst hik; rw [if_neg (fun h => hr h.2)]; have := h4 i hi; rw [if_neg (by omega)] at this; exact this
          · by_cases hlt : i < k ∧ rep l i
            · rw [if_pos ⟨by omega, hlt.2⟩]; have := h4 i hi; rw [if_pos hlt] at this; exact this
            · rw [if_neg (fun h => hlt ⟨by omega, h.2⟩)]; have := h4 i hi; rw [if_neg hlt] at this; exact this
        · by_cases hak : a = k
          · subst hak; rw [if_neg (fun h => hr h.2), if_neg (by omega)]
          · by_cases hlt : a < k ∧ rep l a
            · rw [if_pos ⟨by omega, hlt.2⟩, if_pos hlt]
            · rw [if_neg (fun h => hlt ⟨by omega, h.2⟩), if_neg hlt]
    · have : k = n := by omega
      subst this
      refine ⟨h3, fun i hi => ?_, M.congr fun a b ha _ => ?_⟩
      · have := h4 i hi
        by_cases hr : rep l i
        · rw [if_pos hr]; rw [if_pos ⟨hi, hr⟩] at this; exact this
        · rw [if_neg hr]; rw [if_neg (fun h => hr h.2)] at this; exact this
      · by_cases hr : rep l a
        · rw [if_pos hr, if_pos (show a < k ∧ rep l a from ⟨ha, hr⟩)]
        · rw [if_neg hr, if_neg (show ¬ (a < k ∧ rep l a) from fun h => hr h.2)]
  · rintro ⟨w, u⟩ ⟨w1, w2, M⟩
    simp only at w1 w2 M
    have e01 : ∀ i j : Nat, sm n (fun k => (if i = k then (1 : Rat) else 0) * (fun k => if j = k then (1 : Rat) else 0) k) = sm n (fun k => (if i = k then (1 : Rat) else 0) * (if j = k then (1 : Rat) else 0)) := fun _ _ => rfl
    have rowrep : ∀ (p : Nat → Rat) (i : Nat), i < n → rep l i → sm n (fun j => (if rep l i then (if i = j then 1 else 0) else lap g i j) * p j) = p i := by
      intro p i hi hr
      rw [sm_one (k := i) hi (fun j _ hne => by rw [if_pos hr, if_neg (Ne.symm hne)]; grind), if_pos hr, if_pos rfl]; grind
    have rownot : ∀ (p : Nat → Rat) (i : Nat), ¬ rep l i → sm n (fun j => (if rep l i then (if i = j then 1 else 0) else lap g i j) * p j) = sm n (fun j => lap g i j * p j) := fun p i hr => sm_congr fun j _ => by rw [if_neg hr]
    refine (solve_gives (m := ⟨m.C, u⟩) M mC h12 (g0 := s) (fun i j hi hj => ?_) (by omega) hs w1 w2 (fun i hi => ?_) (fun p hp => ?_)).bind ?_
    · show Sz (if rep l i then (if i = j then 1 else 0) else lap g i j) s
      split
      · split
        · exact (sz_one 0).mono (by omega)
        · exact (sz_zero 0).mono (by omega)
      · exact (lap_sz G i j _ (Nat.le_refl _)).mono (by have := G.arms; omega)
    · show Sz (if rep l i then 0 else x i) s
      split
      · exact (sz_zero 0).mono (by omega)
      · exact hxs i hi
    · exact net_trivial G J p (fun i hi hr => by have := hp i hi; rw [rowrep p i hi hr] at this; exact this) (fun i hi hr => by have := hp i hi; rw [rownot p i hr] at this; exact this)
    · rintro o ⟨p, p1, p2, p3⟩
      rw [gives_some]
      refine ⟨l, p, J, p1, p2, fun i hi hr => ?_, fun i hi hr => ?_⟩
      · have := p3 i hi; rw [rowrep p i hi hr, if_pos hr] at this; exact this
      · have := p3 i hi; rw [rownot p i hr, if_neg hr] at this; exact this
end Go.Ab
namespace Go.Ab
open Go
set_option linter.unusedVariables false
set_option linter.unusedSimpArgs false
theorem JOk.iff {g : ApiGrid} {n : Nat} {l : List Int} (J : JOk g n l) {a b : Nat} (ha : a < n) (hb : b < n) : l.getD a 0 = l.getD b 0 ↔ Eqv g a b := by
  constructor
  · intro h
    have h1 := J.lok.eqv a ha
    rw [h] at h1
    exact h1.trans (J.lok.eqv b hb).symm
  · intro h
    exact h (fun j => l.getD j 0) J.arm
theorem JOk.rep0 {g : ApiGrid} {n : Nat} {l : List Int} (J : JOk g n l) (hn : 1 ≤ n) : rep l 0 := by
  have := J.lok.rng 0 hn
  unfold rep; omega
theorem lbl_ev {g : ApiGrid} {n : Nat} {l : List Int} (J : JOk g n l) {a b : Nat} (ha : a < n) (hb : b < n) (h : Eqv g a b) (k : Int) : sm n (fun i => (if l.getD i 0 = k then 1 else 0) * ev a b i) = 0 := by
  have e : sm n (fun i => (if l.getD i 0 = (k : Int) then 1 else 0) * ev a b i) = sm n (fun i => ev a b i * (if l.getD i 0 = (k : Int) then 1 else 0)) := sm_congr fun i _ => Rat.mul_comm _ _
  rw [e, ev_sum ha hb (fun i => if l.getD i 0 = (k : Int) then 1 else 0), (J.iff ha hb).2 h]
  grind
theorem zeros_gives {n : Nat} (hn : n ≤ 1000) (g : ApiGrid) (a b : Int) : Gives (iter (fun v : (Int × Int × List NumQ) => libBetweenL1 g a b v.1 v.2.1 v.2.2) ((n : Int), (0 : Int), List.replicate n QZ0)) fun o => o.length = n ∧ ∀ i, i < n → QRep (o.getD i NumQZ) 0 :=
  fill_gives (n := n) (v := List.replicate n QZ0) (by simp) hn (f := fun x y z => libBetweenL1 g a b x y z) (fun i w Q hw hi hQ hE => by
    unfold libBetweenL1
    simp only [gives_ite, gives_bind, gives_need, gives_some, decide_eq_true_eq, inRange, Int.toNat_natCast]
    refine ⟨fun h => ?_, fun h => hE (by omega)⟩
    refine (qint_gives (n := 0) (by omega) (by omega)).mono ?_
    rintro q hq
    rw [wi64 (by omega) (by omega)]
    exact ⟨by omega, hQ (by omega) q hq⟩)
theorem between_gives {g : ApiGrid} {n : Nat} (G : GOk g n) (a b : Int) : Gives (libBetween g a b) fun r =>
    (¬ (0 ≤ a ∧ a < (n : Int) ∧ 0 ≤ b ∧ b < (n : Int)) → r = (⟨0, 0⟩, 1)) ∧
    ∀ a' b' : Nat, a = (a' : Int) → b = (b' : Int) → a' < n → b' < n → (¬ Eqv g a' b' → r = (⟨0, 0⟩, 4)) ∧
      (Eqv g a' b' → ∃ p : Nat → Rat, p 0 = 0 ∧ (∀ i, i < n → sm n (fun j => lap g i j * p j) = ev a' b' i) ∧ (r.2 = 0 ↔ Tell (p a' - p b')) ∧ (r.2 = 0 → r.1 = ⟨(p a' - p b').num, (p a' - p b').den⟩)) := by
  have hn := G.nodes
  have h1 := G.n1
  have h12 := G.n12
  unfold libBetween libBetweenJ1
  refine (grid_gives g).bind ?_
  rintro e ⟨_, e2⟩
  have e0 : e = 0 := e2 ⟨n, G⟩
  subst e0
  rw [if_neg (by simp)]
  simp only [gives_ite, gives_some, decide_eq_true_eq, hn]
  refine ⟨fun h => ⟨fun _ => trivial, fun a' b' ha hb => by omega⟩, fun g1 => ⟨fun h => ⟨fun _ => trivial, fun a' b' ha hb => by omega⟩, fun g2 => ⟨fun h => ⟨fun _ => trivial, fun a' b' ha hb => by omega⟩, fun g3 => ⟨fun h => ⟨fun _ => trivial, fun a' b' ha hb => by omega⟩, fun g4 => ?_⟩⟩⟩⟩
  obtain ⟨a, rfl⟩ : ∃ k : Nat, a = (k : Int) := ⟨a.toNat, by omega⟩
  obtain ⟨b, rfl⟩ : ∃ k : Nat, b = (k : Int) := ⟨b.toNat, by omega⟩
  have ha : a < n := by omega
  have hb : b < n := by omega
  refine (joined_gives G).bind ?_
  rintro l J
  have hll := J.lok.len
  simp only [gives_need, gives_ite, gives_some, Int.toNat_natCast, inRange, hll, Bool.not_eq_true', decide_eq_false_iff_not]
  refine ⟨by omega, by omega, fun hne => ⟨fun h => by omega, fun a' b' ea eb _ _ => ?_⟩, fun he => ?_⟩
  · have ea : a = a' := by omega
    have eb : b = b' := by omega
    subst ea eb
    exact ⟨fun _ => trivial, fun h => (hne ((J.iff ha hb).2 h)).elim⟩
  · have he : l.getD a 0 = l.getD b 0 := by omega
    have hE := (J.iff ha hb).1 he
    refine ⟨by omega, by omega, by unfold maxBytes; omega, ?_⟩
    rw [List.length_replicate]
    refine (zeros_gives (n := n) (by omega) g (a : Int) (b : Int)).bind ?_
    rintro z ⟨z1, z2⟩
    rw [gives_need]
    refine ⟨by omega, ?_⟩
    refine (qint_gives (n := 1) (by omega) (by omega)).bind ?_
    rintro y4 hy4
    refine (qadd_gives (z2 a ha) hy4 (k := 1) (m := 1) (sz_zero 0) (sz_one 0) (by omega)).bind ?_
    rintro y5 hy5
    simp only [gives_need, List.length_set, z1]
    refine ⟨by omega, by omega, ?_⟩
    refine (qint_gives (n := 1) (by omega) (by omega)).bind ?_
    rintro y6 hy6
    have hz : QRep ((z.set a y5).getD b NumQZ) (if b = a then 1 else 0) := by
      rw [getD_setG]
      by_cases hba : b = a
      · rw [if_pos ⟨hba, by omega⟩, if_pos hba]
        have : (0 : Rat) + ((1 : Int) : Rat) = 1 := by grind
        rw [this] at hy5; exact hy5
      · rw [if_neg (by omega), if_neg hba]; exact z2 b hb
    have hzs : Sz (if b = a then (1 : Rat) else 0) 1 := by
      split
      · exact sz_one 0
      · exact sz_zero 0
    refine (qsub_gives hz hy6 (k := 1) (m := 1) hzs (sz_one 0) (by omega)).bind ?_
    rintro y7 hy7
    rw [gives_need]
    refine ⟨by omega, ?_⟩
    have hv : ∀ i, i < n → QRep (((z.set a y5).set b y7).getD i NumQZ) (ev a b i) := by
      intro i hi
      rw [getD_setG, List.length_set]
      unfold ev
      by_cases hib : i = b
      · rw [if_pos ⟨hib, by omega⟩, if_pos hib, hib]; exact hy7
      · rw [if_neg (by omega), if_neg hib, getD_setG]
        by_cases hia : i = a
        · rw [if_pos ⟨hia, by omega⟩, if_pos hia]
          have : (0 : Rat) + ((1 : Int) : Rat) = 1 - 0 := by grind
          rw [this] at hy5; exact hy5
        · rw [if_neg (by omega), if_neg hia]
          have : (0 : Rat) - 0 = 0 := by grind
          rw [this]; exact z2 i hi
    have hvs : ∀ i, i < n → Sz (ev a b i) 161 := by
      intro i _
      rcases ev_cases a b i with h | h | h <;> rw [h]
      · exact (sz_zero 0).mono (by omega)
      · exact (sz_one 0).mono (by omega)
      · exact (sz_one 0).neg.mono (by omega)
    refine (solved_gives G (by simp [z1]) hv (s := 161) (by omega) (by omega) hvs).bind ?_
    rintro o ⟨l', p, J', o1, o2, p1, p2⟩
    rw [gives_need, gives_need]
    refine ⟨by omega, by omega, ?_⟩
    have hp := net_rest G J' p (ev a b) p2 (lbl_ev J' ha hb hE)
    obtain ⟨qa, sa⟩ := o2 a ha
    obtain ⟨qb, sb⟩ := o2 b hb
    refine (qsub_gives qa qb sa sb (by omega)).bind ?_
    rintro y9 hy9
    refine (number_gives hy9).bind ?_
    rintro y10 ⟨t1, t2⟩
    rw [gives_some]
    refine ⟨fun h => by omega, fun a' b' ea eb _ _ => ?_⟩
    have ea : a = a' := by omega
    have eb : b = b' := by omega
    subst ea eb
    exact ⟨fun h => (h hE).elim, fun _ => ⟨p, p1 0 (by omega) (J'.rep0 h1), hp, t1, t2⟩⟩
theorem between_bad {g : ApiGrid} (h : ¬ ∃ n, GOk g n) (a b : Int) : Gives (libBetween g a b) fun r => r.2 ≠ 0 := by
  unfold libBetween
  refine (grid_gives g).bind ?_
  rintro e ⟨e1, _⟩
  rw [if_pos (by simp; exact fun h0 => h (e1 h0)), gives_some]
  exact fun h0 => h (e1 h0)
def tre (g : ApiGrid) (n : Nat) : Rat := det (n - 1) fun i j => lap g (i + 1) (j + 1)
theorem trees_gives {g : ApiGrid} {n : Nat} (G : GOk g n) : Gives (libTrees g) fun r => (r.2 = 0 ↔ Tell (tre g n)) ∧ (r.2 = 0 → r.1 = ⟨(tre g n).num, (tre g n).den⟩) := by
  have hn := G.nodes
  have h1 := G.n1
  have h12 := G.n12
  unfold libTrees
  refine (grid_gives g).bind ?_
  rintro e ⟨_, e2⟩
  have e0 : e = 0 := e2 ⟨n, G⟩
  subst e0
  rw [if_neg (by simp)]
  refine (laplace_gives G).bind ?_
  rintro m ⟨mC, mM⟩
  have hm := mM.rows
  simp only [gives_need, gives_bind]
  refine ⟨by omega, by omega, by omega, ?_⟩
  have hd : List.take (((m.V.length : Nat) : Int).toNat - (1 : Int).toNat) (List.drop (1 : Int).toNat m.V) = m.V.drop 1 := by
    show List.take (m.V.length - 1) (m.V.drop 1) = m.V.drop 1
    exact List.take_of_length_le (by simp)
  rw [hd]
  have hdl : (m.V.drop 1).length = n - 1 := by simp [hm]
  have hdg : ∀ i, i < n - 1 → (m.V.drop 1).getD i [] = m.V.getD (i + 1) [] := by
    intro i _
    simp only [List.getD_eq_getElem?_getD, List.getElem?_drop, Nat.add_comm]
  rw [hdl]
  refine (gives_iter (I := fun s : List (List NumQ) × Int × Int × List (List NumQ) => ∃ k : Nat, s.1 = m.V.drop 1 ∧ s.2.1 = ((n - 1 : Nat) : Int) ∧ s.2.2.1 = (k : Int) ∧ k ≤ n - 1 ∧ s.2.2.2.length = k ∧ ∀ i, i < k → s.2.2.2.getD i [] = (m.V.getD (i + 1) []).drop 1)
    (μ := fun s : List (List NumQ) × Int × Int × List (List NumQ) => n - 1 - s.2.2.1.toNat) (Q := fun o => o.length = n - 1 ∧ ∀ i, i < n - 1 → o.getD i [] = (m.V.getD (i + 1) []).drop 1)
    ⟨0, rfl, rfl, rfl, Nat.zero_le _, rfl, fun i hi => by omega⟩ ?_).mono ?_
  · rintro ⟨d, c, i, w⟩ ⟨k, g1, g2, g3, g4, g5, g6⟩
    simp only at g1 g2 g3 g5 g6
    subst g1 g2 g3
    unfold libTreesL1
    simp only [gives_ite, gives_need, gives_some, decide_eq_true_eq, round_inl, round_inr, inRange, Int.toNat_natCast, hdl]
    refine ⟨fun h => ?_, fun h => ?_⟩
    · have hk : k < n - 1 := by omega
      rw [hdg k hk]
      have hc := mM.cols (k + 1) (by omega)
      have ht : List.take ((m.V.getD (k + 1) []).length - (1 : Int).toNat) (List.drop (1 : Int).toNat (m.V.getD (k + 1) [])) = (m.V.getD (k + 1) []).drop 1 := by
        show List.take ((m.V.getD (k + 1) []).length - 1) ((m.V.getD (k + 1) []).drop 1) = _
        exact List.take_of_length_le (by simp)
      rw [ht, wi64 (by omega) (by omega)]
      refine ⟨by omega, by omega, by omega, by omega, by simp only [List.length_singleton]; unfold maxBytes; omega, ⟨k + 1, trivial, trivial, by simp, by omega, by simp [g5], fun i hi => ?_⟩, by omega⟩
      rw [getD_appendG]
      by_cases hik : i = k
      · subst hik; rw [if_neg (by omega), if_pos (by omega)]
      · rw [if_pos (by omega)]; exact g6 i (by omega)
    · have : k = n - 1 := by omega
      subst this
      exact ⟨g5, g6⟩
  · rintro w ⟨w1, w2⟩
    have W : MRep w (n - 1) (n - 1) (fun i j => lap g (i + 1) (j + 1)) := by
      refine ⟨w1, fun i hi => ?_, fun i j hi hj => ?_⟩
      · rw [w2 i hi, List.length_drop, mM.cols (i + 1) (by omega)]
      · unfold mg
        rw [w2 i hi]
        have : ((m.V.getD (i + 1) []).drop 1).getD j NumQZ = (m.V.getD (i + 1) []).getD (j + 1) NumQZ := by
          simp only [List.getD_eq_getElem?_getD, List.getElem?_drop, Nat.add_comm]
        rw [this]
        exact mM.rep (i + 1) (j + 1) (by omega) (by omega)
    refine (det_gives (m := ⟨IntKind.wrap .i64 (g.Nodes - (1 : Int)), w⟩) W (by show IntKind.wrap .i64 (g.Nodes - 1) = _; rw [hn, wi64 (by omega) (by omega)]; omega) (by omega) (g0 := 161) (fun i j _ _ => (lap_sz G (i + 1) (j + 1) _ (Nat.le_refl _)).mono (by have := G.arms; omega)) (by omega) (by omega)).mono ?_
    rintro q ⟨hq, _⟩
    refine (number_gives hq).mono ?_
    rintro r ⟨r1, r2⟩
    rw [gives_some]
    exact ⟨r1, r2⟩
theorem trees_bad {g : ApiGrid} (h : ¬ ∃ n, GOk g n) : Gives (libTrees g) fun r => r.2 ≠ 0 := by
  unfold libTrees
  refine (grid_gives g).bind ?_
  rintro e ⟨e1, _⟩
  rw [if_pos (by simp; exact fun h0 => h (e1 h0)), gives_some]
  exact fun h0 => h (e1 h0)
end Go.Ab
namespace Go.Ab
open Go
set_option linter.unusedVariables false
set_option linter.unusedSimpArgs false
def drv (g : ApiGrid) (e : Nat) : Rat := cond (am g e) * apiRat (am g e).E
def flK (g : ApiGrid) (k i : Nat) : Rat := sm k fun e => -(drv g e * evE g e i)
def cur (g : ApiGrid) (p : Nat → Rat) (e : Nat) : Rat := (p (nA g e) - p (nB g e) + apiRat (am g e).E) * cond (am g e)
theorem drv_sz {g : ApiGrid} {n : Nat} (G : GOk g n) {e : Nat} (he : e < g.Arms.length) : Sz (drv g e) 5 :=
  Sz.mono (Sz.mul (cond_sz (G.arm e he)) (api_sz (G.arm e he).e)) (by omega)
theorem flK_sz {g : ApiGrid} {n : Nat} (G : GOk g n) (i : Nat) : ∀ k, k ≤ g.Arms.length → Sz (flK g k i) (1 + 6 * k)
  | 0, _ => sz_zero 0
  | k + 1, h => by
    have IH := flK_sz G i k (by omega)
    have hd := drv_sz G (show k < g.Arms.length by omega)
    have ht : Sz (-(drv g k * evE g k i)) 5 := by
      unfold evE
      rcases ev_cases (nA g k) (nB g k) i with h1 | h1 | h1 <;> rw [h1]
      · have e : -(drv g k * 0) = 0 := by grind
        rw [e]; exact sz_zero 4
      · have e : -(drv g k * 1) = -drv g k := by grind
        rw [e]; exact hd.neg
      · have e : -(drv g k * -1) = drv g k := by grind
        rw [e]; exact hd
    exact (IH.add ht).mono (show 1 + 6 * k + 5 + 1 ≤ 1 + 6 * (k + 1) by omega)
theorem lbl_fl {g : ApiGrid} {n : Nat} (G : GOk g n) {l : List Int} (J : JOk g n l) (k : Int) : sm n (fun i => (if l.getD i 0 = k then 1 else 0) * flK g g.Arms.length i) = 0 := by
  have e1 : sm n (fun i => (if l.getD i 0 = k then 1 else 0) * flK g g.Arms.length i) = sm n (fun i => sm g.Arms.length fun e => (if l.getD i 0 = k then 1 else 0) * -(drv g e * evE g e i)) := by
    refine sm_congr fun i _ => ?_
    unfold flK
    rw [← sm_mul]
  rw [e1, sm_swap]
  refine sm_zero fun e he => ?_
  obtain ⟨a1, a2, _, _⟩ := G.ab he
  have := ev_sum a1 a2 (fun i => if l.getD i 0 = k then 1 else 0)
  have e2 : sm n (fun i => (if l.getD i 0 = k then 1 else 0) * -(drv g e * evE g e i)) = sm n (fun i => -(drv g e) * (ev (nA g e) (nB g e) i * (if l.getD i 0 = k then 1 else 0))) := sm_congr fun i _ => by unfold evE; grind
  rw [e2, sm_mul, this, J.arm e he]; grind
theorem flow2_gives {g : ApiGrid} {n : Nat} (G : GOk g n) {z : List NumQ} (z1 : z.length = n) (z2 : ∀ i, i < n → QRep (z.getD i NumQZ) 0) :
    Gives (iter (fun v : (Int × (List NumQ)) => libFlowL2 g v.1 v.2) ((0 : Int), z)) fun o => o.length = n ∧ ∀ i, i < n → QRep (o.getD i NumQZ) (flK g g.Arms.length i) := by
  have h40 := G.arms
  have h12 := G.n12
  refine gives_iter (I := fun s : Int × List NumQ => ∃ k : Nat, s.1 = (k : Int) ∧ k ≤ g.Arms.length ∧ s.2.length = n ∧ ∀ i, i < n → QRep (s.2.getD i NumQZ) (flK g k i)) (μ := fun s : Int × List NumQ => g.Arms.length - s.1.toNat) ⟨0, rfl, Nat.zero_le _, z1, z2⟩ ?_
  rintro ⟨i, w⟩ ⟨k, h1, h2, h3, h4⟩
  simp only at h1 h3 h4
  subst h1
  unfold libFlowL2
  rw [gives_ite]
  simp only [decide_eq_true_eq, gives_need, gives_some, inRange, Int.toNat_natCast, round_inr]
  refine ⟨fun h => ⟨by omega, ?_⟩, fun h => ?_⟩
  · have hk : k < g.Arms.length := by omega
    obtain ⟨a1, a2, a3, a4⟩ := G.ab hk
    have eA : (List.getD g.Arms k ApiArmZ).A = (nA g k : Int) := a3
    have eB : (List.getD g.Arms k ApiArmZ).B = (nB g k : Int) := a4
    have arm := G.arm k hk
    refine (guide_gives (n := n) (a := am g k) arm).bind ?_
    rintro c hc
    refine (of_gives arm.e).bind ?_
    rintro e he
    refine (qmul_gives hc he (cond_sz arm) (api_sz arm.e) (by omega)).bind ?_
    rintro t ht
    have ht : QRep t (drv g k) := ht
    have hd := drv_sz G hk
    rw [eA, eB]
    generalize hp : nA g k = p at a1 eA ⊢
    generalize hq : nB g k = q at a2 eB ⊢
    simp only [gives_need, Int.toNat_natCast, List.length_set, h3]
    refine ⟨by omega, ?_⟩
    have sF : ∀ i, Sz (flK g k i) 241 := fun i => (flK_sz G i k (by omega)).mono (by omega)
    refine (qsub_gives (h4 p a1) ht (sF p) hd (by omega)).bind ?_
    rintro y5 hy5
    simp only [gives_need]
    refine ⟨by omega, by omega, ?_⟩
    have v1 : QRep ((w.set p y5).getD q NumQZ) (if q = p then flK g k p - drv g k else flK g k q) := by
      rw [getD_setG]
      by_cases hqp : q = p
      · rw [if_pos ⟨hqp, by omega⟩, if_pos hqp]; exact hy5
      · rw [if_neg (by omega), if_neg hqp]; exact h4 q a2
    have s1 : Sz (if q = p then flK g k p - drv g k else flK g k q) 250 := by
      split
      · exact ((sF p).sub hd).mono (by omega)
      · exact (sF q).mono (by omega)
    refine (qadd_gives v1 ht s1 hd (by omega)).bind ?_
    rintro y6 hy6
    rw [gives_need, gives_some, round_inl, wi64 (by omega) (by omega)]
    refine ⟨by omega, ⟨k + 1, by simp, by omega, by simp [h3], fun i hi => ?_⟩, by simp; omega⟩
    show QRep (((w.set p y5).set q y6).getD i NumQZ) (flK g (k + 1) i)
    have hstep : flK g (k + 1) i = flK g k i + -(drv g k * evE g k i) := rfl
    rw [hstep, getD_setG, List.length_set]
    unfold evE ev
    rw [hp, hq]
    by_cases hiq : i = q
    · rw [if_pos ⟨hiq, by omega⟩]
      by_cases hqp : q = p
      · rw [if_pos hqp] at hy6
        rw [if_pos (hiq.trans hqp), if_pos hiq]
        have : flK g k i + -(drv g k * (1 - 1)) = flK g k p - drv g k + drv g k := by rw [hiq, hqp]; grind
        rw [this]; exact hy6
      · rw [if_neg hqp] at hy6
        rw [if_neg (by omega), if_pos hiq]
        have : flK g k i + -(drv g k * (0 - 1)) = flK g k q + drv g k := by rw [hiq]; grind
        rw [this]; exact hy6
    · rw [if_neg (by omega), if_neg hiq, getD_setG]
      by_cases hip : i = p
      · rw [if_pos ⟨hip, by omega⟩, if_pos hip]
        have : flK g k i + -(drv g k * (1 - 0)) = flK g k p - drv g k := by rw [hip]; grind
        rw [this]; exact hy5
      · rw [if_neg (by omega), if_neg hip]
        have : flK g k i + -(drv g k * (0 - 0)) = flK g k i := by grind
        rw [this]; exact h4 i hi
  · have : k = g.Arms.length := by omega
    subst this
    exact ⟨h3, h4⟩
theorem flow_gives {g : ApiGrid} {n : Nat} (G : GOk g n) : Gives (libFlow g) fun o => ∃ (l : List Int) (p : Nat → Rat), JOk g n l ∧ (∀ i, i < n → rep l i → p i = 0) ∧ (∀ i, i < n → sm n (fun j => lap g i j * p j) = flK g g.Arms.length i) ∧
    o.1.length = n ∧ (∀ i, i < n → QRep (o.1.getD i NumQZ) (p i)) ∧ o.2.length = g.Arms.length ∧ ∀ e, e < g.Arms.length → QRep (o.2.getD e NumQZ) (cur g p e) := by
  have hn := G.nodes
  have h1 := G.n1
  have h12 := G.n12
  have h40 := G.arms
  unfold libFlow
  simp only [gives_need, hn, Int.toNat_natCast]
  refine ⟨by omega, by omega, by unfold maxBytes; omega, ?_⟩
  rw [List.length_replicate]
  refine Gives.bind (zeros_gives (n := n) (by omega) g 0 0) ?_
  rintro z ⟨z1, z2⟩
  refine (flow2_gives G z1 z2).bind ?_
  rintro v ⟨v1, v2⟩
  refine (solved_gives G v1 v2 (s := 241) (by omega) (by omega) (fun i _ => (flK_sz G i _ (Nat.le_refl _)).mono (by omega))).bind ?_
  rintro o ⟨l, p, J, o1, o2, p1, p2⟩
  have hp := net_rest G J p _ p2 (lbl_fl G J)
  refine Gives.bind (R := fun r => r.length = g.Arms.length ∧ ∀ e, e < g.Arms.length → QRep (r.getD e NumQZ) (cur g p e)) (gives_iter (I := fun s : Int × List NumQ => ∃ k : Nat, s.1 = (k : Int) ∧ k ≤ g.Arms.length ∧ s.2.length = k ∧ ∀ e, e < k → QRep (s.2.getD e NumQZ) (cur g p e)) (μ := fun s : Int × List NumQ => g.Arms.length - s.1.toNat) ⟨0, rfl, Nat.zero_le _, rfl, fun e he => by omega⟩ ?_) ?_
  · rintro ⟨i, w⟩ ⟨k, g1, g2, g3, g4⟩
    simp only at g1 g3 g4
    subst g1
    unfold libFlowL3
    rw [gives_ite]
    simp only [decide_eq_true_eq, gives_need, gives_some, inRange, Int.toNat_natCast, round_inr]
    refine ⟨fun h => ?_, fun h => ?_⟩
    · have hk : k < g.Arms.length := by omega
      obtain ⟨a1, a2, a3, a4⟩ := G.ab hk
      have eA : (List.getD g.Arms k ApiArmZ).A = (nA g k : Int) := a3
      have eB : (List.getD g.Arms k ApiArmZ).B = (nB g k : Int) := a4
      have arm := G.arm k hk
      rw [eA, eB]
      refine ⟨by omega, by omega, by omega, ?_⟩
      simp only [Int.toNat_natCast]
      obtain ⟨qa, sa⟩ := o2 _ a1
      obtain ⟨qb, sb⟩ := o2 _ a2
      refine (qsub_gives qa qb sa sb (by omega)).bind ?_
      rintro y8 hy8
      refine (of_gives arm.e).bind ?_
      rintro y9 hy9
      have s8 := sa.sub sb
      refine (qadd_gives hy8 hy9 s8 (api_sz arm.e) (by omega)).bind ?_
      rintro y10 hy10
      have s10 := s8.add (api_sz arm.e)
      refine Gives.bind (R := fun c => QRep c (cond (am g k))) (by
        have := guide_gives (n := n) (a := am g k) arm
        have e : (⟨(nA g k : Int), (nB g k : Int), (List.getD g.Arms k ApiArmZ).R, (List.getD g.Arms k ApiArmZ).E⟩ : ApiArm) = am g k := by rw [← a3, ← a4]; rfl
        rw [e]; exact this) ?_
      rintro y11 hy11
      refine (qmul_gives hy10 hy11 s10 (cond_sz arm) (by omega)).bind ?_
      rintro y12 hy12
      rw [gives_need, gives_some, round_inl, wi64 (by omega) (by omega)]
      refine ⟨by simp only [List.length_singleton]; unfold maxBytes; omega, ⟨k + 1, by simp, by omega, by simp [g3], fun e he => ?_⟩, by simp; omega⟩
      show QRep ((w ++ [y12]).getD e NumQZ) (cur g p e)
      rw [getD_appendG]
      by_cases hek : e = k
      · subst hek; rw [if_neg (by omega), if_pos (by omega)]; exact hy12
      · rw [if_pos (by omega)]; exact g4 e (by omega)
    · have : k = g.Arms.length := by omega
      subst this
      exact ⟨g3, g4⟩
  · rintro r ⟨r1, r2⟩
    rw [gives_some]
    exact ⟨l, p, J, p1, hp, o1, fun i hi => (o2 i hi).1, r1, r2⟩
theorem outs_gives {v : List NumQ} {m : Nat} (hv : v.length = m) (hm : m ≤ 1000) {x : Nat → Rat} (hx : ∀ i, i < m → QRep (v.getD i NumQZ) (x i)) :
    Gives (numOuts v) fun r => (r.2 = true ↔ ∀ i, i < m → Tell (x i)) ∧ (r.2 = true → r.1.length = m ∧ ∀ i, i < m → r.1.getD i ApiRatZ = ⟨(x i).num, (x i).den⟩) ∧ (r.2 = false → r.1 = []) := by
  unfold numOuts
  simp only [gives_need]
  refine ⟨by omega, by omega, by unfold maxBytes; omega, ?_⟩
  refine Gives.bind (R := fun r : List ApiRat ⊕ (List ApiRat × Bool) => match r with
    | .inl w => w.length = m ∧ ∀ i, i < m → Tell (x i) ∧ w.getD i ApiRatZ = ⟨(x i).num, (x i).den⟩
    | .inr e => e = ([], false) ∧ ¬ ∀ i, i < m → Tell (x i))
    (gives_iter (I := fun s : Int × List ApiRat => ∃ k : Nat, s.1 = (k : Int) ∧ k ≤ m ∧ s.2.length = m ∧ ∀ i, i < k → Tell (x i) ∧ s.2.getD i ApiRatZ = ⟨(x i).num, (x i).den⟩) (μ := fun s : Int × List ApiRat => m - s.1.toNat) ⟨0, rfl, Nat.zero_le _, by simp [hv], fun i hi => by omega⟩ ?_) ?_
  · rintro ⟨i, w⟩ ⟨k, g1, g2, g3, g4⟩
    simp only at g1 g3 g4
    subst g1
    unfold numOutsL1
    rw [gives_ite]
    simp only [decide_eq_true_eq, gives_need, gives_some, inRange, Int.toNat_natCast, round_inr, hv]
    refine ⟨fun h => ⟨by omega, ?_⟩, fun h => ?_⟩
    · have hk : k < m := by omega
      refine (out_gives (hx k hk)).bind ?_
      rintro ⟨a, b⟩ ⟨t1, t2⟩
      simp only at t1 t2
      simp only [gives_ite, gives_need, gives_some, Bool.not_eq_true', round_inr, round_inl, g3]
      refine ⟨fun hb => ⟨trivial, fun hall => ?_⟩, fun hb => ?_⟩
      · rw [t1.2 (hall k hk)] at hb; cases hb
      · have hb : b = true := by simpa using hb
        rw [wi64 (by omega) (by omega)]
        refine ⟨by omega, ⟨k + 1, by simp, by omega, by simp [g3], fun i hi => ?_⟩, by simp; omega⟩
        show Tell (x i) ∧ (w.set k a).getD i ApiRatZ = _
        rw [getD_setG]
        by_cases hik : i = k
        · subst hik; rw [if_pos ⟨rfl, by omega⟩]; exact ⟨t1.1 hb, t2 hb⟩
        · rw [if_neg (by omega)]; exact g4 i (by omega)
    · have : k = m := by omega
      subst this
      exact ⟨g3, g4⟩
  · rintro r hr
    cases r with
    | inl w =>
      rw [gives_some]
      exact ⟨⟨fun _ i hi => (hr.2 i hi).1, fun _ => rfl⟩, fun _ => ⟨hr.1, fun i hi => (hr.2 i hi).2⟩, fun h => by cases h⟩
    | inr e =>
      rw [gives_some]
      obtain ⟨rfl, h2⟩ := hr
      exact ⟨⟨fun h => (by cases h), fun h => (h2 h).elim⟩, fun h => (by cases h), fun _ => rfl⟩
def PotOk (g : ApiGrid) (n : Nat) (p : Nat → Rat) : Prop := (∀ i, i < n → Tell (p i)) ∧ ∀ e, e < g.Arms.length → Tell (cur g p e)
theorem potentials_gives {g : ApiGrid} {n : Nat} (G : GOk g n) : Gives (libPotentials g) fun r => ∃ (l : List Int) (p : Nat → Rat), JOk g n l ∧ (∀ i, i < n → rep l i → p i = 0) ∧ (∀ i, i < n → sm n (fun j => lap g i j * p j) = flK g g.Arms.length i) ∧
    (¬ PotOk g n p → r = ([], [], 3)) ∧ (PotOk g n p → r.2.2 = 0 ∧ r.1.length = n ∧ (∀ i, i < n → r.1.getD i ApiRatZ = ⟨(p i).num, (p i).den⟩) ∧ r.2.1.length = g.Arms.length ∧ ∀ e, e < g.Arms.length → r.2.1.getD e ApiRatZ = ⟨(cur g p e).num, (cur g p e).den⟩) := by
  have h12 := G.n12
  have h40 := G.arms
  unfold libPotentials libPotentialsJ1
  refine (grid_gives g).bind ?_
  rintro e ⟨_, e2⟩
  have e0 : e = 0 := e2 ⟨n, G⟩
  subst e0
  rw [if_neg (by simp)]
  refine (flow_gives G).bind ?_
  rintro o ⟨l, p, J, p1, p2, o1, o2, c1, c2⟩
  refine (outs_gives o1 (by omega) o2).bind ?_
  rintro ⟨ra, ba⟩ ⟨a1, a2, a3⟩
  refine (outs_gives c1 (by omega) c2).bind ?_
  rintro ⟨rb, bb⟩ ⟨b1, b2, b3⟩
  simp only at a1 a2 a3 b1 b2 b3
  simp only [gives_ite, gives_some, Bool.not_eq_true']
  refine ⟨fun h => ⟨l, p, J, p1, p2, fun _ => trivial, fun hp => ?_⟩, fun ha => ⟨fun h => ⟨l, p, J, p1, p2, fun _ => trivial, fun hp => ?_⟩, fun hb => ?_⟩⟩
  · rw [a1.2 hp.1] at h; cases h
  · rw [b1.2 hp.2] at h; cases h
  · have ha : ba = true := by simpa using ha
    have hb : bb = true := by simpa using hb
    refine ⟨l, p, J, p1, p2, fun hp => (hp ⟨a1.1 ha, b1.1 hb⟩).elim, fun _ => ⟨trivial, (a2 ha).1, (a2 ha).2, (b2 hb).1, (b2 hb).2⟩⟩
theorem list_eq {α : Type} (d : α) {a b : List α} (hl : a.length = b.length) (h : ∀ i, i < a.length → a.getD i d = b.getD i d) : a = b := by
  refine List.ext_getElem hl fun i h1 h2 => ?_
  have := h i h1
  simp only [List.getD_eq_getElem?_getD, List.getElem?_eq_getElem h1, List.getElem?_eq_getElem h2, Option.getD_some] at this
  exact this
theorem same_gives {a b : List ApiRat} (ha : a.length ≤ 1000) : Gives (isoclineref02Same a b) fun r => r = true ↔ a = b := by
  unfold isoclineref02Same
  refine Gives.bind (R := fun r : Unit ⊕ Bool => match r with
    | .inl _ => ∀ i, i < a.length → i < b.length → a.getD i ApiRatZ = b.getD i ApiRatZ
    | .inr e => e = false ∧ a ≠ b)
    (gives_iter (I := fun v : Int => ∃ k : Nat, v = (k : Int) ∧ k ≤ a.length ∧ k ≤ b.length ∧ ∀ i, i < k → a.getD i ApiRatZ = b.getD i ApiRatZ) (μ := fun v : Int => a.length - v.toNat) ⟨0, rfl, Nat.zero_le _, Nat.zero_le _, fun i hi => by omega⟩ ?_) ?_
  · rintro v ⟨k, rfl, g1, g2, g3⟩
    unfold isoclineref02SameL1
    simp only [gives_ite, gives_need, gives_some, decide_eq_true_eq, round_inr, round_inl, inRange, Int.toNat_natCast]
    refine ⟨fun h => ⟨fun h' => ⟨by omega, by omega, fun hne => ⟨trivial, fun he => ?_⟩, fun heq => ?_⟩, fun h' i h1 h2 => g3 i (by omega)⟩, fun h i h1 h2 => g3 i (by omega)⟩
    · subst he
      simp at hne
    · rw [wi64 (by omega) (by omega)]
      refine ⟨⟨k + 1, by simp, by omega, by omega, fun i hi => ?_⟩, by omega⟩
      by_cases hik : i = k
      · subst hik
        have heq : (a.getD i ApiRatZ).N = (b.getD i ApiRatZ).N ∧ (a.getD i ApiRatZ).D = (b.getD i ApiRatZ).D := by simpa using heq
        cases hx : a.getD i ApiRatZ
        cases hy : b.getD i ApiRatZ
        rw [hx, hy] at heq
        simp only at heq
        rw [heq.1, heq.2]
      · exact g3 i (by omega)
  · intro r hr
    cases r with
    | inl u =>
      rw [gives_some, decide_eq_true_eq]
      constructor
      · intro hl
        exact list_eq ApiRatZ (by omega) fun i hi => hr i hi (by omega)
      · rintro rfl; rfl
    | inr e =>
      rw [gives_some]
      obtain ⟨rfl, h2⟩ := hr
      exact ⟨fun h => (by cases h), fun h => (h2 h).elim⟩
end Go.Ab
