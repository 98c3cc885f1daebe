/- Sums and determinants of fractions. Gauss's way in package qm: what a round does to a matrix. Gauss's way in package qm. Conditions: none beyond those that each theorem names. -/
import Derived.Test.YtjdgmcngpiookaaK18
import Derived.Test.YtjdgmcngpiookaaK20
namespace Go.Ab
set_option linter.unusedVariables false
set_option linter.unusedSimpArgs false
def sm : Nat → (Nat → Rat) → Rat
  | 0, _ => 0
  | n + 1, f => sm n f + f n
theorem sm_congr {f g : Nat → Rat} : ∀ {n : Nat}, (∀ i, i < n → f i = g i) → sm n f = sm n g
  | 0, _ => rfl
  | n + 1, h => by rw [sm, sm, sm_congr (n := n) (fun i hi => h i (by omega)), h n (by omega)]
theorem sm_add (f g : Nat → Rat) : ∀ n, sm n (fun i => f i + g i) = sm n f + sm n g
  | 0 => by simp only [sm]; grind
  | n + 1 => by rw [sm, sm, sm, sm_add f g n]; grind
theorem sm_mul (s : Rat) (f : Nat → Rat) : ∀ n, sm n (fun i => s * f i) = s * sm n f
  | 0 => by simp only [sm]; grind
  | n + 1 => by rw [sm, sm, sm_mul s f n]; grind
theorem sm_zero : ∀ {f : Nat → Rat} {n : Nat}, (∀ i, i < n → f i = 0) → sm n f = 0
  | _, 0, _ => rfl
  | f, n + 1, h => by rw [sm, sm_zero (n := n) (fun i hi => h i (by omega)), h n (by omega)]; grind
theorem sm_sub (f g : Nat → Rat) (n : Nat) : sm n (fun i => f i - g i) = sm n f - sm n g := by
  have h1 : sm n (fun i => f i - g i) = sm n (fun i => f i + (-1) * g i) := sm_congr fun i _ => by grind
  rw [h1, sm_add, sm_mul]; grind
theorem sm_one {f : Nat → Rat} {k : Nat} : ∀ {n : Nat}, k < n → (∀ i, i < n → i ≠ k → f i = 0) → sm n f = f k
  | 0, h, _ => by omega
  | n + 1, h, h0 => by
    rw [sm]
    by_cases hk : k = n
    · subst hk
      rw [sm_zero fun i hi => h0 i (by omega) (by omega)]; grind
    · rw [sm_one (n := n) (by omega) (fun i hi => h0 i (by omega)), h0 n (by omega) (Ne.symm hk)]; grind
theorem sm_succ (f : Nat → Rat) : ∀ n, sm (n + 1) f = f 0 + sm n (fun i => f (i + 1))
  | 0 => by simp only [sm]; grind
  | n + 1 => by rw [sm, sm_succ f n, sm]; grind
theorem sm_swap (f : Nat → Nat → Rat) (m : Nat) : ∀ n, sm n (fun i => sm m (fun j => f i j)) = sm m (fun j => sm n (fun i => f i j))
  | 0 => by rw [sm]; exact (sm_zero fun _ _ => rfl).symm
  | n + 1 => by
    rw [sm, sm_swap f m n, ← sm_add]
    rfl
def minor (A : Nat → Nat → Rat) (k : Nat) : Nat → Nat → Rat := fun i j => A (if i < k then i else i + 1) (j + 1)
def alt (i : Nat) : Rat := if i % 2 = 0 then 1 else -1
def det : Nat → (Nat → Nat → Rat) → Rat
  | 0, _ => 1
  | n + 1, A => sm (n + 1) fun i => alt i * A i 0 * det n (minor A i)
theorem alt_succ (i : Nat) : alt (i + 1) = -alt i := by
  unfold alt
  rcases Nat.mod_two_eq_zero_or_one i with h | h
  · rw [if_neg (by omega), if_pos h]
  · rw [if_pos (by omega), if_neg (by omega)]; grind
theorem det_congr : ∀ {n : Nat} {A B : Nat → Nat → Rat}, (∀ i j, i < n → j < n → A i j = B i j) → det n A = det n B
  | 0, _, _, _ => rfl
  | n + 1, A, B, h => by
    rw [det, det]
    refine sm_congr fun i hi => ?_
    rw [h i 0 hi (by omega), det_congr (n := n) (A := minor A i) (B := minor B i)]
    intro a b ha hb
    unfold minor
    split <;> exact h _ _ (by omega) (by omega)
def rset (A : Nat → Nat → Rat) (k : Nat) (v : Nat → Rat) : Nat → Nat → Rat := fun i j => if i = k then v j else A i j
theorem minor_self (A : Nat → Nat → Rat) (k : Nat) (v : Nat → Rat) : minor (rset A k v) k = minor A k := by
  funext i j
  unfold minor rset
  split
  · rw [if_neg (by omega)]
  · rw [if_neg (by omega)]
theorem minor_lt (A : Nat → Nat → Rat) {k i : Nat} (h : k < i) (v : Nat → Rat) : minor (rset A k v) i = rset (minor A i) k (fun j => v (j + 1)) := by
  funext a j
  have e : ((if a < i then a else a + 1) = k) = (a = k) := by apply propext; split <;> omega
  simp only [minor, rset, e]
theorem minor_gt (A : Nat → Nat → Rat) {k i : Nat} (h : i < k) (v : Nat → Rat) : minor (rset A k v) i = rset (minor A i) (k - 1) (fun j => v (j + 1)) := by
  funext a j
  have e : ((if a < i then a else a + 1) = k) = (a = k - 1) := by apply propext; split <;> omega
  simp only [minor, rset, e]
theorem det_lin : ∀ {n k : Nat} (A : Nat → Nat → Rat) (s : Rat) (u v : Nat → Rat), k < n → det n (rset A k fun j => u j + s * v j) = det n (rset A k u) + s * det n (rset A k v)
  | 0, k, _, _, _, _, h => by omega
  | n + 1, k, A, s, u, v, h => by
    rw [det, det, det, ← sm_mul, ← sm_add]
    refine sm_congr fun i hi => ?_
    rcases Nat.lt_trichotomy k i with hk | hk | hk
    · rw [minor_lt A hk, minor_lt A hk, minor_lt A hk, det_lin (minor A i) s _ _ (by omega)]
      have e : ∀ w : Nat → Rat, rset A k w i 0 = A i 0 := fun w => by unfold rset; rw [if_neg (by omega)]
      rw [e, e, e]; grind
    · subst hk
      rw [minor_self, minor_self, minor_self]
      have e : ∀ w : Nat → Rat, rset A k w k 0 = w 0 := fun w => by unfold rset; rw [if_pos rfl]
      rw [e, e, e]; grind
    · rw [minor_gt A hk, minor_gt A hk, minor_gt A hk, det_lin (minor A i) s _ _ (by omega)]
      have e : ∀ w : Nat → Rat, rset A k w i 0 = A i 0 := fun w => by unfold rset; rw [if_neg (by omega)]
      rw [e, e, e]; grind
theorem rset_self (A : Nat → Nat → Rat) (k : Nat) : rset A k (A k) = A := by
  funext i j; unfold rset; split
  · rename_i h; rw [h]
  · rfl
theorem det_zero_row {n k : Nat} {A : Nat → Nat → Rat} (hk : k < n) (h : ∀ j, j < n → A k j = 0) : det n A = 0 := by
  have e : det n A = det n (rset A k fun j => A k j + (-1) * A k j) := by
    refine det_congr fun i j hi hj => ?_
    unfold rset
    split
    · rename_i h1; rw [h1, h j hj]; grind
    · rfl
  have := det_lin A (-1) (A k) (A k) hk
  rw [← e, rset_self] at this
  grind
theorem det_adj : ∀ {n k : Nat} {A : Nat → Nat → Rat}, k + 1 < n → (∀ j, j < n → A k j = A (k + 1) j) → det n A = 0
  | 0, k, _, h, _ => by omega
  | n + 1, k, A, h, he => by
    rw [det]
    have h1 : sm (n + 1) (fun i => alt i * A i 0 * det n (minor A i)) = sm (n + 1) (fun i => (if i = k then alt k * A k 0 * det n (minor A k) else 0) + (if i = k + 1 then -(alt k * A k 0 * det n (minor A k)) else 0)) := by
      refine sm_congr fun i hi => ?_
      by_cases h2 : i = k
      · subst h2
        rw [if_pos rfl, if_neg (by omega)]; grind
      · by_cases h3 : i = k + 1
        · subst h3
          rw [if_neg h2, if_pos rfl, alt_succ, ← he 0 (by omega)]
          have : det n (minor A (k + 1)) = det n (minor A k) := det_congr fun a b ha hb => by
            unfold minor
            by_cases hak : a = k
            · subst hak; rw [if_pos (by omega), if_neg (by omega)]; exact he _ (by omega)
            · by_cases hlt : a < k
              · rw [if_pos (by omega), if_pos hlt]
              · rw [if_neg (by omega), if_neg hlt]
          rw [this]; grind
        · rw [if_neg h2, if_neg h3]
          have : det n (minor A i) = 0 := by
            by_cases hlt : i < k
            · refine det_adj (k := k - 1) (by omega) fun j hj => ?_
              unfold minor
              rw [if_neg (by omega), if_neg (by omega), show k - 1 + 1 = k by omega]
              exact he _ (by omega)
            · refine det_adj (k := k) (by omega) fun j hj => ?_
              unfold minor
              rw [if_pos (by omega), if_pos (by omega)]
              exact he _ (by omega)
          rw [this]; grind
    rw [h1, sm_add, sm_one (k := k) (by omega) (fun i _ hne => if_neg hne), sm_one (k := k + 1) (by omega) (fun i _ hne => if_neg hne), if_pos rfl, if_pos rfl]
    grind
def rswap (A : Nat → Nat → Rat) (p q : Nat) : Nat → Nat → Rat := fun i j => if i = p then A q j else if i = q then A p j else A i j
theorem swap_of {n p q : Nat} (hp : p < n) (hq : q < n) (hne : p ≠ q) (h0 : ∀ A : Nat → Nat → Rat, (∀ j, j < n → A p j = A q j) → det n A = 0) (A : Nat → Nat → Rat) : det n (rswap A p q) = -det n A := by
  -- the rows p and q both the sum
  have key : ∀ u v : Nat → Rat, det n (rset (rset A p u) q v) = -det n (rset (rset A p v) q u) := by
    intro u v
    have e0 : det n (rset (rset A p fun j => u j + 1 * v j) q fun j => u j + 1 * v j) = 0 := h0 _ fun j _ => by unfold rset; rw [if_neg hne, if_pos rfl, if_pos rfl]
    have e1 : det n (rset (rset A p u) q u) = 0 := h0 _ fun j _ => by unfold rset; rw [if_neg hne, if_pos rfl, if_pos rfl]
    have e2 : det n (rset (rset A p v) q v) = 0 := h0 _ fun j _ => by unfold rset; rw [if_neg hne, if_pos rfl, if_pos rfl]
    have comm : ∀ x y : Nat → Rat, rset (rset A p x) q y = rset (rset A q y) p x := fun x y => by
      funext i j; unfold rset
      by_cases hi : i = q
      · subst hi; rw [if_pos rfl, if_neg (Ne.symm hne), if_pos rfl]
      · rw [if_neg hi]
        by_cases hi2 : i = p
        · rw [if_pos hi2, if_pos hi2]
        · rw [if_neg hi2, if_neg hi2, if_neg hi]
    rw [det_lin _ _ _ _ hq, comm, comm, det_lin _ _ _ _ hp, det_lin _ _ _ _ hp, ← comm, ← comm, ← comm, ← comm] at e0
    grind
  have := key (A q) (A p)
  have e1 : rset (rset A p (A q)) q (A p) = rswap A p q := by
    funext i j; unfold rset rswap
    by_cases hi : i = q
    · subst hi; rw [if_pos rfl, if_neg (Ne.symm hne), if_pos rfl]
    · rw [if_neg hi, if_neg hi]
  have e2 : rset (rset A p (A p)) q (A q) = A := by rw [rset_self, rset_self]
  rw [e1, e2] at this
  exact this
theorem det_eq_rows : ∀ (d : Nat) {n p : Nat} (A : Nat → Nat → Rat), p + 1 + d < n → (∀ j, j < n → A p j = A (p + 1 + d) j) → det n A = 0
  | 0, n, p, A, h, he => det_adj (k := p) h he
  | d + 1, n, p, A, h, he => by
    have hs := swap_of (n := n) (p := p + 1 + d) (q := p + 1 + d + 1) (by omega) (by omega) (by omega) (fun B hB => det_adj (k := p + 1 + d) (by omega) hB) A
    have h0 := det_eq_rows d (n := n) (p := p) (rswap A (p + 1 + d) (p + 1 + d + 1)) (by omega) (fun j hj => by
      unfold rswap
      rw [if_neg (by omega), if_neg (by omega), if_pos rfl]
      exact he j hj)
    rw [h0] at hs
    grind
theorem det_eq {n p q : Nat} {A : Nat → Nat → Rat} (hp : p < n) (hq : q < n) (hne : p ≠ q) (h : ∀ j, j < n → A p j = A q j) : det n A = 0 := by
  rcases Nat.lt_or_ge p q with hlt | hge
  · exact det_eq_rows (q - p - 1) (p := p) A (by omega) (fun j hj => by rw [show p + 1 + (q - p - 1) = q by omega]; exact h j hj)
  · exact det_eq_rows (p - q - 1) (p := q) A (by omega) (fun j hj => by rw [show q + 1 + (p - q - 1) = p by omega]; exact (h j hj).symm)
theorem det_swap {n p q : Nat} (A : Nat → Nat → Rat) (hp : p < n) (hq : q < n) (hne : p ≠ q) : det n (rswap A p q) = -det n A :=
  swap_of hp hq hne (fun _ hB => det_eq hp hq hne hB) A
theorem det_scale {n k : Nat} (A : Nat → Nat → Rat) (hk : k < n) (s : Rat) : det n (rset A k fun j => s * A k j) = s * det n A := by
  have := det_lin A s (fun _ => 0) (A k) hk
  rw [rset_self] at this
  have e : det n (rset A k fun _ => 0) = 0 := det_zero_row hk fun j _ => by unfold rset; rw [if_pos rfl]
  rw [e] at this
  have e2 : det n (rset A k fun j => s * A k j) = det n (rset A k fun j => 0 + s * A k j) := det_congr fun i j _ _ => by unfold rset; split <;> grind
  rw [e2, this]; grind
theorem det_addrow {n k r : Nat} (A : Nat → Nat → Rat) (hk : k < n) (hr : r < n) (hne : k ≠ r) (s : Rat) : det n (rset A k fun j => A k j + s * A r j) = det n A := by
  rw [det_lin A s (A k) (A r) hk, rset_self]
  have : det n (rset A k (A r)) = 0 := det_eq hk hr hne fun j _ => by unfold rset; rw [if_pos rfl, if_neg (Ne.symm hne)]
  rw [this]; grind
theorem det_col0 {n : Nat} {A : Nat → Nat → Rat} (h0 : A 0 0 = 1) (h : ∀ i, i < n → A (i + 1) 0 = 0) : det (n + 1) A = det n fun i j => A (i + 1) (j + 1) := by
  rw [det, sm_one (k := 0) (by omega) (fun i hi hne => by
    obtain ⟨m, rfl⟩ : ∃ m, i = m + 1 := ⟨i - 1, by omega⟩
    rw [h m (by omega)]; grind), h0]
  have : det n (minor A 0) = det n fun i j => A (i + 1) (j + 1) := det_congr fun i j _ _ => by unfold minor; rw [if_neg (by omega)]
  rw [this]
  show 1 * 1 * _ = _
  grind
theorem det_one : ∀ {n : Nat} {A : Nat → Nat → Rat}, (∀ i j, i < n → j < n → A i j = if i = j then 1 else 0) → det n A = 1
  | 0, _, _ => rfl
  | n + 1, A, h => by
    rw [det_col0 (by rw [h 0 0 (by omega) (by omega), if_pos rfl]) (fun i hi => by rw [h _ _ (by omega) (by omega), if_neg (by omega)])]
    refine det_one fun i j hi hj => ?_
    rw [h _ _ (by omega) (by omega)]
    by_cases hij : i = j
    · rw [if_pos hij, if_pos (by omega)]
    · rw [if_neg hij, if_neg (by omega)]
theorem det_clear {n : Nat} (A : Nat → Nat → Rat) (s : Nat → Rat) : ∀ m, m ≤ n → det (n + 1) (fun i j => if 1 ≤ i ∧ i ≤ m then A i j + s i * A 0 j else A i j) = det (n + 1) A
  | 0, _ => det_congr fun i j _ _ => by rw [if_neg (by omega)]
  | m + 1, h => by
    rw [← det_clear A s m (by omega)]
    have := det_addrow (n := n + 1) (k := m + 1) (r := 0) (fun i j => if 1 ≤ i ∧ i ≤ m then A i j + s i * A 0 j else A i j) (by omega) (by omega) (by omega) (s (m + 1))
    rw [← this]
    refine det_congr fun i j _ _ => ?_
    unfold rset
    by_cases hi : i = m + 1
    · subst hi
      rw [if_pos (by omega), if_pos rfl]
      dsimp only
      rw [if_neg (by omega), if_neg (by omega)]
    · rw [if_neg hi]
      dsimp only
      by_cases h2 : 1 ≤ i ∧ i ≤ m
      · rw [if_pos (by omega), if_pos h2]
      · rw [if_neg (by omega), if_neg h2]
theorem det_collect {n : Nat} (A : Nat → Nat → Rat) (y : Nat → Rat) : ∀ m, m ≤ n → det (n + 1) (rset A 0 fun j => A 0 j + sm m fun k => y k * A (k + 1) j) = det (n + 1) A
  | 0, _ => det_congr fun i j _ _ => by
    unfold rset
    split
    · rename_i h; subst h; dsimp only [sm]; grind
    · rfl
  | m + 1, h => by
    rw [← det_collect A y m (by omega)]
    have := det_addrow (n := n + 1) (k := 0) (r := m + 1) (rset A 0 fun j => A 0 j + sm m fun k => y k * A (k + 1) j) (by omega) (by omega) (by omega) (y m)
    rw [← this]
    refine det_congr fun i j _ _ => ?_
    unfold rset
    by_cases hi : i = 0
    · subst hi
      rw [if_pos rfl, if_pos rfl]
      dsimp only
      rw [if_pos rfl, if_neg (by omega), sm]; grind
    · rw [if_neg hi, if_neg hi, if_neg hi]
theorem det_rank1 {n : Nat} (M : Nat → Nat → Rat) (hs : ∀ i j, i < n → j < n → M i j = M j i) (u y : Nat → Rat) (c : Rat) (hy : ∀ i, i < n → sm n (fun j => M i j * y j) = u i) :
    det n (fun i j => M i j - c * u i * u j) = det n M * (1 - c * sm n fun i => u i * y i) := by
  let N (w : Nat → Rat) : Nat → Nat → Rat := fun i j => if i = 0 then w j else if j = 0 then c * u (i - 1) else M (i - 1) (j - 1)
  have clr : ∀ w : Nat → Rat, w 0 = 1 → det (n + 1) (N w) = det n (fun i j => M i j - c * u i * w (j + 1)) := by
    intro w hw
    rw [← det_clear (N w) (fun i => -(c * u (i - 1))) n (Nat.le_refl _)]
    rw [det_col0 (by show (if 1 ≤ 0 ∧ 0 ≤ n then _ else N w 0 0) = 1; rw [if_neg (by omega)]; show (if (0 : Nat) = 0 then w 0 else _) = 1; rw [if_pos rfl, hw]) (fun i hi => by
      show (if 1 ≤ i + 1 ∧ i + 1 ≤ n then N w (i + 1) 0 + -(c * u (i + 1 - 1)) * N w 0 0 else _) = 0
      rw [if_pos (by omega)]
      have e1 : N w (i + 1) 0 = c * u i := by show (if i + 1 = 0 then _ else if (0 : Nat) = 0 then c * u (i + 1 - 1) else _) = _; rw [if_neg (by omega), if_pos rfl]; rfl
      have e2 : N w 0 0 = 1 := by show (if (0 : Nat) = 0 then w 0 else _) = 1; rw [if_pos rfl, hw]
      rw [e1, e2]; show c * u i + -(c * u i) * 1 = 0; grind)]
    refine det_congr fun i j hi hj => ?_
    show (if 1 ≤ i + 1 ∧ i + 1 ≤ n then N w (i + 1) (j + 1) + -(c * u (i + 1 - 1)) * N w 0 (j + 1) else _) = _
    rw [if_pos (by omega)]
    have e1 : N w (i + 1) (j + 1) = M i j := by show (if i + 1 = 0 then _ else if j + 1 = 0 then _ else M (i + 1 - 1) (j + 1 - 1)) = _; rw [if_neg (by omega), if_neg (by omega)]; rfl
    have e2 : N w 0 (j + 1) = w (j + 1) := by show (if (0 : Nat) = 0 then w (j + 1) else _) = _; rw [if_pos rfl]
    rw [e1, e2]; show M i j + -(c * u i) * w (j + 1) = _; grind
  let w1 : Nat → Rat := fun j => if j = 0 then 1 else u (j - 1)
  let e0 : Nat → Rat := fun j => if j = 0 then 1 else 0
  have h1 := clr w1 rfl
  have h2 := clr e0 rfl
  have l1 : det n (fun i j => M i j - c * u i * w1 (j + 1)) = det n (fun i j => M i j - c * u i * u j) := rfl
  have l2 : det n (fun i j => M i j - c * u i * e0 (j + 1)) = det n M := det_congr fun i j _ _ => by show M i j - c * u i * (if j + 1 = 0 then 1 else 0) = _; rw [if_neg (by omega)]; grind
  rw [l1] at h1
  rw [l2] at h2
  -- the first row with multiples of the others
  have h3 := det_collect (N w1) (fun k => -(y k)) n (Nat.le_refl _)
  have x : sm n (fun i => u i * y i) = sm n (fun i => u i * y i) := rfl
  have h4 : det (n + 1) (rset (N w1) 0 fun j => N w1 0 j + sm n fun k => -(y k) * N w1 (k + 1) j) = det (n + 1) (rset (N e0) 0 fun j => (1 - c * sm n fun i => u i * y i) * N e0 0 j) := by
    refine det_congr fun i j hi hj => ?_
    unfold rset
    by_cases hi0 : i = 0
    · subst hi0
      rw [if_pos rfl, if_pos rfl]
      have n0 : ∀ w : Nat → Rat, N w 0 j = w j := fun w => by show (if (0 : Nat) = 0 then w j else _) = _; rw [if_pos rfl]
      dsimp only
      rw [n0, n0]
      rcases Nat.eq_zero_or_pos j with hj0 | hj0
      · subst hj0
        have : sm n (fun k => -(y k) * N w1 (k + 1) 0) = sm n (fun k => (-c) * (u k * y k)) := sm_congr fun k _ => by
          have : N w1 (k + 1) 0 = c * u k := by show (if k + 1 = 0 then _ else if (0 : Nat) = 0 then c * u (k + 1 - 1) else _) = _; rw [if_neg (by omega), if_pos rfl]; rfl
          rw [this]; grind
        rw [this, sm_mul]
        show 1 + _ = _ * 1
        grind
      · obtain ⟨m, rfl⟩ : ∃ m, j = m + 1 := ⟨j - 1, by omega⟩
        have : sm n (fun k => -(y k) * N w1 (k + 1) (m + 1)) = sm n (fun k => (-1) * (M m k * y k)) := sm_congr fun k hk => by
          have : N w1 (k + 1) (m + 1) = M k m := by show (if k + 1 = 0 then _ else if m + 1 = 0 then _ else M (k + 1 - 1) (m + 1 - 1)) = _; rw [if_neg (by omega), if_neg (by omega)]; rfl
          rw [this, hs k m hk (by omega)]; grind
        rw [this, sm_mul, hy m (by omega)]
        show u m + _ = _ * (if m + 1 = 0 then 1 else 0)
        rw [if_neg (by omega)]; grind
    · rw [if_neg hi0, if_neg hi0]
      show (if i = 0 then _ else _) = (if i = 0 then _ else _)
      rw [if_neg hi0, if_neg hi0]
  rw [h4, det_scale _ (by omega), h2, h1] at h3
  grind
end Go.Ab
namespace Go.Ab
open Go
set_option linter.unusedVariables false
set_option linter.unusedSimpArgs false
theorem getD_setG {α : Type} (xs : List α) (n : Nat) (w : α) (i : Nat) (d : α) : (xs.set n w).getD i d = if i = n ∧ n < xs.length then w else xs.getD i d := by
  simp only [List.getD_eq_getElem?_getD, List.getElem?_set]
  split
  · rename_i h; subst h
    split
    · rename_i h; simp [h]
    · rename_i h; simp [h]
  · rename_i h
    rw [if_neg (by rintro ⟨rfl, _⟩; exact h rfl)]
theorem getD_appendG {α : Type} (xs : List α) (w : α) (i : Nat) (d : α) : (xs ++ [w]).getD i d = if i < xs.length then xs.getD i d else if i = xs.length then w else d := by
  simp only [List.getD_eq_getElem?_getD]
  split
  · rename_i h; rw [List.getElem?_append_left h]
  · split
    · rename_i h; subst h; simp
    · rw [List.getElem?_eq_none (by simp; omega)]; rfl
def mg (m : List (List NumQ)) (i j : Nat) : NumQ := (m.getD i []).getD j NumQZ
structure MRep (m : List (List NumQ)) (r c : Nat) (A : Nat → Nat → Rat) : Prop where
  rows : m.length = r
  cols : ∀ i, i < r → (m.getD i []).length = c
  rep : ∀ i j, i < r → j < c → QRep (mg m i j) (A i j)
def MSz (r c : Nat) (A : Nat → Nat → Rat) (k : Nat) : Prop := ∀ i j, i < r → j < c → Sz (A i j) k
section
variable {m : List (List NumQ)} {r c : Nat} {A : Nat → Nat → Rat}
theorem MRep.set (M : MRep m r c A) {i j : Nat} (hi : i < r) (hj : j < c) {q : NumQ} {B : Nat → Nat → Rat} (hq : QRep q (B i j)) (hB : ∀ a b, a < r → b < c → (a ≠ i ∨ b ≠ j) → B a b = A a b) :
    MRep (m.set i ((m.getD i []).set j q)) r c B := by
  have hm := M.rows
  refine ⟨by simp [hm], fun a ha => ?_, fun a b ha hb => ?_⟩
  · rw [getD_setG]
    split
    · rw [List.length_set]; exact M.cols i hi
    · exact M.cols a ha
  · unfold mg
    rw [getD_setG]
    by_cases hai : a = i
    · subst hai
      rw [if_pos ⟨rfl, by omega⟩, getD_setG]
      by_cases hbj : b = j
      · subst hbj; rw [if_pos ⟨rfl, by rw [M.cols _ hi]; exact hj⟩]; exact hq
      · rw [if_neg (by omega), hB a b ha hb (.inr hbj)]; exact M.rep a b ha hb
    · rw [if_neg (by omega), hB a b ha hb (.inl hai)]; exact M.rep a b ha hb
theorem MRep.congr (M : MRep m r c A) {B : Nat → Nat → Rat} (h : ∀ a b, a < r → b < c → B a b = A a b) : MRep m r c B :=
  ⟨M.rows, M.cols, fun a b ha hb => by rw [h a b ha hb]; exact M.rep a b ha hb⟩
theorem MRep.setRow (M : MRep m r c A) {i : Nat} (hi : i < r) {row : List NumQ} (hl : row.length = c) {B : Nat → Nat → Rat} (hr : ∀ j, j < c → QRep (row.getD j NumQZ) (B i j)) (hB : ∀ a b, a < r → b < c → a ≠ i → B a b = A a b) :
    MRep (m.set i row) r c B := by
  have hm := M.rows
  refine ⟨by simp [hm], fun a ha => ?_, fun a b ha hb => ?_⟩
  · rw [getD_setG]
    split
    · exact hl
    · exact M.cols a ha
  · unfold mg
    rw [getD_setG]
    by_cases hai : a = i
    · subst hai; rw [if_pos ⟨rfl, by omega⟩]; exact hr b hb
    · rw [if_neg (by omega), hB a b ha hb hai]; exact M.rep a b ha hb
theorem MRep.swap (M : MRep m r c A) {p q : Nat} (hp : p < r) (hq : q < r) : MRep ((m.set p (m.getD q [])).set q (m.getD p [])) r c (rswap A p q) := by
  have h1 : MRep (m.set p (m.getD q [])) r c (rset A p (A q)) := M.setRow hp (M.cols q hq) (fun j hj => by unfold rset; rw [if_pos rfl]; exact M.rep q j hq hj) (fun a b _ _ h => by unfold rset; rw [if_neg h])
  refine h1.setRow hq (M.cols p hp) (fun j hj => ?_) (fun a b _ _ h => ?_)
  · unfold rswap
    by_cases hqp : q = p
    · rw [if_pos hqp, hqp]; exact M.rep p j hp hj
    · rw [if_neg hqp, if_pos rfl]; exact M.rep p j hp hj
  · unfold rswap rset
    by_cases hap : a = p
    · rw [if_pos hap, if_pos hap]
    · rw [if_neg hap, if_neg hap, if_neg h]
end
theorem find_gives {r c : Nat} {A : Nat → Nat → Rat} {m : List (List NumQ)} (M : MRep m r c A) (hr : r ≤ 1000) {cc p0 : Nat} (hc : cc < c) (hp : p0 ≤ r) (a1 v2 : Int) (v3 : List Int) (v4 : Bool) (v5 : Int) (v6 : List Int) (v7 : Bool) (v8 : List Int) (y1 : QmM) (b : Bool) :
    Gives (iter (fun v : (Int × Bool) => qmMReduceL2 a1 (cc : Int) v2 v3 v4 v5 v6 v7 v8 m y1 v.1 v.2) ((p0 : Int), b)) fun o => ∃ p : Nat, o.1 = (p : Int) ∧ p0 ≤ p ∧ p ≤ r ∧ (∀ i, p0 ≤ i → i < p → A i cc = 0) ∧ (p < r → A p cc ≠ 0) := by
  refine gives_iter (I := fun s : Int × Bool => ∃ p : Nat, s.1 = (p : Int) ∧ p0 ≤ p ∧ p ≤ r ∧ ∀ i, p0 ≤ i → i < p → A i cc = 0) (μ := fun s : Int × Bool => r - s.1.toNat) ⟨p0, rfl, Nat.le_refl _, hp, fun i h1 h2 => by omega⟩ ?_
  rintro ⟨i, b⟩ ⟨p, h1, h2, h3, h4⟩
  simp only at h1
  subst h1
  have hm := M.rows
  unfold qmMReduceL2
  simp only [gives_ite, gives_need, gives_bind, gives_some, decide_eq_true_eq, round_inl, round_inr, inRange, Int.toNat_natCast]
  refine ⟨fun hlt => ?_, fun hge => ⟨p, rfl, h2, h3, h4, fun h => by omega⟩⟩
  have hpr : p < r := by omega
  have hcl := M.cols p hpr
  refine ⟨by omega, by omega, ?_⟩
  refine (qzero_gives (M.rep p cc hpr hc)).mono ?_
  rintro z hz
  refine ⟨fun h => ?_, fun h => ⟨p, rfl, h2, h3, h4, fun _ h0 => h (hz.2 h0)⟩⟩
  rw [wi64 (by omega) (by omega)]
  refine ⟨⟨p + 1, by simp, by omega, by omega, fun i h1 h5 => ?_⟩, by omega⟩
  by_cases hi : i = p
  · subst hi; exact hz.1 h
  · exact h4 i h1 (by omega)
theorem divide_gives {r c : Nat} {A : Nat → Nat → Rat} {m : List (List NumQ)} (M : MRep m r c A) (hr : r ≤ 1000) (hcl : c ≤ 1000) {g : Nat} (S : MSz r c A g) (hg : g ≤ 100000000000) {cc : Nat} (hc : cc < c) {v8 : List Int} (hp : v8.length < r) (h0 : A v8.length cc ≠ 0)
    (a1 v1 : Int) (v9 : List (List NumQ)) (r1 : Int × Bool) (y1 : QmM) (y5 : NumQ) {x : NumQ} (hx : QRep x (A v8.length cc)) :
    Gives (iter (fun v : (Int × Int × Int × (List Int) × Bool × Int × (List Int) × Bool × (List (List NumQ))) => qmMReduceL3 a1 v1 v8 v9 r1 y1 y5 v.1 v.2.1 v.2.2.1 v.2.2.2.1 v.2.2.2.2.1 v.2.2.2.2.2.1 v.2.2.2.2.2.2.1 v.2.2.2.2.2.2.2.1 v.2.2.2.2.2.2.2.2)
      ((c : Int), (0 : Int), x.N.v, x.N.m, x.N.neg, x.D.v, x.D.m, x.D.neg, m)) fun o => MRep o r c (fun i j => if i = v8.length then A i j / A v8.length cc else A i j) := by
  refine gives_iter (I := fun s : Int × Int × Int × List Int × Bool × Int × List Int × Bool × List (List NumQ) => ∃ n : Nat, s.1 = (c : Int) ∧ s.2.1 = (n : Int) ∧ n ≤ c ∧ QRep ⟨⟨s.2.2.1, s.2.2.2.1, s.2.2.2.2.1⟩, ⟨s.2.2.2.2.2.1, s.2.2.2.2.2.2.1, s.2.2.2.2.2.2.2.1⟩⟩ (A v8.length cc) ∧
      MRep s.2.2.2.2.2.2.2.2 r c (fun i j => if i = v8.length ∧ j < n then A i j / A v8.length cc else A i j)) (μ := fun s : Int × Int × Int × List Int × Bool × Int × List Int × Bool × List (List NumQ) => c - s.2.1.toNat)
    ⟨0, rfl, rfl, Nat.zero_le _, hx, M.congr fun a b _ _ => by rw [if_neg (by omega)]⟩ ?_
  rintro ⟨c', i, x1, x2, x3, x4, x5, x6, w⟩ ⟨n, h1, h2, h3, h4, h5⟩
  simp only at h1 h2 h4 h5
  subst h1 h2
  have hm := h5.rows
  have hcol := h5.cols v8.length hp
  unfold qmMReduceL3
  simp only [gives_ite, gives_need, gives_bind, gives_some, decide_eq_true_eq, round_inl, round_inr, inRange, Int.toNat_natCast]
  refine ⟨fun hlt => ?_, fun hge => ?_⟩
  · have hn : n < c := by omega
    refine ⟨by omega, by omega, by omega, ?_⟩
    have hq := h5.rep v8.length n hp hn
    rw [if_neg (by omega)] at hq
    refine (qdiv_gives hq h4 (S _ _ hp hn) (S _ _ hp hc) (by omega) h0).mono ?_
    rintro y hy
    rw [wi64 (by omega) (by omega)]
    refine ⟨by omega, ⟨n + 1, trivial, by simp, by omega, h4, ?_⟩, by omega⟩
    refine h5.set hp hn (by rw [if_pos ⟨rfl, by omega⟩]; exact hy) fun a b _ _ hab => ?_
    by_cases ha : a = v8.length
    · by_cases hb : b < n
      · rw [if_pos ⟨ha, by omega⟩, if_pos ⟨ha, hb⟩]
      · rw [if_neg (by omega), if_neg (by omega)]
    · rw [if_neg (by omega), if_neg (by omega)]
  · have : n = c := by omega
    subst this
    refine h5.congr fun a b _ hb => ?_
    by_cases ha : a = v8.length
    · rw [if_pos ha, if_pos ⟨ha, hb⟩]
    · rw [if_neg ha, if_neg (by omega)]
theorem subrow_gives {r c : Nat} {B : Nat → Nat → Rat} {m : List (List NumQ)} (M : MRep m r c B) (hr : r ≤ 1000) (hcl : c ≤ 1000) {g : Nat} (hg : g ≤ 100000000000) {v8 : List Int} (hp : v8.length < r) {i : Nat} (hi : i < r) (hne : i ≠ v8.length) {cc : Nat} (hc : cc < c)
    (Si : ∀ j, j < c → Sz (B i j) g) (Sp : ∀ j, j < c → Sz (B v8.length j) (2 * g)) (a1 v1 : Int) (v9 : List (List NumQ)) (r1 : Int × Bool) (r2 : List (List NumQ)) (y1 : QmM) (y5 : NumQ) (y7 : Bool) {x : NumQ} (hx : QRep x (B i cc)) :
    Gives (iter (fun v : (NumQ × Int × Int × (List Int) × Bool × Int × (List Int) × Bool × (List (List NumQ))) => qmMReduceL5 a1 v1 v8 v9 (i : Int) m r1 r2 y1 y5 y7 v.1 v.2.1 v.2.2.1 v.2.2.2.1 v.2.2.2.2.1 v.2.2.2.2.2.1 v.2.2.2.2.2.2.1 v.2.2.2.2.2.2.2.1 v.2.2.2.2.2.2.2.2)
      (x, (0 : Int), x.N.v, x.N.m, x.N.neg, x.D.v, x.D.m, x.D.neg, m)) fun o => MRep o.2 r c (fun a j => if a = i then B i j - B i cc * B v8.length j else B a j) := by
  refine gives_iter (I := fun s : NumQ × Int × Int × List Int × Bool × Int × List Int × Bool × List (List NumQ) => ∃ n : Nat, s.2.1 = (n : Int) ∧ n ≤ c ∧ QRep ⟨⟨s.2.2.1, s.2.2.2.1, s.2.2.2.2.1⟩, ⟨s.2.2.2.2.2.1, s.2.2.2.2.2.2.1, s.2.2.2.2.2.2.2.1⟩⟩ (B i cc) ∧
      MRep s.2.2.2.2.2.2.2.2 r c (fun a j => if a = i ∧ j < n then B i j - B i cc * B v8.length j else B a j)) (μ := fun s : NumQ × Int × Int × List Int × Bool × Int × List Int × Bool × List (List NumQ) => c - s.2.1.toNat)
    ⟨0, rfl, Nat.zero_le _, hx, M.congr fun a b _ _ => by rw [if_neg (by omega)]⟩ ?_
  rintro ⟨x0, k, x1, x2, x3, x4, x5, x6, w⟩ ⟨n, h2, h3, h4, h5⟩
  simp only at h2 h4 h5
  subst h2
  have hm := h5.rows
  have hcp := h5.cols v8.length hp
  have hci := h5.cols i hi
  have hlen := M.cols i hi
  have J : ∀ w' : List (List NumQ), n < c → MRep w' r c (fun a j => if a = i ∧ j < n + 1 then B i j - B i cc * B v8.length j else B a j) → Gives (qmMReduceJ3 a1 v1 v8 v9 (i : Int) m x0 (n : Int) x1 x2 x3 x4 x5 x6 w' r1 r2 y1 y5 y7)
      (Round (fun s : NumQ × Int × Int × List Int × Bool × Int × List Int × Bool × List (List NumQ) => ∃ n : Nat, s.2.1 = (n : Int) ∧ n ≤ c ∧ QRep ⟨⟨s.2.2.1, s.2.2.2.1, s.2.2.2.2.1⟩, ⟨s.2.2.2.2.2.1, s.2.2.2.2.2.2.1, s.2.2.2.2.2.2.2.1⟩⟩ (B i cc) ∧
        MRep s.2.2.2.2.2.2.2.2 r c (fun a j => if a = i ∧ j < n then B i j - B i cc * B v8.length j else B a j)) (fun s : NumQ × Int × Int × List Int × Bool × Int × List Int × Bool × List (List NumQ) => c - s.2.1.toNat) (x0, (n : Int), x1, x2, x3, x4, x5, x6, w)
        (fun o : NumQ × List (List NumQ) => MRep o.2 r c (fun a j => if a = i then B i j - B i cc * B v8.length j else B a j))) := by
    intro w' hn hw'
    unfold qmMReduceJ3
    rw [gives_some, round_inl, wi64 (by omega) (by omega)]
    exact ⟨⟨n + 1, by simp, by omega, h4, hw'⟩, by simp; omega⟩
  unfold qmMReduceL5
  simp only [gives_ite, gives_need, gives_bind, gives_some, decide_eq_true_eq, round_inr, inRange, Int.toNat_natCast, Bool.not_eq_true']
  refine ⟨fun hlt => ?_, fun hge => ?_⟩
  · have hn : n < c := by omega
    refine ⟨by omega, by omega, ?_⟩
    have hqp := h5.rep v8.length n hp hn
    rw [if_neg (by omega)] at hqp
    have hqi := h5.rep i n hi hn
    rw [if_neg (by omega)] at hqi
    refine (qzero_gives hqp).mono ?_
    rintro z hz
    refine ⟨fun h => ?_, fun h => ?_⟩
    · refine ⟨by omega, by omega, by omega, by omega, by omega, ?_⟩
      refine (qmul_gives h4 hqp (Si _ hc) (Sp _ hn) (by omega)).mono ?_
      rintro y hy
      refine (qsub_gives hqi hy (Si _ hn) ((Si _ hc).mul (Sp _ hn)) (by omega)).mono ?_
      rintro y' hy'
      refine ⟨by omega, J _ hn ?_⟩
      refine h5.set hi hn (by rw [if_pos ⟨rfl, by omega⟩]; exact hy') fun a b _ _ hab => ?_
      by_cases ha : a = i
      · by_cases hb : b < n
        · rw [if_pos ⟨ha, by omega⟩, if_pos ⟨ha, hb⟩]
        · rw [if_neg (by omega), if_neg (by omega)]
      · rw [if_neg (by omega), if_neg (by omega)]
    · have h0 : B v8.length n = 0 := hz.1 (by simpa using h)
      refine J _ hn (h5.congr fun a b _ _ => ?_)
      by_cases ha : a = i
      · by_cases hb : b < n
        · rw [if_pos ⟨ha, by omega⟩, if_pos ⟨ha, hb⟩]
        · by_cases hbn : b = n
          · subst hbn; rw [if_pos ⟨ha, by omega⟩, if_neg (by omega), h0, ha]; grind
          · rw [if_neg (by omega), if_neg (by omega)]
      · rw [if_neg (by omega), if_neg (by omega)]
  · have : n = c := by omega
    subst this
    refine h5.congr fun a b _ hb => ?_
    by_cases ha : a = i
    · rw [if_pos ha, if_pos ⟨ha, hb⟩]
    · rw [if_neg ha, if_neg (by omega)]
theorem clear_gives {r c : Nat} {B : Nat → Nat → Rat} {m : List (List NumQ)} (M : MRep m r c B) (hr : r ≤ 1000) (hcl : c ≤ 1000) {g : Nat} (hg : g ≤ 100000000000) {v8 : List Int} (hp : v8.length < r) {cc : Nat} (hc : cc < c)
    (Si : ∀ i j, i < r → i ≠ v8.length → j < c → Sz (B i j) g) (Sp : ∀ j, j < c → Sz (B v8.length j) (2 * g)) (a1 : Int) (v9 : List (List NumQ)) (r1 : Int × Bool) (r2 : List (List NumQ)) (hr2 : r2.length = r) (y1 : QmM) (y5 : NumQ) :
    Gives (iter (fun v : (Int × (List (List NumQ))) => qmMReduceL4 a1 (cc : Int) v8 v9 r1 r2 y1 y5 v.1 v.2) ((0 : Int), m)) fun o => MRep o r c (fun a j => if a ≠ v8.length then B a j - B a cc * B v8.length j else B a j) := by
  refine gives_iter (I := fun s : Int × List (List NumQ) => ∃ n : Nat, s.1 = (n : Int) ∧ n ≤ r ∧ MRep s.2 r c (fun a j => if a < n ∧ a ≠ v8.length then B a j - B a cc * B v8.length j else B a j)) (μ := fun s : Int × List (List NumQ) => r - s.1.toNat)
    ⟨0, rfl, Nat.zero_le _, M.congr fun a b _ _ => by rw [if_neg (by omega)]⟩ ?_
  rintro ⟨i, w⟩ ⟨n, h1, h2, h3⟩
  simp only at h1 h3
  subst h1
  have hm := h3.rows
  have J : ∀ w' : List (List NumQ), n < r → MRep w' r c (fun a j => if a < n + 1 ∧ a ≠ v8.length then B a j - B a cc * B v8.length j else B a j) → Round (fun s : Int × List (List NumQ) => ∃ n : Nat, s.1 = (n : Int) ∧ n ≤ r ∧ MRep s.2 r c (fun a j => if a < n ∧ a ≠ v8.length then B a j - B a cc * B v8.length j else B a j))
      (fun s : Int × List (List NumQ) => r - s.1.toNat) ((n : Int), w) (fun o => MRep o r c (fun a j => if a ≠ v8.length then B a j - B a cc * B v8.length j else B a j)) (.inl (IntKind.wrap .i64 ((n : Int) + 1), w')) := by
    intro w' hn hw'
    rw [round_inl, wi64 (by omega) (by omega)]
    exact ⟨⟨n + 1, by simp, by omega, hw'⟩, by simp; omega⟩
  unfold qmMReduceL4 qmMReduceJ2
  simp only [gives_ite, gives_need, gives_bind, gives_some, decide_eq_true_eq, round_inr, inRange, Int.toNat_natCast]
  refine ⟨fun hlt => ?_, fun hge => ?_⟩
  · have hn : n < r := by omega
    have hcn := h3.cols n hn
    refine ⟨by omega, by omega, fun he => ?_, fun hne => ?_⟩
    · have he : n = v8.length := by omega
      refine J _ hn (h3.congr fun a b _ _ => ?_)
      by_cases ha : a < n
      · rw [if_pos (by omega), if_pos (by omega)]
      · rw [if_neg (by omega), if_neg (by omega)]
    · have hne : n ≠ v8.length := by omega
      have hq := h3.rep n cc hn hc
      rw [if_neg (by omega)] at hq
      refine (qzero_gives hq).mono ?_
      rintro z hz
      refine ⟨fun h => ?_, fun h => ⟨by omega, ?_⟩⟩
      · have h0 := hz.1 h
        refine J _ hn (h3.congr fun a b _ _ => ?_)
        by_cases ha : a < n
        · by_cases ha2 : a = v8.length
          · rw [if_neg (by omega), if_neg (by omega)]
          · rw [if_pos (by omega), if_pos (by omega)]
        · by_cases han : a = n
          · subst han; rw [if_pos (by omega), if_neg (by omega), h0]; grind
          · rw [if_neg (by omega), if_neg (by omega)]
      · have k1 : (n < n ∧ n ≠ v8.length) = False := by simp
        have k2 : (v8.length < n ∧ v8.length ≠ v8.length) = False := by simp
        refine (subrow_gives h3 hr hcl hg hp hn hne hc (fun j hj => by rw [if_neg (by omega)]; exact Si n j hn hne hj) (fun j hj => by rw [if_neg (by omega)]; exact Sp j hj) a1 (cc : Int) v9 r1 r2 y1 y5 z (x := mg w n cc) (by rw [if_neg (by omega)]; exact hq)).mono ?_
        rintro o ho
        refine J _ hn (ho.congr fun a b _ _ => ?_)
        by_cases ha : a = n
        · subst ha; rw [if_pos (by omega), if_pos rfl]; simp only [k1, k2, if_false]
        · rw [if_neg ha]
          by_cases ha2 : a < n ∧ a ≠ v8.length
          · rw [if_pos (by omega), if_pos ha2]
          · rw [if_neg (by omega), if_neg ha2]
  · have : n = r := by omega
    subst this
    refine h3.congr fun a b ha _ => ?_
    by_cases hav : a = v8.length
    · rw [if_neg (by omega), if_neg (by omega)]
    · rw [if_pos hav, if_pos ⟨ha, hav⟩]
end Go.Ab
namespace Go.Ab
open Go
set_option linter.unusedVariables false
set_option linter.unusedSimpArgs false
def Ker (c r : Nat) (A : Nat → Nat → Rat) (x : Nat → Rat) : Prop := ∀ i, i < r → sm c (fun j => A i j * x j) = 0
def piB (S : Nat → Nat → Rat) (p cc : Nat) : Nat → Nat → Rat := fun i j => if i = p then S i j / S p cc else S i j
def piF (S : Nat → Nat → Rat) (p cc : Nat) : Nat → Nat → Rat := fun a j => if a ≠ p then piB S p cc a j - piB S p cc a cc * piB S p cc p j else piB S p cc a j
theorem det_clearr {n p : Nat} (A : Nat → Nat → Rat) (s : Nat → Rat) (hp : p < n) : ∀ m, m ≤ n → det n (fun i j => if i < m ∧ i ≠ p then A i j + s i * A p j else A i j) = det n A
  | 0, _ => det_congr fun i j _ _ => by rw [if_neg (by omega)]
  | m + 1, h => by
    rw [← det_clearr A s hp m (by omega)]
    by_cases hm : m = p
    · refine det_congr fun i j _ _ => ?_
      by_cases h2 : i < m ∧ i ≠ p
      · rw [if_pos (by omega), if_pos h2]
      · rw [if_neg (by omega), if_neg h2]
    · have := det_addrow (n := n) (k := m) (r := p) (fun i j => if i < m ∧ i ≠ p then A i j + s i * A p j else A i j) (by omega) hp hm (s m)
      rw [← this]
      refine det_congr fun i j _ _ => ?_
      unfold rset
      by_cases hi : i = m
      · subst hi
        rw [if_pos (by omega), if_pos rfl]
        dsimp only
        rw [if_neg (by omega), if_neg (by omega)]
      · rw [if_neg hi]
        dsimp only
        by_cases h2 : i < m ∧ i ≠ p
        · rw [if_pos (by omega), if_pos h2]
        · rw [if_neg (by omega), if_neg h2]
theorem det_piF {n p cc : Nat} (S : Nat → Nat → Rat) (hp : p < n) (h0 : S p cc ≠ 0) : det n S = S p cc * det n (piF S p cc) := by
  have h1 : det n (piB S p cc) = (1 / S p cc) * det n S := by
    rw [← det_scale S hp]
    refine det_congr fun i j _ _ => ?_
    unfold piB rset
    by_cases hi : i = p
    · subst hi; rw [if_pos rfl, if_pos rfl]; grind
    · rw [if_neg hi, if_neg hi]
  have h2 := det_clearr (piB S p cc) (fun i => -(piB S p cc i cc)) hp n (Nat.le_refl _)
  have h3 : det n (piF S p cc) = det n (piB S p cc) := by
    rw [← h2]
    refine det_congr fun i j hi _ => ?_
    unfold piF
    by_cases hip : i = p
    · rw [if_neg (by omega), if_neg (by omega)]
    · rw [if_pos hip, if_pos ⟨hi, hip⟩]; grind
  rw [h3, h1]
  grind
theorem ker_piF {c r p cc : Nat} (S : Nat → Nat → Rat) (hp : p < r) (h0 : S p cc ≠ 0) (x : Nat → Rat) : Ker c r S x ↔ Ker c r (piF S p cc) x := by
  have eB : sm c (fun j => piB S p cc p j * x j) = (1 / S p cc) * sm c (fun j => S p j * x j) := by
    rw [← sm_mul]
    refine sm_congr fun j _ => ?_
    unfold piB; rw [if_pos rfl]; grind
  have eF : ∀ i, i ≠ p → sm c (fun j => piF S p cc i j * x j) = sm c (fun j => S i j * x j) + (-(S i cc)) * sm c (fun j => piB S p cc p j * x j) := by
    intro i hi
    rw [← sm_mul, ← sm_add]
    refine sm_congr fun j _ => ?_
    have e : ∀ k, piB S p cc i k = S i k := fun k => by unfold piB; rw [if_neg hi]
    unfold piF; rw [if_pos hi, e, e]; grind
  have eP : sm c (fun j => piF S p cc p j * x j) = sm c (fun j => piB S p cc p j * x j) := sm_congr fun j _ => by unfold piF; rw [if_neg (by omega)]
  constructor
  · intro h i hi
    by_cases hip : i = p
    · subst hip; rw [eP, eB, h i hi]; grind
    · rw [eF i hip, eB, h i hi, h p hp]; grind
  · intro h i hi
    have hP := h p hp
    rw [eP] at hP
    by_cases hip : i = p
    · subst hip
      rw [eB] at hP
      have : sm c (fun j => S i j * x j) = S i cc * ((1 / S i cc) * sm c (fun j => S i j * x j)) := by grind
      rw [this, hP]; grind
    · have := h i hi
      rw [eF i hip, hP] at this
      grind
theorem ker_swap {c r p q : Nat} (A : Nat → Nat → Rat) (hp : p < r) (hq : q < r) (x : Nat → Rat) : Ker c r A x ↔ Ker c r (rswap A p q) x := by
  have key : ∀ B : Nat → Nat → Rat, Ker c r B x → Ker c r (rswap B p q) x := by
    intro B h i hi
    unfold rswap
    by_cases h1 : i = p
    · subst h1
      have := h q hq
      rw [← this]; exact sm_congr fun j _ => by rw [if_pos rfl]
    · by_cases h2 : i = q
      · subst h2
        have := h p hp
        rw [← this]; exact sm_congr fun j _ => by rw [if_neg h1, if_pos rfl]
      · rw [← h i hi]; exact sm_congr fun j _ => by rw [if_neg h1, if_neg h2]
  refine ⟨key A, fun h => ?_⟩
  have := key _ h
  have e : rswap (rswap A p q) p q = A := by
    funext i j; unfold rswap
    by_cases h1 : i = p
    · subst h1; rw [if_pos rfl]
      by_cases h2 : q = i
      · rw [if_pos h2]; rw [h2]
      · rw [if_neg h2, if_pos rfl]
    · rw [if_neg h1]
      by_cases h2 : i = q
      · subst h2; rw [if_pos rfl, if_pos rfl]
      · rw [if_neg h2, if_neg h1, if_neg h2]
  rw [e] at this
  exact this
structure RInv (r c cols : Nat) (A0 : Nat → Nat → Rat) (g0 cc : Nat) (D : Rat) (piv : List Int) (A : Nat → Nat → Rat) : Prop where
  le : piv.length ≤ cc
  ler : piv.length ≤ r
  lec : cc ≤ cols
  sz : MSz r c A (5 ^ piv.length * g0)
  szD : Sz D (5 ^ piv.length * g0)
  inc : ∀ k, k < piv.length → 0 ≤ piv.getD k 0 ∧ piv.getD k 0 < (cc : Int)
  mono : ∀ k k', k < k' → k' < piv.length → piv.getD k 0 < piv.getD k' 0
  unit : ∀ i k, i < r → k < piv.length → A i (piv.getD k 0).toNat = if i = k then 1 else 0
  zero : ∀ i j, piv.length ≤ i → i < r → j < cc → (∀ k, k < piv.length → piv.getD k 0 ≠ (j : Int)) → A i j = 0
  ker : ∀ x, Ker c r A0 x ↔ Ker c r A x
  det : det r A0 = D * det r A
section
variable {r c cols : Nat} {A0 : Nat → Nat → Rat} {g0 cc : Nat} {D : Rat} {piv : List Int} {A : Nat → Nat → Rat}
theorem RInv.skip (I : RInv r c cols A0 g0 cc D piv A) (hc : cc < cols) (h : ∀ i, piv.length ≤ i → i < r → A i cc = 0) : RInv r c cols A0 g0 (cc + 1) D piv A :=
  ⟨by have := I.le; omega, I.ler, hc, I.sz, I.szD, fun k hk => by have := I.inc k hk; omega, I.mono, I.unit, fun i j h1 h2 h3 h4 => by
    by_cases hj : j = cc
    · subst hj; exact h i h1 h2
    · exact I.zero i j h1 h2 (by omega) h4, I.ker, I.det⟩
theorem RInv.turn (I : RInv r c cols A0 g0 cc D piv A) (hp : piv.length < r) {q : Nat} (hq : q < r) (hpq : piv.length ≤ q) (hne : q ≠ piv.length) : RInv r c cols A0 g0 cc (-D) piv (rswap A q piv.length) := by
  refine ⟨I.le, I.ler, I.lec, fun i j hi hj => ?_, I.szD.neg, I.inc, I.mono, fun i k hi hk => ?_, fun i j h1 h2 h3 h4 => ?_, fun x => (I.ker x).trans (ker_swap A hq hp x), ?_⟩
  · unfold rswap
    split
    · exact I.sz _ _ hp hj
    · split
      · exact I.sz _ _ hq hj
      · exact I.sz _ _ hi hj
  · unfold rswap
    by_cases h1 : i = q
    · subst h1; rw [if_pos rfl, I.unit _ k hp hk, if_neg (by omega), if_neg (by omega)]
    · rw [if_neg h1]
      by_cases h2 : i = piv.length
      · rw [if_pos h2, I.unit _ k hq hk, if_neg (by omega), if_neg (by omega)]
      · rw [if_neg h2]; exact I.unit i k hi hk
  · unfold rswap
    split
    · exact I.zero _ j (Nat.le_refl _) hp h3 h4
    · split
      · exact I.zero _ j hpq hq h3 h4
      · exact I.zero i j h1 h2 h3 h4
  · rw [det_swap A hq hp hne, I.det]; grind
theorem getD_append_int (xs : List Int) (w : Int) (i : Nat) : (xs ++ [w]).getD i 0 = if i < xs.length then xs.getD i 0 else if i = xs.length then w else 0 := getD_append_one xs w i
theorem RInv.pivot (I : RInv r c cols A0 g0 cc D piv A) (hp : piv.length < r) (hc : cc < cols) (hcc : cc < c) (h0 : A piv.length cc ≠ 0) (hg : 3 ≤ g0) : RInv r c cols A0 g0 (cc + 1) (D * A piv.length cc) (piv ++ [(cc : Int)]) (piF A piv.length cc) := by
  have hlen : (piv ++ [(cc : Int)]).length = piv.length + 1 := by simp
  have hG : 3 ≤ 5 ^ piv.length * g0 := by
    have : 1 ≤ 5 ^ piv.length := Nat.pow_pos (by omega)
    have := Nat.mul_le_mul this hg
    omega
  have hG5 : 5 ^ (piv.length + 1) * g0 = 5 * (5 ^ piv.length * g0) := by rw [Nat.pow_succ]; grind
  have pB : ∀ i j, i ≠ piv.length → piB A piv.length cc i j = A i j := fun i j h => by unfold piB; rw [if_neg h]
  have pP : ∀ j, piB A piv.length cc piv.length j = A piv.length j / A piv.length cc := fun j => by unfold piB; rw [if_pos rfl]
  have pF : ∀ i j, i ≠ piv.length → piF A piv.length cc i j = A i j - A i cc * (A piv.length j / A piv.length cc) := fun i j h => by unfold piF; rw [if_pos h, pB i j h, pB i cc h, pP]
  have pFP : ∀ j, piF A piv.length cc piv.length j = A piv.length j / A piv.length cc := fun j => by unfold piF; rw [if_neg (by omega), pP]
  refine ⟨by have := I.le; rw [hlen]; omega, by rw [hlen]; omega, hc, fun i j hi hj => ?_, ?_, fun k hk => ?_, fun k k' h1 h2 => ?_, fun i k hi hk => ?_, fun i j h1 h2 h3 h4 => ?_, fun x => (I.ker x).trans (ker_piF A hp h0 x), ?_⟩
  · rw [hlen, hG5]
    have s1 := I.sz _ _ hp hj
    have s2 := I.sz _ _ hp hcc
    by_cases hip : i = piv.length
    · subst hip; rw [pFP]; exact (s1.div s2 h0).mono (by omega)
    · rw [pF i j hip]
      exact ((I.sz i j hi hj).sub ((I.sz i cc hi hcc).mul (s1.div s2 h0))).mono (by omega)
  · rw [hlen, hG5]; exact (I.szD.mul (I.sz _ _ hp hcc)).mono (by omega)
  · rw [getD_append_int]
    rw [hlen] at hk
    split
    · rename_i h; have := I.inc k h; omega
    · rw [if_pos (by omega)]; omega
  · rw [hlen] at h2
    rw [getD_append_int, getD_append_int, if_pos (by omega)]
    split
    · rename_i h; exact I.mono k k' h1 h
    · rw [if_pos (by omega)]; exact (I.inc k (by omega)).2
  · rw [hlen] at hk
    rw [getD_append_int]
    by_cases hkp : k < piv.length
    · rw [if_pos hkp]
      have u1 := I.unit piv.length k hp hkp
      rw [if_neg (by omega)] at u1
      by_cases hip : i = piv.length
      · subst hip; rw [pFP, u1, if_neg (by omega)]; grind
      · rw [pF i _ hip, u1, I.unit i k hi hkp]; grind
    · have hkp : k = piv.length := by omega
      rw [if_neg (by omega), if_pos hkp, Int.toNat_natCast]
      by_cases hip : i = piv.length
      · subst hip; rw [pFP, if_pos (by omega)]; grind
      · rw [pF i cc hip, if_neg (by omega)]; grind
  · rw [hlen] at h1 h4
    have hj : j < cc := by
      have := h4 piv.length (by omega)
      rw [getD_append_int, if_neg (by omega), if_pos rfl] at this
      omega
    have h4' : ∀ k, k < piv.length → piv.getD k 0 ≠ (j : Int) := fun k hk => by
      have := h4 k (by omega)
      rw [getD_append_int, if_pos hk] at this
      exact this
    rw [pF i j (by omega), I.zero i j (by omega) h2 hj h4', I.zero piv.length j (Nat.le_refl _) hp hj h4']
    grind
  · rw [I.det, det_piF A hp h0]; grind
end
theorem copy_gives {m : QmM} {r c : Nat} (h1 : m.V.length = r) (h2 : ∀ i, i < r → (m.V.getD i []).length = c) (hr : r ≤ 1000) (hc : c ≤ 1000) : Gives (qmMCopy m) fun o => o.V = m.V ∧ o.C = m.C := by
  unfold qmMCopy
  rw [gives_bind]
  refine (gives_iter (I := fun s : Int × List (List NumQ) => ∃ n : Nat, s.1 = (n : Int) ∧ n ≤ r ∧ s.2 = m.V.take n) (μ := fun s : Int × List (List NumQ) => r - s.1.toNat) (Q := fun o => o = m.V) ⟨0, rfl, Nat.zero_le _, by simp⟩ ?_).mono ?_
  · rintro ⟨i, w⟩ ⟨n, g1, g2, g3⟩
    simp only at g1 g3
    subst g1
    unfold qmMCopyL1
    simp only [gives_ite, gives_need, gives_some, decide_eq_true_eq, round_inl, round_inr, inRange, Int.toNat_natCast]
    refine ⟨fun h => ?_, fun h => ?_⟩
    · have hn : n < r := by omega
      have hl := h2 n hn
      rw [wi64 (by omega) (by omega), g3]
      refine ⟨by omega, by rw [hl]; unfold maxBytes; omega, by rw [List.length_take]; unfold maxBytes; omega, ⟨n + 1, by simp, by omega, ?_⟩, by omega⟩
      rw [List.take_add_one, List.getD_eq_getElem?_getD, List.getElem?_eq_getElem (by omega)]
      rfl
    · rw [g3, List.take_of_length_le (by omega)]
  · rintro o rfl
    rw [gives_some]
    exact ⟨rfl, rfl⟩
theorem reduce_gives {m : QmM} {r c cols : Nat} {A0 : Nat → Nat → Rat} (M : MRep m.V r c A0) (hr : r ≤ 12) (hc : c ≤ 13) (hcols : cols ≤ c) {g0 : Nat} (S : MSz r c A0 g0) (hg : 3 ≤ g0) (hg2 : g0 ≤ 400) :
    Gives (qmMReduce m (cols : Int)) fun o => ∃ (D : Rat) (A : Nat → Nat → Rat) (cc : Nat), o.1.C = m.C ∧ MRep o.1.V r c A ∧ QRep o.2.2 D ∧ RInv r c cols A0 g0 cc D o.2.1 A ∧ (cc = cols ∨ o.2.1.length = r) := by
  unfold qmMReduce
  refine (copy_gives M.rows M.cols (by omega) (by omega)).bind ?_
  rintro y1 ⟨hV, hC⟩
  refine (qint_gives (n := 1) (by omega) (by omega)).bind ?_
  rintro y2 hy2
  rw [gives_bind]
  have hpow : ∀ p, p ≤ 12 → 5 ^ p * g0 ≤ 100000000000 := by
    intro p hp
    have h1 : 5 ^ p ≤ 5 ^ 12 := Nat.pow_le_pow_right (by omega) hp
    have h2 := Nat.mul_le_mul h1 hg2
    have h3 : (5 : Nat) ^ 12 * 400 ≤ 100000000000 := by decide
    omega
  refine (gives_iter (I := fun s : Int × Int × List Int × Bool × Int × List Int × Bool × List Int × List (List NumQ) => ∃ (cc : Nat) (D : Rat) (A : Nat → Nat → Rat), s.1 = (cc : Int) ∧ QRep ⟨⟨s.2.1, s.2.2.1, s.2.2.2.1⟩, ⟨s.2.2.2.2.1, s.2.2.2.2.2.1, s.2.2.2.2.2.2.1⟩⟩ D ∧ MRep s.2.2.2.2.2.2.2.2 r c A ∧ RInv r c cols A0 g0 cc D s.2.2.2.2.2.2.2.1 A)
    (μ := fun s : Int × Int × List Int × Bool × Int × List Int × Bool × List Int × List (List NumQ) => cols - s.1.toNat)
    (Q := fun s : Int × List Int × Bool × Int × List Int × Bool × List Int × List (List NumQ) => ∃ (D : Rat) (A : Nat → Nat → Rat) (cc : Nat), MRep s.2.2.2.2.2.2.2 r c A ∧ QRep ⟨⟨s.1, s.2.1, s.2.2.1⟩, ⟨s.2.2.2.1, s.2.2.2.2.1, s.2.2.2.2.2.1⟩⟩ D ∧ RInv r c cols A0 g0 cc D s.2.2.2.2.2.2.1 A ∧ (cc = cols ∨ s.2.2.2.2.2.2.1.length = r))
    ⟨0, 1, A0, rfl, hy2, by show MRep y1.V r c A0; rw [hV]; exact M, ?_⟩ ?_).mono ?_
  · refine ⟨Nat.le_refl _, Nat.zero_le _, Nat.zero_le _, by simpa using S, ?_, fun k hk => by simp at hk, fun k k' _ hk => by simp at hk, fun i k _ hk => by simp at hk, fun i j _ _ hj _ => by omega, fun x => Iff.rfl, by grind⟩
    have hp : (4294967296 : Int) ^ 1 ≤ 4294967296 ^ (5 ^ ([] : List Int).length * g0) := pow_mono' (by simp; omega)
    unfold Sz
    simp at hp ⊢
    omega
  · rintro ⟨i, d1, d2, d3, d4, d5, d6, piv, w⟩ ⟨cc, D, A, h1, h2, h3, I⟩
    simp only at h1 h2 h3 I
    subst h1
    have hw := h3.rows
    -- the pivot's round
    have J : ∀ {e1 : Int} {e2 : List Int} {e3 : Bool} {e4 : Int} {e5 : List Int} {e6 : Bool} {D' : Rat} {S' : Nat → Nat → Rat} {w' : List (List NumQ)} (o : Int × Bool), piv.length < r → cc < cols → QRep ⟨⟨e1, e2, e3⟩, ⟨e4, e5, e6⟩⟩ D' → MRep w' r c S' → RInv r c cols A0 g0 cc D' piv S' → S' piv.length cc ≠ 0 →
        Gives (qmMReduceJ1 (cols : Int) (cc : Int) piv w e1 e2 e3 e4 e5 e6 w' o y1) (Round (fun s : Int × Int × List Int × Bool × Int × List Int × Bool × List Int × List (List NumQ) => ∃ (cc : Nat) (D : Rat) (A : Nat → Nat → Rat), s.1 = (cc : Int) ∧ QRep ⟨⟨s.2.1, s.2.2.1, s.2.2.2.1⟩, ⟨s.2.2.2.2.1, s.2.2.2.2.2.1, s.2.2.2.2.2.2.1⟩⟩ D ∧ MRep s.2.2.2.2.2.2.2.2 r c A ∧ RInv r c cols A0 g0 cc D s.2.2.2.2.2.2.2.1 A)
          (fun s : Int × Int × List Int × Bool × Int × List Int × Bool × List Int × List (List NumQ) => cols - s.1.toNat) ((cc : Int), d1, d2, d3, d4, d5, d6, piv, w)
          (fun s : Int × List Int × Bool × Int × List Int × Bool × List Int × List (List NumQ) => ∃ (D : Rat) (A : Nat → Nat → Rat) (cc : Nat), MRep s.2.2.2.2.2.2.2 r c A ∧ QRep ⟨⟨s.1, s.2.1, s.2.2.1⟩, ⟨s.2.2.2.1, s.2.2.2.2.1, s.2.2.2.2.2.1⟩⟩ D ∧ RInv r c cols A0 g0 cc D s.2.2.2.2.2.2.1 A ∧ (cc = cols ∨ s.2.2.2.2.2.2.1.length = r))) := by
      intro e1 e2 e3 e4 e5 e6 D' S' w' o hp hcc hD hM hI h0
      have hgp := hpow piv.length (by omega)
      have hw' := hM.rows
      have hcp := hM.cols piv.length hp
      have hx := hM.rep piv.length cc hp (by omega)
      unfold qmMReduceJ1
      simp only [gives_need, gives_bind, inRange, Int.toNat_natCast, hcp]
      refine ⟨by omega, by omega, ?_⟩
      refine (qmul_gives hD hx hI.szD (hI.sz _ _ hp (by omega)) (by omega)).mono ?_
      rintro y hy
      refine ⟨by omega, ?_⟩
      refine (divide_gives hM (by omega) (by omega) hI.sz hgp (by omega) hp h0 (cols : Int) (cc : Int) w o y1 y hx).mono ?_
      rintro w1 hw1
      have hw1r := hw1.rows
      have hwB : MRep w1 r c (piB S' piv.length cc) := hw1
      refine (clear_gives hwB (by omega) (by omega) hgp hp (by omega) (fun i j hi hne hj => by unfold piB; rw [if_neg hne]; exact hI.sz i j hi hj)
        (fun j hj => by unfold piB; rw [if_pos rfl]; exact ((hI.sz _ _ hp hj).div (hI.sz _ _ hp (by omega)) h0).mono (by omega)) (cols : Int) w o w1 hw1r y1 y).mono ?_
      rintro w2 hw2
      rw [gives_some, round_inl, wi64 (by omega) (by omega)]
      refine ⟨by unfold maxBytes; have := hI.ler; simp; omega, ⟨cc + 1, D' * S' piv.length cc, piF S' piv.length cc, by simp, hy, hw2, hI.pivot hp hcc (by omega) h0 hg⟩, by simp; omega⟩
    unfold qmMReduceL1
    simp only [gives_ite, gives_bind, gives_some, gives_need, decide_eq_true_eq, Bool.not_eq_true', decide_eq_false_iff_not, round_inl, round_inr, inRange]
    refine ⟨fun hcc => ⟨fun hp => ?_, fun hp => ⟨D, A, cc, h3, h2, I, .inr (by have := I.ler; omega)⟩⟩, fun hcc => ⟨D, A, cc, h3, h2, I, .inl (by have := I.lec; omega)⟩⟩
    have hcc : cc < cols := by omega
    have hp : piv.length < r := by omega
    refine (find_gives h3 (by omega) (cc := cc) (p0 := piv.length) (by omega) (by omega) (cols : Int) d1 d2 d3 d4 d5 d6 piv y1 _).mono ?_
    rintro ⟨o1, o2⟩ ⟨q, hq, hq1, hq2, hq3, hq4⟩
    simp only at hq
    subst hq
    simp only [Int.toNat_natCast]
    refine ⟨fun he => ?_, fun he => ⟨fun hne => ?_, fun heq => ?_⟩⟩
    · rw [wi64 (by omega) (by omega)]
      exact ⟨⟨cc + 1, D, A, by simp, h2, h3, I.skip hcc fun i h1 h2 => hq3 i h1 (by omega)⟩, by omega⟩
    · have hqr : q < r := by omega
      refine ⟨by omega, by omega, by omega, by omega, trivial, trivial, ?_⟩
      have hgp := hpow piv.length (by omega)
      refine (qneg_gives h2 I.szD (by omega)).mono ?_
      rintro y hy
      refine J (q, o2) hp hcc hy (h3.swap hqr hp) (I.turn hp hqr hq1 (by omega)) ?_
      unfold rswap
      rw [if_neg (by omega), if_pos rfl]
      exact hq4 hqr
    · have hqr : q = piv.length := by omega
      subst hqr
      exact J _ hp hcc h2 h3 I (hq4 hp)
  · rintro ⟨d1, d2, d3, d4, d5, d6, piv, w⟩ ⟨D, A, cc, h1, h2, h3, h4⟩
    rw [gives_some]
    exact ⟨D, A, cc, hC, h1, h2, h3, h4⟩
end Go.Ab
