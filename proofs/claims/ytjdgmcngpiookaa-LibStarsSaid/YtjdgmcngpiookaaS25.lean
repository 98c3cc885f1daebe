/- Gauss's way in package qm: what a round does to a matrix. Gauss's way in package qm. Determinants and solutions in package qm. Conditions: none beyond those that each theorem names. -/
import Derived.Test.YtjdgmcngpiookaaS22
import Derived.Test.YtjdgmcngpiookaaS24
namespace Go.Ab
open Go
set_option linter.unusedVariables false
set_option linter.unusedSimpArgs false
theorem B0 {α : Type} (xs : List α) (n : Nat) (w : α) (i : Nat) (d : α) : (xs.set n w).getD i d = if i = n /\ n < xs.length then w else xs.getD i d := by
 simp only [List.getD_eq_getElem?_getD, List.getElem?_set]
 split
 · rename_i h; subst h
   split
   · rename_i h; simp [h]
   · rename_i h; simp [h]
 · rename_i h
   rw [if_neg (by rintro ⟨rfl, _⟩; exact h rfl)]
theorem Ie {α : Type} (xs : List α) (w : α) (i : Nat) (d : α) : (xs ++ [w]).getD i d = if i < xs.length then xs.getD i d else if i = xs.length then w else d := by
 simp only [List.getD_eq_getElem?_getD]
 split
 · rename_i h; rw [List.getElem?_append_left h]
 · split
   · rename_i h; subst h; simp
   · rw [List.getElem?_eq_none (by simp; omega)]; rfl
theorem T8 {α : Type} (n i : Nat) (w d : α) (h : i < n) : (List.replicate n w).getD i d = w := by
 rw [List.getD_eq_getElem?_getD, List.getElem?_replicate, if_pos h]; rfl
def mg (m : List (List Aj)) (i j : Nat) : Aj := (m.getD i []).getD j Ba
structure D2 (m : List (List Aj)) (r c : Nat) (A : Nat -> Nat -> Rat) : Prop where
 rows : m.length = r
 cols : ∀ i, i < r -> (m.getD i []).length = c
 rep : ∀ i j, i < r -> j < c -> B3 (mg m i j) (A i j)
def MSz (r c : Nat) (A : Nat -> Nat -> Rat) (k : Nat) : Prop := ∀ i j, i < r -> j < c -> Sz (A i j) k
section
variable {m : List (List Aj)} {r c : Nat} {A : Nat -> Nat -> Rat}
theorem D2.set (M : D2 m r c A) {i j : Nat} (hi : i < r) (hj : j < c) {q : Aj} {B : Nat -> Nat -> Rat} (hq : B3 q (B i j)) (hB : ∀ a b, a < r -> b < c -> (a ≠ i \/ b ≠ j) -> B a b = A a b) :
   D2 (m.set i ((m.getD i []).set j q)) r c B := by
 have hm := M.rows
 refine ⟨by simp [hm], λ a ha => ?_, λ a b ha hb => ?_⟩
 · rw [B0]
   split
   · rw [List.length_set]; exact M.cols i hi
   · exact M.cols a ha
 · unfold mg
   rw [B0]
   by_cases hai : a = i
   · subst hai
     rw [if_pos ⟨rfl, by omega⟩, B0]
     by_cases hbj : b = j
     · subst hbj; rw [if_pos ⟨rfl, by rw [M.cols _ hi]; exact hj⟩]; exact hq
     · rw [if_neg (by omega), hB a b ha hb (.inr hbj)]; exact M.rep a b ha hb
   · rw [if_neg (by omega), hB a b ha hb (.inl hai)]; exact M.rep a b ha hb
theorem D2.congr (M : D2 m r c A) {B : Nat -> Nat -> Rat} (h : ∀ a b, a < r -> b < c -> B a b = A a b) : D2 m r c B :=
 ⟨M.rows, M.cols, λ a b ha hb => by rw [h a b ha hb]; exact M.rep a b ha hb⟩
theorem D2.setRow (M : D2 m r c A) {i : Nat} (hi : i < r) {row : List Aj} (hl : row.length = c) {B : Nat -> Nat -> Rat} (hr : ∀ j, j < c -> B3 (row.getD j Ba) (B i j)) (hB : ∀ a b, a < r -> b < c -> a ≠ i -> B a b = A a b) :
   D2 (m.set i row) r c B := by
 have hm := M.rows
 refine ⟨by simp [hm], λ a ha => ?_, λ a b ha hb => ?_⟩
 · rw [B0]
   split
   · exact hl
   · exact M.cols a ha
 · unfold mg
   rw [B0]
   by_cases hai : a = i
   · subst hai; rw [if_pos ⟨rfl, by omega⟩]; exact hr b hb
   · rw [if_neg (by omega), hB a b ha hb hai]; exact M.rep a b ha hb
theorem D2.swap (M : D2 m r c A) {p q : Nat} (hp : p < r) (hq : q < r) : D2 ((m.set p (m.getD q [])).set q (m.getD p [])) r c (Hx A p q) := by
 have h1 : D2 (m.set p (m.getD q [])) r c (De A p (A q)) := M.setRow hp (M.cols q hq) (λ j hj => by unfold De; rw [if_pos rfl]; exact M.rep q j hq hj) (λ a b _ _ h => by unfold De; rw [if_neg h])
 refine h1.setRow hq (M.cols p hp) (λ j hj => ?_) (λ a b _ _ h => ?_)
 · unfold Hx
   by_cases hqp : q = p
   · rw [if_pos hqp, hqp]; exact M.rep p j hp hj
   · rw [if_neg hqp, if_pos rfl]; exact M.rep p j hp hj
 · unfold Hx De
   by_cases hap : a = p
   · rw [if_pos hap, if_pos hap]
   · rw [if_neg hap, if_neg hap, if_neg h]
end
theorem Ago {r c : Nat} {A : Nat -> Nat -> Rat} {m : List (List Aj)} (M : D2 m r c A) (hr : r <= 1000) {cc p0 : Nat} (hc : cc < c) (hp : p0 <= r) (a1 v2 : Int) (v3 : List Int) (v4 : Bool) (v5 : Int) (v6 : List Int) (v7 : Bool) (v8 : List Int) (y1 : QmM) (b : Bool) :
   Ar (Br (λ v : (Int × Bool) => Jk a1 (cc : Int) v2 v3 v4 v5 v6 v7 v8 m y1 v.1 v.2) ((p0 : Int), b)) λ o => ∃ p : Nat, o.1 = (p : Int) /\ p0 <= p /\ p <= r /\ (∀ i, p0 <= i -> i < p -> A i cc = 0) /\ (p < r -> A p cc ≠ 0) := by
 refine Av (I := λ s : Int × Bool => ∃ p : Nat, s.1 = (p : Int) /\ p0 <= p /\ p <= r /\ ∀ i, p0 <= i -> i < p -> A i cc = 0) (μ := λ s : Int × Bool => r - s.1.toNat) ⟨p0, rfl, Nat.le_refl _, hp, λ i h1 h2 => by omega⟩ ?_
 rintro ⟨i, b⟩ ⟨p, h1, h2, h3, h4⟩
 simp only at h1
 subst h1
 have hm := M.rows
 unfold Jk
 simp only [Ai, An, Au, Ac, decide_eq_true_eq, Aw, At, Ae, Int.toNat_natCast]
 refine ⟨λ hlt => ?_, λ hge => ⟨p, rfl, h2, h3, h4, λ h => by omega⟩⟩
 have hpr : p < r := by omega
 have hcl := M.cols p hpr
 refine ⟨by omega, by omega, ?_⟩
 refine (Jc (M.rep p cc hpr hc)).mono ?_
 rintro z hz
 refine ⟨λ h => ?_, λ h => ⟨p, rfl, h2, h3, h4, λ _ h0 => h (hz.2 h0)⟩⟩
 rw [Bg (by omega) (by omega)]
 refine ⟨⟨p + 1, by simp, by omega, by omega, λ i h1 h5 => ?_⟩, by omega⟩
 by_cases hi : i = p
 · subst hi; exact hz.1 h
 · exact h4 i h1 (by omega)
theorem Abm {r c : Nat} {A : Nat -> Nat -> Rat} {m : List (List Aj)} (M : D2 m r c A) (hr : r <= 1000) (hcl : c <= 1000) {g : Nat} (S : MSz r c A g) (hg : g <= 100000000000) {cc : Nat} (hc : cc < c) {v8 : List Int} (hp : v8.length < r) (h0 : A v8.length cc ≠ 0)
   (a1 v1 : Int) (v9 : List (List Aj)) (r1 : Int × Bool) (y1 : QmM) (y5 : Aj) {x : Aj} (hx : B3 x (A v8.length cc)) :
   Ar (Br (λ v : (Int × Int × Int × (List Int) × Bool × Int × (List Int) × Bool × (List (List Aj))) => Jl a1 v1 v8 v9 r1 y1 y5 v.1 v.2.1 v.2.2.1 v.2.2.2.1 v.2.2.2.2.1 v.2.2.2.2.2.1 v.2.2.2.2.2.2.1 v.2.2.2.2.2.2.2.1 v.2.2.2.2.2.2.2.2)
     ((c : Int), (0 : Int), x.N.v, x.N.m, x.N.neg, x.D.v, x.D.m, x.D.neg, m)) λ o => D2 o r c (λ i j => if i = v8.length then A i j / A v8.length cc else A i j) := by
 refine Av (I := λ s : Int × Int × Int × List Int × Bool × Int × List Int × Bool × List (List Aj) => ∃ n : Nat, s.1 = (c : Int) /\ s.2.1 = (n : Int) /\ n <= c /\ B3 ⟨⟨s.2.2.1, s.2.2.2.1, s.2.2.2.2.1⟩, ⟨s.2.2.2.2.2.1, s.2.2.2.2.2.2.1, s.2.2.2.2.2.2.2.1⟩⟩ (A v8.length cc) /\
     D2 s.2.2.2.2.2.2.2.2 r c (λ i j => if i = v8.length /\ j < n then A i j / A v8.length cc else A i j)) (μ := λ s : Int × Int × Int × List Int × Bool × Int × List Int × Bool × List (List Aj) => c - s.2.1.toNat)
   ⟨0, rfl, rfl, Nat.zero_le _, hx, M.congr λ a b _ _ => by rw [if_neg (by omega)]⟩ ?_
 rintro ⟨c', i, x1, x2, x3, x4, x5, x6, w⟩ ⟨n, h1, h2, h3, h4, h5⟩
 simp only at h1 h2 h4 h5
 subst h1 h2
 have hm := h5.rows
 have hcol := h5.cols v8.length hp
 unfold Jl
 simp only [Ai, An, Au, Ac, decide_eq_true_eq, Aw, At, Ae, Int.toNat_natCast]
 refine ⟨λ hlt => ?_, λ hge => ?_⟩
 · have hn : n < c := by omega
   refine ⟨by omega, by omega, by omega, ?_⟩
   have hq := h5.rep v8.length n hp hn
   rw [if_neg (by omega)] at hq
   refine (Qi hq h4 (S _ _ hp hn) (S _ _ hp hc) (by omega) h0).mono ?_
   rintro y hy
   rw [Bg (by omega) (by omega)]
   refine ⟨by omega, ⟨n + 1, trivial, by simp, by omega, h4, ?_⟩, by omega⟩
   refine h5.set hp hn (by rw [if_pos ⟨rfl, by omega⟩]; exact hy) λ a b _ _ hab => ?_
   by_cases ha : a = v8.length
   · by_cases hb : b < n
     · rw [if_pos ⟨ha, by omega⟩, if_pos ⟨ha, hb⟩]
     · rw [if_neg (by omega), if_neg (by omega)]
   · rw [if_neg (by omega), if_neg (by omega)]
 · have : n = c := by omega
   subst this
   refine h5.congr λ a b _ hb => ?_
   by_cases ha : a = v8.length
   · rw [if_pos ha, if_pos ⟨ha, hb⟩]
   · rw [if_neg ha, if_neg (by omega)]
theorem Abv {r c : Nat} {B : Nat -> Nat -> Rat} {m : List (List Aj)} (M : D2 m r c B) (hr : r <= 1000) (hcl : c <= 1000) {g : Nat} (hg : g <= 100000000000) {v8 : List Int} (hp : v8.length < r) {i : Nat} (hi : i < r) (hne : i ≠ v8.length) {cc : Nat} (hc : cc < c)
   (Si : ∀ j, j < c -> Sz (B i j) g) (Sp : ∀ j, j < c -> Sz (B v8.length j) (2 * g)) (a1 v1 : Int) (v9 : List (List Aj)) (r1 : Int × Bool) (r2 : List (List Aj)) (y1 : QmM) (y5 : Aj) (y7 : Bool) {x : Aj} (hx : B3 x (B i cc)) :
   Ar (Br (λ v : (Aj × Int × Int × (List Int) × Bool × Int × (List Int) × Bool × (List (List Aj))) => Jh a1 v1 v8 v9 (i : Int) m r1 r2 y1 y5 y7 v.1 v.2.1 v.2.2.1 v.2.2.2.1 v.2.2.2.2.1 v.2.2.2.2.2.1 v.2.2.2.2.2.2.1 v.2.2.2.2.2.2.2.1 v.2.2.2.2.2.2.2.2)
     (x, (0 : Int), x.N.v, x.N.m, x.N.neg, x.D.v, x.D.m, x.D.neg, m)) λ o => D2 o.2 r c (λ a j => if a = i then B i j - B i cc * B v8.length j else B a j) := by
 refine Av (I := λ s : Aj × Int × Int × List Int × Bool × Int × List Int × Bool × List (List Aj) => ∃ n : Nat, s.2.1 = (n : Int) /\ n <= c /\ B3 ⟨⟨s.2.2.1, s.2.2.2.1, s.2.2.2.2.1⟩, ⟨s.2.2.2.2.2.1, s.2.2.2.2.2.2.1, s.2.2.2.2.2.2.2.1⟩⟩ (B i cc) /\
     D2 s.2.2.2.2.2.2.2.2 r c (λ a j => if a = i /\ j < n then B i j - B i cc * B v8.length j else B a j)) (μ := λ s : Aj × Int × Int × List Int × Bool × Int × List Int × Bool × List (List Aj) => c - s.2.1.toNat)
   ⟨0, rfl, Nat.zero_le _, hx, M.congr λ a b _ _ => by rw [if_neg (by omega)]⟩ ?_
 rintro ⟨x0, k, x1, x2, x3, x4, x5, x6, w⟩ ⟨n, h2, h3, h4, h5⟩
 simp only at h2 h4 h5
 subst h2
 have hm := h5.rows
 have hcp := h5.cols v8.length hp
 have hci := h5.cols i hi
 have hlen := M.cols i hi
 have J : ∀ w' : List (List Aj), n < c -> D2 w' r c (λ a j => if a = i /\ j < n + 1 then B i j - B i cc * B v8.length j else B a j) -> Ar (H5 a1 v1 v8 v9 (i : Int) m x0 (n : Int) x1 x2 x3 x4 x5 x6 w' r1 r2 y1 y5 y7)
     (Fk (λ s : Aj × Int × Int × List Int × Bool × Int × List Int × Bool × List (List Aj) => ∃ n : Nat, s.2.1 = (n : Int) /\ n <= c /\ B3 ⟨⟨s.2.2.1, s.2.2.2.1, s.2.2.2.2.1⟩, ⟨s.2.2.2.2.2.1, s.2.2.2.2.2.2.1, s.2.2.2.2.2.2.2.1⟩⟩ (B i cc) /\
       D2 s.2.2.2.2.2.2.2.2 r c (λ a j => if a = i /\ j < n then B i j - B i cc * B v8.length j else B a j)) (λ s : Aj × Int × Int × List Int × Bool × Int × List Int × Bool × List (List Aj) => c - s.2.1.toNat) (x0, (n : Int), x1, x2, x3, x4, x5, x6, w)
       (λ o : Aj × List (List Aj) => D2 o.2 r c (λ a j => if a = i then B i j - B i cc * B v8.length j else B a j))) := by
   intro w' hn hw'
   unfold H5
   rw [Ac, Aw, Bg (by omega) (by omega)]
   exact ⟨⟨n + 1, by simp, by omega, h4, hw'⟩, by simp; omega⟩
 unfold Jh
 simp only [Ai, An, Au, Ac, decide_eq_true_eq, At, Ae, Int.toNat_natCast, Bool.not_eq_true']
 refine ⟨λ hlt => ?_, λ hge => ?_⟩
 · have hn : n < c := by omega
   refine ⟨by omega, by omega, ?_⟩
   have hqp := h5.rep v8.length n hp hn
   rw [if_neg (by omega)] at hqp
   have hqi := h5.rep i n hi hn
   rw [if_neg (by omega)] at hqi
   refine (Jc hqp).mono ?_
   rintro z hz
   refine ⟨λ h => ?_, λ h => ?_⟩
   · refine ⟨by omega, by omega, by omega, by omega, by omega, ?_⟩
     refine (Ko h4 hqp (Si _ hc) (Sp _ hn) (by omega)).mono ?_
     rintro y hy
     refine (Hr hqi hy (Si _ hn) ((Si _ hc).mul (Sp _ hn)) (by omega)).mono ?_
     rintro y' hy'
     refine ⟨by omega, J _ hn ?_⟩
     refine h5.set hi hn (by rw [if_pos ⟨rfl, by omega⟩]; exact hy') λ a b _ _ hab => ?_
     by_cases ha : a = i
     · by_cases hb : b < n
       · rw [if_pos ⟨ha, by omega⟩, if_pos ⟨ha, hb⟩]
       · rw [if_neg (by omega), if_neg (by omega)]
     · rw [if_neg (by omega), if_neg (by omega)]
   · have h0 : B v8.length n = 0 := hz.1 (by simpa using h)
     refine J _ hn (h5.congr λ a b _ _ => ?_)
     by_cases ha : a = i
     · by_cases hb : b < n
       · rw [if_pos ⟨ha, by omega⟩, if_pos ⟨ha, hb⟩]
       · by_cases hbn : b = n
         · subst hbn; rw [if_pos ⟨ha, by omega⟩, if_neg (by omega), h0, ha]; grind
         · rw [if_neg (by omega), if_neg (by omega)]
     · rw [if_neg (by omega), if_neg (by omega)]
 · have : n = c := by omega
   subst this
   refine h5.congr λ a b _ hb => ?_
   by_cases ha : a = i
   · rw [if_pos ha, if_pos ⟨ha, hb⟩]
   · rw [if_neg ha, if_neg (by omega)]
theorem Adu {r c : Nat} {B : Nat -> Nat -> Rat} {m : List (List Aj)} (M : D2 m r c B) (hr : r <= 1000) (hcl : c <= 1000) {g : Nat} (hg : g <= 100000000000) {v8 : List Int} (hp : v8.length < r) {cc : Nat} (hc : cc < c)
   (Si : ∀ i j, i < r -> i ≠ v8.length -> j < c -> Sz (B i j) g) (Sp : ∀ j, j < c -> Sz (B v8.length j) (2 * g)) (a1 : Int) (v9 : List (List Aj)) (r1 : Int × Bool) (r2 : List (List Aj)) (hr2 : r2.length = r) (y1 : QmM) (y5 : Aj) :
   Ar (Br (λ v : (Int × (List (List Aj))) => Je a1 (cc : Int) v8 v9 r1 r2 y1 y5 v.1 v.2) ((0 : Int), m)) λ o => D2 o r c (λ a j => if a ≠ v8.length then B a j - B a cc * B v8.length j else B a j) := by
 refine Av (I := λ s : Int × List (List Aj) => ∃ n : Nat, s.1 = (n : Int) /\ n <= r /\ D2 s.2 r c (λ a j => if a < n /\ a ≠ v8.length then B a j - B a cc * B v8.length j else B a j)) (μ := λ s : Int × List (List Aj) => r - s.1.toNat)
   ⟨0, rfl, Nat.zero_le _, M.congr λ a b _ _ => by rw [if_neg (by omega)]⟩ ?_
 rintro ⟨i, w⟩ ⟨n, h1, h2, h3⟩
 simp only at h1 h3
 subst h1
 have hm := h3.rows
 have J : ∀ w' : List (List Aj), n < r -> D2 w' r c (λ a j => if a < n + 1 /\ a ≠ v8.length then B a j - B a cc * B v8.length j else B a j) -> Fk (λ s : Int × List (List Aj) => ∃ n : Nat, s.1 = (n : Int) /\ n <= r /\ D2 s.2 r c (λ a j => if a < n /\ a ≠ v8.length then B a j - B a cc * B v8.length j else B a j))
     (λ s : Int × List (List Aj) => r - s.1.toNat) ((n : Int), w) (λ o => D2 o r c (λ a j => if a ≠ v8.length then B a j - B a cc * B v8.length j else B a j)) (.inl (IntKind.wrap .i64 ((n : Int) + 1), w')) := by
   intro w' hn hw'
   rw [Aw, Bg (by omega) (by omega)]
   exact ⟨⟨n + 1, by simp, by omega, hw'⟩, by simp; omega⟩
 unfold Je Jj
 simp only [Ai, An, Au, Ac, decide_eq_true_eq, At, Ae, Int.toNat_natCast]
 refine ⟨λ hlt => ?_, λ hge => ?_⟩
 · have hn : n < r := by omega
   have hcn := h3.cols n hn
   refine ⟨by omega, by omega, λ he => ?_, λ hne => ?_⟩
   · have he : n = v8.length := by omega
     refine J _ hn (h3.congr λ a b _ _ => ?_)
     by_cases ha : a < n
     · rw [if_pos (by omega), if_pos (by omega)]
     · rw [if_neg (by omega), if_neg (by omega)]
   · have hne : n ≠ v8.length := by omega
     have hq := h3.rep n cc hn hc
     rw [if_neg (by omega)] at hq
     refine (Jc hq).mono ?_
     rintro z hz
     refine ⟨λ h => ?_, λ h => ⟨by omega, ?_⟩⟩
     · have h0 := hz.1 h
       refine J _ hn (h3.congr λ a b _ _ => ?_)
       by_cases ha : a < n
       · by_cases ha2 : a = v8.length
         · rw [if_neg (by omega), if_neg (by omega)]
         · rw [if_pos (by omega), if_pos (by omega)]
       · by_cases han : a = n
         · subst han; rw [if_pos (by omega), if_neg (by omega), h0]; grind
         · rw [if_neg (by omega), if_neg (by omega)]
     · have k1 : (n < n /\ n ≠ v8.length) = False := by simp
       have k2 : (v8.length < n /\ v8.length ≠ v8.length) = False := by simp
       refine (Abv h3 hr hcl hg hp hn hne hc (λ j hj => by rw [if_neg (by omega)]; exact Si n j hn hne hj) (λ j hj => by rw [if_neg (by omega)]; exact Sp j hj) a1 (cc : Int) v9 r1 r2 y1 y5 z (x := mg w n cc) (by rw [if_neg (by omega)]; exact hq)).mono ?_
       rintro o ho
       refine J _ hn (ho.congr λ a b _ _ => ?_)
       by_cases ha : a = n
       · subst ha; rw [if_pos (by omega), if_pos rfl]; simp only [k1, k2, if_false]
       · rw [if_neg ha]
         by_cases ha2 : a < n /\ a ≠ v8.length
         · rw [if_pos (by omega), if_pos ha2]
         · rw [if_neg (by omega), if_neg ha2]
 · have : n = r := by omega
   subst this
   refine h3.congr λ a b ha _ => ?_
   by_cases hav : a = v8.length
   · rw [if_neg (by omega), if_neg (by omega)]
   · rw [if_pos hav, if_pos ⟨ha, hav⟩]
def Ker (c r : Nat) (A : Nat -> Nat -> Rat) (x : Nat -> Rat) : Prop := ∀ i, i < r -> sm c (λ j => A i j * x j) = 0
def piB (S : Nat -> Nat -> Rat) (p cc : Nat) : Nat -> Nat -> Rat := λ i j => if i = p then S i j / S p cc else S i j
def piF (S : Nat -> Nat -> Rat) (p cc : Nat) : Nat -> Nat -> Rat := λ a j => if a ≠ p then piB S p cc a j - piB S p cc a cc * piB S p cc p j else piB S p cc a j
theorem Vm {n p : Nat} (A : Nat -> Nat -> Rat) (s : Nat -> Rat) (hp : p < n) : ∀ m, m <= n -> det n (λ i j => if i < m /\ i ≠ p then A i j + s i * A p j else A i j) = det n A
 | 0, _ => F9 λ i j _ _ => by rw [if_neg (by omega)]
 | m + 1, h => by
   rw [<- Vm A s hp m (by omega)]
   by_cases hm : m = p
   · refine F9 λ i j _ _ => ?_
     by_cases h2 : i < m /\ i ≠ p
     · rw [if_pos (by omega), if_pos h2]
     · rw [if_neg (by omega), if_neg h2]
   · have := Ae8 (n := n) (k := m) (r := p) (λ i j => if i < m /\ i ≠ p then A i j + s i * A p j else A i j) (by omega) hp hm (s m)
     rw [<- this]
     refine F9 λ i j _ _ => ?_
     unfold De
     by_cases hi : i = m
     · subst hi
       rw [if_pos (by omega), if_pos rfl]
       dsimp only
       rw [if_neg (by omega), if_neg (by omega)]
     · rw [if_neg hi]
       dsimp only
       by_cases h2 : i < m /\ i ≠ p
       · rw [if_pos (by omega), if_pos h2]
       · rw [if_neg (by omega), if_neg h2]
theorem As9 {n p cc : Nat} (S : Nat -> Nat -> Rat) (hp : p < n) (h0 : S p cc ≠ 0) : det n S = S p cc * det n (piF S p cc) := by
 have h1 : det n (piB S p cc) = (1 / S p cc) * det n S := by
   rw [<- Am6 S hp]
   refine F9 λ i j _ _ => ?_
   unfold piB De
   by_cases hi : i = p
   · subst hi; rw [if_pos rfl, if_pos rfl]; grind
   · rw [if_neg hi, if_neg hi]
 have h2 := Vm (piB S p cc) (λ i => -(piB S p cc i cc)) hp n (Nat.le_refl _)
 have h3 : det n (piF S p cc) = det n (piB S p cc) := by
   rw [<- h2]
   refine F9 λ i j hi _ => ?_
   unfold piF
   by_cases hip : i = p
   · rw [if_neg (by omega), if_neg (by omega)]
   · rw [if_pos hip, if_pos ⟨hi, hip⟩]; grind
 rw [h3, h1]
 grind
theorem Aui {c r p cc : Nat} (S : Nat -> Nat -> Rat) (hp : p < r) (h0 : S p cc ≠ 0) (x : Nat -> Rat) : Ker c r S x ↔ Ker c r (piF S p cc) x := by
 have eB : sm c (λ j => piB S p cc p j * x j) = (1 / S p cc) * sm c (λ j => S p j * x j) := by
   rw [<- Fl]
   refine Bc λ j _ => ?_
   unfold piB; rw [if_pos rfl]; grind
 have eF : ∀ i, i ≠ p -> sm c (λ j => piF S p cc i j * x j) = sm c (λ j => S i j * x j) + (-(S i cc)) * sm c (λ j => piB S p cc p j * x j) := by
   intro i hi
   rw [<- Fl, <- My]
   refine Bc λ j _ => ?_
   have e : ∀ k, piB S p cc i k = S i k := λ k => by unfold piB; rw [if_neg hi]
   unfold piF; rw [if_pos hi, e, e]; grind
 have eP : sm c (λ j => piF S p cc p j * x j) = sm c (λ j => piB S p cc p j * x j) := Bc λ j _ => by unfold piF; rw [if_neg (by omega)]
 constructor
 · intro h i hi
   by_cases hip : i = p
   · subst hip; rw [eP, eB, h i hi]; grind
   · rw [eF i hip, eB, h i hi, h p hp]; grind
 · intro h i hi
   have hP := h p hp
   rw [eP] at hP
   by_cases hip : i = p
   · subst hip
     rw [eB] at hP
     have : sm c (λ j => S i j * x j) = S i cc * ((1 / S i cc) * sm c (λ j => S i j * x j)) := by grind
     rw [this, hP]; grind
   · have := h i hi
     rw [eF i hip, hP] at this
     grind
theorem Apr {c r p q : Nat} (A : Nat -> Nat -> Rat) (hp : p < r) (hq : q < r) (x : Nat -> Rat) : Ker c r A x ↔ Ker c r (Hx A p q) x := by
 have key : ∀ B : Nat -> Nat -> Rat, Ker c r B x -> Ker c r (Hx B p q) x := by
   intro B h i hi
   unfold Hx
   by_cases h1 : i = p
   · subst h1
     have := h q hq
     rw [<- this]; exact Bc λ j _ => by rw [if_pos rfl]
   · by_cases h2 : i = q
     · subst h2
       have := h p hp
       rw [<- this]; exact Bc λ j _ => by rw [if_neg h1, if_pos rfl]
     · rw [<- h i hi]; exact Bc λ j _ => by rw [if_neg h1, if_neg h2]
 refine ⟨key A, λ h => ?_⟩
 have := key _ h
 have e : Hx (Hx A p q) p q = A := by
   funext i j; unfold Hx
   by_cases h1 : i = p
   · subst h1; rw [if_pos rfl]
     by_cases h2 : q = i
     · rw [if_pos h2]; rw [h2]
     · rw [if_neg h2, if_pos rfl]
   · rw [if_neg h1]
     by_cases h2 : i = q
     · subst h2; rw [if_pos rfl, if_pos rfl]
     · rw [if_neg h2, if_neg h1, if_neg h2]
 rw [e] at this
 exact this
structure Qm (r c cols : Nat) (A0 : Nat -> Nat -> Rat) (g0 cc : Nat) (D : Rat) (piv : List Int) (A : Nat -> Nat -> Rat) : Prop where
 le : piv.length <= cc
 ler : piv.length <= r
 lec : cc <= cols
 sz : MSz r c A (5 ^ piv.length * g0)
 szD : Sz D (5 ^ piv.length * g0)
 inc : ∀ k, k < piv.length -> 0 <= piv.getD k 0 /\ piv.getD k 0 < (cc : Int)
 mono : ∀ k k', k < k' -> k' < piv.length -> piv.getD k 0 < piv.getD k' 0
 unit : ∀ i k, i < r -> k < piv.length -> A i (piv.getD k 0).toNat = if i = k then 1 else 0
 zero : ∀ i j, piv.length <= i -> i < r -> j < cc -> (∀ k, k < piv.length -> piv.getD k 0 ≠ (j : Int)) -> A i j = 0
 ker : ∀ x, Ker c r A0 x ↔ Ker c r A x
 det : det r A0 = D * det r A
section
variable {r c cols : Nat} {A0 : Nat -> Nat -> Rat} {g0 cc : Nat} {D : Rat} {piv : List Int} {A : Nat -> Nat -> Rat}
theorem Qm.skip (I : Qm r c cols A0 g0 cc D piv A) (hc : cc < cols) (h : ∀ i, piv.length <= i -> i < r -> A i cc = 0) : Qm r c cols A0 g0 (cc + 1) D piv A :=
 ⟨by have := I.le; omega, I.ler, hc, I.sz, I.szD, λ k hk => by have := I.inc k hk; omega, I.mono, I.unit, λ i j h1 h2 h3 h4 => by
   by_cases hj : j = cc
   · subst hj; exact h i h1 h2
   · exact I.zero i j h1 h2 (by omega) h4, I.ker, I.det⟩
theorem Qm.turn (I : Qm r c cols A0 g0 cc D piv A) (hp : piv.length < r) {q : Nat} (hq : q < r) (hpq : piv.length <= q) (hne : q ≠ piv.length) : Qm r c cols A0 g0 cc (-D) piv (Hx A q piv.length) := by
 refine ⟨I.le, I.ler, I.lec, λ i j hi hj => ?_, I.szD.neg, I.inc, I.mono, λ i k hi hk => ?_, λ i j h1 h2 h3 h4 => ?_, λ x => (I.ker x).trans (Apr A hq hp x), ?_⟩
 · unfold Hx
   split
   · exact I.sz _ _ hp hj
   · split
     · exact I.sz _ _ hq hj
     · exact I.sz _ _ hi hj
 · unfold Hx
   by_cases h1 : i = q
   · subst h1; rw [if_pos rfl, I.unit _ k hp hk, if_neg (by omega), if_neg (by omega)]
   · rw [if_neg h1]
     by_cases h2 : i = piv.length
     · rw [if_pos h2, I.unit _ k hq hk, if_neg (by omega), if_neg (by omega)]
     · rw [if_neg h2]; exact I.unit i k hi hk
 · unfold Hx
   split
   · exact I.zero _ j (Nat.le_refl _) hp h3 h4
   · split
     · exact I.zero _ j hpq hq h3 h4
     · exact I.zero i j h1 h2 h3 h4
 · rw [Ao2 A hq hp hne, I.det]; grind
theorem E8 (xs : List Int) (w : Int) (i : Nat) : (xs ++ [w]).getD i 0 = if i < xs.length then xs.getD i 0 else if i = xs.length then w else 0 := Jm xs w i
theorem Qm.pivot (I : Qm r c cols A0 g0 cc D piv A) (hp : piv.length < r) (hc : cc < cols) (hcc : cc < c) (h0 : A piv.length cc ≠ 0) (hg : 3 <= g0) : Qm r c cols A0 g0 (cc + 1) (D * A piv.length cc) (piv ++ [(cc : Int)]) (piF A piv.length cc) := by
 have hlen : (piv ++ [(cc : Int)]).length = piv.length + 1 := by simp
 have hG : 3 <= 5 ^ piv.length * g0 := by
   have : 1 <= 5 ^ piv.length := Nat.pow_pos (by omega)
   have := Nat.mul_le_mul this hg
   omega
 have hG5 : 5 ^ (piv.length + 1) * g0 = 5 * (5 ^ piv.length * g0) := by rw [Nat.pow_succ]; grind
 have pB : ∀ i j, i ≠ piv.length -> piB A piv.length cc i j = A i j := λ i j h => by unfold piB; rw [if_neg h]
 have pP : ∀ j, piB A piv.length cc piv.length j = A piv.length j / A piv.length cc := λ j => by unfold piB; rw [if_pos rfl]
 have pF : ∀ i j, i ≠ piv.length -> piF A piv.length cc i j = A i j - A i cc * (A piv.length j / A piv.length cc) := λ i j h => by unfold piF; rw [if_pos h, pB i j h, pB i cc h, pP]
 have pFP : ∀ j, piF A piv.length cc piv.length j = A piv.length j / A piv.length cc := λ j => by unfold piF; rw [if_neg (by omega), pP]
 refine ⟨by have := I.le; rw [hlen]; omega, by rw [hlen]; omega, hc, λ i j hi hj => ?_, ?_, λ k hk => ?_, λ k k' h1 h2 => ?_, λ i k hi hk => ?_, λ i j h1 h2 h3 h4 => ?_, λ x => (I.ker x).trans (Aui A hp h0 x), ?_⟩
 · rw [hlen, hG5]
   have s1 := I.sz _ _ hp hj
   have s2 := I.sz _ _ hp hcc
   by_cases hip : i = piv.length
   · subst hip; rw [pFP]; exact (s1.div s2 h0).mono (by omega)
   · rw [pF i j hip]
     exact ((I.sz i j hi hj).sub ((I.sz i cc hi hcc).mul (s1.div s2 h0))).mono (by omega)
 · rw [hlen, hG5]; exact (I.szD.mul (I.sz _ _ hp hcc)).mono (by omega)
 · rw [E8]
   rw [hlen] at hk
   split
   · rename_i h; have := I.inc k h; omega
   · rw [if_pos (by omega)]; omega
 · rw [hlen] at h2
   rw [E8, E8, if_pos (by omega)]
   split
   · rename_i h; exact I.mono k k' h1 h
   · rw [if_pos (by omega)]; exact (I.inc k (by omega)).2
 · rw [hlen] at hk
   rw [E8]
   by_cases hkp : k < piv.length
   · rw [if_pos hkp]
     have u1 := I.unit piv.length k hp hkp
     rw [if_neg (by omega)] at u1
     by_cases hip : i = piv.length
     · subst hip; rw [pFP, u1, if_neg (by omega)]; grind
     · rw [pF i _ hip, u1, I.unit i k hi hkp]; grind
   · have hkp : k = piv.length := by omega
     rw [if_neg (by omega), if_pos hkp, Int.toNat_natCast]
     by_cases hip : i = piv.length
     · subst hip; rw [pFP, if_pos (by omega)]; grind
     · rw [pF i cc hip, if_neg (by omega)]; grind
 · rw [hlen] at h1 h4
   have hj : j < cc := by
     have := h4 piv.length (by omega)
     rw [E8, if_neg (by omega), if_pos rfl] at this
     omega
   have h4' : ∀ k, k < piv.length -> piv.getD k 0 ≠ (j : Int) := λ k hk => by
     have := h4 k (by omega)
     rw [E8, if_pos hk] at this
     exact this
   rw [pF i j (by omega), I.zero i j (by omega) h2 hj h4', I.zero piv.length j (Nat.le_refl _) hp hj h4']
   grind
 · rw [I.det, As9 A hp h0]; grind
end
theorem Ahc {m : QmM} {r c : Nat} (h1 : m.V.length = r) (h2 : ∀ i, i < r -> (m.V.getD i []).length = c) (hr : r <= 1000) (hc : c <= 1000) : Ar (O6 m) λ o => o.V = m.V /\ o.C = m.C := by
 unfold O6
 rw [Au]
 refine (Av (I := λ s : Int × List (List Aj) => ∃ n : Nat, s.1 = (n : Int) /\ n <= r /\ s.2 = m.V.take n) (μ := λ s : Int × List (List Aj) => r - s.1.toNat) (Q := λ o => o = m.V) ⟨0, rfl, Nat.zero_le _, by simp⟩ ?_).mono ?_
 · rintro ⟨i, w⟩ ⟨n, g1, g2, g3⟩
   simp only at g1 g3
   subst g1
   unfold Pq
   simp only [Ai, An, Ac, decide_eq_true_eq, Aw, At, Ae, Int.toNat_natCast]
   refine ⟨λ h => ?_, λ h => ?_⟩
   · have hn : n < r := by omega
     have hl := h2 n hn
     rw [Bg (by omega) (by omega), g3]
     refine ⟨by omega, by rw [hl]; unfold As; omega, by rw [List.length_take]; unfold As; omega, ⟨n + 1, by simp, by omega, ?_⟩, by omega⟩
     rw [List.take_add_one, List.getD_eq_getElem?_getD, List.getElem?_eq_getElem (by omega)]
     rfl
   · rw [g3, List.take_of_length_le (by omega)]
 · rintro o rfl
   rw [Ac]
   exact ⟨rfl, rfl⟩
theorem Re {m : QmM} {r c cols : Nat} {A0 : Nat -> Nat -> Rat} (M : D2 m.V r c A0) (hr : r <= 12) (hc : c <= 13) (hcols : cols <= c) {g0 : Nat} (S : MSz r c A0 g0) (hg : 3 <= g0) (hg2 : g0 <= 400) :
   Ar (Iw m (cols : Int)) λ o => ∃ (D : Rat) (A : Nat -> Nat -> Rat) (cc : Nat), o.1.C = m.C /\ D2 o.1.V r c A /\ B3 o.2.2 D /\ Qm r c cols A0 g0 cc D o.2.1 A /\ (cc = cols \/ o.2.1.length = r) := by
 unfold Iw
 refine (Ahc M.rows M.cols (by omega) (by omega)).bind ?_
 rintro y1 ⟨hV, hC⟩
 refine (E0 (n := 1) (by omega) (by omega)).bind ?_
 rintro y2 hy2
 rw [Au]
 have hpow : ∀ p, p <= 12 -> 5 ^ p * g0 <= 100000000000 := by
   intro p hp
   have h1 : 5 ^ p <= 5 ^ 12 := Nat.pow_le_pow_right (by omega) hp
   have h2 := Nat.mul_le_mul h1 hg2
   have h3 : (5 : Nat) ^ 12 * 400 <= 100000000000 := by decide
   omega
 refine (Av (I := λ s : Int × Int × List Int × Bool × Int × List Int × Bool × List Int × List (List Aj) => ∃ (cc : Nat) (D : Rat) (A : Nat -> Nat -> Rat), s.1 = (cc : Int) /\ B3 ⟨⟨s.2.1, s.2.2.1, s.2.2.2.1⟩, ⟨s.2.2.2.2.1, s.2.2.2.2.2.1, s.2.2.2.2.2.2.1⟩⟩ D /\ D2 s.2.2.2.2.2.2.2.2 r c A /\ Qm r c cols A0 g0 cc D s.2.2.2.2.2.2.2.1 A)
   (μ := λ s : Int × Int × List Int × Bool × Int × List Int × Bool × List Int × List (List Aj) => cols - s.1.toNat)
   (Q := λ s : Int × List Int × Bool × Int × List Int × Bool × List Int × List (List Aj) => ∃ (D : Rat) (A : Nat -> Nat -> Rat) (cc : Nat), D2 s.2.2.2.2.2.2.2 r c A /\ B3 ⟨⟨s.1, s.2.1, s.2.2.1⟩, ⟨s.2.2.2.1, s.2.2.2.2.1, s.2.2.2.2.2.1⟩⟩ D /\ Qm r c cols A0 g0 cc D s.2.2.2.2.2.2.1 A /\ (cc = cols \/ s.2.2.2.2.2.2.1.length = r))
   ⟨0, 1, A0, rfl, hy2, by show D2 y1.V r c A0; rw [hV]; exact M, ?_⟩ ?_).mono ?_
 · refine ⟨Nat.le_refl _, Nat.zero_le _, Nat.zero_le _, by simpa using S, ?_, λ k hk => by simp at hk, λ k k' _ hk => by simp at hk, λ i k _ hk => by simp at hk, λ i j _ _ hj _ => by omega, λ x => Iff.rfl, by grind⟩
   have hp : (4294967296 : Int) ^ 1 <= 4294967296 ^ (5 ^ ([] : List Int).length * g0) := Ef (by simp; omega)
   unfold Sz
   simp at hp ⊢
   omega
 · rintro ⟨i, d1, d2, d3, d4, d5, d6, piv, w⟩ ⟨cc, D, A, h1, h2, h3, I⟩
   simp only at h1 h2 h3 I
   subst h1
   have hw := h3.rows
   -- the pivot's round
   have J : ∀ {e1 : Int} {e2 : List Int} {e3 : Bool} {e4 : Int} {e5 : List Int} {e6 : Bool} {D' : Rat} {S' : Nat -> Nat -> Rat} {w' : List (List Aj)} (o : Int × Bool), piv.length < r -> cc < cols -> B3 ⟨⟨e1, e2, e3⟩, ⟨e4, e5, e6⟩⟩ D' -> D2 w' r c S' -> Qm r c cols A0 g0 cc D' piv S' -> S' piv.length cc ≠ 0 ->
       Ar (H4 (cols : Int) (cc : Int) piv w e1 e2 e3 e4 e5 e6 w' o y1) (Fk (λ s : Int × Int × List Int × Bool × Int × List Int × Bool × List Int × List (List Aj) => ∃ (cc : Nat) (D : Rat) (A : Nat -> Nat -> Rat), s.1 = (cc : Int) /\ B3 ⟨⟨s.2.1, s.2.2.1, s.2.2.2.1⟩, ⟨s.2.2.2.2.1, s.2.2.2.2.2.1, s.2.2.2.2.2.2.1⟩⟩ D /\ D2 s.2.2.2.2.2.2.2.2 r c A /\ Qm r c cols A0 g0 cc D s.2.2.2.2.2.2.2.1 A)
         (λ s : Int × Int × List Int × Bool × Int × List Int × Bool × List Int × List (List Aj) => cols - s.1.toNat) ((cc : Int), d1, d2, d3, d4, d5, d6, piv, w)
         (λ s : Int × List Int × Bool × Int × List Int × Bool × List Int × List (List Aj) => ∃ (D : Rat) (A : Nat -> Nat -> Rat) (cc : Nat), D2 s.2.2.2.2.2.2.2 r c A /\ B3 ⟨⟨s.1, s.2.1, s.2.2.1⟩, ⟨s.2.2.2.1, s.2.2.2.2.1, s.2.2.2.2.2.1⟩⟩ D /\ Qm r c cols A0 g0 cc D s.2.2.2.2.2.2.1 A /\ (cc = cols \/ s.2.2.2.2.2.2.1.length = r))) := by
     intro e1 e2 e3 e4 e5 e6 D' S' w' o hp hcc hD hM hI h0
     have hgp := hpow piv.length (by omega)
     have hw' := hM.rows
     have hcp := hM.cols piv.length hp
     have hx := hM.rep piv.length cc hp (by omega)
     unfold H4
     simp only [An, Au, Ae, Int.toNat_natCast, hcp]
     refine ⟨by omega, by omega, ?_⟩
     refine (Ko hD hx hI.szD (hI.sz _ _ hp (by omega)) (by omega)).mono ?_
     rintro y hy
     refine ⟨by omega, ?_⟩
     refine (Abm hM (by omega) (by omega) hI.sz hgp (by omega) hp h0 (cols : Int) (cc : Int) w o y1 y hx).mono ?_
     rintro w1 hw1
     have hw1r := hw1.rows
     have hwB : D2 w1 r c (piB S' piv.length cc) := hw1
     refine (Adu hwB (by omega) (by omega) hgp hp (by omega) (λ i j hi hne hj => by unfold piB; rw [if_neg hne]; exact hI.sz i j hi hj)
       (λ j hj => by unfold piB; rw [if_pos rfl]; exact ((hI.sz _ _ hp hj).div (hI.sz _ _ hp (by omega)) h0).mono (by omega)) (cols : Int) w o w1 hw1r y1 y).mono ?_
     rintro w2 hw2
     rw [Ac, Aw, Bg (by omega) (by omega)]
     refine ⟨by unfold As; have := hI.ler; simp; omega, ⟨cc + 1, D' * S' piv.length cc, piF S' piv.length cc, by simp, hy, hw2, hI.pivot hp hcc (by omega) h0 hg⟩, by simp; omega⟩
   unfold Lb
   simp only [Ai, Au, Ac, An, decide_eq_true_eq, Bool.not_eq_true', decide_eq_false_iff_not, Aw, At, Ae]
   refine ⟨λ hcc => ⟨λ hp => ?_, λ hp => ⟨D, A, cc, h3, h2, I, .inr (by have := I.ler; omega)⟩⟩, λ hcc => ⟨D, A, cc, h3, h2, I, .inl (by have := I.lec; omega)⟩⟩
   have hcc : cc < cols := by omega
   have hp : piv.length < r := by omega
   refine (Ago h3 (by omega) (cc := cc) (p0 := piv.length) (by omega) (by omega) (cols : Int) d1 d2 d3 d4 d5 d6 piv y1 _).mono ?_
   rintro ⟨o1, o2⟩ ⟨q, hq, hq1, hq2, hq3, hq4⟩
   simp only at hq
   subst hq
   simp only [Int.toNat_natCast]
   refine ⟨λ he => ?_, λ he => ⟨λ hne => ?_, λ heq => ?_⟩⟩
   · rw [Bg (by omega) (by omega)]
     exact ⟨⟨cc + 1, D, A, by simp, h2, h3, I.skip hcc λ i h1 h2 => hq3 i h1 (by omega)⟩, by omega⟩
   · have hqr : q < r := by omega
     refine ⟨by omega, by omega, by omega, by omega, trivial, trivial, ?_⟩
     have hgp := hpow piv.length (by omega)
     refine (Vd h2 I.szD (by omega)).mono ?_
     rintro y hy
     refine J (q, o2) hp hcc hy (h3.swap hqr hp) (I.turn hp hqr hq1 (by omega)) ?_
     unfold Hx
     rw [if_neg (by omega), if_pos rfl]
     exact hq4 hqr
   · have hqr : q = piv.length := by omega
     subst hqr
     exact J _ hp hcc h2 h3 I (hq4 hp)
 · rintro ⟨d1, d2, d3, d4, d5, d6, piv, w⟩ ⟨D, A, cc, h1, h2, h3, h4⟩
   rw [Ac]
   exact ⟨D, A, cc, hC, h1, h2, h3, h4⟩
theorem S9 {piv : List Int} {p : Nat} (h0 : ∀ k, k < p -> 0 <= piv.getD k 0) (hm : ∀ k k', k < k' -> k' < p -> piv.getD k 0 < piv.getD k' 0) : ∀ k, k < p -> (k : Int) <= piv.getD k 0
 | 0, h => by have := h0 0 h; omega
 | k + 1, h => by
   have := S9 h0 hm k (by omega)
   have := hm k (k + 1) (by omega) h
   omega
theorem Yb {piv : List Int} {p n : Nat} (h1 : ∀ k, k < p -> piv.getD k 0 < (n : Int)) (hm : ∀ k k', k < k' -> k' < p -> piv.getD k 0 < piv.getD k' 0) : ∀ d k, k + d + 1 = p -> piv.getD k 0 + d < (n : Int)
 | 0, k, h => by have := h1 k (by omega); omega
 | d + 1, k, h => by
   have := Yb h1 hm d (k + 1) (by omega)
   have := hm k (k + 1) (by omega) (by omega)
   omega
theorem Aj9 {piv : List Int} {n : Nat} (h0 : ∀ k, k < n -> 0 <= piv.getD k 0 /\ piv.getD k 0 < (n : Int)) (hm : ∀ k k', k < k' -> k' < n -> piv.getD k 0 < piv.getD k' 0) {k : Nat} (hk : k < n) : piv.getD k 0 = (k : Int) := by
 have h1 := S9 (λ k hk => (h0 k hk).1) hm k hk
 have h2 := Yb (n := n) (λ k hk => (h0 k hk).2) hm (n - 1 - k) k (by omega)
 omega
theorem Sn {piv : List Int} (p : Nat) : ∀ k, k <= p -> (∀ i, i < k -> piv.getD i 0 = (i : Int)) \/ ∃ k', k' < k /\ piv.getD k' 0 ≠ (k' : Int)
 | 0, _ => .inl λ i hi => by omega
 | k + 1, h => by
   rcases Sn p k (by omega) with h1 | ⟨k', h1, h2⟩
   · by_cases hk : piv.getD k 0 = (k : Int)
     · exact .inl λ i hi => by
         by_cases hik : i = k
         · subst hik; exact hk
         · exact h1 i (by omega)
     · exact .inr ⟨k, by omega, hk⟩
   · exact .inr ⟨k', by omega, h2⟩
theorem Aoh {piv : List Int} {p n : Nat} (hp : p < n) (h0 : ∀ k, k < p -> 0 <= piv.getD k 0 /\ piv.getD k 0 < (n : Int)) (hm : ∀ k k', k < k' -> k' < p -> piv.getD k 0 < piv.getD k' 0) : ∃ j, j < n /\ ∀ k, k < p -> piv.getD k 0 ≠ (j : Int) := by
 have hlow := S9 (λ k hk => (h0 k hk).1) hm
 rcases Classical.em (∀ i, i < p -> piv.getD i 0 = (i : Int)) with h | h
 · exact ⟨p, hp, λ k hk => by rw [h k hk]; omega⟩
 · -- the first one that is not in its place
   have : ∃ k, k < p /\ piv.getD k 0 ≠ (k : Int) /\ ∀ i, i < k -> piv.getD i 0 = (i : Int) := by
     have hex : ∃ k, k < p /\ piv.getD k 0 ≠ (k : Int) := by
       rcases Sn (piv := piv) p p (Nat.le_refl _) with h1 | h1
       · exact (h h1).elim
       · exact h1
     obtain ⟨k, hk⟩ := hex
     induction k using Nat.strongRecOn with
     | _ k ih =>
       rcases Sn (piv := piv) k k (Nat.le_refl _) with h1 | ⟨k', h1, h2⟩
       · exact ⟨k, hk.1, hk.2, h1⟩
       · exact ih k' h1 ⟨by omega, h2⟩
   obtain ⟨k, hk, hk2, hk3⟩ := this
   refine ⟨k, by omega, λ i hi => ?_⟩
   rcases Nat.lt_trichotomy i k with h1 | h1 | h1
   · rw [hk3 i h1]; omega
   · subst h1; exact hk2
   · have := hm k i h1 hi
     have := hlow k hk
     omega
theorem G5 (k : Nat) : Sz 0 (k + 1) := by
 have : (4294967296 : Int) ^ 1 <= 4294967296 ^ (k + 1) := Ef (by omega)
 unfold Sz
 simp at this ⊢
 omega
theorem Nk (k : Nat) : Sz 1 (k + 1) := by
 have : (4294967296 : Int) ^ 1 <= 4294967296 ^ (k + 1) := Ef (by omega)
 unfold Sz
 simp at this ⊢
 omega
theorem Bag {p g0 : Nat} (hp : p <= 12) (hg2 : g0 <= 400) : 5 ^ p * g0 <= 100000000000 := by
 have h1 : 5 ^ p <= 5 ^ 12 := Nat.pow_le_pow_right (by omega) hp
 have h2 := Nat.mul_le_mul h1 hg2
 have h3 : (5 : Nat) ^ 12 * 400 <= 100000000000 := by decide
 omega
theorem Anq {m : QmM} {n : Nat} {A0 : Nat -> Nat -> Rat} (M : D2 m.V n n A0) (hC : m.C = (n : Int)) (hn : n <= 12) {g0 : Nat} (S : MSz n n A0 g0) (hg : 3 <= g0) (hg2 : g0 <= 400) :
   Ar (S3 m) λ q => B3 q (det n A0) /\ Sz (det n A0) 100000000000 := by
 unfold S3
 rw [hC]
 refine (Re M hn (by omega) (Nat.le_refl _) S hg hg2).bind ?_
 rintro ⟨o, piv, d⟩ ⟨D, A, cc, h1, h2, h3, I, h4⟩
 simp only at h1 h2 h3 I h4
 have hm := M.rows
 simp only [Ai, Au, Ac, decide_eq_true_eq]
 refine ⟨λ h => ?_, λ h => ?_⟩
 · have hp : piv.length < n := by omega
   have hcc : cc = n := by rcases h4 with h4 | h4 <;> omega
   subst hcc
   have hz : det cc A0 = 0 := by
     rw [I.det, Q7 hp λ j hj => ?_]
     · grind
     · rcases Classical.em (∃ k, k < piv.length /\ piv.getD k 0 = (j : Int)) with ⟨k, hk, he⟩ | hno
       · have := I.unit piv.length k hp hk
         rw [he, Int.toNat_natCast, if_neg (by omega)] at this
         exact this
       · exact I.zero _ j (Nat.le_refl _) hp hj λ k hk he => hno ⟨k, hk, he⟩
   rw [hz]
   refine (E0 (n := 0) (by omega) (by omega)).mono ?_
   rintro y hy
   exact ⟨hy, G5 _⟩
 · have hp : piv.length = n := by have := I.ler; omega
   have hpv : ∀ k, k < n -> piv.getD k 0 = (k : Int) := λ k hk => Aj9 (λ k hk => by have := I.inc k (by omega); have := I.lec; omega) (λ k k' h1 h2 => I.mono k k' h1 (by omega)) hk
   have h1 : det n A = 1 := Ame λ i j hi hj => by
     have := I.unit i j hi (by omega)
     rw [hpv j hj, Int.toNat_natCast] at this
     exact this
   have hd : det n A0 = D := by rw [I.det, h1]; grind
   rw [hd]
   exact ⟨h3, I.szD.mono (Bag (by omega) hg2)⟩
def QZ0 : Aj := ⟨⟨0, [], false⟩, ⟨0, [], false⟩⟩
theorem U3 {n : Nat} {v : List Aj} (hv : v.length = n) (hn : n <= 1000) {f : Int -> Int -> List Aj -> Option ((Int × Int × List Aj) ⊕ List Aj)}
   (hf : ∀ (i : Nat) (w : List Aj) (Q : (Int × Int × List Aj) ⊕ List Aj -> Prop), w.length = n -> i <= n -> (i < n -> ∀ q, B3 q 0 -> Q (.inl ((n : Int), (i : Int) + 1, w.set i q))) -> (i = n -> Q (.inr w)) -> Ar (f (n : Int) (i : Int) w) Q) :
   Ar (Br (λ v : (Int × Int × List Aj) => f v.1 v.2.1 v.2.2) ((n : Int), (0 : Int), v)) λ o => o.length = n /\ ∀ i, i < n -> B3 (o.getD i Ba) 0 := by
 refine Av (I := λ s : Int × Int × List Aj => ∃ i : Nat, s.1 = (n : Int) /\ s.2.1 = (i : Int) /\ i <= n /\ s.2.2.length = n /\ ∀ k, k < i -> B3 (s.2.2.getD k Ba) 0) (μ := λ s : Int × Int × List Aj => n - s.2.1.toNat)
   ⟨0, rfl, rfl, Nat.zero_le _, hv, λ k hk => by omega⟩ ?_
 rintro ⟨n', i', w⟩ ⟨i, h1, h2, h3, h4, h5⟩
 simp only at h1 h2 h4 h5
 subst h1 h2
 refine hf i w _ h4 h3 (λ hi q hq => ?_) (λ hi => ?_)
 · rw [Aw]
   refine ⟨⟨i + 1, rfl, by simp, by omega, by simp [h4], λ k hk => ?_⟩, by simp; omega⟩
   show B3 ((w.set i q).getD k Ba) 0
   rw [B0]
   split
   · exact hq
   · exact h5 k (by omega)
 · rw [At]
   subst hi
   exact ⟨h4, h5⟩
theorem Aae {a1 v1 : Int} {k c r : Nat} (hc : c <= 1000) (hk : k < r) {m : List (List Aj)} (hm : m.length = r) (hl : (m.getD k []).length = c) :
   Ar (Br (λ v : (Int × Int × (List (List Aj))) => R3 a1 v1 (k : Int) v.1 v.2.1 v.2.2) ((c : Int), (0 : Int), m)) λ o => o.length = r /\ (o.getD k []).length = c /\ (∀ i, i ≠ k -> o.getD i [] = m.getD i []) /\ ∀ j, j < c -> B3 (mg o k j) 0 := by
 refine Av (I := λ s : Int × Int × List (List Aj) => ∃ n : Nat, s.1 = (c : Int) /\ s.2.1 = (n : Int) /\ n <= c /\ s.2.2.length = r /\ (s.2.2.getD k []).length = c /\ (∀ i, i ≠ k -> s.2.2.getD i [] = m.getD i []) /\ ∀ j, j < n -> B3 (mg s.2.2 k j) 0)
   (μ := λ s : Int × Int × List (List Aj) => c - s.2.1.toNat) ⟨0, rfl, rfl, Nat.zero_le _, hm, hl, λ i _ => rfl, λ j hj => by omega⟩ ?_
 rintro ⟨c', n', w⟩ ⟨n, h1, h2, h3, h4, h5, h6, h7⟩
 simp only at h1 h2 h4 h5 h6 h7
 subst h1 h2
 unfold R3
 simp only [Ai, An, Au, Ac, decide_eq_true_eq, Aw, At, Ae, Int.toNat_natCast]
 refine ⟨λ h => ⟨by omega, ?_⟩, λ h => ?_⟩
 · refine (E0 (n := 0) (by omega) (by omega)).mono ?_
   rintro y hy
   rw [Bg (by omega) (by omega)]
   refine ⟨by omega, ⟨n + 1, trivial, by simp, by omega, by simp [h4], ?_, λ i hi => ?_, λ j hj => ?_⟩, by omega⟩
   · rw [B0, if_pos ⟨rfl, by omega⟩, List.length_set]; exact h5
   · rw [B0, if_neg (by omega)]; exact h6 i hi
   · unfold mg
     rw [B0, if_pos ⟨rfl, by omega⟩, B0]
     split
     · exact hy
     · exact h7 j (by omega)
 · have : n = c := by omega
   subst this
   exact ⟨h4, h5, h6, h7⟩
theorem Yl {r c : Nat} (hr : r <= 1000) (hc : c <= 1000) : Ar (Uw (r : Int) (c : Int)) λ o => o.C = (c : Int) /\ D2 o.V r c λ _ _ => 0 := by
 unfold Uw
 simp only [An, Au, Int.toNat_natCast, List.length_replicate]
 refine ⟨by omega, by omega, by unfold As; omega, ?_⟩
 refine (Av (I := λ s : Int × Int × List (List Aj) => ∃ n : Nat, s.1 = (r : Int) /\ s.2.1 = (n : Int) /\ n <= r /\ s.2.2.length = r /\ ∀ i, i < n -> (s.2.2.getD i []).length = c /\ ∀ j, j < c -> B3 (mg s.2.2 i j) 0)
   (μ := λ s : Int × Int × List (List Aj) => r - s.2.1.toNat) (Q := λ o => D2 o r c λ _ _ => 0) ⟨0, rfl, rfl, Nat.zero_le _, by simp, λ i hi => by omega⟩ ?_).mono ?_
 · rintro ⟨r', n', w⟩ ⟨n, h1, h2, h3, h4, h5⟩
   simp only at h1 h2 h4 h5
   subst h1 h2
   unfold Uj
   simp only [Ai, An, Au, Ac, decide_eq_true_eq, Aw, At, Ae, Int.toNat_natCast, List.length_set]
   refine ⟨λ h => ⟨by omega, by omega, by unfold As; omega, by omega, by omega, ?_⟩, λ h => ?_⟩
   · have eg : (w.set n (List.replicate c QZ0)).getD n [] = List.replicate c QZ0 := by rw [B0, if_pos ⟨rfl, by omega⟩]
     have el : ((w.set n (List.replicate c QZ0)).getD n []).length = c := by rw [eg]; simp
     have := Aae (a1 := (c : Int)) (v1 := (r : Int)) (k := n) (c := c) (r := r) hc (by omega) (m := w.set n (List.replicate c QZ0)) (by simp [h4]) el
     unfold QZ0 at this el
     rw [el]
     refine this.mono ?_
     rintro o ⟨o1, o2, o3, o4⟩
     rw [Bg (by omega) (by omega)]
     refine ⟨⟨n + 1, trivial, by simp, by omega, o1, λ i hi => ?_⟩, by omega⟩
     by_cases hin : i = n
     · subst hin; exact ⟨o2, o4⟩
     · have e : o.getD i [] = w.getD i [] := by rw [o3 i hin, B0, if_neg (by omega)]
       have := h5 i (by omega)
       refine ⟨by rw [e]; exact this.1, λ j hj => ?_⟩
       unfold mg
       rw [e]; exact this.2 j hj
   · have : n = r := by omega
     subst this
     exact ⟨h4, λ i hi => (h5 i hi).1, λ i j hi hj => (h5 i hi).2 j hj⟩
 · rintro o ho
   rw [Ac]
   exact ⟨rfl, ho⟩
theorem Aa2 {b : List Aj} {n : Nat} (hb : b.length = n) (hn : n <= 1000) : Ar (Mi b) λ o => o.C = 1 /\ o.V.length = n /\ ∀ i, i < n -> o.V.getD i [] = [b.getD i Ba] := by
 unfold Mi
 rw [Au]
 refine (Av (I := λ s : Int × List (List Aj) => ∃ k : Nat, s.1 = (k : Int) /\ k <= n /\ s.2.length = k /\ ∀ i, i < k -> s.2.getD i [] = [b.getD i Ba]) (μ := λ s : Int × List (List Aj) => n - s.1.toNat)
   (Q := λ o => o.length = n /\ ∀ i, i < n -> o.getD i [] = [b.getD i Ba]) ⟨0, rfl, Nat.zero_le _, rfl, λ i hi => by omega⟩ ?_).mono ?_
 · rintro ⟨i, w⟩ ⟨k, h1, h2, h3, h4⟩
   simp only at h1 h3 h4
   subst h1
   unfold M8
   simp only [Ai, An, Ac, decide_eq_true_eq, Aw, At, Ae, Int.toNat_natCast]
   refine ⟨λ h => ?_, λ h => ?_⟩
   · rw [Bg (by omega) (by omega)]
     refine ⟨by omega, by unfold As; simp; omega, ⟨k + 1, by simp, by omega, by simp [h3], λ i hi => ?_⟩, by omega⟩
     rw [Ie]
     split
     · exact h4 i (by omega)
     · rw [if_pos (by omega)]
       have : i = k := by omega
       subst this
       rfl
   · have : k = n := by omega
     subst this
     exact ⟨h3, h4⟩
 · rintro o ⟨o1, o2⟩
   rw [Ac]
   exact ⟨rfl, o1, o2⟩
theorem Zo {m y : QmM} {n : Nat} {A : Nat -> Nat -> Rat} (M : D2 m.V n n A) (hC : m.C = (n : Int)) (hn : n <= 12) (hyC : y.C = 1) (hyl : y.V.length = n) {b : List Aj} {x : Nat -> Rat} (hy : ∀ i, i < n -> y.V.getD i [] = [b.getD i Ba]) (hb : ∀ i, i < n -> B3 (b.getD i Ba) (x i)) :
   Ar (J5 m y) λ o => D2 o.V n (n + 1) λ i j => if j < n then A i j else x i := by
 have hm := M.rows
 unfold J5
 rw [Au]
 refine (Av (I := λ s : Int × List (List Aj) => ∃ k : Nat, s.1 = (k : Int) /\ k <= n /\ s.2.length = k /\ ∀ i, i < k -> s.2.getD i [] = m.V.getD i [] ++ [b.getD i Ba]) (μ := λ s : Int × List (List Aj) => n - s.1.toNat)
   (Q := λ o => o.length = n /\ ∀ i, i < n -> o.getD i [] = m.V.getD i [] ++ [b.getD i Ba]) ⟨0, rfl, Nat.zero_le _, rfl, λ i hi => by omega⟩ ?_).mono ?_
 · rintro ⟨i, w⟩ ⟨k, h1, h2, h3, h4⟩
   simp only at h1 h3 h4
   subst h1
   unfold Ln
   simp only [Ai, An, Ac, decide_eq_true_eq, Aw, At, Ae, Int.toNat_natCast]
   refine ⟨λ h => ?_, λ h => ?_⟩
   · have hk : k < n := by omega
     have hl := M.cols k hk
     rw [Bg (by omega) (by omega), hy k hk]
     refine ⟨by omega, by rw [hl]; unfold As; omega, by omega, by rw [hl]; unfold As; simp; omega, by unfold As; omega, ⟨k + 1, by simp, by omega, by simp [h3], λ i hi => ?_⟩, by omega⟩
     rw [Ie]
     split
     · exact h4 i (by omega)
     · rw [if_pos (by omega)]
       have : i = k := by omega
       subst this
       rfl
   · have : k = n := by omega
     subst this
     exact ⟨h3, h4⟩
 · rintro o ⟨o1, o2⟩
   rw [Ac]
   refine ⟨o1, λ i hi => ?_, λ i j hi hj => ?_⟩
   · show (o.getD i []).length = _
     rw [o2 i hi]; simp only [List.length_append, List.length_singleton, M.cols i hi]
   · unfold mg
     show B3 ((o.getD i []).getD j Ba) _
     rw [o2 i hi, Ie, M.cols i hi]
     by_cases hjn : j < n
     · rw [if_pos hjn, if_pos hjn]; exact M.rep i j hi hjn
     · rw [if_neg hjn, if_neg hjn, if_pos (by omega)]; exact hb i hi
theorem Ab2 {m : QmM} {piv : List Int} {n : Nat} (hp : piv.length = n) (hn : n <= 12) (hpv : ∀ k, k < n -> piv.getD k 0 = (k : Int)) : Ar (L3 m piv (n : Int)) λ _ => True := by
 unfold L3
 simp only [An, Au, Int.toNat_natCast]
 refine ⟨by omega, by omega, by unfold As; omega, ?_⟩
 refine (Av (I := λ s : Int × List Bool => ∃ k : Nat, s.1 = (k : Int) /\ k <= n /\ s.2.length = n /\ ∀ i, i < k -> s.2.getD i false = true) (μ := λ s : Int × List Bool => n - s.1.toNat)
   (Q := λ o => o.length = n /\ ∀ i, i < n -> o.getD i false = true) ⟨0, rfl, Nat.zero_le _, by simp, λ i hi => by omega⟩ ?_).mono ?_
 · rintro ⟨i, w⟩ ⟨k, h1, h2, h3, h4⟩
   simp only at h1 h3 h4
   subst h1
   unfold M9
   simp only [Ai, An, Ac, decide_eq_true_eq, Aw, At, Ae, Int.toNat_natCast]
   refine ⟨λ h => ?_, λ h => ?_⟩
   · rw [Bg (by omega) (by omega), hpv k (by omega)]
     refine ⟨by omega, by omega, ⟨k + 1, by simp, by omega, by simp [h3], λ i hi => ?_⟩, by omega⟩
     rw [Int.toNat_natCast, B0]
     split
     · rfl
     · exact h4 i (by omega)
   · have : k = n := by omega
     subst this
     exact ⟨h3, h4⟩
 · rintro is ⟨o1, o2⟩
   refine (Av (I := λ s : Int × List (List Aj) => ∃ k : Nat, s.1 = (k : Int) /\ k <= n) (μ := λ s : Int × List (List Aj) => n - s.1.toNat) (Q := λ _ => True) ⟨0, rfl, Nat.zero_le _⟩ ?_).mono λ _ _ => Ac.2 trivial
   rintro ⟨i, w⟩ ⟨k, h1, h2⟩
   simp only at h1
   subst h1
   unfold Mt
   rw [Ai]
   simp only [decide_eq_true_eq]
   refine ⟨λ h => ?_, λ h => by rw [Ac, At]; trivial⟩
   rw [An, Ai, Int.toNat_natCast, o2 k (by omega)]
   refine ⟨⟨by omega, by rw [o1]; omega⟩, λ _ => ?_, λ h => (h rfl).elim⟩
   rw [Ac, Aw, Bg (by omega) (by omega)]
   exact ⟨⟨k + 1, by simp, by omega⟩, by simp; omega⟩
theorem Adh {m : QmM} {n : Nat} {A : Nat -> Nat -> Rat} (M : D2 m.V n n A) (hC : m.C = (n : Int)) (hn : n <= 12) {g0 : Nat} (S : MSz n n A g0) (hg : 3 <= g0) (hg2 : g0 <= 400) {b : List Aj} {y : Nat -> Rat} (hbl : b.length = n) (hb : ∀ i, i < n -> B3 (b.getD i Ba) (y i)) (hbs : ∀ i, i < n -> Sz (y i) g0)
   (htriv : ∀ x, Ker n n A x -> ∀ i, i < n -> x i = 0) :
   Ar (Mm m b) λ o => ∃ x : Nat -> Rat, o.1.length = n /\ (∀ i, i < n -> B3 (o.1.getD i Ba) (x i) /\ Sz (x i) 100000000000) /\ ∀ i, i < n -> sm n (λ j => A i j * x j) = y i := by
 unfold Mm
 refine (Aa2 hbl (by omega)).bind ?_
 rintro y1 ⟨y1C, y1l, y1e⟩
 refine (Zo M hC hn y1C y1l y1e hb).bind ?_
 rintro y2 hy2
 have S2 : MSz n (n + 1) (λ i j => if j < n then A i j else y i) g0 := λ i j hi hj => by
   show Sz (if j < n then A i j else y i) g0
   split
   · rename_i h; exact S i j hi h
   · exact hbs i hi
 rw [hC]
 refine (Re hy2 hn (by omega) (Nat.le_succ n) S2 hg hg2).bind ?_
 rintro ⟨o, piv, d⟩ ⟨D, A', cc, h1, h2, h3, I, h4⟩
 simp only at h1 h2 h3 I h4
 have hinc : ∀ k, k < piv.length -> 0 <= piv.getD k 0 /\ piv.getD k 0 < (n : Int) := λ k hk => by have := I.inc k hk; have := I.lec; omega
 have row : ∀ (x : Nat -> Rat) (i : Nat), sm (n + 1) (λ j => (if j < n then A i j else y i) * x j) = sm n (λ j => A i j * x j) + y i * x n := by
   intro x i
   rw [sm, if_neg (by omega)]
   congr 1
   exact Bc λ j hj => by rw [if_pos hj]
 -- all columns have a pivot
 have hp : piv.length = n := by
   rcases Nat.lt_or_ge piv.length n with hlt | hge
   · exfalso
     have hcc : cc = n := by rcases h4 with h4 | h4 <;> omega
     subst hcc
     obtain ⟨j0, hj0, hfree⟩ := Aoh hlt hinc I.mono
     let s : Nat -> Rat := λ j => sm piv.length λ k => if piv.getD k 0 = (j : Int) then A' k j0 else 0
     let x : Nat -> Rat := λ j => (if j = j0 then 1 else 0) - s j
     have hs : ∀ j : Nat, (∀ k, k < piv.length -> piv.getD k 0 ≠ (j : Int)) -> s j = 0 := λ j h => Fv λ k hk => if_neg (h k hk)
     have hker : Ker (cc + 1) cc A' x := by
       intro i hi
       have e1 : sm (cc + 1) (λ j => A' i j * x j) = sm (cc + 1) (λ j => A' i j * (if j = j0 then 1 else 0)) - sm (cc + 1) (λ j => A' i j * s j) := by
         rw [<- Od]
         exact Bc λ j _ => by show A' i j * ((if j = j0 then 1 else 0) - s j) = _; grind
       have e2 : sm (cc + 1) (λ j => A' i j * (if j = j0 then 1 else 0)) = A' i j0 := by
         rw [G6 (k := j0) (by omega) (λ j _ hne => by rw [if_neg hne]; grind), if_pos rfl]; grind
       have e3 : sm (cc + 1) (λ j => A' i j * s j) = sm piv.length (λ k => (if i = k then 1 else 0) * A' k j0) := by
         have : sm (cc + 1) (λ j => A' i j * s j) = sm (cc + 1) (λ j => sm piv.length λ k => A' i j * (if piv.getD k 0 = (j : Int) then A' k j0 else 0)) := Bc λ j _ => (Fl _ _ _).symm
         rw [this, Lm]
         refine Bc λ k hk => ?_
         have hik := hinc k hk
         rw [G6 (k := (piv.getD k 0).toNat) (by omega) (λ j _ hne => by rw [if_neg (by omega)]; grind), if_pos (by omega), I.unit i k hi hk]
       rw [e1, e2, e3]
       rcases Nat.lt_or_ge i piv.length with hip | hip
       · rw [G6 (k := i) hip (λ k _ hne => by rw [if_neg (Ne.symm hne)]; grind), if_pos rfl]; grind
       · rw [Fv (λ k hk => by rw [if_neg (by omega)]; grind), I.zero i j0 hip hi hj0 hfree]; grind
     have hk0 := (I.ker x).2 hker
     have hxn : x cc = 0 := by
       show (if cc = j0 then 1 else 0) - s cc = 0
       rw [if_neg (by omega), hs cc λ k hk => by have := hinc k hk; omega]; grind
     have hx0 := htriv x (λ i hi => by
       have := hk0 i hi
       rw [row, hxn] at this
       grind) j0 hj0
     have : (if j0 = j0 then (1 : Rat) else 0) - s j0 = 0 := hx0
     rw [if_pos rfl, hs j0 hfree] at this
     grind
   · have := I.ler; omega
 have hpv : ∀ k, k < n -> piv.getD k 0 = (k : Int) := λ k hk => Aj9 (λ k hk => hinc k (by omega)) (λ k k' h1 h2 => I.mono k k' h1 (by omega)) hk
 have hunit : ∀ i j, i < n -> j < n -> A' i j = if i = j then 1 else 0 := λ i j hi hj => by
   have := I.unit i j hi (by omega)
   rw [hpv j hj, Int.toNat_natCast] at this
   exact this
 have hro := h2.rows
 simp only [Au]
 have L1 : Ar (Br (λ v : Int => Kv m (o, piv, d) v) ((piv.length : Nat) : Int)) λ r => ∃ u, r = .inl u := by
   refine T9 ?_
   unfold Kv
   rw [Ai]
   refine ⟨λ h => ?_, λ h => by rw [Ac]; exact ⟨(), rfl⟩⟩
   simp only [decide_eq_true_eq] at h
   have h : (piv.length : Int) < (o.V.length : Int) := h
   omega
 refine L1.mono ?_
 rintro r ⟨u, rfl⟩
 simp only [An, Au, Int.toNat_natCast, List.length_replicate]
 refine ⟨by omega, by omega, by unfold As; omega, ?_⟩
 have F := U3 (n := n) (v := List.replicate n QZ0) (by simp) (by omega) (f := λ a b c => Kz m (o, piv, d) a b c) (λ i w Q hw hi hQ hE => by
   unfold Kz
   simp only [Ai, Au, An, Ac, decide_eq_true_eq, Ae, Int.toNat_natCast]
   refine ⟨λ h => ?_, λ h => hE (by omega)⟩
   refine (E0 (n := 0) (by omega) (by omega)).mono ?_
   rintro q hq
   rw [Bg (by omega) (by omega)]
   exact ⟨by omega, hQ (by omega) q hq⟩)
 unfold QZ0 at F
 refine F.mono ?_
 rintro z ⟨z1, z2⟩
 refine (Av (I := λ s : Int × List Aj => ∃ k : Nat, s.1 = (k : Int) /\ k <= n /\ s.2.length = n /\ ∀ i, i < k -> B3 (s.2.getD i Ba) (A' i n)) (μ := λ s : Int × List Aj => n - s.1.toNat)
   (Q := λ w => w.length = n /\ ∀ i, i < n -> B3 (w.getD i Ba) (A' i n)) ⟨0, rfl, Nat.zero_le _, z1, λ i hi => by omega⟩ ?_).mono ?_
 · rintro ⟨i, w⟩ ⟨k, g1, g2, g3, g4⟩
   simp only at g1 g3 g4
   subst g1
   unfold Ns
   simp only [Ai, An, Ac, decide_eq_true_eq, Aw, At, Ae, Int.toNat_natCast, hC]
   refine ⟨λ h => ?_, λ h => ?_⟩
   · have hk : k < n := by omega
     have hcl := h2.cols k hk
     rw [Bg (by omega) (by omega), hpv k hk]
     refine ⟨by omega, by omega, by omega, by omega, ⟨k + 1, by simp, by omega, by simp [g3], λ i hi => ?_⟩, by omega⟩
     rw [Int.toNat_natCast, B0]
     split
     · rename_i hik; rw [hik.1]; exact h2.rep k n hk (by omega)
     · exact g4 i (by omega)
   · have : k = n := by omega
     subst this
     exact ⟨g3, g4⟩
 · rintro w ⟨w1, w2⟩
   refine (Ab2 (m := o) hp hn hpv).mono ?_
   rintro y6 _
   rw [Ac]
   refine ⟨λ i => A' i n, w1, λ i hi => ⟨w2 i hi, (I.sz i n hi (by omega)).mono (Bag (by omega) hg2)⟩, λ i hi => ?_⟩
   let x : Nat -> Rat := λ j => if j < n then A' j n else -1
   have hker : Ker (n + 1) n A' x := by
     intro a ha
     rw [sm, G6 (k := a) ha (λ j hj hne => by rw [hunit a j ha hj, if_neg (Ne.symm hne)]; grind), hunit a a ha ha, if_pos rfl]
     show 1 * (if a < n then A' a n else -1) + A' a n * (if n < n then A' n n else -1) = 0
     rw [if_pos ha, if_neg (by omega)]; grind
   have := (I.ker x).2 hker i hi
   rw [row] at this
   have e : sm n (λ j => A i j * x j) = sm n (λ j => A i j * A' j n) := Bc λ j hj => by show A i j * (if j < n then A' j n else -1) = _; rw [if_pos hj]
   rw [e] at this
   have e2 : x n = -1 := by show (if n < n then A' n n else -1) = (-1 : Rat); rw [if_neg (by omega)]
   rw [e2] at this
   grind
end Go.Ab
