/- Gauss's way in package qm: what a round does to a matrix. Gauss's way in package qm. Conditions: none beyond those that each theorem names. -/
import Derived.Test.YtjdgmcngpiookaaGreatS20
import Derived.Test.YtjdgmcngpiookaaGreatS22
namespace Go.Ab
open Go
set_option linter.unusedVariables false
set_option linter.unusedSimpArgs false
theorem Bf {α : Type} (xs : List α) (n : Nat) (w : α) (i : Nat) (d : α) : (xs.set n w).getD i d = if i = n /\ n < xs.length then w else xs.getD i d := by
 simp only [List.getD_eq_getElem?_getD, List.getElem?_set]
 split
 · rename_i h; subst h
   split
   · rename_i h; simp [h]
   · rename_i h; simp [h]
 · rename_i h
   rw [if_neg (by rintro ⟨rfl, _⟩; exact h rfl)]
theorem Eg {α : Type} (xs : List α) (w : α) (i : Nat) (d : α) : (xs ++ [w]).getD i d = if i < xs.length then xs.getD i d else if i = xs.length then w else d := by
 simp only [List.getD_eq_getElem?_getD]
 split
 · rename_i h; rw [List.getElem?_append_left h]
 · split
   · rename_i h; subst h; simp
   · rw [List.getElem?_eq_none (by simp; omega)]; rfl
theorem V2 {α : Type} (n i : Nat) (w d : α) (h : i < n) : (List.replicate n w).getD i d = w := by
 rw [List.getD_eq_getElem?_getD, List.getElem?_replicate, if_pos h]; rfl
def mg (m : List (List Al)) (i j : Nat) : Al := (m.getD i []).getD j Bd
structure E4 (m : List (List Al)) (r c : Nat) (A : Nat -> Nat -> Rat) : Prop where
 rows : m.length = r
 cols : ∀ i, i < r -> (m.getD i []).length = c
 rep : ∀ i j, i < r -> j < c -> Cc (mg m i j) (A i j)
def MSz (r c : Nat) (A : Nat -> Nat -> Rat) (k : Nat) : Prop := ∀ i j, i < r -> j < c -> Sz (A i j) k
section
variable {m : List (List Al)} {r c : Nat} {A : Nat -> Nat -> Rat}
theorem E4.set (M : E4 m r c A) {i j : Nat} (hi : i < r) (hj : j < c) {q : Al} {B : Nat -> Nat -> Rat} (hq : Cc q (B i j)) (hB : ∀ a b, a < r -> b < c -> (a ≠ i \/ b ≠ j) -> B a b = A a b) :
   E4 (m.set i ((m.getD i []).set j q)) r c B := by
 have hm := M.rows
 refine ⟨by simp [hm], λ a ha => ?_, λ a b ha hb => ?_⟩
 · rw [Bf]
   split
   · rw [List.length_set]; exact M.cols i hi
   · exact M.cols a ha
 · unfold mg
   rw [Bf]
   by_cases hai : a = i
   · subst hai
     rw [if_pos ⟨rfl, by omega⟩, Bf]
     by_cases hbj : b = j
     · subst hbj; rw [if_pos ⟨rfl, by rw [M.cols _ hi]; exact hj⟩]; exact hq
     · rw [if_neg (by omega), hB a b ha hb (.inr hbj)]; exact M.rep a b ha hb
   · rw [if_neg (by omega), hB a b ha hb (.inl hai)]; exact M.rep a b ha hb
theorem E4.congr (M : E4 m r c A) {B : Nat -> Nat -> Rat} (h : ∀ a b, a < r -> b < c -> B a b = A a b) : E4 m r c B :=
 ⟨M.rows, M.cols, λ a b ha hb => by rw [h a b ha hb]; exact M.rep a b ha hb⟩
theorem E4.setRow (M : E4 m r c A) {i : Nat} (hi : i < r) {row : List Al} (hl : row.length = c) {B : Nat -> Nat -> Rat} (hr : ∀ j, j < c -> Cc (row.getD j Bd) (B i j)) (hB : ∀ a b, a < r -> b < c -> a ≠ i -> B a b = A a b) :
   E4 (m.set i row) r c B := by
 have hm := M.rows
 refine ⟨by simp [hm], λ a ha => ?_, λ a b ha hb => ?_⟩
 · rw [Bf]
   split
   · exact hl
   · exact M.cols a ha
 · unfold mg
   rw [Bf]
   by_cases hai : a = i
   · subst hai; rw [if_pos ⟨rfl, by omega⟩]; exact hr b hb
   · rw [if_neg (by omega), hB a b ha hb hai]; exact M.rep a b ha hb
theorem E4.swap (M : E4 m r c A) {p q : Nat} (hp : p < r) (hq : q < r) : E4 ((m.set p (m.getD q [])).set q (m.getD p [])) r c (G7 A p q) := by
 have h1 : E4 (m.set p (m.getD q [])) r c (Dn A p (A q)) := M.setRow hp (M.cols q hq) (λ j hj => by unfold Dn; rw [if_pos rfl]; exact M.rep q j hq hj) (λ a b _ _ h => by unfold Dn; rw [if_neg h])
 refine h1.setRow hq (M.cols p hp) (λ j hj => ?_) (λ a b _ _ h => ?_)
 · unfold G7
   by_cases hqp : q = p
   · rw [if_pos hqp, hqp]; exact M.rep p j hp hj
   · rw [if_neg hqp, if_pos rfl]; exact M.rep p j hp hj
 · unfold G7 Dn
   by_cases hap : a = p
   · rw [if_pos hap, if_pos hap]
   · rw [if_neg hap, if_neg hap, if_neg h]
end
theorem Aij {r c : Nat} {A : Nat -> Nat -> Rat} {m : List (List Al)} (M : E4 m r c A) (hr : r <= 1000) {cc p0 : Nat} (hc : cc < c) (hp : p0 <= r) (a1 v2 : Int) (v3 : List Int) (v4 : Bool) (v5 : Int) (v6 : List Int) (v7 : Bool) (v8 : List Int) (y1 : QmM) (b : Bool) :
   Ar (Bj (λ v : (Int × Bool) => K1 a1 (cc : Int) v2 v3 v4 v5 v6 v7 v8 m y1 v.1 v.2) ((p0 : Int), b)) λ o => ∃ p : Nat, o.1 = (p : Int) /\ p0 <= p /\ p <= r /\ (∀ i, p0 <= i -> i < p -> A i cc = 0) /\ (p < r -> A p cc ≠ 0) := by
 refine As (I := λ s : Int × Bool => ∃ p : Nat, s.1 = (p : Int) /\ p0 <= p /\ p <= r /\ ∀ i, p0 <= i -> i < p -> A i cc = 0) (μ := λ s : Int × Bool => r - s.1.toNat) ⟨p0, rfl, Nat.le_refl _, hp, λ i h1 h2 => by omega⟩ ?_
 rintro ⟨i, b⟩ ⟨p, h1, h2, h3, h4⟩
 simp only at h1
 subst h1
 have hm := M.rows
 unfold K1
 simp only [Ai, Ah, At, Ae, decide_eq_true_eq, Av, Aw, Af, Int.toNat_natCast]
 refine ⟨λ hlt => ?_, λ hge => ⟨p, rfl, h2, h3, h4, λ h => by omega⟩⟩
 have hpr : p < r := by omega
 have hcl := M.cols p hpr
 refine ⟨by omega, by omega, ?_⟩
 refine (Qx (M.rep p cc hpr hc)).mono ?_
 rintro z hz
 refine ⟨λ h => ?_, λ h => ⟨p, rfl, h2, h3, h4, λ _ h0 => h (hz.2 h0)⟩⟩
 rw [Bg (by omega) (by omega)]
 refine ⟨⟨p + 1, by simp, by omega, by omega, λ i h1 h5 => ?_⟩, by omega⟩
 by_cases hi : i = p
 · subst hi; exact hz.1 h
 · exact h4 i h1 (by omega)
theorem Acq {r c : Nat} {A : Nat -> Nat -> Rat} {m : List (List Al)} (M : E4 m r c A) (hr : r <= 1000) (hcl : c <= 1000) {g : Nat} (S : MSz r c A g) (hg : g <= 5000000000) {cc : Nat} (hc : cc < c) {v8 : List Int} (hp : v8.length < r) (h0 : A v8.length cc ≠ 0)
   (a1 v1 : Int) (v9 : List (List Al)) (r1 : Int × Bool) (y1 : QmM) (y5 : Al) {x : Al} (hx : Cc x (A v8.length cc)) :
   Ar (Bj (λ v : (Int × Int × Int × (List Int) × Bool × Int × (List Int) × Bool × (List (List Al))) => K0 a1 v1 v8 v9 r1 y1 y5 v.1 v.2.1 v.2.2.1 v.2.2.2.1 v.2.2.2.2.1 v.2.2.2.2.2.1 v.2.2.2.2.2.2.1 v.2.2.2.2.2.2.2.1 v.2.2.2.2.2.2.2.2)
     ((c : Int), (0 : Int), x.N.v, x.N.m, x.N.neg, x.D.v, x.D.m, x.D.neg, m)) λ o => E4 o r c (λ i j => if i = v8.length then A i j / A v8.length cc else A i j) := by
 refine As (I := λ s : Int × Int × Int × List Int × Bool × Int × List Int × Bool × List (List Al) => ∃ n : Nat, s.1 = (c : Int) /\ s.2.1 = (n : Int) /\ n <= c /\ Cc ⟨⟨s.2.2.1, s.2.2.2.1, s.2.2.2.2.1⟩, ⟨s.2.2.2.2.2.1, s.2.2.2.2.2.2.1, s.2.2.2.2.2.2.2.1⟩⟩ (A v8.length cc) /\
     E4 s.2.2.2.2.2.2.2.2 r c (λ i j => if i = v8.length /\ j < n then A i j / A v8.length cc else A i j)) (μ := λ s : Int × Int × Int × List Int × Bool × Int × List Int × Bool × List (List Al) => c - s.2.1.toNat)
   ⟨0, rfl, rfl, Nat.zero_le _, hx, M.congr λ a b _ _ => by rw [if_neg (by omega)]⟩ ?_
 rintro ⟨c', i, x1, x2, x3, x4, x5, x6, w⟩ ⟨n, h1, h2, h3, h4, h5⟩
 simp only at h1 h2 h4 h5
 subst h1 h2
 have hm := h5.rows
 have hcol := h5.cols v8.length hp
 unfold K0
 simp only [Ai, Ah, At, Ae, decide_eq_true_eq, Av, Aw, Af, Int.toNat_natCast]
 refine ⟨λ hlt => ?_, λ hge => ?_⟩
 · have hn : n < c := by omega
   refine ⟨by omega, by omega, by omega, ?_⟩
   have hq := h5.rep v8.length n hp hn
   rw [if_neg (by omega)] at hq
   refine (Zo hq h4 (S _ _ hp hn) (S _ _ hp hc) (by omega) h0).mono ?_
   rintro y hy
   rw [Bg (by omega) (by omega)]
   refine ⟨by omega, ⟨n + 1, trivial, by simp, by omega, h4, ?_⟩, by omega⟩
   refine h5.set hp hn (by rw [if_pos ⟨rfl, by omega⟩]; exact hy) λ a b _ _ hab => ?_
   by_cases ha : a = v8.length
   · by_cases hb : b < n
     · rw [if_pos ⟨ha, by omega⟩, if_pos ⟨ha, hb⟩]
     · rw [if_neg (by omega), if_neg (by omega)]
   · rw [if_neg (by omega), if_neg (by omega)]
 · have : n = c := by omega
   subst this
   refine h5.congr λ a b _ hb => ?_
   by_cases ha : a = v8.length
   · rw [if_pos ha, if_pos ⟨ha, hb⟩]
   · rw [if_neg ha, if_neg (by omega)]
theorem Acp {r c : Nat} {B : Nat -> Nat -> Rat} {m : List (List Al)} (M : E4 m r c B) (hr : r <= 1000) (hcl : c <= 1000) {g : Nat} (hg : g <= 5000000000) {v8 : List Int} (hp : v8.length < r) {i : Nat} (hi : i < r) (hne : i ≠ v8.length) {cc : Nat} (hc : cc < c)
   (Si : ∀ j, j < c -> Sz (B i j) g) (Sp : ∀ j, j < c -> Sz (B v8.length j) (2 * g)) (a1 v1 : Int) (v9 : List (List Al)) (r1 : Int × Bool) (r2 : List (List Al)) (y1 : QmM) (y5 : Al) (y7 : Bool) {x : Al} (hx : Cc x (B i cc)) :
   Ar (Bj (λ v : (Al × Int × Int × (List Int) × Bool × Int × (List Int) × Bool × (List (List Al))) => Kz a1 v1 v8 v9 (i : Int) m r1 r2 y1 y5 y7 v.1 v.2.1 v.2.2.1 v.2.2.2.1 v.2.2.2.2.1 v.2.2.2.2.2.1 v.2.2.2.2.2.2.1 v.2.2.2.2.2.2.2.1 v.2.2.2.2.2.2.2.2)
     (x, (0 : Int), x.N.v, x.N.m, x.N.neg, x.D.v, x.D.m, x.D.neg, m)) λ o => E4 o.2 r c (λ a j => if a = i then B i j - B i cc * B v8.length j else B a j) := by
 refine As (I := λ s : Al × Int × Int × List Int × Bool × Int × List Int × Bool × List (List Al) => ∃ n : Nat, s.2.1 = (n : Int) /\ n <= c /\ Cc ⟨⟨s.2.2.1, s.2.2.2.1, s.2.2.2.2.1⟩, ⟨s.2.2.2.2.2.1, s.2.2.2.2.2.2.1, s.2.2.2.2.2.2.2.1⟩⟩ (B i cc) /\
     E4 s.2.2.2.2.2.2.2.2 r c (λ a j => if a = i /\ j < n then B i j - B i cc * B v8.length j else B a j)) (μ := λ s : Al × Int × Int × List Int × Bool × Int × List Int × Bool × List (List Al) => c - s.2.1.toNat)
   ⟨0, rfl, Nat.zero_le _, hx, M.congr λ a b _ _ => by rw [if_neg (by omega)]⟩ ?_
 rintro ⟨x0, k, x1, x2, x3, x4, x5, x6, w⟩ ⟨n, h2, h3, h4, h5⟩
 simp only at h2 h4 h5
 subst h2
 have hm := h5.rows
 have hcp := h5.cols v8.length hp
 have hci := h5.cols i hi
 have hlen := M.cols i hi
 have J : ∀ w' : List (List Al), n < c -> E4 w' r c (λ a j => if a = i /\ j < n + 1 then B i j - B i cc * B v8.length j else B a j) -> Ar (Js a1 v1 v8 v9 (i : Int) m x0 (n : Int) x1 x2 x3 x4 x5 x6 w' r1 r2 y1 y5 y7)
     (Id (λ s : Al × Int × Int × List Int × Bool × Int × List Int × Bool × List (List Al) => ∃ n : Nat, s.2.1 = (n : Int) /\ n <= c /\ Cc ⟨⟨s.2.2.1, s.2.2.2.1, s.2.2.2.2.1⟩, ⟨s.2.2.2.2.2.1, s.2.2.2.2.2.2.1, s.2.2.2.2.2.2.2.1⟩⟩ (B i cc) /\
       E4 s.2.2.2.2.2.2.2.2 r c (λ a j => if a = i /\ j < n then B i j - B i cc * B v8.length j else B a j)) (λ s : Al × Int × Int × List Int × Bool × Int × List Int × Bool × List (List Al) => c - s.2.1.toNat) (x0, (n : Int), x1, x2, x3, x4, x5, x6, w)
       (λ o : Al × List (List Al) => E4 o.2 r c (λ a j => if a = i then B i j - B i cc * B v8.length j else B a j))) := by
   intro w' hn hw'
   unfold Js
   rw [Ae, Av, Bg (by omega) (by omega)]
   exact ⟨⟨n + 1, by simp, by omega, h4, hw'⟩, by simp; omega⟩
 unfold Kz
 simp only [Ai, Ah, At, Ae, decide_eq_true_eq, Aw, Af, Int.toNat_natCast, Bool.not_eq_true']
 refine ⟨λ hlt => ?_, λ hge => ?_⟩
 · have hn : n < c := by omega
   refine ⟨by omega, by omega, ?_⟩
   have hqp := h5.rep v8.length n hp hn
   rw [if_neg (by omega)] at hqp
   have hqi := h5.rep i n hi hn
   rw [if_neg (by omega)] at hqi
   refine (Qx hqp).mono ?_
   rintro z hz
   refine ⟨λ h => ?_, λ h => ?_⟩
   · refine ⟨by omega, by omega, by omega, by omega, by omega, ?_⟩
     refine (Jm h4 hqp (Si _ hc) (Sp _ hn) (by omega)).mono ?_
     rintro y hy
     refine (Ji hqi hy (Si _ hn) ((Si _ hc).mul (Sp _ hn)) (by omega)).mono ?_
     rintro y' hy'
     refine ⟨by omega, J _ hn ?_⟩
     refine h5.set hi hn (by rw [if_pos ⟨rfl, by omega⟩]; exact hy') λ a b _ _ hab => ?_
     by_cases ha : a = i
     · by_cases hb : b < n
       · rw [if_pos ⟨ha, by omega⟩, if_pos ⟨ha, hb⟩]
       · rw [if_neg (by omega), if_neg (by omega)]
     · rw [if_neg (by omega), if_neg (by omega)]
   · have h0 : B v8.length n = 0 := hz.1 (by simpa using h)
     refine J _ hn (h5.congr λ a b _ _ => ?_)
     by_cases ha : a = i
     · by_cases hb : b < n
       · rw [if_pos ⟨ha, by omega⟩, if_pos ⟨ha, hb⟩]
       · by_cases hbn : b = n
         · subst hbn; rw [if_pos ⟨ha, by omega⟩, if_neg (by omega), h0, ha]; grind
         · rw [if_neg (by omega), if_neg (by omega)]
     · rw [if_neg (by omega), if_neg (by omega)]
 · have : n = c := by omega
   subst this
   refine h5.congr λ a b _ hb => ?_
   by_cases ha : a = i
   · rw [if_pos ha, if_pos ⟨ha, hb⟩]
   · rw [if_neg ha, if_neg (by omega)]
theorem Af1 {r c : Nat} {B : Nat -> Nat -> Rat} {m : List (List Al)} (M : E4 m r c B) (hr : r <= 1000) (hcl : c <= 1000) {g : Nat} (hg : g <= 5000000000) {v8 : List Int} (hp : v8.length < r) {cc : Nat} (hc : cc < c)
   (Si : ∀ i j, i < r -> i ≠ v8.length -> j < c -> Sz (B i j) g) (Sp : ∀ j, j < c -> Sz (B v8.length j) (2 * g)) (a1 : Int) (v9 : List (List Al)) (r1 : Int × Bool) (r2 : List (List Al)) (hr2 : r2.length = r) (y1 : QmM) (y5 : Al) :
   Ar (Bj (λ v : (Int × (List (List Al))) => K6 a1 (cc : Int) v8 v9 r1 r2 y1 y5 v.1 v.2) ((0 : Int), m)) λ o => E4 o r c (λ a j => if a ≠ v8.length then B a j - B a cc * B v8.length j else B a j) := by
 refine As (I := λ s : Int × List (List Al) => ∃ n : Nat, s.1 = (n : Int) /\ n <= r /\ E4 s.2 r c (λ a j => if a < n /\ a ≠ v8.length then B a j - B a cc * B v8.length j else B a j)) (μ := λ s : Int × List (List Al) => r - s.1.toNat)
   ⟨0, rfl, Nat.zero_le _, M.congr λ a b _ _ => by rw [if_neg (by omega)]⟩ ?_
 rintro ⟨i, w⟩ ⟨n, h1, h2, h3⟩
 simp only at h1 h3
 subst h1
 have hm := h3.rows
 have J : ∀ w' : List (List Al), n < r -> E4 w' r c (λ a j => if a < n + 1 /\ a ≠ v8.length then B a j - B a cc * B v8.length j else B a j) -> Id (λ s : Int × List (List Al) => ∃ n : Nat, s.1 = (n : Int) /\ n <= r /\ E4 s.2 r c (λ a j => if a < n /\ a ≠ v8.length then B a j - B a cc * B v8.length j else B a j))
     (λ s : Int × List (List Al) => r - s.1.toNat) ((n : Int), w) (λ o => E4 o r c (λ a j => if a ≠ v8.length then B a j - B a cc * B v8.length j else B a j)) (.inl (IntKind.wrap .i64 ((n : Int) + 1), w')) := by
   intro w' hn hw'
   rw [Av, Bg (by omega) (by omega)]
   exact ⟨⟨n + 1, by simp, by omega, hw'⟩, by simp; omega⟩
 unfold K6 K2
 simp only [Ai, Ah, At, Ae, decide_eq_true_eq, Aw, Af, Int.toNat_natCast]
 refine ⟨λ hlt => ?_, λ hge => ?_⟩
 · have hn : n < r := by omega
   have hcn := h3.cols n hn
   refine ⟨by omega, by omega, λ he => ?_, λ hne => ?_⟩
   · have he : n = v8.length := by omega
     refine J _ hn (h3.congr λ a b _ _ => ?_)
     by_cases ha : a < n
     · rw [if_pos (by omega), if_pos (by omega)]
     · rw [if_neg (by omega), if_neg (by omega)]
   · have hne : n ≠ v8.length := by omega
     have hq := h3.rep n cc hn hc
     rw [if_neg (by omega)] at hq
     refine (Qx hq).mono ?_
     rintro z hz
     refine ⟨λ h => ?_, λ h => ⟨by omega, ?_⟩⟩
     · have h0 := hz.1 h
       refine J _ hn (h3.congr λ a b _ _ => ?_)
       by_cases ha : a < n
       · by_cases ha2 : a = v8.length
         · rw [if_neg (by omega), if_neg (by omega)]
         · rw [if_pos (by omega), if_pos (by omega)]
       · by_cases han : a = n
         · subst han; rw [if_pos (by omega), if_neg (by omega), h0]; grind
         · rw [if_neg (by omega), if_neg (by omega)]
     · have k1 : (n < n /\ n ≠ v8.length) = False := by simp
       have k2 : (v8.length < n /\ v8.length ≠ v8.length) = False := by simp
       refine (Acp h3 hr hcl hg hp hn hne hc (λ j hj => by rw [if_neg (by omega)]; exact Si n j hn hne hj) (λ j hj => by rw [if_neg (by omega)]; exact Sp j hj) a1 (cc : Int) v9 r1 r2 y1 y5 z (x := mg w n cc) (by rw [if_neg (by omega)]; exact hq)).mono ?_
       rintro o ho
       refine J _ hn (ho.congr λ a b _ _ => ?_)
       by_cases ha : a = n
       · subst ha; rw [if_pos (by omega), if_pos rfl]; simp only [k1, k2, if_false]
       · rw [if_neg ha]
         by_cases ha2 : a < n /\ a ≠ v8.length
         · rw [if_pos (by omega), if_pos ha2]
         · rw [if_neg (by omega), if_neg ha2]
 · have : n = r := by omega
   subst this
   refine h3.congr λ a b ha _ => ?_
   by_cases hav : a = v8.length
   · rw [if_neg (by omega), if_neg (by omega)]
   · rw [if_pos hav, if_pos ⟨ha, hav⟩]
def Ker (c r : Nat) (A : Nat -> Nat -> Rat) (x : Nat -> Rat) : Prop := ∀ i, i < r -> sm c (λ j => A i j * x j) = 0
def piB (S : Nat -> Nat -> Rat) (p cc : Nat) : Nat -> Nat -> Rat := λ i j => if i = p then S i j / S p cc else S i j
def piF (S : Nat -> Nat -> Rat) (p cc : Nat) : Nat -> Nat -> Rat := λ a j => if a ≠ p then piB S p cc a j - piB S p cc a cc * piB S p cc p j else piB S p cc a j
theorem Sf {n p : Nat} (A : Nat -> Nat -> Rat) (s : Nat -> Rat) (hp : p < n) : ∀ m, m <= n -> det n (λ i j => if i < m /\ i ≠ p then A i j + s i * A p j else A i j) = det n A
 | 0, _ => Gf λ i j _ _ => by rw [if_neg (by omega)]
 | m + 1, h => by
   rw [<- Sf A s hp m (by omega)]
   by_cases hm : m = p
   · refine Gf λ i j _ _ => ?_
     by_cases h2 : i < m /\ i ≠ p
     · rw [if_pos (by omega), if_pos h2]
     · rw [if_neg (by omega), if_neg h2]
   · have := Ahz (n := n) (k := m) (r := p) (λ i j => if i < m /\ i ≠ p then A i j + s i * A p j else A i j) (by omega) hp hm (s m)
     rw [<- this]
     refine Gf λ i j _ _ => ?_
     unfold Dn
     by_cases hi : i = m
     · subst hi
       rw [if_pos (by omega), if_pos rfl]
       dsimp only
       rw [if_neg (by omega), if_neg (by omega)]
     · rw [if_neg hi]
       dsimp only
       by_cases h2 : i < m /\ i ≠ p
       · rw [if_pos (by omega), if_pos h2]
       · rw [if_neg (by omega), if_neg h2]
theorem Aym {n p cc : Nat} (S : Nat -> Nat -> Rat) (hp : p < n) (h0 : S p cc ≠ 0) : det n S = S p cc * det n (piF S p cc) := by
 have h1 : det n (piB S p cc) = (1 / S p cc) * det n S := by
   rw [<- Ani S hp]
   refine Gf λ i j _ _ => ?_
   unfold piB Dn
   by_cases hi : i = p
   · subst hi; rw [if_pos rfl, if_pos rfl]; grind
   · rw [if_neg hi, if_neg hi]
 have h2 := Sf (piB S p cc) (λ i => -(piB S p cc i cc)) hp n (Nat.le_refl _)
 have h3 : det n (piF S p cc) = det n (piB S p cc) := by
   rw [<- h2]
   refine Gf λ i j hi _ => ?_
   unfold piF
   by_cases hip : i = p
   · rw [if_neg (by omega), if_neg (by omega)]
   · rw [if_pos hip, if_pos ⟨hi, hip⟩]; grind
 rw [h3, h1]
 grind
theorem Ayc {c r p cc : Nat} (S : Nat -> Nat -> Rat) (hp : p < r) (h0 : S p cc ≠ 0) (x : Nat -> Rat) : Ker c r S x ↔ Ker c r (piF S p cc) x := by
 have eB : sm c (λ j => piB S p cc p j * x j) = (1 / S p cc) * sm c (λ j => S p j * x j) := by
   rw [<- Gu]
   refine Bl λ j _ => ?_
   unfold piB; rw [if_pos rfl]; grind
 have eF : ∀ i, i ≠ p -> sm c (λ j => piF S p cc i j * x j) = sm c (λ j => S i j * x j) + (-(S i cc)) * sm c (λ j => piB S p cc p j * x j) := by
   intro i hi
   rw [<- Gu, <- Qs]
   refine Bl λ j _ => ?_
   have e : ∀ k, piB S p cc i k = S i k := λ k => by unfold piB; rw [if_neg hi]
   unfold piF; rw [if_pos hi, e, e]; grind
 have eP : sm c (λ j => piF S p cc p j * x j) = sm c (λ j => piB S p cc p j * x j) := Bl λ j _ => by unfold piF; rw [if_neg (by omega)]
 constructor
 · intro h i hi
   by_cases hip : i = p
   · subst hip; rw [eP, eB, h i hi]; grind
   · rw [eF i hip, eB, h i hi, h p hp]; grind
 · intro h i hi
   have hP := h p hp
   rw [eP] at hP
   by_cases hip : i = p
   · subst hip
     rw [eB] at hP
     have : sm c (λ j => S i j * x j) = S i cc * ((1 / S i cc) * sm c (λ j => S i j * x j)) := by grind
     rw [this, hP]; grind
   · have := h i hi
     rw [eF i hip, hP] at this
     grind
theorem At8 {c r p q : Nat} (A : Nat -> Nat -> Rat) (hp : p < r) (hq : q < r) (x : Nat -> Rat) : Ker c r A x ↔ Ker c r (G7 A p q) x := by
 have key : ∀ B : Nat -> Nat -> Rat, Ker c r B x -> Ker c r (G7 B p q) x := by
   intro B h i hi
   unfold G7
   by_cases h1 : i = p
   · subst h1
     have := h q hq
     rw [<- this]; exact Bl λ j _ => by rw [if_pos rfl]
   · by_cases h2 : i = q
     · subst h2
       have := h p hp
       rw [<- this]; exact Bl λ j _ => by rw [if_neg h1, if_pos rfl]
     · rw [<- h i hi]; exact Bl λ j _ => by rw [if_neg h1, if_neg h2]
 refine ⟨key A, λ h => ?_⟩
 have := key _ h
 have e : G7 (G7 A p q) p q = A := by
   funext i j; unfold G7
   by_cases h1 : i = p
   · subst h1; rw [if_pos rfl]
     by_cases h2 : q = i
     · rw [if_pos h2]; rw [h2]
     · rw [if_neg h2, if_pos rfl]
   · rw [if_neg h1]
     by_cases h2 : i = q
     · subst h2; rw [if_pos rfl, if_pos rfl]
     · rw [if_neg h2, if_neg h1, if_neg h2]
 rw [e] at this
 exact this
def gr (p g0 : Nat) : Nat := 4 ^ p * (g0 + 1) - 1
theorem Az8 (p g0 : Nat) : gr (p + 1) g0 = 4 * gr p g0 + 3 := by
 unfold gr
 have h1 : 1 <= 4 ^ p * (g0 + 1) := Nat.mul_pos (Nat.pow_pos (by omega)) (by omega)
 rw [Nat.pow_succ]
 have : 4 ^ p * 4 * (g0 + 1) = 4 * (4 ^ p * (g0 + 1)) := by grind
 omega
theorem Apw (p g0 : Nat) : g0 <= gr p g0 := by
 unfold gr
 have h1 : 1 <= 4 ^ p := Nat.pow_pos (by omega)
 have := Nat.mul_le_mul h1 (Nat.le_refl (g0 + 1))
 omega
theorem Ak9 {p g0 : Nat} (hp : p <= 12) (hg2 : g0 <= 290) : gr p g0 <= 5000000000 := by
 unfold gr
 have h1 : 4 ^ p <= 4 ^ 12 := Nat.pow_le_pow_right (by omega) hp
 have h2 := Nat.mul_le_mul h1 (show g0 + 1 <= 291 by omega)
 have h3 : (4 : Nat) ^ 12 * 291 <= 5000000000 := by decide
 omega
structure N1 (r c cols : Nat) (A0 : Nat -> Nat -> Rat) (g0 cc : Nat) (D : Rat) (piv : List Int) (A : Nat -> Nat -> Rat) : Prop where
 le : piv.length <= cc
 ler : piv.length <= r
 lec : cc <= cols
 sz : MSz r c A (gr piv.length g0)
 szD : Sz D (gr piv.length g0)
 inc : ∀ k, k < piv.length -> 0 <= piv.getD k 0 /\ piv.getD k 0 < (cc : Int)
 mono : ∀ k k', k < k' -> k' < piv.length -> piv.getD k 0 < piv.getD k' 0
 unit : ∀ i k, i < r -> k < piv.length -> A i (piv.getD k 0).toNat = if i = k then 1 else 0
 zero : ∀ i j, piv.length <= i -> i < r -> j < cc -> (∀ k, k < piv.length -> piv.getD k 0 ≠ (j : Int)) -> A i j = 0
 ker : ∀ x, Ker c r A0 x ↔ Ker c r A x
 det : det r A0 = D * det r A
section
variable {r c cols : Nat} {A0 : Nat -> Nat -> Rat} {g0 cc : Nat} {D : Rat} {piv : List Int} {A : Nat -> Nat -> Rat}
theorem N1.skip (I : N1 r c cols A0 g0 cc D piv A) (hc : cc < cols) (h : ∀ i, piv.length <= i -> i < r -> A i cc = 0) : N1 r c cols A0 g0 (cc + 1) D piv A :=
 ⟨by have := I.le; omega, I.ler, hc, I.sz, I.szD, λ k hk => by have := I.inc k hk; omega, I.mono, I.unit, λ i j h1 h2 h3 h4 => by
   by_cases hj : j = cc
   · subst hj; exact h i h1 h2
   · exact I.zero i j h1 h2 (by omega) h4, I.ker, I.det⟩
theorem N1.turn (I : N1 r c cols A0 g0 cc D piv A) (hp : piv.length < r) {q : Nat} (hq : q < r) (hpq : piv.length <= q) (hne : q ≠ piv.length) : N1 r c cols A0 g0 cc (-D) piv (G7 A q piv.length) := by
 refine ⟨I.le, I.ler, I.lec, λ i j hi hj => ?_, I.szD.neg, I.inc, I.mono, λ i k hi hk => ?_, λ i j h1 h2 h3 h4 => ?_, λ x => (I.ker x).trans (At8 A hq hp x), ?_⟩
 · unfold G7
   split
   · exact I.sz _ _ hp hj
   · split
     · exact I.sz _ _ hq hj
     · exact I.sz _ _ hi hj
 · unfold G7
   by_cases h1 : i = q
   · subst h1; rw [if_pos rfl, I.unit _ k hp hk, if_neg (by omega), if_neg (by omega)]
   · rw [if_neg h1]
     by_cases h2 : i = piv.length
     · rw [if_pos h2, I.unit _ k hq hk, if_neg (by omega), if_neg (by omega)]
     · rw [if_neg h2]; exact I.unit i k hi hk
 · unfold G7
   split
   · exact I.zero _ j (Nat.le_refl _) hp h3 h4
   · split
     · exact I.zero _ j hpq hq h3 h4
     · exact I.zero i j h1 h2 h3 h4
 · rw [Ave A hq hp hne, I.det]; grind
theorem Gd (xs : List Int) (w : Int) (i : Nat) : (xs ++ [w]).getD i 0 = if i < xs.length then xs.getD i 0 else if i = xs.length then w else 0 := La xs w i
theorem N1.pivot (I : N1 r c cols A0 g0 cc D piv A) (hp : piv.length < r) (hc : cc < cols) (hcc : cc < c) (h0 : A piv.length cc ≠ 0) (hg : 3 <= g0) : N1 r c cols A0 g0 (cc + 1) (D * A piv.length cc) (piv ++ [(cc : Int)]) (piF A piv.length cc) := by
 have hlen : (piv ++ [(cc : Int)]).length = piv.length + 1 := by simp
 have hG : 3 <= gr piv.length g0 := Nat.le_trans hg (Apw _ _)
 have hG5 := Az8 piv.length g0
 have pB : ∀ i j, i ≠ piv.length -> piB A piv.length cc i j = A i j := λ i j h => by unfold piB; rw [if_neg h]
 have pP : ∀ j, piB A piv.length cc piv.length j = A piv.length j / A piv.length cc := λ j => by unfold piB; rw [if_pos rfl]
 have pF : ∀ i j, i ≠ piv.length -> piF A piv.length cc i j = A i j - A i cc * (A piv.length j / A piv.length cc) := λ i j h => by unfold piF; rw [if_pos h, pB i j h, pB i cc h, pP]
 have pFP : ∀ j, piF A piv.length cc piv.length j = A piv.length j / A piv.length cc := λ j => by unfold piF; rw [if_neg (by omega), pP]
 refine ⟨by have := I.le; rw [hlen]; omega, by rw [hlen]; omega, hc, λ i j hi hj => ?_, ?_, λ k hk => ?_, λ k k' h1 h2 => ?_, λ i k hi hk => ?_, λ i j h1 h2 h3 h4 => ?_, λ x => (I.ker x).trans (Ayc A hp h0 x), ?_⟩
 · rw [hlen, hG5]
   have s1 := I.sz _ _ hp hj
   have s2 := I.sz _ _ hp hcc
   by_cases hip : i = piv.length
   · subst hip; rw [pFP]; exact (s1.div s2 h0).mono (by omega)
   · rw [pF i j hip]
     exact ((I.sz i j hi hj).sub ((I.sz i cc hi hcc).mul (s1.div s2 h0))).mono (by omega)
 · rw [hlen, hG5]; exact (I.szD.mul (I.sz _ _ hp hcc)).mono (by omega)
 · rw [Gd]
   rw [hlen] at hk
   split
   · rename_i h; have := I.inc k h; omega
   · rw [if_pos (by omega)]; omega
 · rw [hlen] at h2
   rw [Gd, Gd, if_pos (by omega)]
   split
   · rename_i h; exact I.mono k k' h1 h
   · rw [if_pos (by omega)]; exact (I.inc k (by omega)).2
 · rw [hlen] at hk
   rw [Gd]
   by_cases hkp : k < piv.length
   · rw [if_pos hkp]
     have u1 := I.unit piv.length k hp hkp
     rw [if_neg (by omega)] at u1
     by_cases hip : i = piv.length
     · subst hip; rw [pFP, u1, if_neg (by omega)]; grind
     · rw [pF i _ hip, u1, I.unit i k hi hkp]; grind
   · have hkp : k = piv.length := by omega
     rw [if_neg (by omega), if_pos hkp, Int.toNat_natCast]
     by_cases hip : i = piv.length
     · subst hip; rw [pFP, if_pos (by omega)]; grind
     · rw [pF i cc hip, if_neg (by omega)]; grind
 · rw [hlen] at h1 h4
   have hj : j < cc := by
     have := h4 piv.length (by omega)
     rw [Gd, if_neg (by omega), if_pos rfl] at this
     omega
   have h4' : ∀ k, k < piv.length -> piv.getD k 0 ≠ (j : Int) := λ k hk => by
     have := h4 k (by omega)
     rw [Gd, if_pos hk] at this
     exact this
   rw [pF i j (by omega), I.zero i j (by omega) h2 hj h4', I.zero piv.length j (Nat.le_refl _) hp hj h4']
   grind
 · rw [I.det, Aym A hp h0]; grind
end
theorem Aiv {m : QmM} {r c : Nat} (h1 : m.V.length = r) (h2 : ∀ i, i < r -> (m.V.getD i []).length = c) (hr : r <= 1000) (hc : c <= 1000) : Ar (Rm m) λ o => o.V = m.V /\ o.C = m.C := by
 unfold Rm
 rw [At]
 refine (As (I := λ s : Int × List (List Al) => ∃ n : Nat, s.1 = (n : Int) /\ n <= r /\ s.2 = m.V.take n) (μ := λ s : Int × List (List Al) => r - s.1.toNat) (Q := λ o => o = m.V) ⟨0, rfl, Nat.zero_le _, by simp⟩ ?_).mono ?_
 · rintro ⟨i, w⟩ ⟨n, g1, g2, g3⟩
   simp only at g1 g3
   subst g1
   unfold Q5
   simp only [Ai, Ah, Ae, decide_eq_true_eq, Av, Aw, Af, Int.toNat_natCast]
   refine ⟨λ h => ?_, λ h => ?_⟩
   · have hn : n < r := by omega
     have hl := h2 n hn
     rw [Bg (by omega) (by omega), g3]
     refine ⟨by omega, by rw [hl]; unfold Ap; omega, by rw [List.length_take]; unfold Ap; omega, ⟨n + 1, by simp, by omega, ?_⟩, by omega⟩
     rw [List.take_add_one, List.getD_eq_getElem?_getD, List.getElem?_eq_getElem (by omega)]
     rfl
   · rw [g3, List.take_of_length_le (by omega)]
 · rintro o rfl
   rw [Ae]
   exact ⟨rfl, rfl⟩
theorem Tq {m : QmM} {r c cols : Nat} {A0 : Nat -> Nat -> Rat} (M : E4 m.V r c A0) (hr : r <= 12) (hc : c <= 13) (hcols : cols <= c) {g0 : Nat} (S : MSz r c A0 g0) (hg : 3 <= g0) (hg2 : g0 <= 290) :
   Ar (Kp m (cols : Int)) λ o => ∃ (D : Rat) (A : Nat -> Nat -> Rat) (cc : Nat), o.1.C = m.C /\ E4 o.1.V r c A /\ Cc o.2.2 D /\ N1 r c cols A0 g0 cc D o.2.1 A /\ (cc = cols \/ o.2.1.length = r) := by
 unfold Kp
 refine (Aiv M.rows M.cols (by omega) (by omega)).bind ?_
 rintro y1 ⟨hV, hC⟩
 refine (Dj (n := 1) (by omega) (by omega)).bind ?_
 rintro y2 hy2
 rw [At]
 have hpow : ∀ p, p <= 12 -> gr p g0 <= 5000000000 := λ p hp => Ak9 hp hg2
 refine (As (I := λ s : Int × Int × List Int × Bool × Int × List Int × Bool × List Int × List (List Al) => ∃ (cc : Nat) (D : Rat) (A : Nat -> Nat -> Rat), s.1 = (cc : Int) /\ Cc ⟨⟨s.2.1, s.2.2.1, s.2.2.2.1⟩, ⟨s.2.2.2.2.1, s.2.2.2.2.2.1, s.2.2.2.2.2.2.1⟩⟩ D /\ E4 s.2.2.2.2.2.2.2.2 r c A /\ N1 r c cols A0 g0 cc D s.2.2.2.2.2.2.2.1 A)
   (μ := λ s : Int × Int × List Int × Bool × Int × List Int × Bool × List Int × List (List Al) => cols - s.1.toNat)
   (Q := λ s : Int × List Int × Bool × Int × List Int × Bool × List Int × List (List Al) => ∃ (D : Rat) (A : Nat -> Nat -> Rat) (cc : Nat), E4 s.2.2.2.2.2.2.2 r c A /\ Cc ⟨⟨s.1, s.2.1, s.2.2.1⟩, ⟨s.2.2.2.1, s.2.2.2.2.1, s.2.2.2.2.2.1⟩⟩ D /\ N1 r c cols A0 g0 cc D s.2.2.2.2.2.2.1 A /\ (cc = cols \/ s.2.2.2.2.2.2.1.length = r))
   ⟨0, 1, A0, rfl, hy2, by show E4 y1.V r c A0; rw [hV]; exact M, ?_⟩ ?_).mono ?_
 · refine ⟨Nat.le_refl _, Nat.zero_le _, Nat.zero_le _, by simpa [gr] using S, ?_, λ k hk => by simp at hk, λ k k' _ hk => by simp at hk, λ i k _ hk => by simp at hk, λ i j _ _ hj _ => by omega, λ x => Iff.rfl, by grind⟩
   have hp : (4294967296 : Int) ^ 1 <= 4294967296 ^ (gr ([] : List Int).length g0) := Dg (Nat.le_trans (by omega) (Apw _ _))
   unfold Sz
   simp at hp ⊢
   omega
 · rintro ⟨i, d1, d2, d3, d4, d5, d6, piv, w⟩ ⟨cc, D, A, h1, h2, h3, I⟩
   simp only at h1 h2 h3 I
   subst h1
   have hw := h3.rows
   -- the pivot's round
   have J : ∀ {e1 : Int} {e2 : List Int} {e3 : Bool} {e4 : Int} {e5 : List Int} {e6 : Bool} {D' : Rat} {S' : Nat -> Nat -> Rat} {w' : List (List Al)} (o : Int × Bool), piv.length < r -> cc < cols -> Cc ⟨⟨e1, e2, e3⟩, ⟨e4, e5, e6⟩⟩ D' -> E4 w' r c S' -> N1 r c cols A0 g0 cc D' piv S' -> S' piv.length cc ≠ 0 ->
       Ar (Jv (cols : Int) (cc : Int) piv w e1 e2 e3 e4 e5 e6 w' o y1) (Id (λ s : Int × Int × List Int × Bool × Int × List Int × Bool × List Int × List (List Al) => ∃ (cc : Nat) (D : Rat) (A : Nat -> Nat -> Rat), s.1 = (cc : Int) /\ Cc ⟨⟨s.2.1, s.2.2.1, s.2.2.2.1⟩, ⟨s.2.2.2.2.1, s.2.2.2.2.2.1, s.2.2.2.2.2.2.1⟩⟩ D /\ E4 s.2.2.2.2.2.2.2.2 r c A /\ N1 r c cols A0 g0 cc D s.2.2.2.2.2.2.2.1 A)
         (λ s : Int × Int × List Int × Bool × Int × List Int × Bool × List Int × List (List Al) => cols - s.1.toNat) ((cc : Int), d1, d2, d3, d4, d5, d6, piv, w)
         (λ s : Int × List Int × Bool × Int × List Int × Bool × List Int × List (List Al) => ∃ (D : Rat) (A : Nat -> Nat -> Rat) (cc : Nat), E4 s.2.2.2.2.2.2.2 r c A /\ Cc ⟨⟨s.1, s.2.1, s.2.2.1⟩, ⟨s.2.2.2.1, s.2.2.2.2.1, s.2.2.2.2.2.1⟩⟩ D /\ N1 r c cols A0 g0 cc D s.2.2.2.2.2.2.1 A /\ (cc = cols \/ s.2.2.2.2.2.2.1.length = r))) := by
     intro e1 e2 e3 e4 e5 e6 D' S' w' o hp hcc hD hM hI h0
     have hgp := hpow piv.length (by omega)
     have hw' := hM.rows
     have hcp := hM.cols piv.length hp
     have hx := hM.rep piv.length cc hp (by omega)
     unfold Jv
     simp only [Ah, At, Af, Int.toNat_natCast, hcp]
     refine ⟨by omega, by omega, ?_⟩
     refine (Jm hD hx hI.szD (hI.sz _ _ hp (by omega)) (by omega)).mono ?_
     rintro y hy
     refine ⟨by omega, ?_⟩
     refine (Acq hM (by omega) (by omega) hI.sz hgp (by omega) hp h0 (cols : Int) (cc : Int) w o y1 y hx).mono ?_
     rintro w1 hw1
     have hw1r := hw1.rows
     have hwB : E4 w1 r c (piB S' piv.length cc) := hw1
     refine (Af1 hwB (by omega) (by omega) hgp hp (by omega) (λ i j hi hne hj => by unfold piB; rw [if_neg hne]; exact hI.sz i j hi hj)
       (λ j hj => by unfold piB; rw [if_pos rfl]; exact ((hI.sz _ _ hp hj).div (hI.sz _ _ hp (by omega)) h0).mono (by omega)) (cols : Int) w o w1 hw1r y1 y).mono ?_
     rintro w2 hw2
     rw [Ae, Av, Bg (by omega) (by omega)]
     refine ⟨by unfold Ap; have := hI.ler; simp; omega, ⟨cc + 1, D' * S' piv.length cc, piF S' piv.length cc, by simp, hy, hw2, hI.pivot hp hcc (by omega) h0 hg⟩, by simp; omega⟩
   unfold M5
   simp only [Ai, At, Ae, Ah, decide_eq_true_eq, Bool.not_eq_true', decide_eq_false_iff_not, Av, Aw, Af]
   refine ⟨λ hcc => ⟨λ hp => ?_, λ hp => ⟨D, A, cc, h3, h2, I, .inr (by have := I.ler; omega)⟩⟩, λ hcc => ⟨D, A, cc, h3, h2, I, .inl (by have := I.lec; omega)⟩⟩
   have hcc : cc < cols := by omega
   have hp : piv.length < r := by omega
   refine (Aij h3 (by omega) (cc := cc) (p0 := piv.length) (by omega) (by omega) (cols : Int) d1 d2 d3 d4 d5 d6 piv y1 _).mono ?_
   rintro ⟨o1, o2⟩ ⟨q, hq, hq1, hq2, hq3, hq4⟩
   simp only at hq
   subst hq
   simp only [Int.toNat_natCast]
   refine ⟨λ he => ?_, λ he => ⟨λ hne => ?_, λ heq => ?_⟩⟩
   · rw [Bg (by omega) (by omega)]
     exact ⟨⟨cc + 1, D, A, by simp, h2, h3, I.skip hcc λ i h1 h2 => hq3 i h1 (by omega)⟩, by omega⟩
   · have hqr : q < r := by omega
     refine ⟨by omega, by omega, by omega, by omega, trivial, trivial, ?_⟩
     have hgp := hpow piv.length (by omega)
     refine (W0 h2 I.szD (by omega)).mono ?_
     rintro y hy
     refine J (q, o2) hp hcc hy (h3.swap hqr hp) (I.turn hp hqr hq1 (by omega)) ?_
     unfold G7
     rw [if_neg (by omega), if_pos rfl]
     exact hq4 hqr
   · have hqr : q = piv.length := by omega
     subst hqr
     exact J _ hp hcc h2 h3 I (hq4 hp)
 · rintro ⟨d1, d2, d3, d4, d5, d6, piv, w⟩ ⟨D, A, cc, h1, h2, h3, h4⟩
   rw [Ae]
   exact ⟨D, A, cc, hC, h1, h2, h3, h4⟩
end Go.Ab
