/- Potentials and currents of a network in the document's answer. Potentials, heat and resistances: the program's and the document's are the same. The trees of a network, a node taken out by a star each time. Conditions: none beyond those that each theorem names. -/
import Derived.Test.YtjdgmcngpiookaaGreatS26
namespace Go.Ab
open Go
set_option linter.unusedVariables false
set_option linter.unusedSimpArgs false
theorem Nj {g : An} {n : Nat} (G : GOk g n) {v : List Aa} (hv : v.length = n) {x : Nat -> Rat} (hx : ∀ i, i < n -> Cd (v.getD i Ao) (x i)) (hxs : ∀ i, i < n -> Sz (x i) 1) (src : Bool)
   {l : List Int} (J : JOk g n l) {p : Nat -> Rat} (hp0 : ∀ i, i < n -> rep l i -> p i = 0) (hp : ∀ i, i < n -> sm n (λ j => lap g i j * p j) = inK g src x g.Arms.length i) :
   Ar (Ct g v src) λ o => o.length = n /\ ∀ i, i < n -> Cd (o.getD i Ao) (p i) := by
 have hn := G.nodes
 have h12 := G.n12
 have h40 := G.arms
 unfold Ct
 refine (R4 G).bind ?_
 rintro l' J'
 have hl' := J'.lok.len
 simp only [Ah, hn, Int.toNat_natCast]
 refine ⟨by omega, by omega, by unfold Ap; omega, by rw [hv]; unfold Ap; omega, ?_⟩
 refine Ar.bind (R := λ o => E3 o n n λ _ _ => 0) (As (I := λ s : Int × List (List Aa) => ∃ k : Nat, s.1 = (k : Int) /\ k <= n /\ s.2.length = n /\ ∀ i, i < k -> s.2.getD i [] = List.replicate n ⟨⟨[], false⟩, ⟨[], false⟩⟩) (μ := λ s : Int × List (List Aa) => n - s.1.toNat)
   ⟨0, rfl, Nat.zero_le _, by simp, λ i hi => by omega⟩ ?_) ?_
 · rintro ⟨k', w⟩ ⟨k, h1, h3, h4, h5⟩
   simp only at h1 h4 h5
   subst h1
   unfold Gb
   rw [hn]
   simp only [Ai, Ah, Ae, decide_eq_true_eq, Av, Aw, Af, Int.toNat_natCast]
   refine ⟨λ h => ?_, λ h => ⟨h4, λ i hi => by rw [h5 i (by omega), List.length_replicate], λ i j hi hj => ?_⟩⟩
   · rw [Bg (by omega) (by omega)]
     refine ⟨by omega, by omega, by unfold Ap; omega, by omega, ⟨k + 1, by simp, by omega, by simp [h4], λ i hi => ?_⟩, by omega⟩
     rw [Bf]
     split
     · rfl
     · exact h5 i (by omega)
   · unfold rm; rw [h5 i (by omega)]; exact Ai0 hj
 rintro w0 M0
 refine (Ae5 G hv hx hxs src l' M0).bind ?_
 rintro ⟨w1, b1⟩ ⟨M1, hb1, hr1⟩
 simp only at M1 hb1 hr1
 have hxp : ∀ i, i < n -> Sz (inK g src x g.Arms.length i) 250 := λ i hi => by
   unfold inK
   have f := (Yx G i g.Arms.length (Nat.le_refl _)).mono (show 1 + 6 * g.Arms.length <= 241 by omega)
   split
   · exact ((hxs i hi).add f).mono (by omega)
   · exact ((hxs i hi).add (D3 0)).mono (by omega)
 refine Ar.bind (R := λ o => ∃ (R : Nat) (B : Nat -> Nat -> Rat) (z : Nat -> Rat), n <= R /\ R <= n + n /\ E3 o.1 R n B /\ o.2.length = R /\ (∀ i, i < R -> Cd (o.2.getD i Ao) (z i)) /\ (∀ i j, i < n -> B i j = lap g i j) /\ (∀ i, i < n -> z i = inK g src x g.Arms.length i) /\
     (∀ i, n <= i -> i < R -> ∃ u, u < n /\ rep l' u /\ (∀ j, B i j = if j = u then 1 else 0) /\ z i = 0) /\ ∀ u, u < n -> rep l' u -> ∃ i, n <= i /\ i < R /\ ∀ j, B i j = if j = u then 1 else 0)
   (As (I := λ s : Int × List (List Aa) × List Aa => ∃ (k R : Nat) (B : Nat -> Nat -> Rat) (z : Nat -> Rat), s.1 = (k : Int) /\ k <= n /\ n <= R /\ R <= n + k /\ E3 s.2.1 R n B /\ s.2.2.length = R /\ (∀ i, i < R -> Cd (s.2.2.getD i Ao) (z i)) /\ (∀ i j, i < n -> B i j = lap g i j) /\ (∀ i, i < n -> z i = inK g src x g.Arms.length i) /\
     (∀ i, n <= i -> i < R -> ∃ u, u < n /\ rep l' u /\ (∀ j, B i j = if j = u then 1 else 0) /\ z i = 0) /\ ∀ u, u < k -> rep l' u -> ∃ i, n <= i /\ i < R /\ ∀ j, B i j = if j = u then 1 else 0) (μ := λ s : Int × List (List Aa) × List Aa => n - s.1.toNat)
     ⟨0, n, lap g, _, rfl, Nat.zero_le _, Nat.le_refl _, Nat.le_refl _, M1, hb1, hr1, λ i j _ => rfl, λ i _ => rfl, λ i h1 h2 => by omega, λ u h => by omega⟩ ?_) ?_
 · rintro ⟨k', w, b⟩ ⟨k, R, B, z, h1, h2, h3, h4, M, hb, hr, hB, hz, hn1, hn2⟩
   simp only at h1 M hb hr
   subst h1
   unfold Gc Et
   rw [hn]
   have hm := M.rows
   simp only [Ai, Ah, At, Ae, decide_eq_true_eq, Av, Aw, Af, Int.toNat_natCast, List.length_replicate]
   refine ⟨λ h => ⟨by omega, λ hrep => ⟨by omega, by omega, by unfold Ap; omega, ?_⟩, λ hrep => ?_⟩, λ h => ⟨R, B, z, h3, by omega, M, hb, hr, hB, hz, hn1, λ u hu hru => hn2 u (by omega) hru⟩⟩
   · refine (Md (n := 1) (by omega) (by omega)).mono ?_
     rintro y1 hy1
     rw [Bg (by omega) (by omega)]
     obtain ⟨B', c1, c2⟩ : ∃ B' : Nat -> Nat -> Rat, (∀ j, B' R j = if j = k then 1 else 0) /\ ∀ i j, i ≠ R -> B' i j = B i j := ⟨λ i j => if i = R then (if j = k then 1 else 0) else B i j, λ j => if_pos rfl, λ i j h => if_neg h⟩
     obtain ⟨z', d1, d2⟩ : ∃ z' : Nat -> Rat, z' R = 0 /\ ∀ i, i ≠ R -> z' i = z i := ⟨λ i => if i = R then 0 else z i, if_pos rfl, λ i h => if_neg h⟩
     refine ⟨by omega, by unfold Ap; omega, by simp only [List.length_singleton]; unfold Ap; omega, ⟨k + 1, R + 1, B', z', by simp, by omega, by omega, by omega, ?_, by simp [hb], λ i hi => ?_, λ i j hi => by rw [c2 i j (by omega), hB i j hi], λ i hi => by rw [d2 i (by omega), hz i hi], λ i h1 h2 => ?_, λ u hu hru => ?_⟩, by omega⟩
     · refine M.push (by simp) (λ j hj => ?_) (λ a b ha _ => c2 a b (by omega))
       rw [c1, Bf, List.length_replicate]
       by_cases hjk : j = k
       · rw [if_pos ⟨hjk, by omega⟩, if_pos hjk]; exact hy1
       · rw [if_neg (by omega), if_neg hjk]; exact Ai0 hj
     · show Cd ((b ++ [(⟨⟨[], false⟩, ⟨[], false⟩⟩ : Aa)]).getD i Ao) _
       rw [Eg, hb]
       by_cases hiR : i < R
       · rw [if_pos hiR, d2 i (by omega)]; exact hr i hiR
       · have hiR : i = R := by omega
         subst hiR
         rw [if_neg (by omega), if_pos rfl, d1]; exact rz
     · by_cases hiR : i = R
       · subst hiR; exact ⟨k, by omega, hrep, c1, d1⟩
       · obtain ⟨u, u1, u2, u3, u4⟩ := hn1 i h1 (by omega)
         exact ⟨u, u1, u2, λ j => by rw [c2 i j hiR, u3 j], by rw [d2 i hiR, u4]⟩
     · by_cases huk : u = k
       · subst huk; exact ⟨R, h3, by omega, c1⟩
       · obtain ⟨i, i1, i2, i3⟩ := hn2 u (by omega) hru
         exact ⟨i, i1, by omega, λ j => by rw [c2 i j (by omega), i3 j]⟩
   · rw [Bg (by omega) (by omega)]
     refine ⟨⟨k + 1, R, B, z, by simp, by omega, h3, by omega, M, hb, hr, hB, hz, hn1, λ u hu hru => ?_⟩, by omega⟩
     by_cases huk : u = k
     · subst huk; exact (hrep hru).elim
     · exact hn2 u (by omega) hru
 rintro ⟨w2, b2⟩ ⟨R, B, z, h3, h4, M, hb, hr, hB, hz, hn1, hn2⟩
 simp only at M hb hr
 have unit : ∀ (y : Nat -> Rat) {i u : Nat}, u < n -> (∀ j, B i j = if j = u then 1 else 0) -> sm n (λ j => B i j * y j) = y u := λ y i u hu h => by
   rw [H8 (k := u) hu (λ j _ hne => by rw [h j, if_neg hne]; grind), h u, if_pos rfl]; grind
 have lapr : ∀ (y : Nat -> Rat) {i : Nat}, i < n -> sm n (λ j => B i j * y j) = sm n λ j => lap g i j * y j := λ y i hi => Bl λ j _ => by rw [hB i j hi]
 refine (V7 M (by omega) h12 h3 (g0 := 250) (λ i j hi hj => ?_) (by omega) (by omega) hb hr (λ i hi => ?_) (λ y hy => ?_) (x0 := p) (λ i hi => ?_)).bind ?_
 · by_cases hin : i < n
   · rw [hB i j hin]; exact (Vf G i j _ (Nat.le_refl _)).mono (by omega)
   · obtain ⟨u, _, _, u3, _⟩ := hn1 i (by omega) hi
     rw [u3 j]; split
     · exact (G6 0).mono (by omega)
     · exact (D3 0).mono (by omega)
 · by_cases hin : i < n
   · rw [hz i hin]; exact hxp i hin
   · obtain ⟨u, _, _, _, u4⟩ := hn1 i (by omega) hi
     rw [u4]; exact (D3 0).mono (by omega)
 · refine P7 G J' y (λ i hi hri => ?_) (λ i hi _ => ?_)
   · obtain ⟨i', i1, i2, i3⟩ := hn2 i hi hri
     rw [<- unit y hi i3]; exact hy i' i2
   · rw [<- lapr y hi]; exact hy i (by omega)
 · by_cases hin : i < n
   · rw [lapr p hin, hz i hin]; exact hp i hin
   · obtain ⟨u, u1, u2, u3, u4⟩ := hn1 i (by omega) hi
     rw [unit p u1 u3, u4]; exact hp0 u u1 (J'.rep_iff J u1 u2)
 · rintro o ho
   rw [Ae]
   exact ho
theorem Pq {g : An} {n : Nat} (G : GOk g n) {v : List Aa} (hv : v.length = n) {p : Nat -> Rat} (hp : ∀ i, i < n -> Cd (v.getD i Ao) (p i)) (hs : ∀ i, i < n -> Sz (p i) 5000000000) :
   Ar (Cv g v) λ r => r.length = g.Arms.length /\ ∀ e, e < g.Arms.length -> Cd (r.getD e Ao) (cur g p e) := by
 have h40 := G.arms
 unfold Cv
 refine Ar.bind (As (I := λ s : Int × List Aa => ∃ k : Nat, s.1 = (k : Int) /\ k <= g.Arms.length /\ s.2.length = k /\ ∀ e, e < k -> Cd (s.2.getD e Ao) (cur g p e)) (μ := λ s : Int × List Aa => g.Arms.length - s.1.toNat)
   (Q := λ r => r.length = g.Arms.length /\ ∀ e, e < g.Arms.length -> Cd (r.getD e Ao) (cur g p e)) ⟨0, rfl, Nat.zero_le _, rfl, λ e he => by omega⟩ ?_) λ r hr => Ae.2 hr
 rintro ⟨i, w⟩ ⟨k, g1, g2, g3, g4⟩
 simp only at g1 g3 g4
 subst g1
 unfold Fh
 simp only [Ai, Ah, At, Ae, decide_eq_true_eq, Aw, Af, Int.toNat_natCast]
 refine ⟨λ h => ?_, λ h => ?_⟩
 · have hk : k < g.Arms.length := by omega
   obtain ⟨a1, a2, a3, a4⟩ := G.ab hk
   have eA : (List.getD g.Arms k Ac).A = (nA g k : Int) := a3
   have eB : (List.getD g.Arms k Ac).B = (nB g k : Int) := a4
   have arm : Ke n (am g k) := G.arm k hk
   rw [eA, eB]
   simp only [Int.toNat_natCast]
   refine ⟨by omega, by omega, by omega, ?_⟩
   refine (Jl (hp _ a1) (hp _ a2) (hs _ a1) (hs _ a2) (by omega)).mono ?_
   rintro y1 hy1
   have s1 := (hs _ a1).sub (hs _ a2)
   refine (S4 (x := (am g k).E) arm.e).mono ?_
   rintro y2 hy2
   refine (Fm hy1 hy2 s1 (Fv arm.e) (by omega)).mono ?_
   rintro y3 hy3
   have s3 := s1.add (Fv arm.e)
   refine (S4 (x := (am g k).R) arm.r).mono ?_
   rintro y4 hy4
   refine (Ss hy3 hy4 s3 (Fv arm.r) (by omega) (Rat.ne_of_gt (O5 arm.r arm.rpos))).mono ?_
   rintro y5 hy5
   rw [Av, Bg (by omega) (by omega)]
   refine ⟨by simp only [List.length_singleton]; unfold Ap; omega, ⟨k + 1, by simp, by omega, by simp [g3], λ e he => ?_⟩, by simp; omega⟩
   show Cd ((w ++ [y5]).getD e Ao) (cur g p e)
   rw [Eg]
   by_cases hek : e = k
   · subst hek; rw [if_neg (by omega), if_pos (by omega)]
     have : cur g p e = (p (nA g e) - p (nB g e) + Ed (am g e).E) / Ed (am g e).R := by unfold cur cond; grind
     rw [this]; exact hy5
   · rw [if_pos (by omega)]; exact g4 e (by omega)
 · have : k = g.Arms.length := by omega
   subst this
   exact ⟨g3, g4⟩
theorem Ahg {g : An} {n : Nat} (G : GOk g n) {p : Nat -> Rat} (hs : ∀ i, i < n -> Sz (p i) 5000000000) {e : Nat} (he : e < g.Arms.length) : Sz (cur g p e) 10000000010 := by
 obtain ⟨a1, a2, _, _⟩ := G.ab he
 have arm : Ke n (am g e) := G.arm e he
 unfold cur
 exact ((((hs _ a1).sub (hs _ a2)).add (Fv arm.e)).mul (show Sz (cond (am g e)) 3 from Nf arm)).mono (by omega)
theorem Xp {v : List Aa} {m : Nat} (hv : v.length = m) (hm : m <= 1000) {x : Nat -> Rat} (hx : ∀ i, i < m -> Cd (v.getD i Ao) (x i)) :
   Ar (Ec v) λ r => (r.2 = true ↔ ∀ i, i < m -> Jf (x i)) /\ (r.2 = true -> r.1.length = m /\ ∀ i, i < m -> r.1.getD i Cj = ⟨(x i).num, (x i).den⟩) := by
 unfold Ec
 refine Ar.bind (R := λ r => match r with | .inl w => (∀ i, i < m -> Jf (x i)) /\ w.length = m /\ ∀ i, i < m -> w.getD i Cj = ⟨(x i).num, (x i).den⟩ | .inr r => r = ([], false) /\ ¬ ∀ i, i < m -> Jf (x i))
   (As (I := λ s : Int × List Au => ∃ k : Nat, s.1 = (k : Int) /\ k <= m /\ s.2.length = k /\ ∀ i, i < k -> Jf (x i) /\ s.2.getD i Cj = ⟨(x i).num, (x i).den⟩) (μ := λ s : Int × List Au => m - s.1.toNat) ⟨0, rfl, Nat.zero_le _, rfl, λ i hi => by omega⟩ ?_) ?_
 · rintro ⟨i, w⟩ ⟨k, h1, h2, h3, h4⟩
   simp only at h1 h3 h4
   subst h1
   unfold Gx
   simp only [Ai, Ah, At, Ae, decide_eq_true_eq, Av, Aw, Af, Int.toNat_natCast]
   refine ⟨λ h => ⟨by omega, ?_⟩, λ h => ?_⟩
   · have hk : k < m := by omega
     refine (X4 (hx k hk)).mono ?_
     rintro ⟨a, ok⟩ ⟨o1, o2⟩
     simp only at o1 o2
     refine ⟨λ h => ⟨trivial, λ hall => ?_⟩, λ h => ?_⟩
     · have := o1.2 (hall k hk); rw [this] at h; cases h
     · have hok : ok = true := by simpa using h
       rw [Bg (by omega) (by omega)]
       refine ⟨by simp only [List.length_singleton]; unfold Ap; omega, ⟨k + 1, by simp, by omega, by simp [h3], λ i hi => ?_⟩, by omega⟩
       rw [Eg]
       by_cases hik : i = k
       · subst hik; rw [if_neg (by omega), if_pos (by omega)]; exact ⟨o1.1 hok, o2 hok⟩
       · rw [if_pos (by omega)]; exact h4 i (by omega)
   · have : k = m := by omega
     subst this
     exact ⟨λ i hi => (h4 i hi).1, h3, λ i hi => (h4 i hi).2⟩
 · rintro (w | r) h
   · obtain ⟨h1, h2, h3⟩ := h
     refine Ae.2 ⟨⟨λ _ => h1, λ _ => rfl⟩, λ _ => ⟨h2, h3⟩⟩
   · obtain ⟨rfl, h2⟩ := h
     exact Ae.2 ⟨⟨λ h => (by cases h), λ h => (h2 h).elim⟩, λ h => (by cases h)⟩
instance (x : Rat) : Decidable (Jf x) := inferInstanceAs (Decidable (_ /\ _ /\ _))
def Ps (x : Rat) : Au × Int := if Jf x then (⟨x.num, x.den⟩, 0) else (⟨0, 0⟩, 3)
theorem Xn {r : Au × Int} {x : Rat} (h1 : r.2 = 0 ↔ Jf x) (h2 : r.2 = 0 -> r.1 = ⟨x.num, x.den⟩) (h3 : r.2 ≠ 0 -> r = (⟨0, 0⟩, 3)) : r = Ps x := by
 unfold Ps
 by_cases h : Jf x
 · rw [if_pos h, <- h2 (h1.2 h), <- h1.2 h]
 · rw [if_neg h]; exact h3 λ h0 => h (h1.1 h0)
theorem Ry {q : Al} {x : Rat} (h : Cc q x) : Ar (Hx q) λ r => r = Ps x := (O6 h).mono λ r hr => Xn hr.1 hr.2.1 hr.2.2
theorem Kv {q : Aa} {x : Rat} (h : Cd q x) : Ar (Cg q) λ r => r = Ps x := by
 unfold Cg
 refine (X4 h).bind ?_
 rintro ⟨a, ok⟩ ⟨o1, o2⟩
 simp only at o1 o2
 cases ok with
 | true => rw [if_neg (by simp), Ae, Ps, if_pos (o1.1 rfl), o2 rfl]
 | false => rw [if_pos (show (!(a, false).2) = true from rfl), Ae, Ps, if_neg λ ht => by have := o1.2 ht; cases this]
def Zy (g : An) : Int := if 40 < g.Arms.length then 3 else 1
section
variable {α : Type} {g : An} {n : Nat} {F : Int -> α} {rest : Int -> Option α}
theorem Ww (h : ¬ ∃ n, GOk g n) : Ar (Option.bind (J7 g) λ y => if !decide (y = (0 : Int)) then some (F y) else rest y) λ r => r = F (Zy g) := by
 refine (Me g).bind ?_
 rintro e ⟨e1, _, e3⟩
 have he : e ≠ 0 := λ h0 => h (e1 h0)
 rw [if_pos (by simp [he]), Ae, e3 he]; rfl
theorem Wq (h : ¬ ∃ n, GOk g n) : Ar (Option.bind (By g) λ y => if !decide (y = (0 : Int)) then some (F y) else rest y) λ r => r = F (Zy g) := by
 refine (P0 g).bind ?_
 rintro e ⟨e1, _, e3⟩
 have he : e ≠ 0 := λ h0 => h (e1 h0)
 rw [if_pos (by simp [he]), Ae, e3 he]; rfl
theorem A8t (G : GOk g n) {Q : α -> Prop} (h : Ar (rest 0) Q) : Ar (Option.bind (J7 g) λ y => if !decide (y = (0 : Int)) then some (F y) else rest y) Q := by
 refine (Me g).bind ?_
 rintro e ⟨_, e2, _⟩
 have e0 : e = 0 := e2 ⟨n, G⟩
 subst e0
 rw [if_neg (by simp)]; exact h
theorem Ab4 (G : GOk g n) {Q : α -> Prop} (h : Ar (rest 0) Q) : Ar (Option.bind (By g) λ y => if !decide (y = (0 : Int)) then some (F y) else rest y) Q := by
 refine (P0 g).bind ?_
 rintro e ⟨_, e2, _⟩
 have e0 : e = 0 := e2 ⟨n, G⟩
 subst e0
 rw [if_neg (by simp)]; exact h
end
def Zp (g : An) (n : Nat) (p : Nat -> Rat) (r : List Au × List Au × Int) : Prop :=
 (¬ Xe g n p -> r = ([], [], 3)) /\ (Xe g n p -> r.2.2 = 0 /\ r.1.length = n /\ (∀ i, i < n -> r.1.getD i Cj = ⟨(p i).num, (p i).den⟩) /\ r.2.1.length = g.Arms.length /\ ∀ e, e < g.Arms.length -> r.2.1.getD e Cj = ⟨(cur g p e).num, (cur g p e).den⟩)
theorem Zp.eq {g : An} {n : Nat} {p : Nat -> Rat} {r s : List Au × List Au × Int} (h : Zp g n p r) (k : Zp g n p s) : r = s := by
 by_cases hp : Xe g n p
 · obtain ⟨a1, a2, a3, a4, a5⟩ := h.2 hp
   obtain ⟨b1, b2, b3, b4, b5⟩ := k.2 hp
   obtain ⟨r1, r2, r3⟩ := r
   obtain ⟨s1, s2, s3⟩ := s
   simp only at a1 a2 a3 a4 a5 b1 b2 b3 b4 b5
   rw [a1, b1, Ul Cj (a := r1) (b := s1) (by omega) λ i hi => by rw [a3 i (by omega), b3 i (by omega)], Ul Cj (a := r2) (b := s2) (by omega) λ i hi => by rw [a5 i (by omega), b5 i (by omega)]]
 · rw [h.1 hp, k.1 hp]
structure Pot (g : An) (n : Nat) (l : List Int) (p : Nat -> Rat) : Prop where
 J : JOk g n l
 zero : ∀ i, i < n -> rep l i -> p i = 0
 out : ∀ i, i < n -> sm n (λ j => lap g i j * p j) = flK g g.Arms.length i
theorem Pot.same {g : An} {n : Nat} (G : GOk g n) {l l' : List Int} {p q : Nat -> Rat} (h : Pot g n l p) (k : Pot g n l' q) {i : Nat} (hi : i < n) : p i = q i := by
 have := P7 G h.J (λ j => p j - q j) (λ i hi hr => by show p i - q i = 0; rw [h.zero i hi hr, k.zero i hi (h.J.rep_iff k.J hi hr)]; grind) (λ i hi _ => by
   have e : sm n (λ j => lap g i j * (p j - q j)) = sm n (λ j => lap g i j * p j) - sm n (λ j => lap g i j * q j) := by
     rw [<- Sn]; exact Bl λ j _ => by grind
   rw [e, h.out i hi, k.out i hi]; grind) i hi
 have : p i - q i = 0 := this
 grind
theorem A9w {g : An} {n : Nat} (G : GOk g n) : ∃ l p, Pot g n l p /\ ∀ i, i < n -> Sz (p i) 5000000000 := by
 obtain ⟨_, _, l, p, J, p1, p2, _, _, _, _, s⟩ := Sa G
 exact ⟨l, p, ⟨J, p1, p2⟩, s⟩
theorem Agb (g : An) (i : Nat) : inK g true (λ _ => 0) g.Arms.length i = flK g g.Arms.length i := by unfold inK; rw [if_pos rfl]; grind
theorem Aiw {g : An} {n : Nat} (G : GOk g n) {l : List Int} {p : Nat -> Rat} (h : Pot g n l p) (hs : ∀ i, i < n -> Sz (p i) 5000000000) : Ar (B4 g) (Zp g n p) := by
 have hn := G.nodes
 have h12 := G.n12
 have h40 := G.arms
 unfold B4
 refine Ab4 G ?_
 simp only [Ah, hn, Int.toNat_natCast]
 refine ⟨by omega, by omega, by unfold Ap; omega, ?_⟩
 refine (Nj G (x := λ _ => 0) (by simp) (λ i hi => Ai0 hi) (λ i _ => D3 0) true h.J h.zero (λ i hi => by rw [Agb]; exact h.out i hi)).bind ?_
 rintro v ⟨v1, v2⟩
 refine (Xp v1 (by omega) v2).bind ?_
 rintro ⟨ra, ba⟩ ⟨a1, a2⟩
 refine (Pq G v1 v2 hs).bind ?_
 rintro c ⟨c1, c2⟩
 refine (Xp c1 (by omega) c2).bind ?_
 rintro ⟨rb, bb⟩ ⟨b1, b2⟩
 simp only at a1 a2 b1 b2
 unfold C9
 simp only [Ai, Ae, Bool.not_eq_true']
 refine ⟨λ h => ⟨λ _ => rfl, λ hp => ?_⟩, λ ha => ⟨λ h => ⟨λ _ => rfl, λ hp => ?_⟩, λ hb => ?_⟩⟩
 · rw [a1.2 hp.1] at h; cases h
 · rw [b1.2 hp.2] at h; cases h
 · have ha : ba = true := by simpa using ha
   have hb : bb = true := by simpa using hb
   exact ⟨λ hp => (hp ⟨a1.1 ha, b1.1 hb⟩).elim, λ _ => ⟨rfl, (a2 ha).1, (a2 ha).2, (b2 hb).1, (b2 hb).2⟩⟩
theorem Ann {g : An} : Ar (E2 g) λ r => Ar (B4 g) λ s => r = s /\ r.1.length <= 12 /\ r.2.1.length <= 40 := by
 by_cases hG : ∃ n, GOk g n
 · obtain ⟨n, G⟩ := hG
   refine (N6 G).mono ?_
   rintro r ⟨l, p, J, p1, p2, h1, h2⟩
   have hP : Pot g n l p := ⟨J, p1, p2⟩
   obtain ⟨l', q, hq, hs⟩ := A9w G
   refine (Aiw G hP λ i hi => by rw [hP.same G hq hi]; exact hs i hi).mono ?_
   rintro s hS
   refine ⟨Zp.eq ⟨h1, h2⟩ hS, ?_⟩
   by_cases hp : Xe g n p
   · obtain ⟨_, a2, _, a4, _⟩ := h2 hp
     have := G.n12; have := G.arms; omega
   · rw [h1 hp]; exact ⟨Nat.zero_le _, Nat.zero_le _⟩
 · have h1 : Ar (E2 g) λ r => r = ([], [], Zy g) := Ww hG (F := λ e => ([], [], e))
   have h2 : Ar (B4 g) λ r => r = ([], [], Zy g) := Wq hG (F := λ e => ([], [], e))
   refine h1.mono ?_
   rintro _ rfl
   refine h2.mono ?_
   rintro _ rfl
   exact ⟨rfl, Nat.zero_le _, Nat.zero_le _⟩
def heK (g : An) (p : Nat -> Rat) (k : Nat) : Rat := sm k λ e => cur g p e * cur g p e * Ed (am g e).R
def puK (g : An) (p : Nat -> Rat) (k : Nat) : Rat := sm k λ e => cur g p e * Ed (am g e).E
theorem Aqp {g : An} {n : Nat} (G : GOk g n) {p : Nat -> Rat} (hs : ∀ i, i < n -> Sz (p i) 5000000000) : ∀ k, k <= g.Arms.length -> Sz (heK g p k) (1 + 20000000023 * k) /\ Sz (puK g p k) (1 + 10000000013 * k)
 | 0, _ => ⟨D3 0, D3 0⟩
 | k + 1, h => by
   obtain ⟨h1, h2⟩ := Aqp G hs k (by omega)
   have c := Ahg G hs (e := k) (by omega)
   have arm : Ke n (am g k) := G.arm k (by omega)
   exact ⟨(h1.add ((c.mul c).mul (Fv arm.r))).mono (by omega), (h2.add (c.mul (Fv arm.e))).mono (by omega)⟩
theorem Bgv {g : An} {n : Nat} (G : GOk g n) {l : List Int} {p : Nat -> Rat} (h : Pot g n l p) : heK g p g.Arms.length = puK g p g.Arms.length := by
 have e1 := Ah4 G p
 have e2 : sm n (λ i => p i * sm n λ j => lap g i j * p j) = -sm g.Arms.length λ e => drv g e * (p (nA g e) - p (nB g e)) := by
   rw [Bl (g := λ i => sm g.Arms.length λ e => p i * -(drv g e * evE g e i)) λ i hi => by rw [h.out i hi]; exact (Gu _ _ _).symm, My]
   have : -sm g.Arms.length (λ e => drv g e * (p (nA g e) - p (nB g e))) = sm g.Arms.length λ e => -1 * (drv g e * (p (nA g e) - p (nB g e))) := by rw [Gu]; grind
   rw [this]
   refine Bl λ e he => ?_
   obtain ⟨a1, a2, _, _⟩ := G.ab he
   rw [<- Uy a1 a2 p, <- Gu, <- Gu]
   exact Bl λ i _ => by unfold evE; grind
 have e3 : heK g p g.Arms.length - puK g p g.Arms.length = sm g.Arms.length (λ e => cond (am g e) * ((p (nA g e) - p (nB g e)) * (p (nA g e) - p (nB g e)))) + sm g.Arms.length λ e => drv g e * (p (nA g e) - p (nB g e)) := by
   unfold heK puK
   rw [<- Sn, <- Qs]
   refine Bl λ e he => ?_
   have hc := Aqk (n := n) (a := am g e) (G.arm e he)
   have : cur g p e * cur g p e * Ed (am g e).R = cur g p e * (p (nA g e) - p (nB g e) + Ed (am g e).E) := by unfold cur; grind
   rw [this]; unfold cur drv; grind
 have : heK g p g.Arms.length - puK g p g.Arms.length = 0 := by rw [e3, <- e1, e2]; grind
 grind
def Uo (g : An) (p : Nat -> Rat) : Au × Au × Int :=
 if (Ps (heK g p g.Arms.length)).2 = 0 /\ (Ps (puK g p g.Arms.length)).2 = 0 then ((Ps (heK g p g.Arms.length)).1, (Ps (puK g p g.Arms.length)).1, 0) else (⟨0, 0⟩, ⟨0, 0⟩, 3)
theorem Aft {g : An} {n : Nat} (G : GOk g n) : Ar (Mw g) λ r => ∃ l p, Pot g n l p /\ (∀ i, i < n -> Sz (p i) 5000000000) /\ r = Uo g p := by
 have h40 := G.arms
 unfold Mw
 refine A8t G ?_
 refine (Sa G).bind ?_
 rintro o ⟨l, p, J, p1, p2, o1, o2, c1, c2, hs⟩
 refine (Dj (n := 0) (by omega) (by omega)).bind ?_
 rintro z1 hz1
 refine (Dj (n := 0) (by omega) (by omega)).bind ?_
 rintro z2 hz2
 refine Ar.bind (R := λ s => Cc ⟨⟨s.1, s.2.1, s.2.2.1⟩, ⟨s.2.2.2.1, s.2.2.2.2.1, s.2.2.2.2.2.1⟩⟩ (heK g p g.Arms.length) /\ Cc ⟨⟨s.2.2.2.2.2.2.1, s.2.2.2.2.2.2.2.1, s.2.2.2.2.2.2.2.2.1⟩, ⟨s.2.2.2.2.2.2.2.2.2.1, s.2.2.2.2.2.2.2.2.2.2.1, s.2.2.2.2.2.2.2.2.2.2.2⟩⟩ (puK g p g.Arms.length))
   (As (I := λ s : Int × Int × List Int × Bool × Int × List Int × Bool × Int × List Int × Bool × Int × List Int × Bool => ∃ k : Nat, s.1 = (k : Int) /\ k <= g.Arms.length /\ Cc ⟨⟨s.2.1, s.2.2.1, s.2.2.2.1⟩, ⟨s.2.2.2.2.1, s.2.2.2.2.2.1, s.2.2.2.2.2.2.1⟩⟩ (heK g p k) /\
     Cc ⟨⟨s.2.2.2.2.2.2.2.1, s.2.2.2.2.2.2.2.2.1, s.2.2.2.2.2.2.2.2.2.1⟩, ⟨s.2.2.2.2.2.2.2.2.2.2.1, s.2.2.2.2.2.2.2.2.2.2.2.1, s.2.2.2.2.2.2.2.2.2.2.2.2⟩⟩ (puK g p k)) (μ := λ s : Int × Int × List Int × Bool × Int × List Int × Bool × Int × List Int × Bool × Int × List Int × Bool => g.Arms.length - s.1.toNat)
     ⟨0, rfl, Nat.zero_le _, hz1, hz2⟩ ?_) ?_
 · rintro ⟨i, x1, x2, x3, x4, x5, x6, y1, y2, y3, y4, y5, y6⟩ ⟨k, h1, h2, hx, hy⟩
   simp only at h1 hx hy
   subst h1
   unfold Q7
   simp only [Ai, Ah, At, Ae, decide_eq_true_eq, Av, Aw, Af, Int.toNat_natCast]
   refine ⟨λ h => ?_, λ h => ?_⟩
   · have hk : k < g.Arms.length := by omega
     obtain ⟨s1, s2⟩ := Aqp G hs k (by omega)
     have c := Ahg G hs hk
     have hc := c2 k hk
     have arm : Ke n (am g k) := G.arm k hk
     refine ⟨by omega, by omega, by omega, ?_⟩
     refine (Jm hc hc c c (by omega)).mono ?_
     rintro q1 hq1
     refine (Qn arm.r).mono ?_
     rintro q2 hq2
     refine (Jm hq1 hq2 (c.mul c) (Fv arm.r) (by omega)).mono ?_
     rintro q3 hq3
     refine (Ib hx hq3 s1 ((c.mul c).mul (Fv arm.r)) (by omega)).mono ?_
     rintro q4 hq4
     refine ⟨by omega, ?_⟩
     refine (Qn arm.e).mono ?_
     rintro q5 hq5
     refine (Jm hc hq5 c (Fv arm.e) (by omega)).mono ?_
     rintro q6 hq6
     refine (Ib hy hq6 s2 (c.mul (Fv arm.e)) (by omega)).mono ?_
     rintro q7 hq7
     rw [Bg (by omega) (by omega)]
     exact ⟨⟨k + 1, by simp, by omega, hq4, hq7⟩, by omega⟩
   · have : k = g.Arms.length := by omega
     subst this
     exact ⟨hx, hy⟩
 · rintro s ⟨hx, hy⟩
   refine (Ry hx).bind ?_
   rintro a rfl
   refine (Ry hy).bind ?_
   rintro b rfl
   unfold N3
   simp only [Ai, Ae, Bool.not_eq_true', decide_eq_false_iff_not]
   refine ⟨λ h => ⟨l, p, ⟨J, p1, p2⟩, hs, by unfold Uo; rw [if_neg λ k => h k.1]⟩, λ h1 => ⟨λ h => ⟨l, p, ⟨J, p1, p2⟩, hs, by unfold Uo; rw [if_neg λ k => h k.2]⟩, λ h2 => ⟨l, p, ⟨J, p1, p2⟩, hs, ?_⟩⟩⟩
   unfold Uo; rw [if_pos ⟨Classical.not_not.1 h1, Classical.not_not.1 h2⟩]
theorem Adw {g : An} {n : Nat} (G : GOk g n) {l : List Int} {p : Nat -> Rat} (h : Pot g n l p) (hs : ∀ i, i < n -> Sz (p i) 5000000000) : Ar (Dd g) λ r => r = Uo g p := by
 have hn := G.nodes
 have h12 := G.n12
 have h40 := G.arms
 unfold Dd
 refine Ab4 G ?_
 simp only [Ah, hn, Int.toNat_natCast]
 refine ⟨by omega, by omega, by unfold Ap; omega, ?_⟩
 refine (Nj G (x := λ _ => 0) (by simp) (λ i hi => Ai0 hi) (λ i _ => D3 0) true h.J h.zero (λ i hi => by rw [Agb]; exact h.out i hi)).bind ?_
 rintro v ⟨v1, v2⟩
 refine (Pq G v1 v2 hs).bind ?_
 rintro o ⟨c1, c2⟩
 refine Ar.bind (R := λ s => Cd ⟨⟨s.1, s.2.1⟩, ⟨s.2.2.1, s.2.2.2.1⟩⟩ (heK g p g.Arms.length) /\ Cd ⟨⟨s.2.2.2.2.1, s.2.2.2.2.2.1⟩, ⟨s.2.2.2.2.2.2.1, s.2.2.2.2.2.2.2⟩⟩ (puK g p g.Arms.length))
   (As (I := λ s : Int × List Int × Bool × List Int × Bool × List Int × Bool × List Int × Bool => ∃ k : Nat, s.1 = (k : Int) /\ k <= g.Arms.length /\ Cd ⟨⟨s.2.1, s.2.2.1⟩, ⟨s.2.2.2.1, s.2.2.2.2.1⟩⟩ (heK g p k) /\ Cd ⟨⟨s.2.2.2.2.2.1, s.2.2.2.2.2.2.1⟩, ⟨s.2.2.2.2.2.2.2.1, s.2.2.2.2.2.2.2.2⟩⟩ (puK g p k))
     (μ := λ s : Int × List Int × Bool × List Int × Bool × List Int × Bool × List Int × Bool => g.Arms.length - s.1.toNat) ⟨0, rfl, Nat.zero_le _, rz, rz⟩ ?_) ?_
 · rintro ⟨i, x1, x2, x3, x4, y1, y2, y3, y4⟩ ⟨k, h1, h2, hx, hy⟩
   simp only at h1 hx hy
   subst h1
   unfold Gy
   simp only [Ai, Ah, At, Ae, decide_eq_true_eq, Av, Aw, Af, Int.toNat_natCast, c1]
   refine ⟨λ h => ?_, λ h => ?_⟩
   · have hk : k < g.Arms.length := by omega
     obtain ⟨s1, s2⟩ := Aqp G hs k (by omega)
     have c := Ahg G hs hk
     have hc := c2 k hk
     have arm : Ke n (am g k) := G.arm k hk
     refine ⟨by omega, ?_⟩
     refine (S4 (x := (am g k).R) arm.r).mono ?_
     rintro q1 hq1
     refine ⟨by omega, ?_⟩
     refine (Ie hq1 hc (Fv arm.r) c (by omega)).mono ?_
     rintro q2 hq2
     refine ⟨by omega, ?_⟩
     refine (Ie hq2 hc ((Fv arm.r).mul c) c (by omega)).mono ?_
     rintro q3 hq3
     refine (Fm hx hq3 s1 (((Fv arm.r).mul c).mul c) (by omega)).mono ?_
     rintro q4 hq4
     refine ⟨by omega, ?_⟩
     refine (S4 (x := (am g k).E) arm.e).mono ?_
     rintro q5 hq5
     refine ⟨by omega, ?_⟩
     refine (Ie hq5 hc (Fv arm.e) c (by omega)).mono ?_
     rintro q6 hq6
     refine (Fm hy hq6 s2 ((Fv arm.e).mul c) (by omega)).mono ?_
     rintro q7 hq7
     rw [Bg (by omega) (by omega)]
     refine ⟨⟨k + 1, by simp, by omega, ?_, ?_⟩, by omega⟩
     · rw [show heK g p (k + 1) = heK g p k + Ed (am g k).R * cur g p k * cur g p k by unfold heK; rw [sm]; grind]; exact hq4
     · rw [show puK g p (k + 1) = puK g p k + Ed (am g k).E * cur g p k by unfold puK; rw [sm]; grind]; exact hq7
   · have : k = g.Arms.length := by omega
     subst this
     exact ⟨hx, hy⟩
 · rintro s ⟨hx, hy⟩
   refine (Kv hx).bind ?_
   rintro a rfl
   refine (Kv hy).bind ?_
   rintro b rfl
   unfold Fp
   simp only [Ai, Ae, Bool.not_eq_true', decide_eq_false_iff_not]
   refine ⟨λ h => by unfold Uo; rw [if_neg λ k => h k.1], λ h1 => ⟨λ h => by unfold Uo; rw [if_neg λ k => h k.2], λ h2 => ?_⟩⟩
   unfold Uo; rw [if_pos ⟨Classical.not_not.1 h1, Classical.not_not.1 h2⟩]
theorem Aig {g : An} : Ar (Mw g) λ r => Ar (Dd g) λ s => r = s /\ (r.2.2 = 0 -> r.1 = r.2.1) := by
 by_cases hG : ∃ n, GOk g n
 · obtain ⟨n, G⟩ := hG
   refine (Aft G).mono ?_
   rintro r ⟨l, p, hP, hs, rfl⟩
   refine (Adw G hP hs).mono ?_
   rintro s rfl
   refine ⟨rfl, λ h => ?_⟩
   unfold Uo at h ⊢
   rw [Bgv G hP] at h ⊢
   split <;> rfl
 · have h1 : Ar (Mw g) λ r => r = (⟨0, 0⟩, ⟨0, 0⟩, Zy g) := Ww hG (F := λ e => ((⟨0, 0⟩ : Au), (⟨0, 0⟩ : Au), e))
   have h2 : Ar (Dd g) λ r => r = (⟨0, 0⟩, ⟨0, 0⟩, Zy g) := Wq hG (F := λ e => ((⟨0, 0⟩ : Au), (⟨0, 0⟩ : Au), e))
   refine h1.mono ?_
   rintro _ rfl
   refine h2.mono ?_
   rintro _ rfl
   exact ⟨rfl, λ _ => rfl⟩
theorem A6z {g : An} {n : Nat} (G : GOk g n) {a b : Nat} (ha : a < n) (hb : b < n) (h : Eqv g a b) : ∃ (l : List Int) (p : Nat -> Rat), JOk g n l /\ (∀ i, i < n -> rep l i -> p i = 0) /\ (∀ i, i < n -> sm n (λ j => lap g i j * p j) = ev a b i) /\ ∀ i, i < n -> Sz (p i) 5000000000 := by
 have hq : ∀ i, ∃ q, Cc q (ev a b i) := λ i => by
   obtain ⟨q0, _, h0⟩ := Dj (n := 0) (by omega) (by omega)
   obtain ⟨q1, _, h1⟩ := Dj (n := 1) (by omega) (by omega)
   obtain ⟨q2, _, h2⟩ := Dj (n := -1) (by omega) (by omega)
   rcases L3 a b i with e | e | e <;> rw [e]
   · exact ⟨q0, h0⟩
   · exact ⟨q1, h1⟩
   · exact ⟨q2, h2⟩
 obtain ⟨f, hf⟩ : ∃ f : Nat -> Al, ∀ i, Cc (f i) (ev a b i) := ⟨λ i => (hq i).choose, λ i => (hq i).choose_spec⟩
 have hv : ∀ i, i < n -> Cc (((List.range n).map f).getD i Bd) (ev a b i) := λ i hi => by
   rw [List.getD_eq_getElem?_getD, List.getElem?_map, List.getElem?_range hi]; exact hf i
 obtain ⟨_, _, l, p, J, _, o2, p1, p2⟩ := Ov G (v := (List.range n).map f) (by simp) hv (s := 161) (by omega) (by omega) (λ i _ => by
   rcases L3 a b i with h | h | h <;> rw [h]
   · exact (D3 0).mono (by omega)
   · exact (G6 0).mono (by omega)
   · exact (G6 0).neg.mono (by omega))
 exact ⟨l, p, J, p1, Xx G J p (ev a b) p2 (Asf J ha hb h), λ i hi => (o2 i hi).2⟩
theorem Xl {g : An} {n : Nat} (G : GOk g n) (a b : Int) : Ar (Ck g a b) λ r =>
   (¬ (0 <= a /\ a < (n : Int) /\ 0 <= b /\ b < (n : Int)) -> r = (⟨0, 0⟩, 1)) /\
   ∀ a' b' : Nat, a = (a' : Int) -> b = (b' : Int) -> a' < n -> b' < n -> (¬ Eqv g a' b' -> r = (⟨0, 0⟩, 4)) /\
     (Eqv g a' b' -> ∀ p : Nat -> Rat, (∀ i, i < n -> sm n (λ j => lap g i j * p j) = ev a' b' i) -> r = Ps (p a' - p b')) := by
 have hn := G.nodes
 have h12 := G.n12
 unfold Ck Cn
 refine Ab4 G ?_
 simp only [Ai, Ae, decide_eq_true_eq, hn]
 refine ⟨λ h => ⟨λ _ => trivial, λ a' b' ha hb => by omega⟩, λ g1 => ⟨λ h => ⟨λ _ => trivial, λ a' b' ha hb => by omega⟩, λ g2 => ⟨λ h => ⟨λ _ => trivial, λ a' b' ha hb => by omega⟩, λ g3 => ⟨λ h => ⟨λ _ => trivial, λ a' b' ha hb => by omega⟩, λ g4 => ?_⟩⟩⟩⟩
 obtain ⟨a, rfl⟩ : ∃ k : Nat, a = (k : Int) := ⟨a.toNat, by omega⟩
 obtain ⟨b, rfl⟩ : ∃ k : Nat, b = (k : Int) := ⟨b.toNat, by omega⟩
 have ha : a < n := by omega
 have hb : b < n := by omega
 refine (R4 G).bind ?_
 rintro l J
 have hll := J.lok.len
 simp only [Ah, Ai, Ae, Int.toNat_natCast, Af, hll, Bool.not_eq_true', decide_eq_false_iff_not, List.length_replicate, List.length_set]
 refine ⟨by omega, by omega, λ hne => ⟨λ h => by omega, λ a' b' ea eb _ _ => ?_⟩, λ he => ?_⟩
 · have ea : a = a' := by omega
   have eb : b = b' := by omega
   subst ea eb
   exact ⟨λ _ => trivial, λ h => (hne ((J.iff ha hb).2 h)).elim⟩
 · have he : l.getD a 0 = l.getD b 0 := by omega
   have hE := (J.iff ha hb).1 he
   obtain ⟨l', q, J', q1, q2, q3⟩ := A6z G ha hb hE
   refine ⟨by omega, by omega, by unfold Ap; omega, by omega, ?_⟩
   refine (Md (n := 1) (by omega) (by omega)).bind ?_
   rintro y3 hy3
   refine (Fm (Ai0 ha) hy3 (k := 1) (m := 1) (D3 0) (G6 0) (by omega)).bind ?_
   rintro y4 hy4
   have e1 : (0 : Rat) + ((1 : Int) : Rat) = 1 := by grind
   rw [e1] at hy4
   simp only [Ah]
   refine ⟨by omega, by omega, ?_⟩
   refine (Md (n := 1) (by omega) (by omega)).bind ?_
   rintro y5 hy5
   have hz : ∀ i, i < n -> Cd (((List.replicate n (⟨⟨[], false⟩, ⟨[], false⟩⟩ : Aa)).set a y4).getD i Ao) (if i = a then 1 else 0) := λ i hi => by
     rw [Bf, List.length_replicate]
     by_cases hia : i = a
     · rw [if_pos ⟨hia, by omega⟩, if_pos hia]; exact hy4
     · rw [if_neg (by omega), if_neg hia]; exact Ai0 hi
   refine (Jl (hz b hb) hy5 (k := 1) (m := 1) (by split; exact G6 0; exact D3 0) (G6 0) (by omega)).bind ?_
   rintro y6 hy6
   rw [Ah]
   refine ⟨by omega, ?_⟩
   refine (Nj G (x := ev a b) (by simp) (λ i hi => ?_) (λ i _ => ?_) false J' q1 (λ i hi => by rw [q2 i hi]; unfold inK; rw [if_neg (by simp)]; grind)).bind ?_
   · rw [Bf, List.length_set, List.length_replicate]
     unfold ev
     by_cases hib : i = b
     · rw [if_pos ⟨hib, by omega⟩, if_pos hib, hib]; exact hy6
     · rw [if_neg (by omega), if_neg hib]
       have := hz i hi
       rw [show (if i = a then (1 : Rat) else 0) - 0 = if i = a then 1 else 0 by grind]; exact this
   · rcases L3 a b i with h | h | h <;> rw [h]
     · exact D3 0
     · exact G6 0
     · exact (G6 0).neg
   rintro v ⟨v1, v2⟩
   rw [Ah, Ah]
   refine ⟨by omega, by omega, ?_⟩
   refine (Jl (v2 a ha) (v2 b hb) (q3 a ha) (q3 b hb) (by omega)).bind ?_
   rintro y8 hy8
   refine (Kv hy8).bind ?_
   rintro y9 rfl
   rw [Ae]
   refine ⟨λ h => by omega, λ a' b' ea eb _ _ => ?_⟩
   have ea : a = a' := by omega
   have eb : b = b' := by omega
   subst ea eb
   refine ⟨λ h => (h hE).elim, λ _ p hp => ?_⟩
   rw [Aiu G (x := q) (y := p) (λ i hi => by rw [q2 i hi, hp i hi]) hE]
theorem Z9 {g : An} (a b : Int) : Ar (Hg g a b) λ r => Ar (Ck g a b) λ s => r = s := by
 by_cases hG : ∃ n, GOk g n
 · obtain ⟨n, G⟩ := hG
   refine (R5 G a b).mono ?_
   rintro r ⟨h1, h2⟩
   refine (Xl G a b).mono ?_
   rintro s ⟨k1, k2⟩
   by_cases hr : 0 <= a /\ a < (n : Int) /\ 0 <= b /\ b < (n : Int)
   · have ea : a = (a.toNat : Int) := by omega
     have eb : b = (b.toNat : Int) := by omega
     obtain ⟨h3, h4⟩ := h2 _ _ ea eb (by omega) (by omega)
     obtain ⟨k3, k4⟩ := k2 _ _ ea eb (by omega) (by omega)
     by_cases hE : Eqv g a.toNat b.toNat
     · obtain ⟨p, _, hp, t1, t2, t3⟩ := h4 hE
       rw [Xn t1 t2 t3, k4 hE p hp]
     · rw [h3 hE, k3 hE]
   · rw [h1 hr, k1 hr]
 · have h1 : Ar (Hg g a b) λ r => r = (⟨0, 0⟩, Zy g) := Ww hG (F := λ e => ((⟨0, 0⟩ : Au), e))
   have h2 : Ar (Ck g a b) λ r => r = (⟨0, 0⟩, Zy g) := Wq hG (F := λ e => ((⟨0, 0⟩ : Au), e))
   refine h1.mono ?_
   rintro _ rfl
   exact h2.mono λ _ h => h.symm
theorem Zn : ∀ {n : Nat} {A : Nat -> Nat -> Rat}, (∀ i, i < n -> A i n = 0) -> det (n + 1) A = A n n * det n A
 | 0, A, _ => by simp only [det, sm, alt]; grind
 | k + 1, A, h => by
   have hm : ∀ i, i <= k -> det (k + 1) (D5 A i) = A (k + 1) (k + 1) * det k (D5 A i) := λ i hi => by
     rw [Zn (n := k) (A := D5 A i) λ a ha => by unfold D5; split <;> exact h _ (by omega)]
     congr 1
     unfold D5; rw [if_neg (by omega)]
   have hz : det (k + 1) (D5 A (k + 1)) = 0 := by
     rw [Zn (n := k) (A := D5 A (k + 1)) λ a ha => by unfold D5; rw [if_pos (by omega)]; exact h a (by omega)]
     have : D5 A (k + 1) k k = 0 := by unfold D5; rw [if_pos (by omega)]; exact h k (by omega)
     rw [this]; grind
   have e1 : det (k + 1 + 1) A = sm (k + 1 + 1) λ i => alt i * A i 0 * det (k + 1) (D5 A i) := rfl
   have e2 : det (k + 1) A = sm (k + 1) λ i => alt i * A i 0 * det k (D5 A i) := rfl
   rw [e1, e2, sm, hz, <- Gu, Bl (g := λ i => A (k + 1) (k + 1) * (alt i * A i 0 * det k (D5 A i))) λ i hi => by rw [hm i (by omega)]; grind]
   grind
def kir (n : Nat) (T : Nat -> Nat -> Rat) (i j : Nat) : Rat := if i = j then sm n (T i) else -T i j
def trW (n : Nat) (T : Nat -> Nat -> Rat) : Rat := det (n - 1) λ i j => kir n T (i + 1) (j + 1)
def tru (n : Nat) (T : Nat -> Nat -> Rat) (i k : Nat) : Rat := if k = i then T i k else T i k + T n i * T n k / sm n (T n)
structure Xc (n : Nat) (T : Nat -> Nat -> Rat) : Prop where
 symm : ∀ i j, i < n -> j < n -> T i j = T j i
 self : ∀ i, i < n -> T i i = 0
 pos : ∀ i j, i < n -> j < n -> 0 <= T i j
theorem Ayn (T : Nat -> Nat -> Rat) : trW 1 T = 1 := rfl
theorem Aqa {n : Nat} {T : Nat -> Nat -> Rat} (h : Xc (n + 2) T) (h0 : sm (n + 1) (T (n + 1)) = 0) : trW (n + 2) T = 0 := by
 have hz := Lg (λ i hi => h.pos (n + 1) i (by omega) (by omega)) h0
 show det (n + 1) _ = 0
 refine Pe (k := n) (by omega) λ j hj => ?_
 show kir (n + 2) T (n + 1) (j + 1) = 0
 unfold kir
 by_cases hjn : n = j
 · subst hjn
   rw [if_pos rfl, sm, h0, h.self (n + 1) (by omega)]; grind
 · rw [if_neg (by omega), hz (j + 1) (by omega)]; grind
theorem Aoy {n : Nat} {T : Nat -> Nat -> Rat} (h : Xc (n + 2) T) (h0 : sm (n + 1) (T (n + 1)) ≠ 0) : trW (n + 2) T = sm (n + 1) (T (n + 1)) * trW (n + 1) (tru (n + 1) T) := by
 obtain ⟨s, hs⟩ : ∃ s, s = sm (n + 1) (T (n + 1)) := ⟨_, rfl⟩
 rw [<- hs] at h0 ⊢
 obtain ⟨M, hM⟩ : ∃ M : Nat -> Nat -> Rat, M = λ i j => kir (n + 2) T (i + 1) (j + 1) := ⟨_, rfl⟩
 have hnn : M n n = s := by rw [hM]; show kir (n + 2) T (n + 1) (n + 1) = s; unfold kir; rw [if_pos rfl, sm, h.self (n + 1) (by omega), hs]; grind
 have e1 : trW (n + 2) T = det (n + 1) M := by rw [hM]; rfl
 rw [e1, <- Sf M (λ i => -(M i n / s)) (show n < n + 1 by omega) (n + 1) (Nat.le_refl _)]
 rw [Zn λ i hi => by rw [if_pos ⟨by omega, by omega⟩, hnn]; grind]
 rw [if_neg (by omega), hnn]
 congr 1
 show _ = det n _
 refine Gf λ i j hi hj => ?_
 rw [if_pos ⟨by omega, by omega⟩]
 have hMi : M i n = -T (n + 1) (i + 1) := by rw [hM]; show kir (n + 2) T (i + 1) (n + 1) = _; unfold kir; rw [if_neg (by omega), h.symm _ _ (by omega) (by omega)]
 have hMn : ∀ j, j < n -> M n j = -T (n + 1) (j + 1) := λ j hj => by rw [hM]; show kir (n + 2) T (n + 1) (j + 1) = _; unfold kir; rw [if_neg (by omega)]
 rw [hMi, hMn j hj]
 have hMij : M i j = kir (n + 2) T (i + 1) (j + 1) := by rw [hM]
 rw [hMij]
 show _ = kir (n + 1) (tru (n + 1) T) (i + 1) (j + 1)
 unfold kir
 by_cases hij : i = j
 · subst hij
   rw [if_pos rfl, if_pos rfl, sm]
   have e2 : sm (n + 1) (tru (n + 1) T (i + 1)) = sm (n + 1) (T (i + 1)) + (T (n + 1) (i + 1) / s * s - T (n + 1) (i + 1) * T (n + 1) (i + 1) / s) := by
     rw [Bl (g := λ k => T (i + 1) k + (T (n + 1) (i + 1) / s * T (n + 1) k - if k = i + 1 then T (n + 1) (i + 1) * T (n + 1) (i + 1) / s else 0)) λ k hk => ?_]
     · rw [Qs, Sn, Gu, <- hs, H8 (k := i + 1) (by omega) (λ k _ hne => if_neg hne), if_pos rfl]
     · unfold tru
       rw [<- hs]
       by_cases hki : k = i + 1
       · rw [if_pos hki, if_pos hki, hki]; grind
       · rw [if_neg hki, if_neg hki]; grind
   rw [e2, h.symm (i + 1) (n + 1) (by omega) (by omega)]
   grind
 · rw [if_neg (by omega), if_neg (by omega)]
   unfold tru
   rw [if_neg (by omega), <- hs]
   grind
theorem A9a {s : Rat} (h : 0 <= s) : 0 <= s⁻¹ := by
 by_cases h0 : s = 0
 · rw [h0, Rat.inv_zero]; exact Rat.le_refl
 · exact Rat.le_of_lt (Rat.inv_pos.2 (by grind))
theorem Xc.next {n : Nat} {T : Nat -> Nat -> Rat} (h : Xc (n + 2) T) : Xc (n + 1) (tru (n + 1) T) := by
 refine ⟨λ i j hi hj => ?_, λ i hi => ?_, λ i j hi hj => ?_⟩
 · unfold tru
   by_cases hij : i = j
   · subst hij; rfl
   · rw [if_neg (Ne.symm hij), if_neg hij, h.symm i j (by omega) (by omega)]; grind
 · unfold tru; rw [if_pos rfl]; exact h.self i (by omega)
 · unfold tru
   split
   · exact h.pos i j (by omega) (by omega)
   · refine Rat.add_nonneg (h.pos i j (by omega) (by omega)) ?_
     rw [Rat.div_def]
     exact Rat.mul_nonneg (Rat.mul_nonneg (h.pos _ _ (by omega) (by omega)) (h.pos _ _ (by omega) (by omega))) (A9a (Rh λ k hk => h.pos _ _ (by omega) (by omega)))
def CD (n : Nat) (T : Nat -> Nat -> Rat) (k : Nat) : Prop :=
 ∃ (d : Int) (x : Nat -> Nat -> Int), d ≠ 0 /\ (-(4294967296 ^ k) < d /\ d < 4294967296 ^ k) /\ ∀ i j, i < n -> j < n -> -(4294967296 ^ k) < x i j /\ x i j < 4294967296 ^ k /\ T i j = (x i j : Rat) / (d : Rat)
theorem CD.sz {n : Nat} {T : Nat -> Nat -> Rat} {k : Nat} (h : CD n T k) {i j : Nat} (hi : i < n) (hj : j < n) : Sz (T i j) k := by
 obtain ⟨d, x, h1, h2, h3⟩ := h
 obtain ⟨h4, h5, h6⟩ := h3 i j hi hj
 rw [h6, <- Rat.divInt_eq_div]
 exact Lz h1 ⟨h4, h5⟩ h2
theorem Aua {T : Nat -> Rat} {d : Int} {x : Nat -> Int} {B : Int} : ∀ {n : Nat}, (∀ i, i < n -> -B < x i /\ x i < B /\ T i = (x i : Rat) / (d : Rat)) -> ∃ S : Int, -(n * B) <= S /\ S <= n * B /\ sm n T = (S : Rat) / (d : Rat)
 | 0, _ => ⟨0, by simp, by simp, by rw [sm]; grind⟩
 | n + 1, h => by
   obtain ⟨S, h1, h2, h3⟩ := Aua (d := d) (n := n) λ i hi => h i (by omega)
   obtain ⟨k1, k2, k3⟩ := h n (by omega)
   have e : ((n + 1 : Nat) : Int) * B = n * B + B := by grind
   refine ⟨S + x n, by omega, by omega, ?_⟩
   rw [sm, h3, k3, Rat.intCast_add]; grind
theorem Afm (k : Nat) : 2 * (4294967296 : Int) ^ k <= 4294967296 ^ (k + 1) := by
 have := Bw k
 rw [Int.pow_succ]; omega
theorem CD.next {n : Nat} {T : Nat -> Nat -> Rat} {k : Nat} (h : CD (n + 2) T k) (h0 : sm (n + 1) (T (n + 1)) ≠ 0) (hn : n + 1 <= 12) : CD (n + 1) (tru (n + 1) T) (2 * k + 2) /\ Sz (sm (n + 1) (T (n + 1))) (k + 1) := by
 obtain ⟨d, x, h1, h2, h3⟩ := h
 obtain ⟨S, s1, s2, s3⟩ := Aua (d := d) (T := T (n + 1)) (x := x (n + 1)) (B := 4294967296 ^ k) (n := n + 1) λ i hi => h3 (n + 1) i (by omega) (by omega)
 have hB := Bw k
 have hS : -(4294967296 ^ (k + 1)) < S /\ S < 4294967296 ^ (k + 1) := by
   have e : (4294967296 : Int) ^ (k + 1) = 4294967296 * 4294967296 ^ k := by rw [Int.pow_succ]; grind
   have hb : ((n + 1 : Nat) : Int) * 4294967296 ^ k <= 12 * 4294967296 ^ k := Int.mul_le_mul_of_nonneg_right (by omega) (by omega)
   rw [e]; omega
 have hd0 : (d : Rat) ≠ 0 := by exact_mod_cast h1
 have hS0 : (S : Rat) ≠ 0 := λ e => h0 (by rw [s3, e]; grind)
 have hSi : S ≠ 0 := λ e => hS0 (by rw [e]; rfl)
 refine ⟨⟨d * S, λ i j => if j = i then x i j * S else x i j * S + x (n + 1) i * x (n + 1) j, Int.mul_ne_zero h1 hSi, ?_, λ i j hi hj => ?_⟩, ?_⟩
 · have := B7 h2.1 h2.2 hS.1 hS.2
   have := Dg (show k + (k + 1) <= 2 * k + 2 by omega)
   omega
 · obtain ⟨a1, a2, a3⟩ := h3 i j (by omega) (by omega)
   obtain ⟨b1, b2, b3⟩ := h3 (n + 1) i (by omega) (by omega)
   obtain ⟨c1, c2, c3⟩ := h3 (n + 1) j (by omega) (by omega)
   have m1 := B7 a1 a2 hS.1 hS.2
   have m2 := B7 b1 b2 c1 c2
   have p1 := Dg (show k + k <= k + (k + 1) by omega)
   have p2 := Afm (k + (k + 1))
   have p3 : (4294967296 : Int) ^ (k + (k + 1) + 1) = 4294967296 ^ (2 * k + 2) := by congr 1; omega
   unfold tru
   by_cases hij : j = i
   · simp only [if_pos hij]
     refine ⟨by omega, by omega, ?_⟩
     rw [a3, Rat.intCast_mul, Rat.intCast_mul]; grind
   · simp only [if_neg hij]
     refine ⟨by omega, by omega, ?_⟩
     rw [a3, b3, c3, s3, Rat.intCast_mul, Rat.intCast_add, Rat.intCast_mul, Rat.intCast_mul]; grind
 · rw [s3, <- Rat.divInt_eq_div]
   have := Dg (show k <= k + 1 by omega)
   exact Lz h1 hS ⟨by omega, by omega⟩
end Go.Ab
