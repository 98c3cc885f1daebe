/- The reference's Star is the network without the node. The network without a node has the same potentials at the other ones. The network without a node: its currents, its parts. The law of stars. LibStars answers true. For all networks and nodes: the network without a node is the reference's, and resistances between other nodes are the same in it; the whole statement LibStarsSaid. Conditions: none beyond those that each theorem names. -/
import Derived.Test.YtjdgmcngpiookaaS27
import Derived.Test.YtjdgmcngpiookaaS19
import Derived.Test.YtjdgmcngpiookaaS10
import Derived.Test.YtjdgmcngpiookaaRows
namespace Go.Ab
open Go
set_option linter.unusedVariables false
set_option linter.unusedSimpArgs false
theorem O2 {node x : Nat} (hx : x <= 1000) : Ar (Ch (x : Int) (node : Int)) λ r => r = (dn node x : Int) := by
 unfold Ch dn
 simp only [Ai, Ac, decide_eq_true_eq]
 refine ⟨λ h => ?_, λ h => ?_⟩
 · rw [if_pos (by omega), Bg (by omega) (by omega)]; omega
 · rw [if_neg (by omega)]
def RQ0 : Ag := ⟨⟨[], false⟩, ⟨[], false⟩⟩
theorem rq0 : Fo RQ0 0 := by
 have hw : WOk ⟨[], false⟩ := ⟨WW.nil, λ h => (h rfl).elim, λ h => (by cases h)⟩
 exact ⟨hw, hw, rfl, λ _ => rfl, λ h => (h rfl).elim⟩
theorem Aax {n : Nat} {a : Aq} (h : N2 n a) : Ar (Option.bind (Dw a.R) λ y => Dh y) λ q => Fo q (cond a) := by
 obtain ⟨h1, h2, h3, h4⟩ := h.r.1
 refine (Am4 (x := a.R) (by omega) (by omega) (by omega) (by omega) (by omega)).bind ?_
 rintro y hy
 exact Af0 hy (Qh h.r) (by omega) (Rat.ne_of_gt (Un h.r h.rpos))
def Awh (g : Ah) (n node k : Nat) (t : List Int × Bool × List Int × Bool × List Ag × List Aq) : Prop :=
 Fo ⟨⟨t.1, t.2.1⟩, ⟨t.2.2.1, t.2.2.2.1⟩⟩ (alK g node k) /\ t.2.2.2.2.1.length = n /\ (∀ u, u < n -> Fo (t.2.2.2.2.1.getD u Bt) (toK g node k u)) /\ t.2.2.2.2.2 = kpK g node k /\ ∀ e, e < k -> tch g node e -> (am g e).E.N = 0
theorem Abb {g : Ah} {n : Nat} (G : GOk g n) {node : Nat} (hno : node < n) :
   Ar (Br (λ v : (Int × (List Int) × Bool × (List Int) × Bool × (List Ag) × (List Aq)) => Ek g (node : Int) v.1 v.2.1 v.2.2.1 v.2.2.2.1 v.2.2.2.2.1 v.2.2.2.2.2.1 v.2.2.2.2.2.2) ((0 : Int), [], false, [], false, List.replicate n RQ0, []))
     λ r => match r with
       | .inl t => Awh g n node g.Arms.length t /\ ¬ bad g node
       | .inr x => x = (⟨0, []⟩, 7) /\ bad g node := by
 have h40 := G.arms
 have h12 := G.n12
 refine Av (I := λ s => ∃ k : Nat, s.1 = (k : Int) /\ k <= g.Arms.length /\ Awh g n node k s.2) (μ := λ s => g.Arms.length - s.1.toNat) ⟨0, rfl, Nat.zero_le _, rq0, by simp, λ u hu => by show Fo ((List.replicate n RQ0).getD u Bt) 0; rw [T8 _ _ _ _ hu]; exact rq0, rfl, λ e he => by omega⟩ ?_
 rintro ⟨i, v2, v3, v4, v5, w, l⟩ ⟨k, h1, h2, hal, hwl, hto, hkp, hbd⟩
 simp only at h1 hal hwl hto hkp
 subst h1 hkp
 unfold Ek
 rw [Ai]
 simp only [decide_eq_true_eq, An, Ac, Ae, Int.toNat_natCast, At]
 refine ⟨λ h => ⟨by omega, ?_⟩, λ h => ?_⟩
 · have hk : k < g.Arms.length := by omega
   obtain ⟨a1, a2, a3, a4⟩ := G.ab hk
   have eA : (List.getD g.Arms k Aa).A = (nA g k : Int) := a3
   have eB : (List.getD g.Arms k Aa).B = (nB g k : Int) := a4
   have arm := G.arm k hk
   have J : tch g node k -> Ar (Dr g (node : Int) (k : Int) v2 v3 v4 v5 w (kpK g node k)) (Fk (λ s => ∃ k : Nat, s.1 = (k : Int) /\ k <= g.Arms.length /\ Awh g n node k s.2) (λ s => g.Arms.length - s.1.toNat) ((k : Int), v2, v3, v4, v5, w, kpK g node k) (λ r => match r with
       | .inl t => Awh g n node g.Arms.length t /\ ¬ bad g node
       | .inr x => x = (⟨0, []⟩, 7) /\ bad g node)) := by
     intro ht
     unfold Dr El
     simp only [Ai, Ac, At, Aw, Bool.not_eq_true', decide_eq_false_iff_not, Int.toNat_natCast, decide_eq_true_eq]
     refine ⟨λ hE => ⟨trivial, k, hk, ht, hE⟩, λ hE => ?_⟩
     have hE : (am g k).E.N = 0 := Classical.byContradiction λ h => hE h
     obtain ⟨u, hu⟩ : ∃ u, nA g k + nB g k = node + u := by
       rcases ht with h | h
       · exact ⟨nB g k, by omega⟩
       · exact ⟨nA g k, by omega⟩
     have hun : u < n := by rcases ht with h | h <;> omega
     have eu : (nA g k : Int) + (nB g k : Int) - (node : Int) = (u : Int) := by omega
     rw [eA, eB, Bg (x := (k : Int) + 1) (by omega) (by omega), Bg (x := (nA g k : Int) + (nB g k : Int)) (by omega) (by omega), eu, Bg (x := (u : Int)) (by omega) (by omega)]
     have hbd' : ∀ e, e < k + 1 -> tch g node e -> (am g e).E.N = 0 := by
       intro e he h
       by_cases hek : e = k
       · subst hek; exact hE
       · exact hbd e (by omega) h
     have hkp' : kpK g node (k + 1) = kpK g node k := by rw [kpK, if_pos ht]
     refine ⟨λ hAB => ?_, λ hAB => ?_⟩
     · have hAB' : nA g k ≠ nB g k := by
         intro e
         rcases ht with h | h <;> omega
       have hg := Aax (n := n) (a := am g k) arm
       rw [Au] at hg
       refine Ar.bind (o := Dw (List.getD g.Arms k Aa).R) hg ?_
       rintro y4 hy4
       refine Ar.bind hy4 ?_
       rintro c hc
       rw [An]
       refine ⟨by unfold Ae; omega, ?_⟩
       rw [Int.toNat_natCast]
       refine (Vv (hto u hun) hc (Aas G node u (by omega)) (Ig arm) (by omega)).bind ?_
       rintro y7 hy7
       refine (Vv hal hc (Aai G node (by omega)) (Ig arm) (by omega)).bind ?_
       rintro y9 hy9
       rw [An, Ac, Aw]
       refine ⟨by unfold Ae; omega, ⟨k + 1, by simp, by omega, ?_, by simp [hwl], λ u' hu' => ?_, hkp'.symm, hbd'⟩, by simp; omega⟩
       · have : alK g node (k + 1) = alK g node k + cond (am g k) := by
           show alK g node k + alE g node k = _
           have : alE g node k = cond (am g k) := by unfold alE; rw [if_pos ⟨ht, hAB'⟩]
           rw [this]
         rw [this]; exact hy9
       · show Fo ((w.set u y7).getD u' Bt) (toK g node k u' + tE g node k u')
         rw [B0]
         by_cases huu : u' = u
         · subst huu
           have : tE g node k u' = cond (am g k) := by unfold tE; rw [if_pos ⟨ht, hAB', hu⟩]
           rw [if_pos ⟨rfl, by omega⟩, this]; exact hy7
         · have : tE g node k u' = 0 := by unfold tE; rw [if_neg (by rintro ⟨_, _, h⟩; omega)]
           rw [if_neg (by omega), this]
           have e0 : toK g node k u' + 0 = toK g node k u' := by grind
           rw [e0]; exact hto u' hu'
     · have hAB : nA g k = nB g k := by rcases ht with h | h <;> omega
       refine ⟨⟨k + 1, by simp, by omega, ?_, hwl, λ u hu => ?_, hkp'.symm, hbd'⟩, by simp; omega⟩
       · have : alK g node (k + 1) = alK g node k := by
           show alK g node k + alE g node k = _
           have : alE g node k = 0 := by unfold alE; rw [if_neg (by rintro ⟨_, h⟩; exact h hAB)]
           rw [this]; grind
         rw [this]; exact hal
       · have : toK g node (k + 1) u = toK g node k u := by
           show toK g node k u + tE g node k u = _
           have : tE g node k u = 0 := by unfold tE; rw [if_neg (by rintro ⟨_, h, _⟩; exact h hAB)]
           rw [this]; grind
         rw [this]; exact hto u hu
   simp only [Ai, Bool.not_eq_true', decide_eq_false_iff_not]
   refine ⟨λ hA => ⟨λ hB => ?_, λ hB => J (.inr (by have : (List.getD g.Arms k Aa).B = (node : Int) := Classical.byContradiction λ h => hB h; omega))⟩, λ hA => J (.inl (by have : (List.getD g.Arms k Aa).A = (node : Int) := Classical.byContradiction λ h => hA h; omega))⟩
   have hnt : ¬ tch g node k := by rintro (h | h) <;> omega
   rw [eA, eB]
   refine (O2 (node := node) (x := nA g k) (by omega)).bind ?_
   rintro _ rfl
   refine (O2 (node := node) (x := nB g k) (by omega)).bind ?_
   rintro _ rfl
   have hlen := Qz g node k
   rw [An, Ac, Aw, Bg (x := (k : Int) + 1) (by omega) (by omega)]
   refine ⟨by simp only [List.length_singleton]; unfold As; omega, ⟨k + 1, by simp, by omega, ?_, hwl, λ u hu => ?_, ?_, λ e he ht => ?_⟩, by simp; omega⟩
   · have : alK g node (k + 1) = alK g node k := by
       show alK g node k + alE g node k = _
       have : alE g node k = 0 := by unfold alE; rw [if_neg (by rintro ⟨h, _⟩; exact hnt h)]
       rw [this]; grind
     rw [this]; exact hal
   · have : toK g node (k + 1) u = toK g node k u := by
       show toK g node k u + tE g node k u = _
       have : tE g node k u = 0 := by unfold tE; rw [if_neg (by rintro ⟨h, _⟩; exact hnt h)]
       rw [this]; grind
     rw [this]; exact hto u hu
   · rw [kpK, if_neg hnt]; rfl
   · by_cases hek : e = k
     · subst hek; exact (hnt ht).elim
     · exact hbd e (by omega) ht
 · have : k = g.Arms.length := by omega
   subst this
   refine ⟨⟨hal, hwl, hto, rfl, hbd⟩, ?_⟩
   rintro ⟨e, he, ht, hE⟩
   exact hE (hbd e he ht)
theorem Ab1 {g : Ah} {n : Nat} (hn : g.Nodes = (n : Int)) (h12 : n <= 12) {node : Nat} (hno : node < n) {to : Nat -> Rat} {al : Rat} (sto : ∀ u, u < n -> Sz (to u) 161) (sal : Sz al 161) {r2 : List Int × Bool × List Int × Bool × List Ag × List Aq}
   (hal : Fo ⟨⟨r2.1, r2.2.1⟩, ⟨r2.2.2.1, r2.2.2.2.1⟩⟩ al) (hwl : r2.2.2.2.2.1.length = n) (hto : ∀ u, u < n -> Fo (r2.2.2.2.2.1.getD u Bt) (to u)) {a : Nat} (ha : a < n) {l0 : List Aq} (hl0 : l0.length <= 40 + 12 * a) :
   Ar (Br (λ v : (Int × (List Aq)) => En g (node : Int) (a : Int) r2 v.1 v.2) ((a : Int) + 1, l0)) λ r => match r with
     | .inl l' => E4 to al node a (n - (a + 1)) (a + 1) l0 = some l' /\ l'.length <= 40 + 12 * (a + 1)
     | .inr x => x = (⟨0, []⟩, 3) /\ E4 to al node a (n - (a + 1)) (a + 1) l0 = none := by
 refine Av (I := λ s : Int × List Aq => ∃ b : Nat, s.1 = (b : Int) /\ a + 1 <= b /\ b <= n /\ s.2.length <= 40 + 12 * a + (b - (a + 1)) /\ E4 to al node a (n - b) b s.2 = E4 to al node a (n - (a + 1)) (a + 1) l0) (μ := λ s : Int × List Aq => n - s.1.toNat)
   ⟨a + 1, by simp, Nat.le_refl _, by omega, by simpa using hl0, rfl⟩ ?_
 rintro ⟨i, l⟩ ⟨b, h1, h2, h3, h4, h5⟩
 simp only at h1 h4 h5
 subst h1
 unfold En
 rw [Ai]
 simp only [decide_eq_true_eq, An, Ac, Ae, Int.toNat_natCast, At]
 refine ⟨λ h => ⟨by omega, ?_⟩, λ h => ?_⟩
 · have hb : b < n := by omega
   have hm : n - b = (n - (b + 1)) + 1 := by omega
   rw [hm, E4] at h5
   have J : (to a = 0 \/ to b = 0) -> Ar (Ds g (node : Int) (a : Int) (b : Int) l r2) (Fk (λ s : Int × List Aq => ∃ b : Nat, s.1 = (b : Int) /\ a + 1 <= b /\ b <= n /\ s.2.length <= 40 + 12 * a + (b - (a + 1)) /\ E4 to al node a (n - b) b s.2 = E4 to al node a (n - (a + 1)) (a + 1) l0) (λ s : Int × List Aq => n - s.1.toNat) ((b : Int), l) (λ r => match r with
       | .inl l' => E4 to al node a (n - (a + 1)) (a + 1) l0 = some l' /\ l'.length <= 40 + 12 * (a + 1)
       | .inr x => x = (⟨0, []⟩, 3) /\ E4 to al node a (n - (a + 1)) (a + 1) l0 = none)) := by
     intro h0
     unfold Ds
     rw [if_pos h0] at h5
     rw [Ac, Aw, Bg (by omega) (by omega)]
     exact ⟨⟨b + 1, by simp, by omega, by omega, by show l.length <= _; omega, h5⟩, by simp; omega⟩
   refine (Tp (hto a ha)).bind ?_
   rintro y10 hy10
   rw [Ai]
   refine ⟨λ h => J (.inl (hy10.1 h)), λ h => ?_⟩
   have ha0 : to a ≠ 0 := λ e => h (hy10.2 e)
   rw [An]
   refine ⟨by omega, ?_⟩
   refine (Tp (hto b hb)).bind ?_
   rintro y11 hy11
   rw [Ai]
   refine ⟨λ h => J (.inr (hy11.1 h)), λ h => ?_⟩
   have hb0 : to b ≠ 0 := λ e => h (hy11.2 e)
   rw [An, An]
   refine ⟨by omega, by omega, ?_⟩
   refine (Agv (hto a ha) (hto b hb) (sto a ha) (sto b hb) (by omega)).bind ?_
   rintro y12 hy12
   have hne : to a * to b ≠ 0 := λ e => by rcases Rat.mul_eq_zero.1 e with e | e <;> contradiction
   refine (Wa hal hy12 sal ((sto a ha).mul (sto b hb)) (by omega) hne).bind ?_
   rintro y13 hy13
   refine (Afi hy13).bind ?_
   rintro ⟨nr, ec⟩ ⟨t1, t2⟩
   simp only at t1 t2
   rw [if_neg (by rintro (h | h) <;> contradiction)] at h5
   simp only [Ai, Ac, Bool.not_eq_true', At]
   refine ⟨λ he => ?_, λ he => ?_⟩
   · rw [if_neg (λ h => by rw [t1.2 h] at he; cases he)] at h5
     exact ⟨trivial, h5.symm⟩
   · have he : ec = true := by simpa using he
     rw [if_pos (t1.1 he)] at h5
     refine (O2 (node := node) (x := a) (by omega)).bind ?_
     rintro _ rfl
     refine (O2 (node := node) (x := b) (by omega)).bind ?_
     rintro _ rfl
     rw [An, Ac, Aw, Bg (by omega) (by omega), t2 he]
     refine ⟨by simp only [List.length_singleton]; unfold As; omega, ⟨b + 1, by simp, by omega, by omega, ?_, h5⟩, by simp; omega⟩
     show (l ++ [_]).length <= _
     simp; omega
 · have : b = n := by omega
   subst this
   rw [Nat.sub_self, E4] at h5
   exact ⟨h5.symm, by omega⟩
theorem Zl {g : Ah} {n : Nat} (hn : g.Nodes = (n : Int)) (h12 : n <= 12) {node : Nat} (hno : node < n) {to : Nat -> Rat} {al : Rat} (sto : ∀ u, u < n -> Sz (to u) 161) (sal : Sz al 161) {r2 : List Int × Bool × List Int × Bool × List Ag × List Aq}
   (hal : Fo ⟨⟨r2.1, r2.2.1⟩, ⟨r2.2.2.1, r2.2.2.2.1⟩⟩ al) (hwl : r2.2.2.2.2.1.length = n) (hto : ∀ u, u < n -> Fo (r2.2.2.2.2.1.getD u Bt) (to u)) {l0 : List Aq} (hl0 : l0.length <= 40) :
   Ar (Br (λ v : (Int × (List Aq)) => Ej g (node : Int) r2 v.1 v.2) ((0 : Int), l0)) λ r => match r with
     | .inl l' => F4 to al node n n 0 l0 = some l' /\ l'.length <= 40 + 12 * n
     | .inr x => x = (⟨0, []⟩, 3) /\ F4 to al node n n 0 l0 = none := by
 refine Av (I := λ s : Int × List Aq => ∃ a : Nat, s.1 = (a : Int) /\ a <= n /\ s.2.length <= 40 + 12 * a /\ F4 to al node n (n - a) a s.2 = F4 to al node n n 0 l0) (μ := λ s : Int × List Aq => n - s.1.toNat)
   ⟨0, rfl, Nat.zero_le _, by simpa using hl0, rfl⟩ ?_
 rintro ⟨i, l⟩ ⟨a, h1, h2, h3, h4⟩
 simp only at h1 h3 h4
 subst h1
 unfold Ej
 rw [Ai]
 simp only [decide_eq_true_eq, Ac, At]
 refine ⟨λ h => ?_, λ h => ?_⟩
 · have ha : a < n := by omega
   have hm : n - a = (n - (a + 1)) + 1 := by omega
   rw [hm, F4] at h4
   rw [Bg (x := (a : Int) + 1) (by omega) (by omega)]
   refine (Ab1 hn h12 hno sto sal hal hwl hto ha h3).bind ?_
   intro r hr
   cases r with
   | inl l' =>
     obtain ⟨r1, r2⟩ := hr
     rw [r1] at h4
     rw [Ac, Aw]
     exact ⟨⟨a + 1, by simp, by omega, r2, h4⟩, by simp; omega⟩
   | inr x =>
     obtain ⟨r1, r2⟩ := hr
     rw [r2] at h4
     rw [Ac, At]
     exact ⟨r1, h4.symm⟩
 · have : a = n := by omega
   subst this
   rw [Nat.sub_self, F4] at h4
   exact ⟨h4.symm, h3⟩
theorem Adt (g : Ah) (node : Int) : Ar (Eb g node) λ r => r = Ku g node := by
 unfold Eb Dm
 refine (V0 g).bind ?_
 rintro e ⟨e1, e2, e3⟩
 rw [Ai]
 refine ⟨λ h => ?_, λ h => ?_⟩
 · have h : e ≠ 0 := by simpa using h
   rw [Ac]
   unfold Ku
   rw [dif_neg (λ hg => h (e2 hg)), e3 h]
 · have h : e = 0 := by simpa using h
   obtain ⟨n, G⟩ := e1 h
   have hn := G.nodes
   have h1 := G.n1
   have h12 := G.n12
   rw [Ww G]
   simp only [Ai, Ac, decide_eq_true_eq, hn]
   refine ⟨λ h => by rw [if_pos (.inl h)], λ g1 => ⟨λ h => by rw [if_pos (.inr (.inl h))], λ g2 => ⟨λ h => by rw [if_pos (.inr (.inr h))], λ g3 => ?_⟩⟩⟩
   rw [if_neg (by omega)]
   obtain ⟨node, rfl⟩ : ∃ k : Nat, node = (k : Int) := ⟨node.toNat, by omega⟩
   have hno : node < n := by omega
   simp only [An, Int.toNat_natCast]
   refine ⟨by omega, by omega, by unfold As; omega, ?_⟩
   refine (Abb G hno).bind ?_
   intro r hr
   unfold Anj
   cases r with
   | inr x =>
     obtain ⟨rfl, hb⟩ := hr
     rw [Ac, if_pos hb]
   | inl t =>
     obtain ⟨⟨hal, hwl, hto, hkp, _⟩, hb⟩ := hr
     rw [if_neg hb]
     have hkl := Qz g node g.Arms.length
     have h40 := G.arms
     refine (Zl hn h12 hno (λ u hu => Aas G node u (Nat.le_refl _)) (Aai G node (Nat.le_refl _)) hal hwl hto (l0 := t.2.2.2.2.2) (by rw [hkp]; omega)).bind ?_
     intro r hr
     rw [hkp] at hr
     cases r with
     | inr x =>
       obtain ⟨rfl, hm⟩ := hr
       rw [Ac, hm]
     | inl l =>
       obtain ⟨hm, hl⟩ := hr
       rw [hm]
       simp only [Ai, Ac, decide_eq_true_eq]
       refine ⟨λ h => by rw [if_pos (by omega)], λ h => ?_⟩
       rw [if_neg (by omega), Bg (by omega) (by omega)]
def LS : List Aq -> (Aq -> Rat) -> Rat
 | [], _ => 0
 | a :: l, φ => φ a + LS l φ
theorem Th (φ : Aq -> Rat) : ∀ (l m : List Aq), LS (l ++ m) φ = LS l φ + LS m φ
 | [], m => by show LS m φ = 0 + LS m φ; grind
 | a :: l, m => by show φ a + LS (l ++ m) φ = φ a + LS l φ + LS m φ; rw [Th φ l m]; grind
theorem Apq (φ : Aq -> Rat) (a : Aq) : LS [a] φ = φ a := by show φ a + 0 = φ a; grind
theorem Al5 (φ : Aq -> Rat) : ∀ (l : List Aq), sm l.length (λ e => φ (l.getD e Aa)) = LS l φ
 | [] => rfl
 | a :: l => by
   rw [List.length_cons, Uc]
   show φ a + _ = φ a + LS l φ
   rw [<- Al5 φ l]
   rfl
theorem Aze (g : Ah) (node : Nat) (φ : Aq -> Rat) : ∀ k, LS (kpK g node k) φ = sm k λ e => if tch g node e then 0 else φ (kpE g node e)
 | 0 => rfl
 | k + 1 => by
   rw [kpK, sm, <- Aze g node φ k]
   by_cases h : tch g node k
   · rw [if_pos h, if_pos h]; grind
   · rw [if_neg h, if_neg h, Th, Apq]
theorem Ar0 {g : Ah} {node : Nat} : ∀ {k e}, e < k -> ¬ tch g node e -> kpE g node e ∈ kpK g node k
 | k + 1, e, he, hn => by
   rw [kpK]
   by_cases hek : e = k
   · subst hek; rw [if_neg hn]; simp
   · have := Ar0 (k := k) (show e < k by omega) hn
     split
     · exact this
     · exact List.mem_append_left _ this
theorem Zj {g : Ah} {node : Nat} {R : Aq -> Prop} : ∀ {k}, (∀ e, e < k -> ¬ tch g node e -> R (kpE g node e)) -> ∀ x ∈ kpK g node k, R x
 | 0, _, x, hx => by simp [kpK] at hx
 | k + 1, h, x, hx => by
   rw [kpK] at hx
   split at hx
   · exact Zj (k := k) (λ e he => h e (by omega)) x hx
   · rename_i hn
     rcases List.mem_append.1 hx with hx | hx
     · exact Zj (k := k) (λ e he => h e (by omega)) x hx
     · simp at hx; subst hx; exact h k (by omega) hn
section
variable {to : Nat -> Rat} {al : Rat} {node : Nat}
theorem Ag3 (φ : Aq -> Rat) (a : Nat) : ∀ (m b : Nat) (l l' : List Aq), E4 to al node a m b l = some l' -> LS l' φ = LS l φ + sm m λ j => if to a = 0 \/ to (b + j) = 0 then 0 else φ (msE to al node a (b + j))
 | 0, b, l, l', h => by cases h; show LS l φ = LS l φ + 0; grind
 | m + 1, b, l, l', h => by
   have e : sm m (λ j => if to a = 0 \/ to (b + (j + 1)) = 0 then 0 else φ (msE to al node a (b + (j + 1)))) = sm m (λ j => if to a = 0 \/ to (b + 1 + j) = 0 then 0 else φ (msE to al node a (b + 1 + j))) := Bc λ j _ => by rw [show b + (j + 1) = b + 1 + j by omega]
   rw [Uc, e, Nat.add_zero]
   rw [E4] at h
   split at h
   · rename_i h0
     rw [Ag3 φ a m (b + 1) l l' h, if_pos h0]; grind
   · rename_i h0
     split at h
     · rw [Ag3 φ a m (b + 1) _ l' h, if_neg h0, Th, Apq]; grind
     · cases h
theorem Uh (a : Nat) : ∀ (m b : Nat) (l l' : List Aq), E4 to al node a m b l = some l' -> ∀ x ∈ l, x ∈ l'
 | 0, b, l, l', h, x, hx => by cases h; exact hx
 | m + 1, b, l, l', h, x, hx => by
   rw [E4] at h
   split at h
   · exact Uh a m (b + 1) l l' h x hx
   · split at h
     · exact Uh a m (b + 1) _ l' h x (List.mem_append_left _ hx)
     · cases h
theorem Aag (a : Nat) : ∀ (m b : Nat) (l l' : List Aq), E4 to al node a m b l = some l' -> ∀ c, b <= c -> c < b + m -> to a ≠ 0 -> to c ≠ 0 -> msE to al node a c ∈ l'
 | 0, b, l, l', h, c, h1, h2, _, _ => by omega
 | m + 1, b, l, l', h, c, h1, h2, ha, hc => by
   rw [E4] at h
   by_cases hcb : c = b
   · subst hcb
     rw [if_neg (by rintro (e | e) <;> contradiction)] at h
     split at h
     · exact Uh a m (c + 1) _ l' h _ (by simp)
     · cases h
   · split at h
     · exact Aag a m (b + 1) l l' h c (by omega) (by omega) ha hc
     · split at h
       · exact Aag a m (b + 1) _ l' h c (by omega) (by omega) ha hc
       · cases h
theorem Abt {R : Aq -> Prop} (a : Nat) : ∀ (m b : Nat) (l l' : List Aq), E4 to al node a m b l = some l' -> (∀ x ∈ l, R x) -> (∀ c, b <= c -> c < b + m -> to a ≠ 0 -> to c ≠ 0 -> Io (al / (to a * to c)) -> R (msE to al node a c)) -> ∀ x ∈ l', R x
 | 0, b, l, l', h, hl, _ => by cases h; exact hl
 | m + 1, b, l, l', h, hl, hm => by
   rw [E4] at h
   split at h
   · exact Abt a m (b + 1) l l' h hl λ c h1 h2 => hm c (by omega) (by omega)
   · rename_i h0
     split at h
     · rename_i ht
       refine Abt a m (b + 1) _ l' h (λ x hx => ?_) λ c h1 h2 => hm c (by omega) (by omega)
       rcases List.mem_append.1 hx with hx | hx
       · exact hl x hx
       · simp at hx; subst hx
         exact hm b (by omega) (by omega) (λ e => h0 (.inl e)) (λ e => h0 (.inr e)) ht
     · cases h
theorem An0 (φ : Aq -> Rat) (n : Nat) : ∀ (m a : Nat) (l l' : List Aq), F4 to al node n m a l = some l' -> LS l' φ = LS l φ + sm m λ i => sm (n - (a + i + 1)) λ j => if to (a + i) = 0 \/ to (a + i + 1 + j) = 0 then 0 else φ (msE to al node (a + i) (a + i + 1 + j))
 | 0, a, l, l', h => by cases h; show LS l φ = LS l φ + 0; grind
 | m + 1, a, l, l', h => by
   have e : sm m (λ i => sm (n - (a + (i + 1) + 1)) λ j => if to (a + (i + 1)) = 0 \/ to (a + (i + 1) + 1 + j) = 0 then 0 else φ (msE to al node (a + (i + 1)) (a + (i + 1) + 1 + j))) = sm m (λ i => sm (n - (a + 1 + i + 1)) λ j => if to (a + 1 + i) = 0 \/ to (a + 1 + i + 1 + j) = 0 then 0 else φ (msE to al node (a + 1 + i) (a + 1 + i + 1 + j))) := Bc λ i _ => by rw [show a + (i + 1) = a + 1 + i by omega]
   rw [Uc, e, Nat.add_zero]
   rw [F4] at h
   split at h
   · rename_i l1 h1
     rw [An0 φ n m (a + 1) l1 l' h, Ag3 φ a _ _ _ _ h1]; grind
   · cases h
theorem Abs (n : Nat) : ∀ (m a : Nat) (l l' : List Aq), F4 to al node n m a l = some l' -> ∀ x ∈ l, x ∈ l'
 | 0, a, l, l', h, x, hx => by cases h; exact hx
 | m + 1, a, l, l', h, x, hx => by
   rw [F4] at h
   split at h
   · rename_i l1 h1
     exact Abs n m (a + 1) l1 l' h x (Uh a _ _ _ _ h1 x hx)
   · cases h
theorem Z3 (n : Nat) : ∀ (m a : Nat) (l l' : List Aq), F4 to al node n m a l = some l' -> ∀ c d, a <= c -> c < a + m -> c < d -> d < n -> to c ≠ 0 -> to d ≠ 0 -> msE to al node c d ∈ l'
 | 0, a, l, l', h, c, d, h1, h2, _, _, _, _ => by omega
 | m + 1, a, l, l', h, c, d, h1, h2, h3, h4, hc, hd => by
   rw [F4] at h
   split at h
   · rename_i l1 hl1
     by_cases hca : c = a
     · subst hca
       exact Abs n m (c + 1) l1 l' h _ (Aag c _ _ _ _ hl1 d (by omega) (by omega) hc hd)
     · exact Z3 n m (a + 1) l1 l' h c d (by omega) (by omega) h3 h4 hc hd
   · cases h
theorem Zn {R : Aq -> Prop} (n : Nat) : ∀ (m a : Nat) (l l' : List Aq), a + m <= n -> F4 to al node n m a l = some l' -> (∀ x ∈ l, R x) -> (∀ c d, c < d -> d < n -> to c ≠ 0 -> to d ≠ 0 -> Io (al / (to c * to d)) -> R (msE to al node c d)) -> ∀ x ∈ l', R x
 | 0, a, l, l', _, h, hl, _ => by cases h; exact hl
 | m + 1, a, l, l', hn, h, hl, hm => by
   rw [F4] at h
   split at h
   · rename_i l1 h1
     exact Zn n m (a + 1) l1 l' (by omega) h (Abt a _ _ _ _ h1 hl λ c g1 g2 => hm a c (by omega) (by omega)) hm
   · cases h
end
theorem Ayt (w : Nat -> Nat -> Rat) (hs : ∀ a b, w a b = w b a) (h0 : ∀ a, w a a = 0) : ∀ n, 2 * sm n (λ a => sm (n - (a + 1)) λ j => w a (a + 1 + j)) = sm n λ a => sm n (w a)
 | 0 => by show 2 * (0 : Rat) = 0; grind
 | n + 1 => by
   have IH := Ayt w hs h0 n
   have e1 : sm (n + 1) (λ a => sm (n + 1 - (a + 1)) λ j => w a (a + 1 + j)) = sm n (λ a => sm (n - (a + 1)) λ j => w a (a + 1 + j)) + sm n (λ a => w a n) := by
     rw [sm]
     have : sm (n + 1 - (n + 1)) (λ j => w n (n + 1 + j)) = 0 := by rw [Nat.sub_self]; rfl
     rw [this, <- My]
     have : sm n (λ a => sm (n + 1 - (a + 1)) λ j => w a (a + 1 + j)) = sm n (λ a => sm (n - (a + 1)) (λ j => w a (a + 1 + j)) + w a n) := Bc λ a ha => by
       obtain ⟨m, hm⟩ : ∃ m, n - (a + 1) = m := ⟨_, rfl⟩
       have hm1 : n + 1 - (a + 1) = m + 1 := by omega
       rw [hm, hm1, sm]
       have : a + 1 + m = n := by omega
       rw [this]
     rw [this]; grind
   have e2 : sm (n + 1) (λ a => sm (n + 1) (w a)) = sm n (λ a => sm n (w a)) + sm n (λ a => w a n) + sm n (λ a => w n a) := by
     rw [sm]
     have : sm n (λ a => sm (n + 1) (w a)) = sm n (λ a => sm n (w a) + w a n) := rfl
     rw [this, My, sm, h0 n]; grind
   have e3 : sm n (λ a => w n a) = sm n (λ a => w a n) := Bc λ a _ => hs n a
   rw [e1, e2, e3, <- IH]; grind
set_option linter.unusedSectionVars false
theorem Aqp {node i : Nat} : dn node (skp node i) = i := by unfold dn skp; split <;> split <;> omega
theorem Ih {node u : Nat} (h : u ≠ node) : skp node (dn node u) = u := by unfold dn skp; split <;> split <;> omega
theorem A4a (node i : Nat) : skp node i ≠ node := by unfold skp; split <;> omega
theorem Aov {node n i : Nat} (hn : node < n) (h : i < n - 1) : skp node i < n := by unfold skp; split <;> omega
theorem Yw {node n u : Nat} (hn : node < n) (h : u < n) (hu : u ≠ node) : dn node u < n - 1 := by unfold dn; split <;> omega
theorem Anw {node a b i : Nat} (ha : a ≠ node) (hb : b ≠ node) : ev (dn node a) (dn node b) i = ev a b (skp node i) := by
 unfold ev
 have e1 : (i = dn node a) ↔ (skp node i = a) := ⟨λ h => by rw [h, Ih ha], λ h => by rw [<- h, Aqp]⟩
 have e2 : (i = dn node b) ↔ (skp node i = b) := ⟨λ h => by rw [h, Ih hb], λ h => by rw [<- h, Aqp]⟩
 simp only [e1, e2]
section
variable {g : Ah} {n : Nat} (G : GOk g n) {node : Nat} (hno : node < n)
include G
theorem As0 {e : Nat} (he : e < g.Arms.length) (u : Nat) : 0 <= tE g node e u := by
 unfold tE
 split
 · exact Rat.le_of_lt (Me (G.arm e he))
 · exact Rat.le_refl
theorem Vy (u : Nat) : 0 <= toK g node g.Arms.length u := Pv λ e he => As0 G he u
theorem O8 : toK g node g.Arms.length node = 0 := Fv λ e he => by
 unfold tE; rw [if_neg (by rintro ⟨h, h1, h2⟩; rcases h with h | h <;> omega)]
theorem Awt {u : Nat} (h : toK g node g.Arms.length u ≠ 0) : ∃ e, e < g.Arms.length /\ tch g node e /\ nA g e ≠ nB g e /\ nA g e + nB g e = node + u := by
 refine Classical.byContradiction λ hno => h (Fv λ e he => ?_)
 unfold tE; rw [if_neg (λ hc => hno ⟨e, he, hc⟩)]
theorem Apw {e u : Nat} (he : e < g.Arms.length) (h : tch g node e /\ nA g e ≠ nB g e /\ nA g e + nB g e = node + u) : toK g node g.Arms.length u ≠ 0 := by
 intro h0
 have := Gv (λ e he => As0 G he u) h0 e he
 unfold tE at this
 rw [if_pos h] at this
 exact Rat.ne_of_gt (Me (G.arm e he)) this
include hno
theorem Ant : alK g node g.Arms.length = sm n λ u => toK g node g.Arms.length u := by
 unfold toK alK
 rw [Lm]
 refine Bc λ e he => ?_
 obtain ⟨a1, a2, _, _⟩ := G.ab he
 unfold alE
 by_cases h : tch g node e /\ nA g e ≠ nB g e
 · rw [if_pos h]
   obtain ⟨u, hu⟩ : ∃ u, nA g e + nB g e = node + u := by
     rcases h.1 with h | h
     · exact ⟨nB g e, by omega⟩
     · exact ⟨nA g e, by omega⟩
   have hun : u < n := by rcases h.1 with h | h <;> omega
   rw [G6 (k := u) hun (λ i _ hne => by unfold tE; rw [if_neg (by rintro ⟨_, _, h3⟩; omega)])]
   unfold tE; rw [if_pos ⟨h.1, h.2, hu⟩]
 · rw [if_neg h]
   exact (Fv λ u _ => by unfold tE; rw [if_neg (λ hc => h ⟨hc.1, hc.2.1⟩)]).symm
theorem Ans (x : Nat -> Rat) {u : Nat} (hu : u ≠ node) : sm g.Arms.length (λ e => cond (am g e) * evE g e u * (x (nA g e) - x (nB g e))) =
   sm g.Arms.length (λ e => if tch g node e then 0 else cond (am g e) * evE g e u * (x (nA g e) - x (nB g e))) + toK g node g.Arms.length u * (x u - x node) := by
 have h : toK g node g.Arms.length u * (x u - x node) = sm g.Arms.length λ e => tE g node e u * (x u - x node) := by
   unfold toK
   rw [Rat.mul_comm, <- Fl]
   exact Bc λ e _ => Rat.mul_comm _ _
 rw [h, <- My]
 refine Bc λ e he => ?_
 by_cases ht : tch g node e
 · rw [if_pos ht]
   have T1 : nA g e ≠ nB g e -> nA g e + nB g e = node + u -> tE g node e u = cond (am g e) := λ h1 h2 => by unfold tE; rw [if_pos ⟨ht, h1, h2⟩]
   have T0 : ¬ (nA g e ≠ nB g e /\ nA g e + nB g e = node + u) -> tE g node e u = 0 := λ h => by unfold tE; rw [if_neg (λ hc => h hc.2)]
   unfold evE ev
   by_cases hAB : nA g e = nB g e
   · rw [T0 (λ h => h.1 hAB), hAB]; grind
   · rcases ht with h' | h'
     · by_cases hBu : nB g e = u
       · rw [T1 hAB (by omega), h', hBu, if_neg hu, if_pos rfl]; grind
       · rw [T0 (by omega), h', if_neg hu, if_neg (Ne.symm hBu)]; grind
     · by_cases hAu : nA g e = u
       · rw [T1 hAB (by omega), h', hAu, if_pos rfl, if_neg hu]; grind
       · rw [T0 (by omega), h', if_neg (Ne.symm hAu), if_neg hu]; grind
 · rw [if_neg ht]
   unfold tE; rw [if_neg (λ h => ht h.1)]; grind
theorem Ao5 (x : Nat -> Rat) : sm g.Arms.length (λ e => cond (am g e) * evE g e node * (x (nA g e) - x (nB g e))) = sm n λ u => toK g node g.Arms.length u * (x node - x u) := by
 have h : sm n (λ u => toK g node g.Arms.length u * (x node - x u)) = sm n λ u => sm g.Arms.length λ e => tE g node e u * (x node - x u) := by
   refine Bc λ u _ => ?_
   unfold toK
   rw [Rat.mul_comm, <- Fl]
   exact Bc λ e _ => Rat.mul_comm _ _
 rw [h, Lm]
 refine Bc λ e he => ?_
 obtain ⟨a1, a2, _, _⟩ := G.ab he
 by_cases hc : tch g node e /\ nA g e ≠ nB g e
 · obtain ⟨u, hu⟩ : ∃ u, nA g e + nB g e = node + u := by
     rcases hc.1 with h | h
     · exact ⟨nB g e, by omega⟩
     · exact ⟨nA g e, by omega⟩
   have hun : u < n := by rcases hc.1 with h | h <;> omega
   rw [G6 (k := u) hun (λ i _ hne => by
     have : tE g node e i = 0 := by unfold tE; rw [if_neg (by rintro ⟨_, _, h3⟩; omega)]
     rw [this]; grind)]
   unfold tE; rw [if_pos ⟨hc.1, hc.2, hu⟩]
   unfold evE ev
   rcases hc.1 with h | h
   · have hB : nB g e = u := by omega
     have hne := hc.2
     rw [h, hB] at hne
     rw [h, hB, if_pos rfl, if_neg hne]; grind
   · have hA : nA g e = u := by omega
     have hne := hc.2
     rw [h, hA] at hne
     rw [h, hA, if_neg (Ne.symm hne), if_pos rfl]; grind
 · have hz : sm n (λ u => tE g node e u * (x node - x u)) = 0 := Fv λ u _ => by
     have : tE g node e u = 0 := by unfold tE; rw [if_neg (λ h => hc ⟨h.1, h.2.1⟩)]
     rw [this]; grind
   rw [hz]
   by_cases hAB : nA g e = nB g e
   · rw [hAB]; grind
   · have hnt : ¬ tch g node e := λ h => hc ⟨h, hAB⟩
     have h1 : nA g e ≠ node := λ h => hnt (.inl h)
     have h2 : nB g e ≠ node := λ h => hnt (.inr h)
     unfold evE ev
     rw [if_neg (Ne.symm h1), if_neg (Ne.symm h2)]; grind
theorem Asz {t : Nat -> Rat} {al : Rat} (hal : al = sm n t) (x : Nat -> Rat) {u : Nat} (hu : u < n) (h0 : al = 0 -> t u = 0) (hn : al * x node = sm n λ b => t b * x b) :
   sm n (λ a => sm (n - (a + 1)) λ j => t a * t (a + 1 + j) / al * (ev a (a + 1 + j) u * (x a - x (a + 1 + j)))) = t u * (x u - x node) := by
 let w : Nat -> Nat -> Rat := λ a b => t a * t b / al * (ev a b u * (x a - x b))
 have hs : ∀ a b, w a b = w b a := by
   intro a b
   show t a * t b / al * (ev a b u * (x a - x b)) = t b * t a / al * (ev b a u * (x b - x a))
   have e1 : ev b a u = -ev a b u := by unfold ev; grind
   rw [e1, Rat.mul_comm (t b) (t a)]
   generalize t a * t b / al = z
   grind
 have hd : ∀ a, w a a = 0 := by
   intro a
   show t a * t a / al * (ev a a u * (x a - x a)) = 0
   have : x a - x a = 0 := by grind
   rw [this]; grind
 have P := Ayt w hs hd n
 have Q : sm n (λ a => sm n (w a)) = 2 * sm n λ b => t u * t b / al * (x u - x b) := by
   have e1 : ∀ a, sm n (w a) = sm n (λ b => (if u = a then 1 else 0) * (t a * t b / al * (x a - x b))) - sm n (λ b => (if u = b then 1 else 0) * (t a * t b / al * (x a - x b))) := by
     intro a
     rw [<- Od]
     refine Bc λ b _ => ?_
     show t a * t b / al * (ev a b u * (x a - x b)) = _
     unfold ev
     generalize t a * t b / al = z
     grind
   have e2 : sm n (λ a => sm n (λ b => (if u = a then 1 else 0) * (t a * t b / al * (x a - x b)))) = sm n λ b => t u * t b / al * (x u - x b) := by
     rw [G6 (k := u) hu (λ i _ hne => Fv λ b _ => by rw [if_neg (Ne.symm hne)]; grind)]
     exact Bc λ b _ => by rw [if_pos rfl]; grind
   have e3 : sm n (λ a => sm n (λ b => (if u = b then 1 else 0) * (t a * t b / al * (x a - x b)))) = -(sm n λ b => t u * t b / al * (x u - x b)) := by
     have : sm n (λ a => sm n (λ b => (if u = b then 1 else 0) * (t a * t b / al * (x a - x b)))) = sm n (λ a => (-1 : Rat) * (t u * t a / al * (x u - x a))) := by
       refine Bc λ a _ => ?_
       rw [G6 (k := u) hu (λ i _ hne => by rw [if_neg (Ne.symm hne)]; grind), if_pos rfl, Rat.mul_comm (t a) (t u)]
       generalize t u * t a / al = z
       grind
     rw [this, Fl]; grind
   have e4 : sm n (λ a => sm n (w a)) = sm n (λ a => sm n (λ b => (if u = a then 1 else 0) * (t a * t b / al * (x a - x b)))) - sm n (λ a => sm n (λ b => (if u = b then 1 else 0) * (t a * t b / al * (x a - x b)))) := by
     rw [<- Od]; exact Bc λ a _ => e1 a
   rw [e4, e2, e3]; grind
 have P' : sm n (λ a => sm (n - (a + 1)) λ j => w a (a + 1 + j)) = sm n λ b => t u * t b / al * (x u - x b) := by
   rw [Q] at P; grind
 show sm n (λ a => sm (n - (a + 1)) λ j => w a (a + 1 + j)) = _
 rw [P']
 by_cases ha : al = 0
 · rw [h0 ha]
   have : sm n (λ b => (0 : Rat) * t b / al * (x u - x b)) = 0 := Fv λ b _ => by
     have : (0 : Rat) * t b = 0 := by grind
     rw [this, Rat.div_def]; grind
   rw [this]; grind
 · have e : sm n (λ b => t u * t b / al * (x u - x b)) = t u / al * sm n (λ b => t b * (x u - x b)) := by
     rw [<- Fl]
     refine Bc λ b _ => ?_
     rw [Rat.div_def, Rat.div_def]; grind
   have e2 : sm n (λ b => t b * (x u - x b)) = al * x u - al * x node := by
     have : sm n (λ b => t b * (x u - x b)) = sm n (λ b => x u * t b) - sm n (λ b => t b * x b) := by
       rw [<- Od]; exact Bc λ b _ => by grind
     rw [this, Fl, <- hal, <- hn]; grind
   rw [e, e2]
   have : t u / al * al = t u := Rat.div_mul_cancel ha
   grind
end
theorem Aeb {l : List Aq} {e : Nat} (he : e < l.length) : l.getD e Aa ∈ l := by
 rw [List.getD_eq_getElem?_getD, List.getElem?_eq_getElem he]
 exact List.getElem_mem he
theorem Apz {l : List Aq} {x : Aq} (h : x ∈ l) : ∃ e, e < l.length /\ l.getD e Aa = x := by
 obtain ⟨e, he, hx⟩ := List.mem_iff_getElem.1 h
 exact ⟨e, he, by rw [List.getD_eq_getElem?_getD, List.getElem?_eq_getElem he]; exact hx⟩
theorem Aoa (x : Rat) : Gp ⟨x.num, x.den⟩ = x := by
 show Rat.divInt x.num (x.den : Int) = x
 exact Rat.num_divInt_den x
section
variable {g : Ah} {n : Nat} (G : GOk g n) {node : Nat} (hno : node < n) {l : List Aq} (hm : F4 (toK g node g.Arms.length) (alK g node g.Arms.length) node n n 0 (kpK g node g.Arms.length) = some l)
include G hno hm
abbrev hG (n : Nat) (l : List Aq) : Ah := ⟨(n : Int) - 1, l⟩
theorem A2s {c : Nat} (hc : c < n) (h : toK g node g.Arms.length c ≠ 0) : 0 < alK g node g.Arms.length := by
 have hs := Ant G hno
 have h0 : 0 <= alK g node g.Arms.length := by rw [hs]; exact Pv λ u _ => Vy G u
 refine Rat.lt_of_le_of_ne h0 λ e => h ?_
 rw [hs] at e
 exact Gv (λ u _ => Vy G u) e.symm c hc
theorem Axk (hn : 2 <= n) (hl : l.length <= 40) : GOk (hG n l) (n - 1) := by
 refine ⟨by show (n : Int) - 1 = _; omega, by omega, by have := G.n12; omega, hl, λ e he => ?_⟩
 refine Zn (R := N2 (n - 1)) n n 0 _ _ (by omega) hm (Zj λ e he hnt => ?_) (λ c d h1 h2 hc hd ht => ?_) _ (Aeb he)
 · obtain ⟨a1, a2, _, _⟩ := G.ab he
   have arm := G.arm e he
   have hA : nA g e ≠ node := λ h => hnt (.inl h)
   have hB : nB g e ≠ node := λ h => hnt (.inr h)
   have r1 := Yw hno a1 hA
   have r2 := Yw hno a2 hB
   exact ⟨by show (0 : Int) <= (dn node _ : Int); omega, by show (dn node _ : Int) < _; omega, by show (0 : Int) <= (dn node _ : Int); omega, by show (dn node _ : Int) < _; omega, arm.r, arm.rpos, arm.e⟩
 · have hcn : c ≠ node := by rintro rfl; exact hc (O8 G)
   have hdn : d ≠ node := by rintro rfl; exact hd (O8 G)
   have r1 := Yw hno (show c < n by omega) hcn
   have r2 := Yw hno h2 hdn
   have pc := Rat.lt_of_le_of_ne (Vy G (node := node) c) (Ne.symm hc)
   have pd := Rat.lt_of_le_of_ne (Vy G (node := node) d) (Ne.symm hd)
   have pa := A2s G hno hm h2 hd
   have pv : 0 < alK g node g.Arms.length / (toK g node g.Arms.length c * toK g node g.Arms.length d) := by
     rw [Rat.div_def]
     exact Rat.mul_pos pa (Rat.inv_pos.2 (Rat.mul_pos pc pd))
   have pn : 0 < (alK g node g.Arms.length / (toK g node g.Arms.length c * toK g node g.Arms.length d)).num := by
     have h0 := Rat.num_nonneg.2 (Rat.le_of_lt pv)
     have h1 : (alK g node g.Arms.length / (toK g node g.Arms.length c * toK g node g.Arms.length d)).num ≠ 0 := λ e => Rat.ne_of_gt pv (Rat.num_eq_zero.1 e)
     omega
   exact ⟨by show (0 : Int) <= (dn node _ : Int); omega, by show (dn node _ : Int) < _; omega, by show (0 : Int) <= (dn node _ : Int); omega, by show (dn node _ : Int) < _; omega, (Ass ht).1, by show 1 <= (_ : Rat).num; omega, Nn (by omega) (by omega)⟩
theorem A3b (hn : 2 <= n) (hl : l.length <= 40) (x : Nat -> Rat) (hx : sm n (λ j => lap g node j * x j) = 0) {i : Nat} (hi : i < n - 1) :
   sm (n - 1) (λ j => lap (hG n l) i j * x (skp node j)) = sm n λ j => lap g (skp node i) j * x j := by
 have H := Axk G hno hm hn hl
 have hu := Aov hno hi
 have hun := A4a node i
 rw [Sa H (λ j => x (skp node j)), Sa G x, Ans G hno x hun]
 rw [Sa G x, Ao5 G hno x] at hx
 let φ : Aq -> Rat := λ a => cond a * ev a.A.toNat a.B.toNat i * (x (skp node a.A.toNat) - x (skp node a.B.toNat))
 have e1 : sm (hG n l).Arms.length (λ e => cond (am (hG n l) e) * evE (hG n l) e i * (x (skp node (nA (hG n l) e)) - x (skp node (nB (hG n l) e)))) = LS l φ := Al5 φ l
 rw [e1, An0 φ n n 0 _ _ hm, Aze]
 have e2 : sm g.Arms.length (λ e => if tch g node e then 0 else φ (kpE g node e)) = sm g.Arms.length (λ e => if tch g node e then 0 else cond (am g e) * evE g e (skp node i) * (x (nA g e) - x (nB g e))) := by
   refine Bc λ e he => ?_
   by_cases ht : tch g node e
   · rw [if_pos ht, if_pos ht]
   · rw [if_neg ht, if_neg ht]
     have hA : nA g e ≠ node := λ h => ht (.inl h)
     have hB : nB g e ≠ node := λ h => ht (.inr h)
     show cond (kpE g node e) * ev ((dn node (nA g e) : Int)).toNat ((dn node (nB g e) : Int)).toNat i * (x (skp node ((dn node (nA g e) : Int)).toNat) - x (skp node ((dn node (nB g e) : Int)).toNat)) = _
     rw [Int.toNat_natCast, Int.toNat_natCast, Anw hA hB, Ih hA, Ih hB]
     rfl
 have hal := Ant G hno (g := g)
 have e3 : sm n (λ a => sm (n - (0 + a + 1)) λ j => if toK g node g.Arms.length (0 + a) = 0 \/ toK g node g.Arms.length (0 + a + 1 + j) = 0 then 0 else φ (msE (toK g node g.Arms.length) (alK g node g.Arms.length) node (0 + a) (0 + a + 1 + j))) =
     sm n (λ a => sm (n - (a + 1)) λ j => toK g node g.Arms.length a * toK g node g.Arms.length (a + 1 + j) / alK g node g.Arms.length * (ev a (a + 1 + j) (skp node i) * (x a - x (a + 1 + j)))) := by
   refine Bc λ a _ => ?_
   rw [Nat.zero_add]
   refine Bc λ j _ => ?_
   generalize a + 1 + j = b
   by_cases h : toK g node g.Arms.length a = 0 \/ toK g node g.Arms.length b = 0
   · rw [if_pos h]
     have : toK g node g.Arms.length a * toK g node g.Arms.length b = 0 := by
       rcases h with h | h <;> rw [h] <;> grind
     rw [this, Rat.div_def]; grind
   · rw [if_neg h]
     have ha : a ≠ node := by rintro rfl; exact h (.inl (O8 G))
     have hb : b ≠ node := by rintro rfl; exact h (.inr (O8 G))
     show cond (msE _ _ node a b) * ev ((dn node a : Int)).toNat ((dn node b : Int)).toNat i * (x (skp node ((dn node a : Int)).toNat) - x (skp node ((dn node b : Int)).toNat)) = _
     rw [Int.toNat_natCast, Int.toNat_natCast, Anw ha hb, Ih ha, Ih hb]
     have hc : cond (msE (toK g node g.Arms.length) (alK g node g.Arms.length) node a b) = toK g node g.Arms.length a * toK g node g.Arms.length b / alK g node g.Arms.length := by
       unfold cond msE
       rw [Aoa, Rat.div_def, Rat.div_def, Rat.div_def, Rat.inv_mul_rev, Rat.inv_inv]
       grind
     rw [hc]; grind
 rw [e2, e3, Asz G hno hal x hu (λ h => by rw [hal] at h; exact Gv (λ u _ => Vy G u) h _ hu) ?_]
 have e4 : sm n (λ u => toK g node g.Arms.length u * (x node - x u)) = sm n (λ u => x node * toK g node g.Arms.length u) - sm n (λ u => toK g node g.Arms.length u * x u) := by
   rw [<- Od]; exact Bc λ u _ => by grind
 rw [e4, Fl, <- hal] at hx
 grind
theorem A6n {i j : Nat} (h : Eqv (hG n l) i j) : Eqv g (skp node i) (skp node j) := by
 intro f hf
 refine h (λ k => f (skp node k)) λ e he => ?_
 have he : e < l.length := he
 refine Zn (R := λ a => f (skp node a.A.toNat) = f (skp node a.B.toNat)) n n 0 _ _ (by omega) hm (Zj λ e he hnt => ?_) (λ c d h1 h2 hc hd ht => ?_) _ (Aeb he)
 · have hA : nA g e ≠ node := λ h => hnt (.inl h)
   have hB : nB g e ≠ node := λ h => hnt (.inr h)
   show f (skp node ((dn node (nA g e) : Int)).toNat) = f (skp node ((dn node (nB g e) : Int)).toNat)
   rw [Int.toNat_natCast, Int.toNat_natCast, Ih hA, Ih hB]
   exact hf e he
 · have hcn : c ≠ node := by rintro rfl; exact hc (O8 G)
   have hdn : d ≠ node := by rintro rfl; exact hd (O8 G)
   show f (skp node ((dn node c : Int)).toNat) = f (skp node ((dn node d : Int)).toNat)
   rw [Int.toNat_natCast, Int.toNat_natCast, Ih hcn, Ih hdn]
   have key : ∀ u, toK g node g.Arms.length u ≠ 0 -> f u = f node := by
     intro u hu
     obtain ⟨e, he, ht, hne, hs⟩ := Awt G hu
     have := hf e he
     rcases ht with h | h
     · have : nB g e = u := by omega
       rw [<- this, <- h]; exact (hf e he).symm
     · have : nA g e = u := by omega
       rw [<- this, <- h]; exact hf e he
   rw [key c hc, key d hd]
theorem Ate {a b : Nat} (ha : a ≠ node) (hb : b ≠ node) (h : Eqv g a b) : Eqv (hG n l) (dn node a) (dn node b) := by
 intro f hf
 have hl : ∀ x ∈ l, f x.A.toNat = f x.B.toNat := by
   intro x hx
   obtain ⟨e, he, rfl⟩ := Apz hx
   exact hf e he
 have hmesh : ∀ c d, c < n -> d < n -> toK g node g.Arms.length c ≠ 0 -> toK g node g.Arms.length d ≠ 0 -> f (dn node c) = f (dn node d) := by
   intro c d h1 h2 hc hd
   rcases Nat.lt_trichotomy c d with h | h | h
   · have := hl _ (Z3 n n 0 _ _ hm c d (by omega) (by omega) h h2 hc hd)
     simpa [msE] using this
   · rw [h]
   · have := hl _ (Z3 n n 0 _ _ hm d c (by omega) (by omega) h h1 hd hc)
     have : f (dn node d) = f (dn node c) := by simpa [msE] using this
     exact this.symm
 -- what the node itself gets
 obtain ⟨z, hz⟩ : ∃ z : Int, ∀ c, c < n -> toK g node g.Arms.length c ≠ 0 -> f (dn node c) = z := by
   rcases Classical.em (∃ c, c < n /\ toK g node g.Arms.length c ≠ 0) with ⟨c, h1, h2⟩ | hno'
   · exact ⟨f (dn node c), λ d h3 h4 => hmesh d c h3 h1 h4 h2⟩
   · exact ⟨0, λ c h1 h2 => (hno' ⟨c, h1, h2⟩).elim⟩
 have := h (λ u => if u = node then z else f (dn node u)) λ e he => by
   obtain ⟨a1, a2, _, _⟩ := G.ab he
   show (if nA g e = node then z else f (dn node (nA g e))) = if nB g e = node then z else f (dn node (nB g e))
   by_cases hA : nA g e = node
   · by_cases hB : nB g e = node
     · rw [if_pos hA, if_pos hB]
     · rw [if_pos hA, if_neg hB]
       exact (hz _ a2 (Apw G he ⟨.inl hA, by omega, by omega⟩)).symm
   · by_cases hB : nB g e = node
     · rw [if_neg hA, if_pos hB]
       exact hz _ a1 (Apw G he ⟨.inr hB, by omega, by omega⟩)
     · rw [if_neg hA, if_neg hB]
       have hnt : ¬ tch g node e := by rintro (h | h) <;> contradiction
       have := hl _ (Abs n n 0 _ _ hm _ (Ar0 he hnt))
       simpa [kpE] using this
 simpa [ha, hb] using this
end
theorem Aff {g : Ah} {n : Nat} (G : GOk g n) {x y : Nat -> Rat} (h : ∀ i, i < n -> sm n (λ j => lap g i j * x j) = sm n λ j => lap g i j * y j) {a b : Nat} (hE : Eqv g a b) : x a - x b = y a - y b := by
 let d : Nat -> Rat := λ i => x i - y i
 have hd : ∀ i, i < n -> sm n (λ j => lap g i j * d j) = 0 := by
   intro i hi
   have : sm n (λ j => lap g i j * d j) = sm n (λ j => lap g i j * x j) - sm n (λ j => lap g i j * y j) := by
     rw [<- Od]; exact Bc λ j _ => by show lap g i j * (x j - y j) = _; grind
   rw [this, h i hi]; grind
 have he := Asv G d
 have h0 : sm n (λ i => d i * sm n λ j => lap g i j * d j) = 0 := Fv λ i hi => by rw [hd i hi]; grind
 rw [h0] at he
 have each := Gv (f := λ e => cond (am g e) * ((d (nA g e) - d (nB g e)) * (d (nA g e) - d (nB g e)))) (n := g.Arms.length) (λ e he => Rat.mul_nonneg (Rat.le_of_lt (Me (G.arm e he))) (N0 _)) he.symm
 have heq : ∀ e, e < g.Arms.length -> d (nA g e) = d (nB g e) := by
   intro e hel
   have := each e hel
   have hc := Rat.ne_of_gt (Me (G.arm e hel))
   rcases Rat.mul_eq_zero.1 this with h | h
   · exact (hc h).elim
   · rcases Rat.mul_eq_zero.1 h with h | h <;> grind
 have key : d a = d b := by
   refine Classical.byContradiction λ hne => ?_
   have := hE (λ m => if d m = d a then 1 else 0) λ e hel => by show (if d (nA g e) = d a then (1 : Int) else 0) = if d (nB g e) = d a then 1 else 0; rw [heq e hel]
   simp only [if_true] at this
   rw [if_neg (Ne.symm hne)] at this
   omega
 have key : x a - y a = x b - y b := key
 grind
theorem Wq {a : Ah} (ha : a.Arms.length <= 1000) : Ar (Cx a a) λ r => r = true := by
 unfold Cx
 refine Ar.bind (R := λ r : Unit ⊕ Bool => match r with
   | .inl _ => True
   | .inr _ => False)
   (Av (I := λ v : Int => ∃ k : Nat, v = (k : Int) /\ k <= a.Arms.length) (μ := λ v : Int => a.Arms.length - v.toNat) ⟨0, rfl, Nat.zero_le _⟩ ?_) ?_
 · rintro v ⟨k, rfl, g1⟩
   unfold Ee
   simp only [Ai, An, Ac, decide_eq_true_eq, At, Aw, Ae, Int.toNat_natCast]
   refine ⟨λ h => ⟨λ h' => ⟨by omega, by omega, λ hne => by simp at hne, λ heq => ?_⟩, λ h' => trivial⟩, λ h => trivial⟩
   rw [Bg (by omega) (by omega)]
   exact ⟨⟨k + 1, by simp, by omega⟩, by omega⟩
 · intro r hr
   cases r with
   | inl u => simp [Ai, Ac]
   | inr e => exact hr.elim
theorem Amq (g : Ah) (node : Int) : (Ku g node).1.Arms.length <= 40 := by
 unfold Ku
 split
 · split
   · simp
   · unfold Anj
     split
     · simp
     · split
       · split
         · simp
         · rename_i l' _ h; show l'.length <= 40; omega
       · simp
 · simp
theorem Ag8 {g : Ah} {node : Int} (h : (Ku g node).2 = 0) : ∃ (n k : Nat) (l : List Aq), GOk g n /\ node = (k : Int) /\ k < n /\ 2 <= n /\ l.length <= 40 /\ F4 (toK g k g.Arms.length) (alK g k g.Arms.length) k n n 0 (kpK g k g.Arms.length) = some l /\ (Ku g node).1 = hG n l := by
 by_cases hg : ∃ n, GOk g n
 · obtain ⟨n, G⟩ := hg
   have hn := G.nodes
   have h1 := G.n1
   rw [Ww G] at h ⊢
   by_cases hc : node < 0 \/ g.Nodes <= node \/ g.Nodes = 1
   · rw [if_pos hc] at h; simp at h
   · rw [if_neg hc] at h ⊢
     unfold Anj at h ⊢
     split at h
     · simp at h
     · rename_i hb
       rw [if_neg hb]
       split at h
       · rename_i l hl
         split at h
         · simp at h
         · rename_i hlen
           refine ⟨n, node.toNat, l, G, by omega, by omega, by omega, by omega, hl, ?_⟩
           rw [if_neg hlen]
       · simp at h
 · unfold Ku at h
   rw [dif_neg hg] at h
   simp only at h
   split at h <;> omega
theorem Aar {g : Ah} {n node : Nat} (G : GOk g n) (hno : node < n) (hn : 2 <= n) {l : List Aq} (hl : l.length <= 40) (hm : F4 (toK g node g.Arms.length) (alK g node g.Arms.length) node n n 0 (kpK g node g.Arms.length) = some l)
   {a b : Nat} (ha : a < n) (hb : b < n) (han : a ≠ node) (hbn : b ≠ node) :
   Ar (Fe g (a : Int) (b : Int)) λ r => Ar (Fe (hG n l) (dn node a : Int) (dn node b : Int)) λ s => r.2 = 3 \/ s.2 = 3 \/ r = s := by
 have H := Axk G hno hm hn hl
 have ha' := Yw hno ha han
 have hb' := Yw hno hb hbn
 refine (Lu G (a : Int) (b : Int)).mono ?_
 rintro ⟨x, ex⟩ ⟨_, h1⟩
 obtain ⟨n1, p1⟩ := h1 a b rfl rfl ha hb
 refine (Lu H (dn node a : Int) (dn node b : Int)).mono ?_
 rintro ⟨y, ey⟩ ⟨_, h2⟩
 obtain ⟨n2, p2⟩ := h2 _ _ rfl rfl ha' hb'
 by_cases hE : Eqv g a b
 · have hE' := Ate G hno hm han hbn hE
   obtain ⟨p, p0, pl, pt, pv, pe⟩ := p1 hE
   obtain ⟨q, q0, ql, qt, qv, qe⟩ := p2 hE'
   have hnode : sm n (λ j => lap g node j * p j) = 0 := by
     rw [pl node hno]; unfold ev; rw [if_neg (Ne.symm han), if_neg (Ne.symm hbn)]; grind
   have hd : p a - p b = q (dn node a) - q (dn node b) := by
     have := Aff H (x := λ j => p (skp node j)) (y := q) (λ i hi => by
       rw [ql i hi, A3b G hno hm hn hl p hnode hi, pl _ (Aov hno hi), Anw han hbn]) hE'
     simpa [Ih han, Ih hbn] using this
   rw [<- hd] at qt qv
   simp only at pt pv pe qt qv qe
   by_cases ht : Io (p a - p b)
   · have e1 := pt.2 ht; have e2 := qt.2 ht
     right; right
     rw [pv e1, qv e2, e1, e2]
   · have e1 : ex ≠ 0 := λ h => ht (pt.1 h)
     have := pe e1
     left
     cases this; rfl
 · have hE' : ¬ Eqv (hG n l) (dn node a) (dn node b) := λ h => hE (by have := A6n G hno hm h; rw [Ih han, Ih hbn] at this; exact this)
   right; right
   rw [n1 hE, n2 hE']
theorem Ac8 (g : Ah) (node a b : Int) (h64 : -9223372036854775808 <= node /\ node < 9223372036854775808) (ha64 : -9223372036854775808 <= a /\ a < 9223372036854775808) (hb64 : -9223372036854775808 <= b /\ b < 9223372036854775808) :
   Ar (Cw g node a b) λ r => r = true := by
 have K : Ar Bl λ r => r = true := by
   unfold Bl
   exact Oz.bind λ r hr => Ac.2 hr
 have K5 : Ar Ck λ r => r = true := by
   unfold Ck
   exact Oz.bind λ r hr => Ac.2 hr
 unfold Cw
 refine (Ag9 g node).bind ?_
 rintro _ rfl
 refine (Adt g node).bind ?_
 rintro _ rfl
 rw [if_neg (by simp)]
 refine (Wq (a := (Ku g node).1) (by have := Amq g node; omega)).bind ?_
 rintro _ rfl
 rw [if_neg (by simp), Ai]
 refine ⟨λ _ => K, λ hz => ?_⟩
 have hz : (Ku g node).2 = 0 := by simpa using hz
 obtain ⟨n, k, l, G, rfl, hk, hn, hl, hm, hG1⟩ := Ag8 hz
 have hN := G.nodes
 simp only [Ai, decide_eq_true_eq]
 refine ⟨λ _ => K, λ h1 => ⟨λ _ => K, λ h2 => ⟨λ _ => K, λ h3 => ⟨λ _ => K, λ h4 => ⟨λ _ => K, λ h5 => ⟨λ _ => K, λ h6 => ?_⟩⟩⟩⟩⟩⟩
 obtain ⟨a, rfl⟩ : ∃ x : Nat, a = (x : Int) := ⟨a.toNat, by omega⟩
 obtain ⟨b, rfl⟩ : ∃ x : Nat, b = (x : Int) := ⟨b.toNat, by omega⟩
 have B := Aar G hk hn hl hm (a := a) (b := b) (by omega) (by omega) (by omega) (by omega)
 refine B.bind ?_
 rintro y5 hB
 have J4 : Ar (Cj (dn k a : Int) (dn k b : Int) ((Ku g (k : Int))) y5) λ r => r = true := by
   unfold Cj
   rw [hG1]
   refine hB.bind ?_
   rintro y6 h
   simp only [Ai, Ac, decide_eq_true_eq]
   refine ⟨λ _ => K5, λ e1 => ⟨λ _ => K5, λ e2 => ?_⟩⟩
   rcases h with h | h | h
   · exact (e1 h).elim
   · exact (e2 h).elim
   · subst h
     simp only [decide_true, Bool.and_self, if_true]
     refine ⟨λ _ => ⟨λ _ => Oz.bind λ r hr => Ac.2 hr, λ h => (h trivial).elim⟩, λ h => (h trivial).elim⟩
 have J3 : ∀ v1 : Int, v1 = (dn k a : Int) -> Ar (Ci (k : Int) (b : Int) v1 (Ku g (k : Int)) y5) λ r => r = true := by
   rintro _ rfl
   unfold Ci
   simp only [Ai, decide_eq_true_eq]
   refine ⟨λ h => ?_, λ h => ?_⟩
   · have : IntKind.wrap .i64 ((b : Int) - 1) = (dn k b : Int) := by
       rw [Bg (by omega) (by omega)]; unfold dn; rw [if_pos (by omega)]; omega
     rw [this]; exact J4
   · have : (b : Int) = (dn k b : Int) := by unfold dn; rw [if_neg (by omega)]
     rw [this]; exact J4
 simp only [Ai, decide_eq_true_eq]
 refine ⟨λ h => J3 _ ?_, λ h => J3 _ ?_⟩
 · rw [Bg (by omega) (by omega)]; unfold dn; rw [if_pos (by omega)]; omega
 · unfold dn; rw [if_neg (by omega)]
end Go.Ab
namespace Go.Proofs.Ytjdgmcngpiookaa
open Go Go.Ab
theorem Az4 : RdL yaT Try.prog 26 ([.int .i64] ++ ([.int .i64] ++ [])) :=
 Qa (fl := [(0, 3, 1), (1, 3, 1)]) (fin := 2) (by kernel_rfl) (by kernel_rfl) (.cons (Rf (by kernel_rfl)) (.cons (Rf (by kernel_rfl)) .nil))
theorem A75 : RdL yaT Try.prog 28 ([.int .i64] ++ ([.int .i64] ++ (([.int .i64] ++ ([.int .i64] ++ [])) ++ (([.int .i64] ++ ([.int .i64] ++ [])) ++ [])))) :=
 Qa (fl := [(0, 3, 1), (1, 3, 1), (2, 26, 2), (4, 26, 2)]) (fin := 6) (by kernel_rfl) (by kernel_rfl) (.cons (Rf (by kernel_rfl)) (.cons (Rf (by kernel_rfl)) (.cons Az4 (.cons Az4 .nil))))
def A8d (_ : Aq) : Prop := True
theorem A4i : RdE yaT Try.prog 28 (.nm 1) A8d := Asl Agk A75 (by
 intro ls h
 obtain ⟨a, _, rfl, _, b, _, rfl, _, c, _, rfl, _, d, _, rfl, _, e, _, rfl, _, f, _, rfl, _, rfl⟩ := h
 exact ⟨⟨a, b, ⟨c, d⟩, ⟨e, f⟩⟩, trivial, rfl⟩)
theorem A11 : RdL yaT Try.prog 24 ([.int .i64] ++ ([.sl (.nm 1) 48 A8d] ++ [])) :=
 Qa (fl := [(0, 3, 1), (1, 22, 1)]) (fin := 2) (by kernel_rfl) (by kernel_rfl) (.cons (Rf (by kernel_rfl)) (.cons (by
   have h : Try.prog.bytesOf 28 = 48 := by kernel_rfl
   rw [<- h]
   exact Anf (by kernel_rfl) A4i (by kernel_rfl) (by have : Try.prog.cellsOf 28 = 6 := (by kernel_rfl); omega)) .nil))
def Az9 (g : Ah) : Prop := g.Arms.length * 48 <= reachBytes
theorem Avy : RdE yaT Try.prog 24 (.nm 2) Az9 := Asl Agk A11 (by
 intro ls h
 obtain ⟨a, _, rfl, _, b, _, rfl, hb, _, rfl⟩ := h
 exact ⟨⟨a, b⟩, hb, rfl⟩)
theorem As4 : Yy yaT Try.prog [24, 3, 3, 3] [.nm 2, .int .i64, .int .i64, .int .i64] (λ x => Az9 x.1 /\ IntKind.has .i64 x.2.1 /\ IntKind.has .i64 x.2.2.1 /\ IntKind.has .i64 x.2.2.2.1 /\ True) :=
 .cons (A2x Avy (by kernel_rfl)) (.cons (Aa5 (Aah (by kernel_rfl)) rfl (by kernel_rfl)) (.cons (Aa5 (Aah (by kernel_rfl)) rfl (by kernel_rfl)) (.cons (Aa5 (Aah (by kernel_rfl)) rfl (by kernel_rfl)) .nil)))
theorem Apc {n : Int} (h : IntKind.has .i64 n) : -9223372036854775808 <= n /\ n < 9223372036854775808 := by
 simp only [IntKind.has, IntKind.min, IntKind.max, IntKind.bits, IntKind.signed] at h
 simp at h
 omega
theorem Abh (os : Os) (started : os.Started) (H : Type) (enc : TypeId × Value -> H) :
   ReturnsInHanded {} Try.checked os 4 .any (Rows.libStarsSpec.pre6 enc Try.prog Try.f4 [] false) (Rows.libStarsSpec.post enc Try.prog Try.f4 false Rows.libStarsRow.fresh Rows.libStarsRow.handsOn Rows.libStarsRow.again) :=
 Ae4 (C := Try.checked) (tb := 4) Avz (by kernel_rfl) As4
   (λ x hx => by
     obtain ⟨g, a, b, c, u⟩ := x
     obtain ⟨r, h1, h2⟩ := Ac8 g a b c (Apc hx.2.1) (Apc hx.2.2.1) (Apc hx.2.2.2.1)
     subst h2
     show Option.map (λ r => (r, ())) (Cw g a b c) = _
     rw [h1]; rfl)
   (by kernel_rfl) (by kernel_rfl) (by kernel_rfl) (by kernel_rfl) (by kernel_rfl) rfl
   (λ ds h => by
     have h : ds.length = 4 := h.trans (by kernel_rfl)
     match ds, h with
     | [d1, d2, d3, d4], _ => rfl)
   started (by kernel_rfl) (by kernel_rfl)
   (ChangeSpec.witness6 (enc := enc) (C := Try.checked) false ⟨#[], #[.agg #[.int .i64 0, .slice none 0 0], .int .i64 0, .int .i64 0, .int .i64 0], []⟩ 8 (by kernel_rfl) (by kernel_rfl) (by kernel_rfl) (by kernel_rfl))
theorem stars_holds : Rows.LibStarsSaid :=
 OpenClaim.holds_of_wide 4 Try.f4 rfl rfl rfl rfl rfl rfl rfl ⟨rfl, rfl, rfl, rfl, rfl⟩ rfl rfl rfl rfl rfl (by kernel_rfl) (by kernel_rfl) (by kernel_rfl)
   (of_decide_eq_true (by kernel_rfl)) (by unfold Func.isWrapper; rw [if_neg (by decide +kernel)]; exact ⟨rfl, rfl⟩)
   (λ os started H enc _ => Abh os started H enc)
end Go.Proofs.Ytjdgmcngpiookaa
