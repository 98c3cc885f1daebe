/- Networks of package lib: the document's example, and the part of the trees that have an arm. For all networks and arms: the resistance between the ends of an arm, divided by its own, is the part of the trees that have the arm; the whole statement LibKirchhoffSaid. Conditions: none beyond those that each theorem names. -/
import Derived.Test.YtjdgmcngpiookaaK25
import Derived.Test.YtjdgmcngpiookaaK18
import Derived.Test.YtjdgmcngpiookaaK09
import Derived.Test.YtjdgmcngpiookaaRows
namespace Go.Ab
open Go
set_option linter.unusedVariables false
set_option linter.unusedSimpArgs false
def gX : ApiGrid := ⟨3, [⟨0, 1, ⟨1, 1⟩, ⟨3, 1⟩⟩, ⟨1, 2, ⟨1, 1⟩, ⟨0, 1⟩⟩, ⟨2, 0, ⟨1, 1⟩, ⟨0, 1⟩⟩]⟩
theorem rok_int {k : Int} (h1 : -1000000000000 ≤ k) (h2 : k ≤ 1000000000000) : ROk ⟨k, 1⟩ :=
  ⟨⟨h1, h2, by show (0 : Int) < 1; omega, by show (1 : Int) ≤ 1000000000000; omega⟩, by show Int.gcd k 1 = 1; simp⟩
theorem gX_ok : GOk gX 3 := by
  refine ⟨rfl, by omega, by omega, by show 3 ≤ 40; omega, fun e he => ?_⟩
  have he : e < 3 := he
  have : e = 0 ∨ e = 1 ∨ e = 2 := by omega
  rcases this with rfl | rfl | rfl
  · exact ⟨by decide, by decide, by decide, by decide, rok_int (by omega) (by omega), by decide, rok_int (by omega) (by omega)⟩
  · exact ⟨by decide, by decide, by decide, by decide, rok_int (by omega) (by omega), by decide, rok_int (by omega) (by omega)⟩
  · exact ⟨by decide, by decide, by decide, by decide, rok_int (by omega) (by omega), by decide, rok_int (by omega) (by omega)⟩
theorem gX_lap : lap gX 0 0 = 2 ∧ lap gX 0 1 = -1 ∧ lap gX 0 2 = -1 ∧ lap gX 1 0 = -1 ∧ lap gX 1 1 = 2 ∧ lap gX 1 2 = -1 ∧ lap gX 2 0 = -1 ∧ lap gX 2 1 = -1 ∧ lap gX 2 2 = 2 := by
  decide +kernel
theorem gX_fl : flK gX 3 0 = -3 ∧ flK gX 3 1 = 3 ∧ flK gX 3 2 = 0 := by
  decide +kernel
theorem gX_tre : tre gX 3 = 3 := by
  decide +kernel
theorem gX_cur (p : Nat → Rat) : cur gX p 0 = p 0 - p 1 + 3 ∧ cur gX p 1 = p 1 - p 2 ∧ cur gX p 2 = p 2 - p 0 := by
  have e0 : nA gX 0 = 0 ∧ nB gX 0 = 1 ∧ nA gX 1 = 1 ∧ nB gX 1 = 2 ∧ nA gX 2 = 2 ∧ nB gX 2 = 0 := by decide
  have e1 : cond (am gX 0) = 1 ∧ cond (am gX 1) = 1 ∧ cond (am gX 2) = 1 := by decide +kernel
  have e2 : apiRat (am gX 0).E = 3 ∧ apiRat (am gX 1).E = 0 ∧ apiRat (am gX 2).E = 0 := by decide +kernel
  obtain ⟨a1, a2, a3, a4, a5, a6⟩ := e0
  obtain ⟨b1, b2, b3⟩ := e1
  obtain ⟨c1, c2, c3⟩ := e2
  unfold cur
  rw [a1, a2, a3, a4, a5, a6, b1, b2, b3, c1, c2, c3]
  refine ⟨?_, ?_, ?_⟩ <;> grind
theorem sm_three (f : Nat → Rat) : sm 3 f = f 0 + f 1 + f 2 := by
  show 0 + f 0 + f 1 + f 2 = _
  grind
theorem known_gives : Gives isoclinelaw32Known fun b => b = true := by
  obtain ⟨l00, l01, l02, l10, l11, l12, l20, l21, l22⟩ := gX_lap
  obtain ⟨f0, f1, f2⟩ := gX_fl
  unfold isoclinelaw32Known isoclinelaw32Known_1
  simp only [gives_bind, gives_some]
  refine (potentials_gives gX_ok).mono ?_
  rintro ⟨pa, pc, pe⟩ ⟨l, p, J, p1, p2, k1, k2⟩
  have hr0 := p1 0 (by omega) (J.rep0 (by omega))
  have q0 := p2 0 (by omega)
  have q1 := p2 1 (by omega)
  have q2 := p2 2 (by omega)
  rw [sm_three] at q0 q1 q2
  have f0 : flK gX gX.Arms.length 0 = -3 := f0
  have f1 : flK gX gX.Arms.length 1 = 3 := f1
  have f2 : flK gX gX.Arms.length 2 = 0 := f2
  rw [l00, l01, l02, f0] at q0
  rw [l10, l11, l12, f1] at q1
  rw [l20, l21, l22, f2] at q2
  have v1 : p 1 = 2 := by grind
  have v2 : p 2 = 1 := by grind
  obtain ⟨c0, c1, c2⟩ := gX_cur p
  have c0 : cur gX p 0 = 1 := by rw [c0, hr0, v1]; grind
  have c1 : cur gX p 1 = 1 := by rw [c1, v1, v2]; grind
  have c2 : cur gX p 2 = 1 := by rw [c2, v2, hr0]; grind
  have P : PotOk gX 3 p := by
    refine ⟨fun i hi => ?_, fun e he => ?_⟩
    · have : i = 0 ∨ i = 1 ∨ i = 2 := by omega
      rcases this with rfl | rfl | rfl
      · rw [hr0]; unfold Tell; decide
      · rw [v1]; unfold Tell; decide
      · rw [v2]; unfold Tell; decide
    · have he : e < 3 := he
      have : e = 0 ∨ e = 1 ∨ e = 2 := by omega
      rcases this with rfl | rfl | rfl
      · rw [c0]; unfold Tell; decide
      · rw [c1]; unfold Tell; decide
      · rw [c2]; unfold Tell; decide
  obtain ⟨k3, _, _, k4, k5⟩ := k2 P
  simp only at k3 k4 k5
  have k4 : pc.length = 3 := k4
  have hpc : pc = [⟨1, 1⟩, ⟨1, 1⟩, ⟨1, 1⟩] := by
    refine list_eq ApiRatZ (by rw [k4]; rfl) fun i hi => ?_
    rw [k4] at hi
    rw [k5 i (by show i < 3; exact hi)]
    have : i = 0 ∨ i = 1 ∨ i = 2 := by omega
    rcases this with rfl | rfl | rfl
    · rw [c0]; rfl
    · rw [c1]; rfl
    · rw [c2]; rfl
  refine (trees_gives gX_ok).mono ?_
  rintro ⟨t, f⟩ ⟨t1, t2⟩
  rw [gX_tre] at t1 t2
  simp only at t1 t2
  have tf : f = 0 := t1.2 (by unfold Tell; decide)
  have tt := t2 tf
  have tt : t = ⟨3, 1⟩ := by rw [tt]; rfl
  refine (between_gives gX_ok 0 1).mono ?_
  rintro ⟨x, h⟩ ⟨_, b2⟩
  obtain ⟨_, b4⟩ := b2 0 1 rfl rfl (by omega) (by omega)
  obtain ⟨r, r0, r1, r2, r3⟩ := b4 (by
    intro f hf
    exact hf 0 (by show 0 < 3; omega))
  have s0 := r1 0 (by omega)
  have s1 := r1 1 (by omega)
  have s2 := r1 2 (by omega)
  rw [sm_three] at s0 s1 s2
  have e0 : ev 0 1 0 = 1 := by decide +kernel
  have e1 : ev 0 1 1 = -1 := by decide +kernel
  have e2 : ev 0 1 2 = 0 := by decide +kernel
  rw [l00, l01, l02, e0] at s0
  rw [l10, l11, l12, e1] at s1
  rw [l20, l21, l22, e2] at s2
  have hx : r 0 - r 1 = 2 / 3 := by
    have : (3 : Rat) * (r 0 - r 1) = 2 := by grind
    grind
  have en : ((2 : Rat) / 3).num = 2 := by decide +kernel
  have ed : ((2 : Rat) / 3).den = 3 := by decide +kernel
  rw [hx] at r2 r3
  simp only at r2 r3
  have hh : h = 0 := r2.2 (by unfold Tell; rw [en, ed]; decide)
  have xx := r3 hh
  rw [en, ed] at xx
  rw [hpc]
  refine (same_gives (by simp)).mono ?_
  rintro y hy
  have hy : y = true := hy.2 rfl
  subst hy tf hh k3
  rw [tt, xx]
  simp [gives_some]
def skp (k e : Nat) : Nat := if e < k then e else e + 1
theorem sm_skip {k : Nat} (f : Nat → Rat) : ∀ {m : Nat}, k ≤ m → sm (m + 1) f = sm m (fun e => f (skp k e)) + f k
  | 0, h => by
    have : k = 0 := by omega
    subst this; rfl
  | m + 1, h => by
    by_cases hk : k = m + 1
    · subst hk
      rw [sm]
      congr 1
      exact sm_congr fun e he => by unfold skp; rw [if_pos he]
    · have IH := sm_skip (k := k) f (show k ≤ m by omega)
      rw [sm, IH, sm]
      have : skp k m = m + 1 := by unfold skp; rw [if_neg (by omega)]
      rw [this]; grind
def lss (g : ApiGrid) (k : Nat) : ApiGrid := ⟨g.Nodes, g.Arms.take k ++ g.Arms.drop (k + 1)⟩
theorem lss_len {g : ApiGrid} {k : Nat} (hk : k < g.Arms.length) : (lss g k).Arms.length + 1 = g.Arms.length := by
  unfold lss
  simp only [List.length_append, List.length_take, List.length_drop]
  omega
theorem lss_am {g : ApiGrid} {k : Nat} (hk : k < g.Arms.length) {e : Nat} (he : e + 1 < g.Arms.length) : am (lss g k) e = am g (skp k e) := by
  unfold am lss skp
  simp only [List.getD_eq_getElem?_getD]
  by_cases h : e < k
  · rw [if_pos h, List.getElem?_append_left (by rw [List.length_take]; omega), List.getElem?_take, if_pos h]
  · rw [if_neg h, List.getElem?_append_right (by rw [List.length_take]; omega), List.length_take, List.getElem?_drop]
    congr 2
    omega
theorem lss_ok {g : ApiGrid} {n k : Nat} (G : GOk g n) (hk : k < g.Arms.length) : GOk (lss g k) n := by
  have hl := lss_len hk
  refine ⟨G.nodes, G.n1, G.n12, by have := G.arms; omega, fun e he => ?_⟩
  have : (lss g k).Arms.getD e ApiArmZ = am g (skp k e) := lss_am hk (by omega)
  rw [this]
  exact G.arm _ (by unfold skp; split <;> omega)
theorem lss_lap {g : ApiGrid} {k : Nat} (hk : k < g.Arms.length) (i j : Nat) : lap (lss g k) i j = lap g i j - cond (am g k) * evE g k i * evE g k j := by
  have hl := lss_len hk
  unfold lap lapK
  obtain ⟨m, hm⟩ : ∃ m, g.Arms.length = m + 1 := ⟨g.Arms.length - 1, by omega⟩
  have hm' : (lss g k).Arms.length = m := by omega
  rw [hm, hm', sm_skip (k := k) _ (by omega)]
  have : sm m (fun e => cond (am (lss g k) e) * evE (lss g k) e i * evE (lss g k) e j) = sm m (fun e => cond (am g (skp k e)) * evE g (skp k e) i * evE g (skp k e) j) := by
    refine sm_congr fun e he => ?_
    unfold evE nA nB
    rw [lss_am hk (by omega)]
  rw [this]; grind
theorem tre_part {g : ApiGrid} {n k : Nat} (G : GOk g n) (hk : k < g.Arms.length) {p : Nat → Rat} (p0 : p 0 = 0) (hp : ∀ i, i < n → sm n (fun j => lap g i j * p j) = evE g k i) :
    (p (nA g k) - p (nB g k)) * tre g n = (tre g n - tre (lss g k) n) * apiRat (am g k).R := by
  obtain ⟨a1, a2, _, _⟩ := G.ab hk
  have h1 := G.n1
  have hc := cond_mul (G.arm k hk)
  have hc : cond (am g k) * apiRat (am g k).R = 1 := hc
  have D := det_rank1 (n := n - 1) (fun i j => lap g (i + 1) (j + 1)) (fun i j _ _ => lap_symm g _ _ _) (fun i => evE g k (i + 1)) (fun i => p (i + 1)) (cond (am g k)) (fun i hi => by
    have h := hp (i + 1) (by omega)
    obtain ⟨m, rfl⟩ : ∃ m, n = m + 1 := ⟨n - 1, by omega⟩
    rw [sm_succ, p0] at h
    show sm m (fun j => lap g (i + 1) (j + 1) * p (j + 1)) = evE g k (i + 1)
    grind)
  have hx : sm (n - 1) (fun i => evE g k (i + 1) * p (i + 1)) = p (nA g k) - p (nB g k) := by
    obtain ⟨m, rfl⟩ : ∃ m, n = m + 1 := ⟨n - 1, by omega⟩
    have h := ev_sum a1 a2 p
    rw [sm_succ, p0] at h
    show sm m (fun i => evE g k (i + 1) * p (i + 1)) = _
    unfold evE
    grind
  rw [hx] at D
  have ht : tre (lss g k) n = det (n - 1) (fun i j => lap g (i + 1) (j + 1) - cond (am g k) * evE g k (i + 1) * evE g k (j + 1)) :=
    det_congr fun i j _ _ => lss_lap hk _ _
  have ht2 : tre (lss g k) n = tre g n * (1 - cond (am g k) * (p (nA g k) - p (nB g k))) := by rw [ht]; exact D
  rw [ht2]
  grind
theorem small_tell {x : Rat} (h : Tell x) : Small ⟨x.num, x.den⟩ := (tell_api h).1.1
theorem kirchhoff_gives (g : ApiGrid) (arm : Int) (hs : g.Arms.length * 48 ≤ maxBytes) : Gives (isoclinelaw32LibKirchhoff g arm) fun b => b = true := by
  have J1 : Gives isoclinelaw32LibKirchhoffJ1 fun b => b = true := by
    unfold isoclinelaw32LibKirchhoffJ1
    exact known_gives.bind fun r hr => gives_some.2 hr
  have J2 : Gives isoclinelaw32LibKirchhoffJ2 fun b => b = true := by
    unfold isoclinelaw32LibKirchhoffJ2
    exact known_gives.bind fun r hr => gives_some.2 hr
  have hmb : maxBytes = 140737488355328 := by unfold maxBytes; decide
  unfold isoclinelaw32LibKirchhoff
  rw [gives_ite]
  refine ⟨fun _ => J1, fun h1 => ?_⟩
  rw [gives_ite]
  refine ⟨fun _ => J1, fun h2 => ?_⟩
  simp only [decide_eq_true_eq] at h1 h2
  obtain ⟨k, rfl⟩ : ∃ k : Nat, arm = (k : Int) := ⟨arm.toNat, by omega⟩
  have hk : k < g.Arms.length := by omega
  rw [wi64 (by omega) (by omega)]
  have e1 : ((k : Int) + 1).toNat = k + 1 := by omega
  have e2 : List.take ((k : Int).toNat - (0 : Int).toNat) (List.drop (0 : Int).toNat g.Arms) = g.Arms.take k := by
    show List.take (k - 0) (List.drop 0 g.Arms) = _
    simp
  have e3 : List.take (((g.Arms.length : Nat) : Int).toNat - (k + 1)) (List.drop (k + 1) g.Arms) = g.Arms.drop (k + 1) := by
    show List.take (g.Arms.length - (k + 1)) _ = _
    exact List.take_of_length_le (by simp)
  rw [e1, e2, e3]
  simp only [gives_need, inRange, Int.toNat_natCast]
  refine ⟨by omega, by omega, ?_⟩
  rw [gives_ite]
  refine ⟨fun _ => J1, fun hne => ?_⟩
  simp only [decide_eq_true_eq] at hne
  simp only [gives_need]
  refine ⟨by omega, by omega, by omega, by rw [List.length_take]; omega, by omega, by omega, by omega, by rw [List.length_take, List.length_drop]; omega, by omega, by omega, ?_⟩
  by_cases hG : ∃ n, GOk g n
  · obtain ⟨n, G⟩ := hG
    obtain ⟨a1, a2, a3, a4⟩ := G.ab hk
    have eA : (List.getD g.Arms k ApiArmZ).A = (nA g k : Int) := a3
    have eB : (List.getD g.Arms k ApiArmZ).B = (nB g k : Int) := a4
    have arm := G.arm k hk
    rw [eA, eB]
    refine (between_gives G _ _).bind ?_
    rintro ⟨x, ex⟩ ⟨_, b⟩
    obtain ⟨_, b⟩ := b _ _ rfl rfl a1 a2
    obtain ⟨p, p0, p1, p2, p3⟩ := b (Eqv.arm hk)
    refine (trees_gives G).bind ?_
    rintro ⟨t, et⟩ ⟨t1, t2⟩
    refine (trees_gives (lss_ok G hk)).bind ?_
    rintro ⟨u, eu⟩ ⟨u1, u2⟩
    simp only at p2 p3 t1 t2 u1 u2
    rw [gives_ite]
    refine ⟨fun _ => J2, fun h3 => ?_⟩
    rw [gives_ite]
    refine ⟨fun _ => J2, fun h4 => ?_⟩
    rw [gives_ite]
    refine ⟨fun _ => J2, fun h5 => ?_⟩
    have h3 : ex = 0 := by simpa using h3
    have h4 : et = 0 := by simpa using h4
    have h5 : eu = 0 := by simpa using h5
    rw [p3 h3, t2 h4, u2 h5, gives_need]
    have T1 := p2.1 h3
    have T2 := t1.1 h4
    have T3 := u1.1 h5
    refine ⟨by omega, ?_⟩
    refine (isPart_gives (small_tell T1) arm.r.1 (small_tell T2) (small_tell T3)).bind ?_
    rintro y hy
    rw [(tell_api T1).2, (tell_api T2).2, (tell_api T3).2] at hy
    have hy : y = true := hy.2 (tre_part G hk p0 p1)
    subst hy
    rw [if_pos rfl]
    exact known_gives.bind fun r hr => gives_some.2 hr
  · refine (between_bad hG _ _).bind ?_
    rintro ⟨x, ex⟩ hx
    refine Gives.bind (R := fun _ => True) ((trees_bad hG).mono fun _ _ => trivial) ?_
    rintro ⟨t, et⟩ _
    have : Gives (libTrees (lss g k)) fun _ => True := by
      by_cases hG' : ∃ n, GOk (lss g k) n
      · obtain ⟨n, G'⟩ := hG'
        exact (trees_gives G').mono fun _ _ => trivial
      · exact (trees_bad hG').mono fun _ _ => trivial
    refine Gives.bind (R := fun _ => True) this ?_
    rintro ⟨u, eu⟩ _
    rw [if_pos (by simpa using hx)]
    exact J2
end Go.Ab
namespace Go.Proofs.Ytjdgmcngpiookaa
open Go Go.Ab
theorem rdRat : RdL yaT Try.prog 26 ([.int .i64] ++ ([.int .i64] ++ [])) :=
  rdl_struct (fl := [(0, 3, 1), (1, 3, 1)]) (fin := 2) (by kernel_rfl) (by kernel_rfl) (.cons (rdl_int (by kernel_rfl)) (.cons (rdl_int (by kernel_rfl)) .nil))
theorem rdArm : RdL yaT Try.prog 28 ([.int .i64] ++ ([.int .i64] ++ (([.int .i64] ++ ([.int .i64] ++ [])) ++ (([.int .i64] ++ ([.int .i64] ++ [])) ++ [])))) :=
  rdl_struct (fl := [(0, 3, 1), (1, 3, 1), (2, 26, 2), (4, 26, 2)]) (fin := 6) (by kernel_rfl) (by kernel_rfl) (.cons (rdl_int (by kernel_rfl)) (.cons (rdl_int (by kernel_rfl)) (.cons rdRat (.cons rdRat .nil))))
def QArm (_ : ApiArm) : Prop := True
theorem rdArmE : RdE yaT Try.prog 28 (.nm 1) QArm := rde_nm yaT_ok rdArm (by
  intro ls h
  obtain ⟨a, _, rfl, _, b, _, rfl, _, c, _, rfl, _, d, _, rfl, _, e, _, rfl, _, f, _, rfl, _, rfl⟩ := h
  exact ⟨⟨a, b, ⟨c, d⟩, ⟨e, f⟩⟩, trivial, rfl⟩)
theorem rdGrid : RdL yaT Try.prog 24 ([.int .i64] ++ ([.sl (.nm 1) 48 QArm] ++ [])) :=
  rdl_struct (fl := [(0, 3, 1), (1, 22, 1)]) (fin := 2) (by kernel_rfl) (by kernel_rfl) (.cons (rdl_int (by kernel_rfl)) (.cons (by
    have h : Try.prog.bytesOf 28 = 48 := by kernel_rfl
    rw [← h]
    exact rdl_slice (by kernel_rfl) rdArmE (by kernel_rfl) (by have : Try.prog.cellsOf 28 = 6 := (by kernel_rfl); omega)) .nil))
def QGrid (g : ApiGrid) : Prop := g.Arms.length * 48 ≤ reachBytes
theorem rdGridE : RdE yaT Try.prog 24 (.nm 2) QGrid := rde_nm yaT_ok rdGrid (by
  intro ls h
  obtain ⟨a, _, rfl, _, b, _, rfl, hb, _, rfl⟩ := h
  exact ⟨⟨a, b⟩, hb, rfl⟩)
theorem rdKirchhoff : RdAll yaT Try.prog [24, 3] [.nm 2, .int .i64] (fun x => QGrid x.1 ∧ IntKind.has .i64 x.2.1 ∧ True) :=
  .cons (rdv_nm rdGridE (by kernel_rfl)) (.cons (rdv_one (rde_int (by kernel_rfl)) rfl (by kernel_rfl)) .nil)
theorem kirchhoff_lifted (os : Os) (started : os.Started) (H : Type) (enc : TypeId × Value → H) :
    ReturnsInHanded {} Try.checked os 3 .any (Rows.libKirchhoffSpec.pre6 enc Try.prog Try.f3 [] false) (Rows.libKirchhoffSpec.post enc Try.prog Try.f3 false Rows.libKirchhoffRow.fresh Rows.libKirchhoffRow.handsOn Rows.libKirchhoffRow.again) :=
  law_lifted (C := Try.checked) (tb := 4) w3Meets (by kernel_rfl) rdKirchhoff
    (fun x hx => by
      obtain ⟨g, a, u⟩ := x
      obtain ⟨r, h1, h2⟩ := kirchhoff_gives g a (by have h := hx.1; unfold QGrid reachBytes at h; unfold maxBytes; have h : g.Arms.length * 48 ≤ _ := h; omega)
      subst h2
      show Option.map (fun r => (r, ())) (isoclinelaw32LibKirchhoff g a) = _
      rw [h1]; rfl)
    (by kernel_rfl) (by kernel_rfl) (by kernel_rfl) (by kernel_rfl) (by kernel_rfl) rfl
    (fun ds h => by
      have h : ds.length = 2 := h.trans (by kernel_rfl)
      match ds, h with
      | [d1, d2], _ => rfl)
    started (by kernel_rfl) (by kernel_rfl)
    (ChangeSpec.witness6 (enc := enc) (C := Try.checked) false ⟨#[], #[.agg #[.int .i64 0, .slice none 0 0], .int .i64 0], []⟩ 8 (by kernel_rfl) (by kernel_rfl) (by kernel_rfl) (by kernel_rfl))
theorem kirchhoff_holds : Rows.LibKirchhoffSaid :=
  OpenClaim.holds_of_wide 3 Try.f3 rfl rfl rfl rfl rfl rfl rfl ⟨rfl, rfl, rfl, rfl, rfl⟩ rfl rfl rfl rfl rfl (by kernel_rfl) (by kernel_rfl) (by kernel_rfl)
    (of_decide_eq_true (by kernel_rfl)) (by unfold Func.isWrapper; rw [if_neg (by decide +kernel)]; exact ⟨rfl, rfl⟩)
    (fun os started H enc _ => kirchhoff_lifted os started H enc)
end Go.Proofs.Ytjdgmcngpiookaa
