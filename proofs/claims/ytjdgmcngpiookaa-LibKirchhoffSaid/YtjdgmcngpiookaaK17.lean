/- The functions compute what the plain functions tell. Conditions: none beyond those that each theorem names. -/
import Derived.Test.YtjdgmcngpiookaaK16
namespace Go.Ab
open Go Go.Proofs
set_option linter.unusedVariables false
section
variable {P : Program} {C : Ctx} {F : Act → World → Prop}
noncomputable abbrev w96V : Env := EV [] [] false
noncomputable def w96P0 : List Item := [.code (Try.f96.body.getD .skip)]
noncomputable def w96P1 : List Item := ctl [.reg, .reg, .reg, .enter] w96P0
noncomputable def w96P2 : List Item := ctl [.reg, .br false, .auto] w96P1
noncomputable def w96L1S (a0 : (List Int)) (a1 : Int) (v1 : Int) (v2 : (List Int)) : Ab.St yaE := ⟨41, [(0, ol (.sl (.int .u32) false a0)), (1, ol (.int .u64 a1)), (5, ol (.ar 11 0)), (6, oi v1)], [(11, .arr 115 (.int .u32) v2 0 false)]⟩
noncomputable def w96S (a0 : (List Int)) (a1 : Int) : Ab.St yaE := ⟨41, [(0, ol (.sl (.int .u32) false a0)), (1, ol (.int .u64 a1))], []⟩
theorem w96L1_w (G : Good w96V P) {y : (List Int)} {o} {r} {a0} {a1} {v1} {v2} (E : Ends w96V C F Try.f96.results.toList [[(115, 0)]] [(.sl (.int .u32))] (y, ())) (h : isoclineref01ShiftedL1 a0 a1 v1 v2 = some o)
    (hl : ∀ v', o = .inl v' → Goes w96V P C F w96P1 (w96L1S a0 a1 v'.1 v'.2)) (hr : ∀ r', o = .inr r' → r' = r)
    (K1 : ∀ r1, r = r1 → Goes w96V P C F w96P2 (⟨41, [(5, ol (.ar 11 0))], [(11, .arr 115 (.int .u32) r1 0 false)]⟩ : Ab.St yaE)) : Goes w96V P C F w96P1 (w96L1S a0 a1 v1 v2) := by
  unfold isoclineref01ShiftedL1 at h
  rcases ite_some h with ⟨b1, h⟩ | ⟨b1, h⟩
  · obtain ⟨c4, h⟩ := need_some h
    obtain ⟨c5, h⟩ := need_some h
    obtain ⟨c6, h⟩ := need_some h
    obtain ⟨c7, h⟩ := need_some h
    obtain ⟨c8, h⟩ := need_some h
    obtain ⟨c9, h⟩ := need_some h
    exact sg G [.reg [], .br true, .reg [], .reg [], .reg [], .reg [], .enter, .weak [.keep [0, 1, 5, 6] [11]]] (aa b1 <| aa c4 <| aa c5 <| aa c6 <| aa c7 <| aa c8 <| aa c9 <| tt) (hl _ (si h))
  · exact sg G [.reg [], .br false, .auto, .weak [.keep [5] [11]]] (aa b1 <| tt) (K1 _ (hr _ (si h)).symm)
theorem w96_w (G : Good w96V P) {y : (List Int)} {a0} {a1} (E : Ends w96V C F Try.f96.results.toList [[(115, 0)]] [(.sl (.int .u32))] (y, ())) (h : isoclineref01Shifted a0 a1 = some y) : Goes w96V P C F w96P0 (w96S a0 a1) := by
  unfold isoclineref01Shifted at h
  obtain ⟨c1, h⟩ := need_some h
  obtain ⟨c2, h⟩ := need_some h
  obtain ⟨c3, h⟩ := need_some h
  obtain ⟨r1, hi, h⟩ := bind_some h
  have K1 : ∀ q, r1 = q → Goes w96V P C F w96P2 (⟨41, [(5, ol (.ar 11 0))], [(11, .arr 115 (.int .u32) q 0 false)]⟩ : Ab.St yaE) := by
    rintro q rfl
    have e := sj h; subst e
    exact se G E [.reg [], .auto] tt
  exact sg G [.reg [], .reg [], .reg [], .enter, .weak [.keep [0, 1, 5, 6] [11]]] (aa c1 <| aa c2 <| aa c3 <| tt) (loop_goes (V := w96V) (F := F) (k := w96P1) (S := fun v => w96L1S a0 a1 v.1 v.2) (fun v o h hl hr => w96L1_w G E h hl hr K1) _ hi)
noncomputable def w96FS : FS yaE := ⟨[(.sl (.int .u32)), (.int .u64)], [(.sl (.int .u32))], [], [[(115, 0)]], fun x => Option.map (fun r => (r, ())) (isoclineref01Shifted x.1 x.2.1)⟩
theorem w96Meets : MT 96 w96FS := show Meets w96V _ _ _ from mt (fn := Try.f96) (S := fun x => w96S x.1 x.2.1) (GB trivial trivial) fun G _ _ _ _ E h => w96_w G E h
noncomputable abbrev w97V : Env := EV [] [] true
noncomputable def w97P0 : List Item := [.code (Try.f97.body.getD .skip)]
noncomputable def w97P1 : List Item := ctl [.reg, .reg, .reg, .reg, .reg, .enter] w97P0
noncomputable def w97P2 : List Item := ctl [.reg, .br false, .auto] w97P1
noncomputable def w97P3 : List Item := ctl [.reg, .reg, .enter] w97P2
noncomputable def w97P4 : List Item := ctl [.reg, .br true, .reg, .br true, .reg, .auto] w97P3
noncomputable def w97P5 : List Item := ctl [.reg, .br false, .auto] w97P3
noncomputable def w97P6 : List Item := ctl [.reg, .br false, .reg, .reg, .enter] w97P5
noncomputable def w97P7 : List Item := ctl [.reg, .br true, .reg, .reg, .br true, .reg, .auto] w97P6
noncomputable def w97P8 : List Item := ctl [.reg, .br false, .auto] w97P6
noncomputable def w97L1S (a0 : List Int) (a1 : (List Int)) (a2 : Int) (a3 : Int) (wi : Int) (wn : Int) (v1 : Int) (v2 : Int) : Ab.St yaE := ⟨137, [(0, ol (.win 1000000 0 wi wn)), (1, ol (.sl (.int .u32) false a1)), (2, ol (.int .u64 a2)), (3, ol (.int .u64 a3)), (9, oi ((a1.length : Nat) : Int)), (11, ol (.int .u64 v1)), (12, ol (.int .u64 v2))], [(1000000, .arr 115 (.int .u32) a0 0 false)]⟩
noncomputable def w97J1S (a1 : (List Int)) (v4 : Int) (v6 : Int) (v7 : (List Int)) (v8 : Int) (r1 : Int) (wi : Int) (wn : Int) : Ab.St yaE := ⟨137, [(0, ol (.win 1000000 0 wi wn)), (1, ol (.sl (.int .u32) false a1)), (9, oi ((a1.length : Nat) : Int)), (11, ol (.int .u64 r1)), (13, ol (.int .u64 v4)), (14, ol (.int .u64 v8)), (15, oi v6)], [(1000000, .arr 115 (.int .u32) v7 0 false)]⟩
noncomputable def w97L2S (a1 : (List Int)) (r1 : Int) (wi : Int) (wn : Int) (v4 : Int) (v5 : Int) (v6 : Int) (v7 : (List Int)) : Ab.St yaE := ⟨137, [(0, ol (.win 1000000 0 wi wn)), (1, ol (.sl (.int .u32) false a1)), (9, oi ((a1.length : Nat) : Int)), (11, ol (.int .u64 r1)), (13, ol (.int .u64 v4)), (14, ol (.int .u64 v5)), (15, oi v6)], [(1000000, .arr 115 (.int .u32) v7 0 false)]⟩
noncomputable def w97J2S (a1 : (List Int)) (v12 : Int) (v13 : (List Int)) (v14 : Int) (r1 : Int) (wi : Int) (wn : Int) : Ab.St yaE := ⟨137, [(0, ol (.win 1000000 0 wi wn)), (1, ol (.sl (.int .u32) false a1)), (9, oi ((a1.length : Nat) : Int)), (11, ol (.int .u64 r1)), (14, ol (.int .u64 v14)), (17, oi v12)], [(1000000, .arr 115 (.int .u32) v13 0 false)]⟩
noncomputable def w97L3S (a1 : (List Int)) (r1 : Int) (wi : Int) (wn : Int) (v11 : Int) (v12 : Int) (v13 : (List Int)) : Ab.St yaE := ⟨137, [(0, ol (.win 1000000 0 wi wn)), (1, ol (.sl (.int .u32) false a1)), (9, oi ((a1.length : Nat) : Int)), (11, ol (.int .u64 r1)), (14, ol (.int .u64 v11)), (17, oi v12)], [(1000000, .arr 115 (.int .u32) v13 0 false)]⟩
noncomputable def w97S (a0 : List Int) (wi : Int) (wn : Int) (a1 : (List Int)) (a2 : Int) (a3 : Int) : Ab.St yaE := ⟨137, [(0, ol (.win 1000000 0 wi wn)), (1, ol (.sl (.int .u32) false a1)), (2, ol (.int .u64 a2)), (3, ol (.int .u64 a3))], [(1000000, .arr 115 (.int .u32) a0 0 false)]⟩
theorem w97L1_w (G : Good w97V P) {y : (List Int × Int)} {o} {r} {a0} {a1} {a2} {a3} {wi} {wn} {v1} {v2} (E : EndsW w97V C F Try.f97.results.toList 115 (.int .u32) wi wn [(.int .u32)] y.1 (y.2, ())) (h : isoclineref01WordL1 a0 a1 a2 a3 wi wn v1 v2 = some o)
    (hl : ∀ v', o = .inl v' → Goes w97V P C F w97P1 (w97L1S a0 a1 a2 a3 wi wn v'.1 v'.2)) (hr : ∀ r', o = .inr r' → r' = r)
    (K1 : ∀ r1, r = r1 → Goes w97V P C F w97P2 (⟨137, [(0, ol (.win 1000000 0 wi wn)), (1, ol (.sl (.int .u32) false a1)), (9, oi ((a1.length : Nat) : Int)), (11, ol (.int .u64 r1))], [(1000000, .arr 115 (.int .u32) a0 0 false)]⟩ : Ab.St yaE)) : Goes w97V P C F w97P1 (w97L1S a0 a1 a2 a3 wi wn v1 v2) := by
  unfold isoclineref01WordL1 at h
  rcases ite_some h with ⟨b1, h⟩ | ⟨b1, h⟩
  · obtain ⟨c7, h⟩ := need_some h
    obtain ⟨c8, h⟩ := need_some h
    obtain ⟨c9, h⟩ := need_some h
    rcases ite_some h with ⟨b2, h⟩ | ⟨b2, h⟩
    · exact sg G [.reg [(2, .bit true), (16, .bit true)], .br true, .reg [], .reg [], .enter, .weak [.keep [0, 1, 2, 3, 9, 11, 12] [1000000]]] (aa b1 <| aa b1 <| aa b1 <| aa b1 <| aa b1 <| aa c7 <| aa b1 <| aa b1 <| aa b1 <| aa b1 <| aa c8 <| aa c9 <| aa b1 <| aa b1 <| aa b1 <| aa b1 <| aa b1 <| aa b2 <| tt) (hl _ (si h))
    · exact sg G [.reg [(2, .bit true), (16, .bit true)], .br false, .auto, .weak [.keep [0, 1, 9, 11] [1000000]]] (aa b1 <| aa b1 <| aa b1 <| aa b1 <| aa b1 <| aa c7 <| aa b1 <| aa b1 <| aa b1 <| aa b1 <| aa c8 <| aa c9 <| aa b1 <| aa b1 <| aa b1 <| aa b1 <| aa b1 <| aa b2 <| tt) (K1 _ (hr _ (si h)).symm)
  · exact sg G [.reg [(2, .bit false), (16, .bit false)], .br false, .auto, .weak [.keep [0, 1, 9, 11] [1000000]]] (aa b1 <| aa b1 <| aa b1 <| aa b1 <| aa b1 <| aa b1 <| aa b1 <| aa b1 <| aa b1 <| aa b1 <| aa b1 <| aa b1 <| aa b1 <| aa b1 <| aa (show false = false from rfl) <| tt) (K1 _ (hr _ (si h)).symm)
theorem w97J1_w (G : Good w97V P) {y : (List Int × Int)} {o} {r} {a1} {v4} {v6} {v7} {v8} {r1} {wi} {wn} (E : EndsW w97V C F Try.f97.results.toList 115 (.int .u32) wi wn [(.int .u32)] y.1 (y.2, ())) (h : isoclineref01WordJ1 a1 v4 v6 v7 v8 r1 wi wn = some o)
    (hl : ∀ v', o = .inl v' → Goes w97V P C F w97P3 (w97L2S a1 r1 wi wn v'.1 v'.2.1 v'.2.2.1 v'.2.2.2)) (hr : ∀ r', o = .inr r' → r' = r)
    (K1 : ∀ r2, r = r2 → Goes w97V P C F w97P5 (⟨137, [(0, ol (.win 1000000 0 wi wn)), (1, ol (.sl (.int .u32) false a1)), (9, oi ((a1.length : Nat) : Int)), (11, ol (.int .u64 r1)), (13, ol (.int .u64 r2.1))], [(1000000, .arr 115 (.int .u32) r2.2 0 false)]⟩ : Ab.St yaE)) : Goes w97V P C F w97P4 (w97J1S a1 v4 v6 v7 v8 r1 wi wn) := by
  unfold isoclineref01WordJ1 at h
  obtain ⟨c11, h⟩ := need_some h
  obtain ⟨c12, h⟩ := need_some h
  obtain ⟨c13, h⟩ := need_some h
  obtain ⟨c14, h⟩ := need_some h
  obtain ⟨c15, h⟩ := need_some h
  obtain ⟨c16, h⟩ := need_some h
  exact sg G [.reg [], .reg [], .reg [], .reg [], .reg [], .enter, .weak [.keep [0, 1, 9, 11, 13, 14, 15] [1000000]]] (aa c11 <| aa c12 <| aa c13 <| aa c14 <| aa c15 <| aa c16 <| tt) (hl _ (si h))
theorem w97L2_w (G : Good w97V P) {y : (List Int × Int)} {o} {r} {a1} {r1} {wi} {wn} {v4} {v5} {v6} {v7} (E : EndsW w97V C F Try.f97.results.toList 115 (.int .u32) wi wn [(.int .u32)] y.1 (y.2, ())) (h : isoclineref01WordL2 a1 r1 wi wn v4 v5 v6 v7 = some o)
    (hl : ∀ v', o = .inl v' → Goes w97V P C F w97P3 (w97L2S a1 r1 wi wn v'.1 v'.2.1 v'.2.2.1 v'.2.2.2)) (hr : ∀ r', o = .inr r' → r' = r)
    (K1 : ∀ r2, r = r2 → Goes w97V P C F w97P5 (⟨137, [(0, ol (.win 1000000 0 wi wn)), (1, ol (.sl (.int .u32) false a1)), (9, oi ((a1.length : Nat) : Int)), (11, ol (.int .u64 r1)), (13, ol (.int .u64 r2.1))], [(1000000, .arr 115 (.int .u32) r2.2 0 false)]⟩ : Ab.St yaE)) : Goes w97V P C F w97P3 (w97L2S a1 r1 wi wn v4 v5 v6 v7) := by
  unfold isoclineref01WordL2 at h
  rcases ite_some h with ⟨b3, h⟩ | ⟨b3, h⟩
  · rcases ite_some h with ⟨b4, h⟩ | ⟨b4, h⟩
    · obtain ⟨c10, h⟩ := need_some h
      exact sg G [.reg [], .br true, .reg [], .br true, .reg [], .auto, .weak [.keep [0, 1, 9, 11, 13, 14, 15] [1000000]]] (aa b3 <| aa b4 <| aa c10 <| tt) (w97J1_w G E h hl hr K1)
    · exact sg G [.reg [], .br true, .reg [], .br false, .auto, .weak [.keep [0, 1, 9, 11, 13, 14, 15] [1000000]]] (aa b3 <| aa b4 <| tt) (w97J1_w G E h hl hr K1)
  · exact sg G [.reg [], .br false, .auto, .weak [.keep [0, 1, 9, 11, 13] [1000000]]] (aa b3 <| tt) (K1 _ (hr _ (si h)).symm)
theorem w97J2_w (G : Good w97V P) {y : (List Int × Int)} {o} {r} {a1} {v12} {v13} {v14} {r1} {wi} {wn} (E : EndsW w97V C F Try.f97.results.toList 115 (.int .u32) wi wn [(.int .u32)] y.1 (y.2, ())) (h : isoclineref01WordJ2 a1 v12 v13 v14 r1 wi wn = some o)
    (hl : ∀ v', o = .inl v' → Goes w97V P C F w97P6 (w97L3S a1 r1 wi wn v'.1 v'.2.1 v'.2.2)) (hr : ∀ r', o = .inr r' → r' = r)
    (K1 : ∀ r3, r = r3 → Goes w97V P C F w97P8 (⟨137, [(0, ol (.win 1000000 0 wi wn)), (11, ol (.int .u64 r1))], [(1000000, .arr 115 (.int .u32) r3 0 false)]⟩ : Ab.St yaE)) : Goes w97V P C F w97P7 (w97J2S a1 v12 v13 v14 r1 wi wn) := by
  unfold isoclineref01WordJ2 at h
  obtain ⟨c20, h⟩ := need_some h
  obtain ⟨c21, h⟩ := need_some h
  obtain ⟨c22, h⟩ := need_some h
  exact sg G [.reg [], .reg [], .reg [], .enter, .weak [.keep [0, 1, 9, 11, 14, 17] [1000000]]] (aa c20 <| aa c21 <| aa c22 <| tt) (hl _ (si h))
theorem w97L3_w (G : Good w97V P) {y : (List Int × Int)} {o} {r} {a1} {r1} {wi} {wn} {v11} {v12} {v13} (E : EndsW w97V C F Try.f97.results.toList 115 (.int .u32) wi wn [(.int .u32)] y.1 (y.2, ())) (h : isoclineref01WordL3 a1 r1 wi wn v11 v12 v13 = some o)
    (hl : ∀ v', o = .inl v' → Goes w97V P C F w97P6 (w97L3S a1 r1 wi wn v'.1 v'.2.1 v'.2.2)) (hr : ∀ r', o = .inr r' → r' = r)
    (K1 : ∀ r3, r = r3 → Goes w97V P C F w97P8 (⟨137, [(0, ol (.win 1000000 0 wi wn)), (11, ol (.int .u64 r1))], [(1000000, .arr 115 (.int .u32) r3 0 false)]⟩ : Ab.St yaE)) : Goes w97V P C F w97P6 (w97L3S a1 r1 wi wn v11 v12 v13) := by
  unfold isoclineref01WordL3 at h
  rcases ite_some h with ⟨b6, h⟩ | ⟨b6, h⟩
  · obtain ⟨c17, h⟩ := need_some h
    obtain ⟨c18, h⟩ := need_some h
    rcases ite_some h with ⟨b7, h⟩ | ⟨b7, h⟩
    · obtain ⟨c19, h⟩ := need_some h
      exact sg G [.reg [], .br true, .reg [], .reg [], .br true, .reg [], .auto, .weak [.keep [0, 1, 9, 11, 14, 17] [1000000]]] (aa b6 <| aa c17 <| aa c18 <| aa b7 <| aa c19 <| tt) (w97J2_w G E h hl hr K1)
    · exact sg G [.reg [], .br true, .reg [], .reg [], .br false, .auto, .weak [.keep [0, 1, 9, 11, 14, 17] [1000000]]] (aa b6 <| aa c17 <| aa c18 <| aa b7 <| tt) (w97J2_w G E h hl hr K1)
  · exact sg G [.reg [], .br false, .auto, .weak [.keep [0, 11] [1000000]]] (aa b6 <| tt) (K1 _ (hr _ (si h)).symm)
theorem w97_w (G : Good w97V P) {y : (List Int × Int)} {a0} {wi} {wn} {a1} {a2} {a3} (E : EndsW w97V C F Try.f97.results.toList 115 (.int .u32) wi wn [(.int .u32)] y.1 (y.2, ())) (h : isoclineref01Word a0 wi wn a1 a2 a3 = some y) : Goes w97V P C F w97P0 (w97S a0 wi wn a1 a2 a3) := by
  unfold isoclineref01Word at h
  obtain ⟨c1, h⟩ := need_some h
  obtain ⟨c2, h⟩ := need_some h
  obtain ⟨c3, h⟩ := need_some h
  obtain ⟨c4, h⟩ := need_some h
  obtain ⟨c5, h⟩ := need_some h
  obtain ⟨c6, h⟩ := need_some h
  obtain ⟨r1, hi, h⟩ := bind_some h
  have K1 : ∀ q, r1 = q → Goes w97V P C F w97P2 (⟨137, [(0, ol (.win 1000000 0 wi wn)), (1, ol (.sl (.int .u32) false a1)), (9, oi ((a1.length : Nat) : Int)), (11, ol (.int .u64 q))], [(1000000, .arr 115 (.int .u32) a0 0 false)]⟩ : Ab.St yaE) := by
    rintro q rfl
    obtain ⟨r2, hi, h⟩ := bind_some h
    have K1 : ∀ q, r2 = q → Goes w97V P C F w97P5 (⟨137, [(0, ol (.win 1000000 0 wi wn)), (1, ol (.sl (.int .u32) false a1)), (9, oi ((a1.length : Nat) : Int)), (11, ol (.int .u64 r1)), (13, ol (.int .u64 q.1))], [(1000000, .arr 115 (.int .u32) q.2 0 false)]⟩ : Ab.St yaE) := by
      rintro q rfl
      rcases ite_some h with ⟨b5, h⟩ | ⟨b5, h⟩
      · have e := sj h; subst e
        exact sw G E [.reg [], .br true, .reg [], .auto] (aa b5 <| tt)
      · obtain ⟨r3, hi, h⟩ := bind_some h
        have K1 : ∀ q, r3 = q → Goes w97V P C F w97P8 (⟨137, [(0, ol (.win 1000000 0 wi wn)), (11, ol (.int .u64 r1))], [(1000000, .arr 115 (.int .u32) q 0 false)]⟩ : Ab.St yaE) := by
          rintro q rfl
          have e := sj h; subst e
          exact sw G E [.reg [], .auto] tt
        exact sg G [.reg [], .br false, .reg [], .reg [], .enter, .weak [.keep [0, 1, 9, 11, 14, 17] [1000000]]] (aa b5 <| tt) (loop_goes (V := w97V) (F := F) (k := w97P6) (S := fun v => w97L3S a1 r1 wi wn v.1 v.2.1 v.2.2) (fun v o h hl hr => w97L3_w G E h hl hr K1) _ hi)
    exact sg G [.reg [], .reg [], .enter, .weak [.keep [0, 1, 9, 11, 13, 14, 15] [1000000]]] tt (loop_goes (V := w97V) (F := F) (k := w97P3) (S := fun v => w97L2S a1 r1 wi wn v.1 v.2.1 v.2.2.1 v.2.2.2) (fun v o h hl hr => w97L2_w G E h hl hr K1) _ hi)
  exact sg G [.reg [], .reg [], .reg [], .reg [], .reg [], .enter, .weak [.keep [0, 1, 2, 3, 9, 11, 12] [1000000]]] (aa c1 <| aa c2 <| aa c3 <| aa c4 <| aa c5 <| aa c6 <| tt) (loop_goes (V := w97V) (F := F) (k := w97P1) (S := fun v => w97L1S a0 a1 a2 a3 wi wn v.1 v.2) (fun v o h hl hr => w97L1_w G E h hl hr K1) _ hi)
noncomputable def w97FW : FW yaE := ⟨115, (.int .u32), [(.sl (.int .u32)), (.int .u64), (.int .u64)], [(.int .u32)], fun xs i n x => Option.map (fun r => (r.1, (r.2, ()))) (isoclineref01Word xs i n x.1 x.2.1 x.2.2.1)⟩
theorem w97Meets : MeetsWT yaT yaTi yaEqs Try.prog 97 w97FW :=
  meetsw_of (V := w97V) (GB trivial trivial) rfl (c := Try.f97.body.getD .skip) (fn := Try.f97) (by kernel_rfl) (by kernel_rfl) (by kernel_rfl) (by kernel_rfl) fun xs i n x ys y h C F E => by
    obtain ⟨a1, a2, a3, u⟩ := x
    have h : Option.map (fun r => (r.1, (r.2, ()))) (isoclineref01Word xs i n a1 a2 a3) = some (ys, y) := h
    obtain ⟨z, hz, e⟩ := Option.map_eq_some_iff.1 h
    cases e
    rw [show entryStW w97V Try.f97.ntmps w97FW xs i n (a1, a2, a3, u) = w97S xs i n a1 a2 a3 by kernel_rfl]
    exact w97_w (GB trivial trivial) E hz
noncomputable abbrev w84V : Env := EV [(86, w86FS), (89, w89FS), (95, w95FS), (96, w96FS)] [(97, w97FW)] false
noncomputable def w84P0 : List Item := [.code (Try.f84.body.getD .skip)]
noncomputable def w84P1 : List Item := ctl [.reg, .reg, .br false, .reg, .br true, .reg, .reg, .reg, .enter] w84P0
noncomputable def w84P2 : List Item := ctl [.reg, .br false, .auto] w84P1
noncomputable def w84P3 : List Item := ctl [.reg, .reg, .br false, .reg, .br false, .reg, .reg, .reg, .reg, .reg, .enter] w84P0
noncomputable def w84P4 : List Item := ctl [.reg, .br false, .auto] w84P3
noncomputable def w84P5 : List Item := ctl [.reg, .reg, .enter] w84P4
noncomputable def w84P6 : List Item := ctl [.reg, .br true, .reg, .reg, .br true, .reg, .auto] w84P5
noncomputable def w84P7 : List Item := ctl [.reg, .br false, .auto] w84P5
noncomputable def w84L1S (a0 : (List Int)) (a1 : (List Int)) (v1 : Int) (v2 : Int) (v3 : (List Int)) : Ab.St yaE := ⟨164, [(0, ol (.sl (.int .u32) false a0)), (1, ol (.sl (.int .u32) false a1)), (6, ol (.ar 29 0)), (7, ol (.int .u64 v1)), (8, oi v2)], [(29, .arr 115 (.int .u32) v3 0 false)]⟩
noncomputable def w84L2S (y4 : Int) (y7 : (List Int)) (v6 : Int) (v7 : Int) (v8 : Int) (v9 : (List Int)) (v10 : (List Int)) : Ab.St yaE := ⟨164, [(10, ol (.int .u64 (IntKind.wrap .u64 y4))), (11, ol (.ar 77 0)), (12, ol (.sl (.int .u32) false y7)), (13, ol (.ar 87 0)), (14, ol (.int .u64 v6)), (15, ol (.int .u64 v7)), (16, oi v8)], [(77, .arr 115 (.int .u32) v9 0 false), (87, .arr 115 (.int .u32) v10 0 false)]⟩
noncomputable def w84J1S (v13 : Int) (v15 : (List Int)) (r2 : ((List Int) × (List Int))) (y4 : Int) : Ab.St yaE := ⟨164, [(10, ol (.int .u64 (IntKind.wrap .u64 y4))), (13, ol (.ar 87 0)), (17, ol (.ar 125 0)), (18, oi v13)], [(87, .arr 115 (.int .u32) r2.2 0 false), (125, .arr 115 (.int .u32) v15 0 false)]⟩
noncomputable def w84L3S (r2 : ((List Int) × (List Int))) (y4 : Int) (v13 : Int) (v14 : (List Int)) : Ab.St yaE := ⟨164, [(10, ol (.int .u64 (IntKind.wrap .u64 y4))), (13, ol (.ar 87 0)), (17, ol (.ar 125 0)), (18, oi v13)], [(87, .arr 115 (.int .u32) r2.2 0 false), (125, .arr 115 (.int .u32) v14 0 false)]⟩
noncomputable def w84S (a0 : (List Int)) (a1 : (List Int)) : Ab.St yaE := ⟨164, [(0, ol (.sl (.int .u32) false a0)), (1, ol (.sl (.int .u32) false a1))], []⟩
theorem w84L1_w (G : Good w84V P) {y : ((List Int) × (List Int))} {o} {r} {a0} {a1} {v1} {v2} {v3} (E : Ends w84V C F Try.f84.results.toList [] [(.sl (.int .u32)), (.sl (.int .u32))] (y.1, y.2, ())) (h : isoclineref01PartsL1 a0 a1 v1 v2 v3 = some o)
    (hl : ∀ v', o = .inl v' → Goes w84V P C F w84P1 (w84L1S a0 a1 v'.1 v'.2.1 v'.2.2)) (hr : ∀ r', o = .inr r' → r' = r)
    (K1 : ∀ r1, r = r1 → Goes w84V P C F w84P2 (⟨164, [(6, ol (.ar 29 0)), (7, ol (.int .u64 r1.1))], [(29, .arr 115 (.int .u32) r1.2 0 false)]⟩ : Ab.St yaE)) : Goes w84V P C F w84P1 (w84L1S a0 a1 v1 v2 v3) := by
  unfold isoclineref01PartsL1 at h
  rcases ite_some h with ⟨b3, h⟩ | ⟨b3, h⟩
  · obtain ⟨c5, h⟩ := need_some h
    obtain ⟨c6, h⟩ := need_some h
    obtain ⟨c7, h⟩ := need_some h
    obtain ⟨c8, h⟩ := need_some h
    obtain ⟨c9, h⟩ := need_some h
    obtain ⟨c10, h⟩ := need_some h
    obtain ⟨c11, h⟩ := need_some h
    exact sg G [.reg [], .br true, .reg [], .reg [], .reg [], .reg [], .enter, .weak [.keep [0, 1, 6, 7, 8] [29]]] (aa b3 <| aa c5 <| aa c6 <| aa c7 <| aa c8 <| aa c9 <| aa c10 <| aa c11 <| tt) (hl _ (si h))
  · exact sg G [.reg [], .br false, .auto, .weak [.keep [6, 7] [29]]] (aa b3 <| tt) (K1 _ (hr _ (si h)).symm)
theorem w84L2_w (G : Good w84V P) {y : ((List Int) × (List Int))} {o} {r} {y4} {y7} {v6} {v7} {v8} {v9} {v10} (E : Ends w84V C F Try.f84.results.toList [] [(.sl (.int .u32)), (.sl (.int .u32))] (y.1, y.2, ())) (h : isoclineref01PartsL2 y4 y7 v6 v7 v8 v9 v10 = some o)
    (hl : ∀ v', o = .inl v' → Goes w84V P C F w84P3 (w84L2S y4 y7 v'.1 v'.2.1 v'.2.2.1 v'.2.2.2.1 v'.2.2.2.2)) (hr : ∀ r', o = .inr r' → r' = r)
    (K1 : ∀ r2, r = r2 → Goes w84V P C F w84P4 (⟨164, [(10, ol (.int .u64 (IntKind.wrap .u64 y4))), (11, ol (.ar 77 0)), (13, ol (.ar 87 0))], [(77, .arr 115 (.int .u32) r2.1 0 false), (87, .arr 115 (.int .u32) r2.2 0 false)]⟩ : Ab.St yaE)) : Goes w84V P C F w84P3 (w84L2S y4 y7 v6 v7 v8 v9 v10) := by
  unfold isoclineref01PartsL2 at h
  rcases ite_some h with ⟨b4, h⟩ | ⟨b4, h⟩
  · obtain ⟨c24, h⟩ := need_some h
    obtain ⟨c25, h⟩ := need_some h
    obtain ⟨c26, h⟩ := need_some h
    obtain ⟨y8, c27, h⟩ := bind_some h
    obtain ⟨c28, h⟩ := need_some h
    obtain ⟨c29, h⟩ := need_some h
    exact sg G [.reg [], .br true, .reg [(13, .res ⟨[(.sl (.int .u32)), (.int .u32)], (y8.1, (y8.2, ()))⟩)], .reg [], .enter, .weak [.keep [10, 11, 12, 13, 14, 15, 16] [77, 87]]] (aa b4 <| aa c24 <| aa c25 <| aa c26 <| aa (congrArg (Option.map (fun r => (r.1, (r.2, ())))) c27) <| aa c28 <| aa c29 <| tt) (hl _ (si h))
  · exact sg G [.reg [], .br false, .auto, .weak [.keep [10, 11, 13] [77, 87]]] (aa b4 <| tt) (K1 _ (hr _ (si h)).symm)
theorem w84J1_w (G : Good w84V P) {y : ((List Int) × (List Int))} {o} {r} {v13} {v15} {r2} {y4} (E : Ends w84V C F Try.f84.results.toList [] [(.sl (.int .u32)), (.sl (.int .u32))] (y.1, y.2, ())) (h : isoclineref01PartsJ1 v13 v15 r2 y4 = some o)
    (hl : ∀ v', o = .inl v' → Goes w84V P C F w84P5 (w84L3S r2 y4 v'.1 v'.2)) (hr : ∀ r', o = .inr r' → r' = r)
    (K1 : ∀ r3, r = r3 → Goes w84V P C F w84P7 (⟨164, [(13, ol (.ar 87 0)), (17, ol (.ar 125 0))], [(87, .arr 115 (.int .u32) r2.2 0 false), (125, .arr 115 (.int .u32) r3 0 false)]⟩ : Ab.St yaE)) : Goes w84V P C F w84P6 (w84J1S v13 v15 r2 y4) := by
  unfold isoclineref01PartsJ1 at h
  exact sg G [.reg [], .enter, .weak [.keep [10, 13, 17, 18] [87, 125]]] tt (hl _ (si h))
theorem w84L3_w (G : Good w84V P) {y : ((List Int) × (List Int))} {o} {r} {r2} {y4} {v13} {v14} (E : Ends w84V C F Try.f84.results.toList [] [(.sl (.int .u32)), (.sl (.int .u32))] (y.1, y.2, ())) (h : isoclineref01PartsL3 r2 y4 v13 v14 = some o)
    (hl : ∀ v', o = .inl v' → Goes w84V P C F w84P5 (w84L3S r2 y4 v'.1 v'.2)) (hr : ∀ r', o = .inr r' → r' = r)
    (K1 : ∀ r3, r = r3 → Goes w84V P C F w84P7 (⟨164, [(13, ol (.ar 87 0)), (17, ol (.ar 125 0))], [(87, .arr 115 (.int .u32) r2.2 0 false), (125, .arr 115 (.int .u32) r3 0 false)]⟩ : Ab.St yaE)) : Goes w84V P C F w84P5 (w84L3S r2 y4 v13 v14) := by
  unfold isoclineref01PartsL3 at h
  rcases ite_some h with ⟨b5, h⟩ | ⟨b5, h⟩
  · obtain ⟨c31, h⟩ := need_some h
    obtain ⟨c32, h⟩ := need_some h
    obtain ⟨c33, h⟩ := need_some h
    rcases ite_some h with ⟨b6, h⟩ | ⟨b6, h⟩
    · obtain ⟨c34, h⟩ := need_some h
      obtain ⟨c35, h⟩ := need_some h
      obtain ⟨c36, h⟩ := need_some h
      obtain ⟨c37, h⟩ := need_some h
      exact sg G [.reg [], .br true, .reg [], .reg [], .br true, .reg [], .auto, .weak [.keep [10, 13, 17, 18] [87, 125]]] (aa b5 <| aa c31 <| aa c32 <| aa c33 <| aa b6 <| aa c34 <| aa c35 <| aa c36 <| aa c37 <| tt) (w84J1_w G E h hl hr K1)
    · exact sg G [.reg [], .br true, .reg [], .reg [], .br false, .auto, .weak [.keep [10, 13, 17, 18] [87, 125]]] (aa b5 <| aa c31 <| aa c32 <| aa c33 <| aa b6 <| tt) (w84J1_w G E h hl hr K1)
  · exact sg G [.reg [], .br false, .auto, .weak [.keep [13, 17] [87, 125]]] (aa b5 <| tt) (K1 _ (hr _ (si h)).symm)
theorem w84_w (G : Good w84V P) {y : ((List Int) × (List Int))} {a0} {a1} (E : Ends w84V C F Try.f84.results.toList [] [(.sl (.int .u32)), (.sl (.int .u32))] (y.1, y.2, ())) (h : isoclineref01Parts a0 a1 = some y) : Goes w84V P C F w84P0 (w84S a0 a1) := by
  unfold isoclineref01Parts at h
  obtain ⟨y1, c1, h⟩ := bind_some h
  rcases ite_some h with ⟨b1, h⟩ | ⟨b1, h⟩
  · have e := sj h; subst e
    exact se G E [.reg [], .reg [(2, .res ⟨[(.int .i64)], (y1, ())⟩)], .br true, .reg [], .auto] (aa (ca c1) <| aa b1 <| tt)
  · rcases ite_some h with ⟨b2, h⟩ | ⟨b2, h⟩
    · obtain ⟨c2, h⟩ := need_some h
      obtain ⟨c3, h⟩ := need_some h
      obtain ⟨c4, h⟩ := need_some h
      obtain ⟨r1, hi, h⟩ := bind_some h
      have K1 : ∀ q, r1 = q → Goes w84V P C F w84P2 (⟨164, [(6, ol (.ar 29 0)), (7, ol (.int .u64 q.1))], [(29, .arr 115 (.int .u32) q.2 0 false)]⟩ : Ab.St yaE) := by
        rintro q rfl
        obtain ⟨y2, c12, h⟩ := bind_some h
        obtain ⟨y3, c13, h⟩ := bind_some h
        have e := sj h; subst e
        exact se G E [.reg [(1, .res ⟨[(.sl (.int .u32))], (y2, ())⟩), (4, .lit), (5, .res ⟨[(.sl (.int .u32))], (y3, ())⟩)], .auto, .weak [.fix (.slot 4), .fix (.slot 5)]] (aa (ca c12) <| aa (ca c13) <| tt)
      exact sg G [.reg [], .reg [(2, .res ⟨[(.int .i64)], (y1, ())⟩)], .br false, .reg [], .br true, .reg [], .reg [], .reg [], .enter, .weak [.keep [0, 1, 6, 7, 8] [29]]] (aa (ca c1) <| aa b1 <| aa b2 <| aa c2 <| aa c3 <| aa c4 <| tt) (loop_goes (V := w84V) (F := F) (k := w84P1) (S := fun v => w84L1S a0 a1 v.1 v.2.1 v.2.2) (fun v o h hl hr => w84L1_w G E h hl hr K1) _ hi)
    · obtain ⟨c14, h⟩ := need_some h
      obtain ⟨y4, c15, h⟩ := bind_some h
      obtain ⟨y5, c16, h⟩ := bind_some h
      obtain ⟨y6, c17, h⟩ := bind_some h
      obtain ⟨y7, c18, h⟩ := bind_some h
      obtain ⟨c19, h⟩ := need_some h
      obtain ⟨c20, h⟩ := need_some h
      obtain ⟨c21, h⟩ := need_some h
      obtain ⟨c22, h⟩ := need_some h
      obtain ⟨c23, h⟩ := need_some h
      obtain ⟨r2, hi, h⟩ := bind_some h
      have K1 : ∀ q, r2 = q → Goes w84V P C F w84P4 (⟨164, [(10, ol (.int .u64 (IntKind.wrap .u64 y4))), (11, ol (.ar 77 0)), (13, ol (.ar 87 0))], [(77, .arr 115 (.int .u32) q.1 0 false), (87, .arr 115 (.int .u32) q.2 0 false)]⟩ : Ab.St yaE) := by
        rintro q rfl
        obtain ⟨y9, c30, h⟩ := bind_some h
        obtain ⟨r3, hi, h⟩ := bind_some h
        have K1 : ∀ q, r3 = q → Goes w84V P C F w84P7 (⟨164, [(13, ol (.ar 87 0)), (17, ol (.ar 125 0))], [(87, .arr 115 (.int .u32) r2.2 0 false), (125, .arr 115 (.int .u32) q 0 false)]⟩ : Ab.St yaE) := by
          rintro q rfl
          obtain ⟨y10, c38, h⟩ := bind_some h
          obtain ⟨y11, c39, h⟩ := bind_some h
          have e := sj h; subst e
          exact se G E [.reg [(1, .res ⟨[(.sl (.int .u32))], (y10, ())⟩), (3, .res ⟨[(.sl (.int .u32))], (y11, ())⟩)], .auto, .weak [.fix (.slot 4), .fix (.slot 5)]] (aa (ca c38) <| aa (ca c39) <| tt)
        exact sg G [.reg [(1, .res ⟨[(.sl (.int .u32))], (y9, ())⟩)], .reg [], .enter, .weak [.keep [10, 13, 17, 18] [87, 125]]] (aa (ca c30) <| tt) (loop_goes (V := w84V) (F := F) (k := w84P5) (S := fun v => w84L3S r2 y4 v.1 v.2) (fun v o h hl hr => w84L3_w G E h hl hr K1) _ hi)
      exact sg G [.reg [], .reg [(2, .res ⟨[(.int .i64)], (y1, ())⟩)], .br false, .reg [], .br false, .reg [(6, .res ⟨[(.int .i64)], (y4, ())⟩)], .reg [(2, .res ⟨[(.sl (.int .u32))], (y5, ())⟩), (5, .res ⟨[(.sl (.int .u32))], (y6, ())⟩), (6, .res ⟨[(.sl (.int .u32))], (y7, ())⟩)], .reg [], .reg [], .reg [], .enter, .weak [.fix (.slot 12), .keep [10, 11, 12, 13, 14, 15, 16] [77, 87]]] (aa (ca c1) <| aa b1 <| aa b2 <| aa c14 <| aa (ca c15) <| aa (ca c16) <| aa (ca c17) <| aa (ca c18) <| aa c19 <| aa c20 <| aa c21 <| aa c22 <| aa c23 <| tt) (loop_goes (V := w84V) (F := F) (k := w84P3) (S := fun v => w84L2S y4 y7 v.1 v.2.1 v.2.2.1 v.2.2.2.1 v.2.2.2.2) (fun v o h hl hr => w84L2_w G E h hl hr K1) _ hi)
noncomputable def w84FS : FS yaE := ⟨[(.sl (.int .u32)), (.sl (.int .u32))], [(.sl (.int .u32)), (.sl (.int .u32))], [], [], fun x => Option.map (fun r => (r.1, r.2, ())) (isoclineref01Parts x.1 x.2.1)⟩
theorem w84Meets : MT 84 w84FS := show Meets w84V _ _ _ from mt (fn := Try.f84) (S := fun x => w84S x.1 x.2.1) (GB ⟨w86Meets, w89Meets, w95Meets, w96Meets, trivial⟩ ⟨w97Meets, trivial⟩) fun G _ _ _ _ E h => w84_w G E h
noncomputable abbrev w83V : Env := EV [(84, w84FS)] [] false
noncomputable def w83P0 : List Item := [.code (Try.f83.body.getD .skip)]
noncomputable def w83P1 : List Item := ctl [.reg, .enter] w83P0
noncomputable def w83P2 : List Item := ctl [.reg, .br false, .auto] w83P1
noncomputable def w83L1S (v1 : (List Int)) (v2 : (List Int)) : Ab.St yaE := ⟨19, [(0, ol (.sl (.int .u32) false v1)), (1, ol (.sl (.int .u32) false v2))], []⟩
noncomputable def w83S (a0 : (List Int)) (a1 : (List Int)) : Ab.St yaE := ⟨19, [(0, ol (.sl (.int .u32) false a0)), (1, ol (.sl (.int .u32) false a1))], []⟩
theorem w83L1_w (G : Good w83V P) {y : (List Int)} {o} {r} {v1} {v2} (E : Ends w83V C F Try.f83.results.toList [] [(.sl (.int .u32))] (y, ())) (h : isoclineref01DivisorL1 v1 v2 = some o)
    (hl : ∀ v', o = .inl v' → Goes w83V P C F w83P1 (w83L1S v'.1 v'.2)) (hr : ∀ r', o = .inr r' → r' = r)
    (K1 : ∀ r1, r = r1 → Goes w83V P C F w83P2 (⟨19, [(0, ol (.sl (.int .u32) false r1))], []⟩ : Ab.St yaE)) : Goes w83V P C F w83P1 (w83L1S v1 v2) := by
  unfold isoclineref01DivisorL1 at h
  rcases ite_some h with ⟨b1, h⟩ | ⟨b1, h⟩
  · obtain ⟨y1, c1, h⟩ := bind_some h
    exact sg G [.reg [], .br true, .reg [(2, .res ⟨[(.sl (.int .u32)), (.sl (.int .u32))], (y1.1, y1.2, ())⟩)], .reg [], .enter, .weak [.keep [0, 1] []]] (aa b1 <| aa (cb c1) <| tt) (hl _ (si h))
  · exact sg G [.reg [], .br false, .auto, .weak [.keep [0] []]] (aa b1 <| tt) (K1 _ (hr _ (si h)).symm)
theorem w83_w (G : Good w83V P) {y : (List Int)} {a0} {a1} (E : Ends w83V C F Try.f83.results.toList [] [(.sl (.int .u32))] (y, ())) (h : isoclineref01Divisor a0 a1 = some y) : Goes w83V P C F w83P0 (w83S a0 a1) := by
  unfold isoclineref01Divisor at h
  obtain ⟨r1, hi, h⟩ := bind_some h
  have K1 : ∀ q, r1 = q → Goes w83V P C F w83P2 (⟨19, [(0, ol (.sl (.int .u32) false q))], []⟩ : Ab.St yaE) := by
    rintro q rfl
    have e := sj h; subst e
    exact se G E [.reg [], .auto] tt
  exact sg G [.reg [], .enter, .weak [.keep [0, 1] []]] tt (loop_goes (V := w83V) (F := F) (k := w83P1) (S := fun v => w83L1S v.1 v.2) (fun v o h hl hr => w83L1_w G E h hl hr K1) _ hi)
noncomputable def w83FS : FS yaE := ⟨[(.sl (.int .u32)), (.sl (.int .u32))], [(.sl (.int .u32))], [], [], fun x => Option.map (fun r => (r, ())) (isoclineref01Divisor x.1 x.2.1)⟩
theorem w83Meets : MT 83 w83FS := show Meets w83V _ _ _ from mt (fn := Try.f83) (S := fun x => w83S x.1 x.2.1) (GB ⟨w84Meets, trivial⟩ trivial) fun G _ _ _ _ E h => w83_w G E h
noncomputable abbrev w53V : Env := EV [(56, w56FS), (65, w65FS), (82, w82FS), (83, w83FS), (84, w84FS), (85, w85FS)] [] false
noncomputable def w53P0 : List Item := [.code (Try.f53.body.getD .skip)]
noncomputable def w53P1 : List Item := ctl [.reg, .reg, .br false, .reg, .br true, .reg, .auto] w53P0
noncomputable def w53P2 : List Item := ctl [.reg, .br false, .reg, .reg, .br true, .auto] w53P1
noncomputable def w53P3 : List Item := ctl [.reg, .reg, .reg, .auto] w53P2
noncomputable def w53J3S (v5 : (List Int)) (v6 : Bool) (v7 : (List Int)) (v8 : Bool) : Ab.St yaE := ⟨61, [(2, ol (.ptr 2 0)), (3, ol (.ptr 3 0)), (4, ol (.ptr 4 0))], [(2, .cells [.sl (.int .u32) false v5, .bool v6]), (3, .cells [.sl (.int .u32) false v7, .bool v8]), (4, .cells [.sl (.int .u32) true [], .bool false, .sl (.int .u32) true [], .bool false])]⟩
noncomputable def w53J2S (v1 : (List Int)) (v2 : Bool) (v3 : (List Int)) (v4 : Bool) (y5 : (List Int)) : Ab.St yaE := ⟨61, [(2, ol (.ptr 2 0)), (3, ol (.ptr 3 0)), (4, ol (.ptr 4 0)), (5, ol (.sl (.int .u32) false y5))], [(2, .cells [.sl (.int .u32) false v1, .bool v2]), (3, .cells [.sl (.int .u32) false v3, .bool v4]), (4, .cells [.sl (.int .u32) true [], .bool false, .sl (.int .u32) true [], .bool false])]⟩
noncomputable def w53J1S (v1 : (List Int)) (v2 : Bool) (v3 : (List Int)) (v4 : Bool) : Ab.St yaE := ⟨61, [(2, ol (.ptr 2 0)), (3, ol (.ptr 3 0)), (4, ol (.ptr 4 0))], [(2, .cells [.sl (.int .u32) false v1, .bool v2]), (3, .cells [.sl (.int .u32) false v3, .bool v4]), (4, .cells [.sl (.int .u32) true [], .bool false, .sl (.int .u32) true [], .bool false])]⟩
noncomputable def w53S (a0 : Isoclineref01Whole) (a1 : Isoclineref01Whole) : Ab.St yaE := ⟨61, [(0, og (yaToIsoclineref01Whole a0)), (1, og (yaToIsoclineref01Whole a1))], []⟩
theorem w53J3_w (G : Good w53V P) {y : Isoclineref01Q} {v5} {v6} {v7} {v8} (E : Ends w53V C F Try.f53.results.toList [] [(.nm 7)] (y, ())) (h : isoclineref01RatioJ3 v5 v6 v7 v8 = some y) : Goes w53V P C F w53P3 (w53J3S v5 v6 v7 v8) := by
  unfold isoclineref01RatioJ3 at h
  have e := sj h; subst e
  exact se G E [.reg [], .auto] tt
theorem w53J2_w (G : Good w53V P) {y : Isoclineref01Q} {v1} {v2} {v3} {v4} {y5} (E : Ends w53V C F Try.f53.results.toList [] [(.nm 7)] (y, ())) (h : isoclineref01RatioJ2 v1 v2 v3 v4 y5 = some y) : Goes w53V P C F w53P2 (w53J2S v1 v2 v3 v4 y5) := by
  unfold isoclineref01RatioJ2 at h
  obtain ⟨y6, c7, h⟩ := bind_some h
  obtain ⟨y7, c8, h⟩ := bind_some h
  obtain ⟨y8, c9, h⟩ := bind_some h
  obtain ⟨y9, c10, h⟩ := bind_some h
  exact sg G [.reg [(3, .res ⟨[(.sl (.int .u32)), (.sl (.int .u32))], (y6.1, y6.2, ())⟩)], .reg [(3, .res ⟨[(.sl (.int .u32)), (.sl (.int .u32))], (y7.1, y7.2, ())⟩)], .reg [(3, .res ⟨[(.nm 6)], (y8, ())⟩), (5, .res ⟨[(.nm 6)], (y9, ())⟩)], .auto, .weak [.keep [2, 3, 4] [2, 3, 4]]] (aa (cb c7) <| aa (cb c8) <| aa (ca c9) <| aa (ca c10) <| tt) (w53J3_w G E h)
theorem w53J1_w (G : Good w53V P) {y : Isoclineref01Q} {v1} {v2} {v3} {v4} (E : Ends w53V C F Try.f53.results.toList [] [(.nm 7)] (y, ())) (h : isoclineref01RatioJ1 v1 v2 v3 v4 = some y) : Goes w53V P C F w53P1 (w53J1S v1 v2 v3 v4) := by
  unfold isoclineref01RatioJ1 at h
  obtain ⟨y4, c4, h⟩ := bind_some h
  rcases ite_some h with ⟨b3, h⟩ | ⟨b3, h⟩
  · have e := sj h; subst e
    exact se G E [.reg [(1, .res ⟨[.bool], (y4, ())⟩)], .br true, .reg [], .auto] (aa (ca c4) <| aa b3 <| tt)
  · obtain ⟨y5, c5, h⟩ := bind_some h
    rcases ite_some h with ⟨b4, h⟩ | ⟨b4, h⟩
    · exact sg G [.reg [(1, .res ⟨[.bool], (y4, ())⟩)], .br false, .reg [(4, .res ⟨[(.sl (.int .u32))], (y5, ())⟩)], .reg [(3, .bit true), (8, .bit true)], .br true, .auto, .weak [.keep [2, 3, 4, 5] [2, 3, 4]]] (aa (ca c4) <| aa b3 <| aa (ca c5) <| aa b4 <| aa b4 <| aa b4 <| aa b4 <| aa b4 <| aa (show true = true from rfl) <| tt) (w53J2_w G E h)
    · obtain ⟨c6, h⟩ := need_some h
      rcases ite_some h with ⟨b5, h⟩ | ⟨b5, h⟩
      · exact sg G [.reg [(1, .res ⟨[.bool], (y4, ())⟩)], .br false, .reg [(4, .res ⟨[(.sl (.int .u32))], (y5, ())⟩)], .reg [(3, .bit false), (8, .bit false)], .br true, .auto, .weak [.keep [2, 3, 4, 5] [2, 3, 4]]] (aa (ca c4) <| aa b3 <| aa (ca c5) <| aa b4 <| aa b4 <| aa c6 <| aa b4 <| aa b4 <| aa b4 <| aa b5 <| tt) (w53J2_w G E h)
      · exact sg G [.reg [(1, .res ⟨[.bool], (y4, ())⟩)], .br false, .reg [(4, .res ⟨[(.sl (.int .u32))], (y5, ())⟩)], .reg [(3, .bit false), (8, .bit false)], .br false, .auto, .weak [.keep [2, 3, 4] [2, 3, 4]]] (aa (ca c4) <| aa b3 <| aa (ca c5) <| aa b4 <| aa b4 <| aa c6 <| aa b4 <| aa b4 <| aa b4 <| aa b5 <| tt) (w53J3_w G E h)
theorem w53_w (G : Good w53V P) {y : Isoclineref01Q} {a0} {a1} (E : Ends w53V C F Try.f53.results.toList [] [(.nm 7)] (y, ())) (h : isoclineref01Ratio a0 a1 = some y) : Goes w53V P C F w53P0 (w53S a0 a1) := by
  unfold isoclineref01Ratio at h
  obtain ⟨y1, c1, h⟩ := bind_some h
  rcases ite_some h with ⟨b1, h⟩ | ⟨b1, h⟩
  · have e := sj h; subst e
    exact se G E [.reg [], .reg [(1, .res ⟨[.bool], (y1, ())⟩)], .br true, .reg [], .auto] (aa (ca c1) <| aa b1 <| tt)
  · rcases ite_some h with ⟨b2, h⟩ | ⟨b2, h⟩
    · obtain ⟨y2, c2, h⟩ := bind_some h
      obtain ⟨y3, c3, h⟩ := bind_some h
      exact sg G [.reg [], .reg [(1, .res ⟨[.bool], (y1, ())⟩)], .br false, .reg [], .br true, .reg [(1, .res ⟨[(.nm 6)], (y2, ())⟩), (3, .res ⟨[(.nm 6)], (y3, ())⟩)], .auto, .weak [.keep [2, 3, 4] [2, 3, 4]]] (aa (ca c1) <| aa b1 <| aa b2 <| aa (ca c2) <| aa (ca c3) <| tt) (w53J1_w G E h)
    · exact sg G [.reg [], .reg [(1, .res ⟨[.bool], (y1, ())⟩)], .br false, .reg [], .br false, .auto, .weak [.keep [2, 3, 4] [2, 3, 4]]] (aa (ca c1) <| aa b1 <| aa b2 <| tt) (w53J1_w G E h)
noncomputable def w53FS : FS yaE := ⟨[(.nm 6), (.nm 6)], [(.nm 7)], [], [], fun x => Option.map (fun r => (r, ())) (isoclineref01Ratio x.1 x.2.1)⟩
theorem w53Meets : MT 53 w53FS := show Meets w53V _ _ _ from mt (fn := Try.f53) (S := fun x => w53S x.1 x.2.1) (GB ⟨w56Meets, w65Meets, w82Meets, w83Meets, w84Meets, w85Meets, trivial⟩ trivial) fun G _ _ _ _ E h => w53_w G E h
noncomputable abbrev w54V : Env := EV [(86, w86FS)] [] false
noncomputable def w54P0 : List Item := [.code (Try.f54.body.getD .skip)]
noncomputable def w54P1 : List Item := ctl [.reg, .reg, .reg, .br true, .reg, .auto] w54P0
noncomputable def w54J1S (a0 : Int) (v1 : Int) : Ab.St yaE := ⟨20, [(0, oi a0), (2, ol (.ptr 2 0)), (3, ol (.int .u64 v1))], [(2, .cells [.sl (.int .u32) true [], .bool false])]⟩
noncomputable def w54S (a0 : Int) : Ab.St yaE := ⟨20, [(0, oi a0)], []⟩
theorem w54J1_w (G : Good w54V P) {y : Isoclineref01Whole} {a0} {v1} (E : Ends w54V C F Try.f54.results.toList [] [(.nm 6)] (y, ())) (h : isoclineref01OfIntJ1 a0 v1 = some y) : Goes w54V P C F w54P1 (w54J1S a0 v1) := by
  unfold isoclineref01OfIntJ1 at h
  obtain ⟨c1, h⟩ := need_some h
  obtain ⟨y1, c2, h⟩ := bind_some h
  have e := sj h; subst e
  exact se G E [.reg [(5, .lit), (6, .res ⟨[(.sl (.int .u32))], (y1, ())⟩)], .auto, .weak [.fix (.cell 2)]] (aa c1 <| aa (ca c2) <| tt)
theorem w54_w (G : Good w54V P) {y : Isoclineref01Whole} {a0} (E : Ends w54V C F Try.f54.results.toList [] [(.nm 6)] (y, ())) (h : isoclineref01OfInt a0 = some y) : Goes w54V P C F w54P0 (w54S a0) := by
  unfold isoclineref01OfInt at h
  rcases ite_some h with ⟨b1, h⟩ | ⟨b1, h⟩
  · exact sg G [.reg [], .reg [], .reg [], .br true, .reg [], .auto, .weak [.keep [0, 2, 3] [2]]] (aa b1 <| tt) (w54J1_w G E h)
  · exact sg G [.reg [], .reg [], .reg [], .br false, .auto, .weak [.keep [0, 2, 3] [2]]] (aa b1 <| tt) (w54J1_w G E h)
noncomputable def w54FS : FS yaE := ⟨[(.int .i64)], [(.nm 6)], [], [], fun x => Option.map (fun r => (r, ())) (isoclineref01OfInt x.1)⟩
theorem w54Meets : MT 54 w54FS := show Meets w54V _ _ _ from mt (fn := Try.f54) (S := fun x => w54S x.1) (GB ⟨w86Meets, trivial⟩ trivial) fun G _ _ _ _ E h => w54_w G E h
noncomputable abbrev w24V : Env := EV [(53, w53FS), (54, w54FS)] [] false
noncomputable def w24P0 : List Item := [.code (Try.f24.body.getD .skip)]
noncomputable def w24S (a0 : ApiRat) : Ab.St yaE := ⟨10, [(0, og (yaToApiRat a0))], []⟩
theorem w24_w (G : Good w24V P) {y : Isoclineref01Q} {a0} (E : Ends w24V C F Try.f24.results.toList [] [(.nm 7)] (y, ())) (h : isoclineref01Of a0 = some y) : Goes w24V P C F w24P0 (w24S a0) := by
  unfold isoclineref01Of at h
  obtain ⟨y1, c1, h⟩ := bind_some h
  obtain ⟨y2, c2, h⟩ := bind_some h
  obtain ⟨y3, c3, h⟩ := bind_some h
  have e := sj h; subst e
  exact se G E [.reg [], .reg [(2, .res ⟨[(.nm 6)], (y1, ())⟩), (5, .res ⟨[(.nm 6)], (y2, ())⟩), (6, .res ⟨[(.nm 7)], (y3, ())⟩)], .auto] (aa (ca c1) <| aa (ca c2) <| aa (ca c3) <| tt)
noncomputable def w24FS : FS yaE := ⟨[(.nm 0)], [(.nm 7)], [], [], fun x => Option.map (fun r => (r, ())) (isoclineref01Of x.1)⟩
theorem w24Meets : MT 24 w24FS := show Meets w24V _ _ _ from mt (fn := Try.f24) (S := fun x => w24S x.1) (GB ⟨w53Meets, w54Meets, trivial⟩ trivial) fun G _ _ _ _ E h => w24_w G E h
noncomputable abbrev w87V : Env := EV [] [] false
noncomputable def w87P0 : List Item := [.code (Try.f87.body.getD .skip)]
noncomputable def w87S : Ab.St yaE := ⟨3, [], []⟩
theorem w87_w (G : Good w87V P) {y : Isoclineref01Whole} (E : Ends w87V C F Try.f87.results.toList [] [(.nm 6)] (y, ())) (h : isoclineref01One = some y) : Goes w87V P C F w87P0 (w87S) := by
  unfold isoclineref01One at h
  have e := sj h; subst e
  exact se G E [.reg [], .reg [], .auto] tt
noncomputable def w87FS : FS yaE := ⟨[], [(.nm 6)], [], [], fun x => Option.map (fun r => (r, ())) (isoclineref01One)⟩
theorem w87Meets : MT 87 w87FS := show Meets w87V _ _ _ from mt (fn := Try.f87) (S := fun _ => w87S) (GB trivial trivial) fun G _ _ _ _ E h => w87_w G E h
noncomputable abbrev w55V : Env := EV [(65, w65FS), (87, w87FS)] [] false
noncomputable def w55P0 : List Item := [.code (Try.f55.body.getD .skip)]
noncomputable def w55S (a0 : Isoclineref01Q) : Ab.St yaE := ⟨9, [(0, og (yaToIsoclineref01Q a0))], []⟩
theorem w55_w (G : Good w55V P) {y : Isoclineref01Whole} {a0} (E : Ends w55V C F Try.f55.results.toList [] [(.nm 6)] (y, ())) (h : isoclineref01QDen a0 = some y) : Goes w55V P C F w55P0 (w55S a0) := by
  unfold isoclineref01QDen at h
  obtain ⟨y1, c1, h⟩ := bind_some h
  rcases ite_some h with ⟨b1, h⟩ | ⟨b1, h⟩
  · obtain ⟨y2, c2, h⟩ := bind_some h
    have e := sj h; subst e
    exact se G E [.reg [], .reg [(2, .res ⟨[.bool], (y1, ())⟩)], .br true, .reg [(0, .res ⟨[(.nm 6)], (y2, ())⟩)], .auto] (aa (ca c1) <| aa b1 <| aa (ca c2) <| tt)
  · have e := sj h; subst e
    exact se G E [.reg [], .reg [(2, .res ⟨[.bool], (y1, ())⟩)], .br false, .reg [], .auto] (aa (ca c1) <| aa b1 <| tt)
noncomputable def w55FS : FS yaE := ⟨[(.nm 7)], [(.nm 6)], [], [], fun x => Option.map (fun r => (r, ())) (isoclineref01QDen x.1)⟩
theorem w55Meets : MT 55 w55FS := show Meets w55V _ _ _ from mt (fn := Try.f55) (S := fun x => w55S x.1) (GB ⟨w65Meets, w87Meets, trivial⟩ trivial) fun G _ _ _ _ E h => w55_w G E h
noncomputable abbrev w88V : Env := EV [(86, w86FS)] [] false
noncomputable def w88P0 : List Item := [.code (Try.f88.body.getD .skip)]
noncomputable def w88P1 : List Item := ctl [.reg, .reg, .reg, .enter] w88P0
noncomputable def w88P2 : List Item := ctl [.reg, .br true, .reg, .reg, .enter] w88P1
noncomputable def w88P3 : List Item := ctl [.reg, .br false, .auto] w88P2
noncomputable def w88P4 : List Item := ctl [.reg, .br false, .auto] w88P1
noncomputable def w88L2S (a0 : (List Int)) (a1 : (List Int)) (v1 : Int) (v3 : Int) (v4 : Int) (v5 : (List Int)) : Ab.St yaE := ⟨67, [(0, ol (.sl (.int .u32) false a0)), (1, ol (.sl (.int .u32) false a1)), (5, ol (.ar 14 0)), (6, oi v1), (7, ol (.int .u64 v3)), (8, oi v4)], [(14, .arr 115 (.int .u32) v5 0 false)]⟩
noncomputable def w88L1S (a0 : (List Int)) (a1 : (List Int)) (v1 : Int) (v2 : (List Int)) : Ab.St yaE := ⟨67, [(0, ol (.sl (.int .u32) false a0)), (1, ol (.sl (.int .u32) false a1)), (5, ol (.ar 14 0)), (6, oi v1)], [(14, .arr 115 (.int .u32) v2 0 false)]⟩
noncomputable def w88S (a0 : (List Int)) (a1 : (List Int)) : Ab.St yaE := ⟨67, [(0, ol (.sl (.int .u32) false a0)), (1, ol (.sl (.int .u32) false a1))], []⟩
theorem w88L2_w (G : Good w88V P) {y : (List Int)} {o} {r} {a0} {a1} {v1} {v3} {v4} {v5} (E : Ends w88V C F Try.f88.results.toList [] [(.sl (.int .u32))] (y, ())) (h : isoclineref01TimesL2 a0 a1 v1 v3 v4 v5 = some o)
    (hl : ∀ v', o = .inl v' → Goes w88V P C F w88P2 (w88L2S a0 a1 v1 v'.1 v'.2.1 v'.2.2)) (hr : ∀ r', o = .inr r' → r' = r)
    (K1 : ∀ r1, r = r1 → Goes w88V P C F w88P3 (⟨67, [(0, ol (.sl (.int .u32) false a0)), (1, ol (.sl (.int .u32) false a1)), (5, ol (.ar 14 0)), (6, oi v1), (7, ol (.int .u64 r1.1))], [(14, .arr 115 (.int .u32) r1.2 0 false)]⟩ : Ab.St yaE)) : Goes w88V P C F w88P2 (w88L2S a0 a1 v1 v3 v4 v5) := by
  unfold isoclineref01TimesL2 at h
  rcases ite_some h with ⟨b2, h⟩ | ⟨b2, h⟩
  · obtain ⟨c4, h⟩ := need_some h
    obtain ⟨c5, h⟩ := need_some h
    obtain ⟨c6, h⟩ := need_some h
    obtain ⟨c7, h⟩ := need_some h
    obtain ⟨c8, h⟩ := need_some h
    exact sg G [.reg [], .br true, .reg [], .reg [], .reg [], .reg [], .enter, .weak [.keep [0, 1, 5, 6, 7, 8] [14]]] (aa b2 <| aa c4 <| aa c5 <| aa c6 <| aa c7 <| aa c8 <| tt) (hl _ (si h))
  · exact sg G [.reg [], .br false, .auto, .weak [.keep [0, 1, 5, 6, 7] [14]]] (aa b2 <| tt) (K1 _ (hr _ (si h)).symm)
theorem w88L1_w (G : Good w88V P) {y : (List Int)} {o} {r} {a0} {a1} {v1} {v2} (E : Ends w88V C F Try.f88.results.toList [] [(.sl (.int .u32))] (y, ())) (h : isoclineref01TimesL1 a0 a1 v1 v2 = some o)
    (hl : ∀ v', o = .inl v' → Goes w88V P C F w88P1 (w88L1S a0 a1 v'.1 v'.2)) (hr : ∀ r', o = .inr r' → r' = r)
    (K1 : ∀ r2, r = r2 → Goes w88V P C F w88P4 (⟨67, [(5, ol (.ar 14 0))], [(14, .arr 115 (.int .u32) r2 0 false)]⟩ : Ab.St yaE)) : Goes w88V P C F w88P1 (w88L1S a0 a1 v1 v2) := by
  unfold isoclineref01TimesL1 at h
  rcases ite_some h with ⟨b1, h⟩ | ⟨b1, h⟩
  · obtain ⟨r1, hi, h⟩ := bind_some h
    have K1 : ∀ q, r1 = q → Goes w88V P C F w88P3 (⟨67, [(0, ol (.sl (.int .u32) false a0)), (1, ol (.sl (.int .u32) false a1)), (5, ol (.ar 14 0)), (6, oi v1), (7, ol (.int .u64 q.1))], [(14, .arr 115 (.int .u32) q.2 0 false)]⟩ : Ab.St yaE) := by
      rintro q rfl
      obtain ⟨c9, h⟩ := need_some h
      exact sg G [.reg [], .reg [], .enter, .weak [.keep [0, 1, 5, 6] [14]]] (aa c9 <| tt) (hl _ (si h))
    exact sg G [.reg [], .br true, .reg [], .reg [], .enter, .weak [.keep [0, 1, 5, 6, 7, 8] [14]]] (aa b1 <| tt) (loop_goes (V := w88V) (F := F) (k := w88P2) (S := fun v => w88L2S a0 a1 v1 v.1 v.2.1 v.2.2) (fun v o h hl hr => w88L2_w G E h hl hr K1) _ hi)
  · exact sg G [.reg [], .br false, .auto, .weak [.keep [5] [14]]] (aa b1 <| tt) (K1 _ (hr _ (si h)).symm)
theorem w88_w (G : Good w88V P) {y : (List Int)} {a0} {a1} (E : Ends w88V C F Try.f88.results.toList [] [(.sl (.int .u32))] (y, ())) (h : isoclineref01Times a0 a1 = some y) : Goes w88V P C F w88P0 (w88S a0 a1) := by
  unfold isoclineref01Times at h
  obtain ⟨c1, h⟩ := need_some h
  obtain ⟨c2, h⟩ := need_some h
  obtain ⟨c3, h⟩ := need_some h
  obtain ⟨r2, hi, h⟩ := bind_some h
  have K1 : ∀ q, r2 = q → Goes w88V P C F w88P4 (⟨67, [(5, ol (.ar 14 0))], [(14, .arr 115 (.int .u32) q 0 false)]⟩ : Ab.St yaE) := by
    rintro q rfl
    obtain ⟨y1, c10, h⟩ := bind_some h
    have e := sj h; subst e
    exact se G E [.reg [(1, .res ⟨[(.sl (.int .u32))], (y1, ())⟩)], .auto, .weak [.fix (.slot 4)]] (aa (ca c10) <| tt)
  exact sg G [.reg [], .reg [], .reg [], .enter, .weak [.keep [0, 1, 5, 6] [14]]] (aa c1 <| aa c2 <| aa c3 <| tt) (loop_goes (V := w88V) (F := F) (k := w88P1) (S := fun v => w88L1S a0 a1 v.1 v.2) (fun v o h hl hr => w88L1_w G E h hl hr K1) _ hi)
noncomputable def w88FS : FS yaE := ⟨[(.sl (.int .u32)), (.sl (.int .u32))], [(.sl (.int .u32))], [], [], fun x => Option.map (fun r => (r, ())) (isoclineref01Times x.1 x.2.1)⟩
theorem w88Meets : MT 88 w88FS := show Meets w88V _ _ _ from mt (fn := Try.f88) (S := fun x => w88S x.1 x.2.1) (GB ⟨w86Meets, trivial⟩ trivial) fun G _ _ _ _ E h => w88_w G E h
noncomputable abbrev w57V : Env := EV [(85, w85FS), (88, w88FS)] [] false
noncomputable def w57P0 : List Item := [.code (Try.f57.body.getD .skip)]
noncomputable def w57S (a0 : Isoclineref01Whole) (a1 : Isoclineref01Whole) : Ab.St yaE := ⟨16, [(0, og (yaToIsoclineref01Whole a0)), (1, og (yaToIsoclineref01Whole a1))], []⟩
theorem w57_w (G : Good w57V P) {y : Isoclineref01Whole} {a0} {a1} (E : Ends w57V C F Try.f57.results.toList [] [(.nm 6)] (y, ())) (h : isoclineref01WholeMul a0 a1 = some y) : Goes w57V P C F w57P0 (w57S a0 a1) := by
  unfold isoclineref01WholeMul at h
  obtain ⟨y1, c1, h⟩ := bind_some h
  obtain ⟨y2, c2, h⟩ := bind_some h
  have e := sj h; subst e
  exact se G E [.reg [], .reg [(4, .res ⟨[(.sl (.int .u32))], (y1, ())⟩), (10, .res ⟨[(.nm 6)], (y2, ())⟩)], .auto] (aa (ca c1) <| aa (ca c2) <| tt)
noncomputable def w57FS : FS yaE := ⟨[(.nm 6), (.nm 6)], [(.nm 6)], [], [], fun x => Option.map (fun r => (r, ())) (isoclineref01WholeMul x.1 x.2.1)⟩
theorem w57Meets : MT 57 w57FS := show Meets w57V _ _ _ from mt (fn := Try.f57) (S := fun x => w57S x.1 x.2.1) (GB ⟨w85Meets, w88Meets, trivial⟩ trivial) fun G _ _ _ _ E h => w57_w G E h
noncomputable abbrev w25V : Env := EV [(53, w53FS), (55, w55FS), (56, w56FS), (57, w57FS)] [] false
noncomputable def w25P0 : List Item := [.code (Try.f25.body.getD .skip)]
noncomputable def w25P1 : List Item := ctl [.reg, .reg, .reg, .br false, .auto] w25P0
noncomputable def w25J1S (a0 : Isoclineref01Q) (a1 : Isoclineref01Q) (y1 : Isoclineref01Whole) (y2 : Isoclineref01Whole) : Ab.St yaE := ⟨33, [(2, ol (.ptr 2 0)), (3, ol (.ptr 3 0)), (4, ol (.ptr 4 0)), (5, ol (.ptr 5 0)), (6, ol (.ptr 6 0))], [(2, .cells [.sl (.int .u32) false a0.n.d, .bool a0.n.minus, .sl (.int .u32) false a0.d.d, .bool a0.d.minus]), (3, .cells [.sl (.int .u32) false a1.n.d, .bool a1.n.minus, .sl (.int .u32) false a1.d.d, .bool a1.d.minus]), (4, .cells [.sl (.int .u32) true [], .bool false, .sl (.int .u32) true [], .bool false]), (5, .cells [.sl (.int .u32) false y1.d, .bool y1.minus]), (6, .cells [.sl (.int .u32) false y2.d, .bool y2.minus])]⟩
noncomputable def w25S (a0 : Isoclineref01Q) (a1 : Isoclineref01Q) : Ab.St yaE := ⟨33, [(0, og (yaToIsoclineref01Q a0)), (1, og (yaToIsoclineref01Q a1))], []⟩
theorem w25J1_w (G : Good w25V P) {y : Isoclineref01Q} {a0} {a1} {y1} {y2} (E : Ends w25V C F Try.f25.results.toList [] [(.nm 7)] (y, ())) (h : isoclineref01QMulJ1 a0 a1 y1 y2 = some y) : Goes w25V P C F w25P1 (w25J1S a0 a1 y1 y2) := by
  unfold isoclineref01QMulJ1 at h
  obtain ⟨y6, c6, h⟩ := bind_some h
  obtain ⟨y7, c7, h⟩ := bind_some h
  obtain ⟨y8, c8, h⟩ := bind_some h
  have e := sj h; subst e
  exact se G E [.reg [(4, .res ⟨[(.nm 6)], (y6, ())⟩), (7, .res ⟨[(.nm 6)], (y7, ())⟩), (8, .res ⟨[(.nm 7)], (y8, ())⟩)], .auto] (aa (ca c6) <| aa (ca c7) <| aa (ca c8) <| tt)
theorem w25_w (G : Good w25V P) {y : Isoclineref01Q} {a0} {a1} (E : Ends w25V C F Try.f25.results.toList [] [(.nm 7)] (y, ())) (h : isoclineref01QMul a0 a1 = some y) : Goes w25V P C F w25P0 (w25S a0 a1) := by
  unfold isoclineref01QMul at h
  obtain ⟨y1, c1, h⟩ := bind_some h
  obtain ⟨y2, c2, h⟩ := bind_some h
  obtain ⟨y3, c3, h⟩ := bind_some h
  rcases ite_some h with ⟨b1, h⟩ | ⟨b1, h⟩
  · obtain ⟨y4, c4, h⟩ := bind_some h
    rcases ite_some h with ⟨b2, h⟩ | ⟨b2, h⟩
    · obtain ⟨y5, c5, h⟩ := bind_some h
      have e := sj h; subst e
      exact se G E [.reg [], .reg [(1, .res ⟨[(.nm 6)], (y1, ())⟩), (3, .res ⟨[(.nm 6)], (y2, ())⟩)], .reg [(1, .res ⟨[.bool], (y3, ())⟩), (2, .bit true), (4, .res ⟨[.bool], (y4, ())⟩), (5, .bit true)], .br true, .reg [(4, .res ⟨[(.nm 6)], (y5, ())⟩)], .auto] (aa (ca c1) <| aa (ca c2) <| aa (ca c3) <| aa b1 <| aa b1 <| aa (ca c4) <| aa b1 <| aa b2 <| aa (ca c5) <| tt)
    · exact sg G [.reg [], .reg [(1, .res ⟨[(.nm 6)], (y1, ())⟩), (3, .res ⟨[(.nm 6)], (y2, ())⟩)], .reg [(1, .res ⟨[.bool], (y3, ())⟩), (2, .bit true), (4, .res ⟨[.bool], (y4, ())⟩), (5, .bit true)], .br false, .auto, .weak [.keep [2, 3, 4, 5, 6] [2, 3, 4, 5, 6]]] (aa (ca c1) <| aa (ca c2) <| aa (ca c3) <| aa b1 <| aa b1 <| aa (ca c4) <| aa b1 <| aa b2 <| tt) (w25J1_w G E h)
  · exact sg G [.reg [], .reg [(1, .res ⟨[(.nm 6)], (y1, ())⟩), (3, .res ⟨[(.nm 6)], (y2, ())⟩)], .reg [(1, .res ⟨[.bool], (y3, ())⟩), (2, .bit false), (5, .bit false)], .br false, .auto, .weak [.keep [2, 3, 4, 5, 6] [2, 3, 4, 5, 6]]] (aa (ca c1) <| aa (ca c2) <| aa (ca c3) <| aa b1 <| aa b1 <| aa b1 <| aa (show false = false from rfl) <| tt) (w25J1_w G E h)
noncomputable def w25FS : FS yaE := ⟨[(.nm 7), (.nm 7)], [(.nm 7)], [], [], fun x => Option.map (fun r => (r, ())) (isoclineref01QMul x.1 x.2.1)⟩
theorem w25Meets : MT 25 w25FS := show Meets w25V _ _ _ from mt (fn := Try.f25) (S := fun x => w25S x.1 x.2.1) (GB ⟨w53Meets, w55Meets, w56Meets, w57Meets, trivial⟩ trivial) fun G _ _ _ _ E h => w25_w G E h
noncomputable abbrev w58V : Env := EV [(89, w89FS)] [] false
noncomputable def w58P0 : List Item := [.code (Try.f58.body.getD .skip)]
noncomputable def w58S (a0 : Isoclineref01Whole) (a1 : Isoclineref01Whole) : Ab.St yaE := ⟨25, [(0, og (yaToIsoclineref01Whole a0)), (1, og (yaToIsoclineref01Whole a1))], []⟩
theorem w58_w (G : Good w58V P) {y : Int} {a0} {a1} (E : Ends w58V C F Try.f58.results.toList [] [(.int .i64)] (y, ())) (h : isoclineref01WholeCmp a0 a1 = some y) : Goes w58V P C F w58P0 (w58S a0 a1) := by
  unfold isoclineref01WholeCmp at h
  rcases ite_some h with ⟨b1, h⟩ | ⟨b1, h⟩
  · rcases ite_some h with ⟨b2, h⟩ | ⟨b2, h⟩
    · have e := sj h; subst e
      exact se G E [.reg [], .reg [], .br true, .reg [], .br true, .reg [], .auto] (aa b1 <| aa b2 <| tt)
    · have e := sj h; subst e
      exact se G E [.reg [], .reg [], .br true, .reg [], .br false, .reg [], .auto] (aa b1 <| aa b2 <| tt)
  · rcases ite_some h with ⟨b3, h⟩ | ⟨b3, h⟩
    · obtain ⟨y1, c1, h⟩ := bind_some h
      have e := sj h; subst e
      exact se G E [.reg [], .reg [], .br false, .reg [], .br true, .reg [(4, .res ⟨[(.int .i64)], (y1, ())⟩)], .auto] (aa b1 <| aa b3 <| aa (ca c1) <| tt)
    · obtain ⟨y2, c2, h⟩ := bind_some h
      have e := sj h; subst e
      exact se G E [.reg [], .reg [], .br false, .reg [], .br false, .reg [(4, .res ⟨[(.int .i64)], (y2, ())⟩)], .auto] (aa b1 <| aa b3 <| aa (ca c2) <| tt)
noncomputable def w58FS : FS yaE := ⟨[(.nm 6), (.nm 6)], [(.int .i64)], [], [], fun x => Option.map (fun r => (r, ())) (isoclineref01WholeCmp x.1 x.2.1)⟩
theorem w58Meets : MT 58 w58FS := show Meets w58V _ _ _ from mt (fn := Try.f58) (S := fun x => w58S x.1 x.2.1) (GB ⟨w89Meets, trivial⟩ trivial) fun G _ _ _ _ E h => w58_w G E h
noncomputable abbrev w26V : Env := EV [(55, w55FS), (57, w57FS), (58, w58FS)] [] false
noncomputable def w26P0 : List Item := [.code (Try.f26.body.getD .skip)]
noncomputable def w26S (a0 : Isoclineref01Q) (a1 : Isoclineref01Q) : Ab.St yaE := ⟨16, [(0, og (yaToIsoclineref01Q a0)), (1, og (yaToIsoclineref01Q a1))], []⟩
theorem w26_w (G : Good w26V P) {y : Int} {a0} {a1} (E : Ends w26V C F Try.f26.results.toList [] [(.int .i64)] (y, ())) (h : isoclineref01QCmp a0 a1 = some y) : Goes w26V P C F w26P0 (w26S a0 a1) := by
  unfold isoclineref01QCmp at h
  obtain ⟨y1, c1, h⟩ := bind_some h
  obtain ⟨y2, c2, h⟩ := bind_some h
  obtain ⟨y3, c3, h⟩ := bind_some h
  obtain ⟨y4, c4, h⟩ := bind_some h
  obtain ⟨y5, c5, h⟩ := bind_some h
  have e := sj h; subst e
  exact se G E [.reg [], .reg [(3, .res ⟨[(.nm 6)], (y1, ())⟩), (4, .res ⟨[(.nm 6)], (y2, ())⟩), (8, .res ⟨[(.nm 6)], (y3, ())⟩), (9, .res ⟨[(.nm 6)], (y4, ())⟩), (10, .res ⟨[(.int .i64)], (y5, ())⟩)], .auto] (aa (ca c1) <| aa (ca c2) <| aa (ca c3) <| aa (ca c4) <| aa (ca c5) <| tt)
noncomputable def w26FS : FS yaE := ⟨[(.nm 7), (.nm 7)], [(.int .i64)], [], [], fun x => Option.map (fun r => (r, ())) (isoclineref01QCmp x.1 x.2.1)⟩
theorem w26Meets : MT 26 w26FS := show Meets w26V _ _ _ from mt (fn := Try.f26) (S := fun x => w26S x.1 x.2.1) (GB ⟨w55Meets, w57Meets, w58Meets, trivial⟩ trivial) fun G _ _ _ _ E h => w26_w G E h
noncomputable abbrev w90V : Env := EV [(86, w86FS)] [] false
noncomputable def w90P0 : List Item := [.code (Try.f90.body.getD .skip)]
noncomputable def w90P1 : List Item := ctl [.reg, .reg, .reg, .reg, .enter] w90P0
noncomputable def w90P2 : List Item := ctl [.reg, .br true, .auto] w90P1
noncomputable def w90P3 : List Item := ctl [.reg, .br true, .reg, .auto] w90P2
noncomputable def w90P4 : List Item := ctl [.reg, .br true, .reg, .auto] w90P3
noncomputable def w90P5 : List Item := ctl [.reg, .br false, .auto] w90P1
noncomputable def w90J3S (a0 : (List Int)) (a1 : (List Int)) (v2 : Int) (v3 : (List Int)) (v5 : Int) : Ab.St yaE := ⟨62, [(0, ol (.sl (.int .u32) false a0)), (1, ol (.sl (.int .u32) false a1)), (5, ol (.ar 14 0)), (6, ol (.int .u64 v5)), (7, oi v2)], [(14, .arr 115 (.int .u32) v3 0 false)]⟩
noncomputable def w90J2S (a0 : (List Int)) (a1 : (List Int)) (v2 : Int) (v3 : (List Int)) (v4 : Int) : Ab.St yaE := ⟨62, [(0, ol (.sl (.int .u32) false a0)), (1, ol (.sl (.int .u32) false a1)), (5, ol (.ar 14 0)), (6, ol (.int .u64 v4)), (7, oi v2)], [(14, .arr 115 (.int .u32) v3 0 false)]⟩
noncomputable def w90J1S (a0 : (List Int)) (a1 : (List Int)) (v1 : Int) (v2 : Int) (v3 : (List Int)) : Ab.St yaE := ⟨62, [(0, ol (.sl (.int .u32) false a0)), (1, ol (.sl (.int .u32) false a1)), (5, ol (.ar 14 0)), (6, ol (.int .u64 v1)), (7, oi v2)], [(14, .arr 115 (.int .u32) v3 0 false)]⟩
noncomputable def w90L1S (a0 : (List Int)) (a1 : (List Int)) (v1 : Int) (v2 : Int) (v3 : (List Int)) : Ab.St yaE := ⟨62, [(0, ol (.sl (.int .u32) false a0)), (1, ol (.sl (.int .u32) false a1)), (5, ol (.ar 14 0)), (6, ol (.int .u64 v1)), (7, oi v2)], [(14, .arr 115 (.int .u32) v3 0 false)]⟩
noncomputable def w90S (a0 : (List Int)) (a1 : (List Int)) : Ab.St yaE := ⟨62, [(0, ol (.sl (.int .u32) false a0)), (1, ol (.sl (.int .u32) false a1))], []⟩
theorem w90J3_w (G : Good w90V P) {y : (List Int)} {o} {r} {a0} {a1} {v2} {v3} {v5} (E : Ends w90V C F Try.f90.results.toList [] [(.sl (.int .u32))] (y, ())) (h : isoclineref01PlusJ3 a0 a1 v2 v3 v5 = some o)
    (hl : ∀ v', o = .inl v' → Goes w90V P C F w90P1 (w90L1S a0 a1 v'.1 v'.2.1 v'.2.2)) (hr : ∀ r', o = .inr r' → r' = r)
    (K1 : ∀ r1, r = r1 → Goes w90V P C F w90P5 (⟨62, [(5, ol (.ar 14 0)), (6, ol (.int .u64 r1.1))], [(14, .arr 115 (.int .u32) r1.2 0 false)]⟩ : Ab.St yaE)) : Goes w90V P C F w90P4 (w90J3S a0 a1 v2 v3 v5) := by
  unfold isoclineref01PlusJ3 at h
  obtain ⟨c6, h⟩ := need_some h
  obtain ⟨c7, h⟩ := need_some h
  exact sg G [.reg [], .reg [], .reg [], .enter, .weak [.re 14 14 0, .keep [0, 1, 5, 6, 7] [14]]] (aa c6 <| aa c7 <| tt) (hl _ (si h))
theorem w90J2_w (G : Good w90V P) {y : (List Int)} {o} {r} {a0} {a1} {v2} {v3} {v4} (E : Ends w90V C F Try.f90.results.toList [] [(.sl (.int .u32))] (y, ())) (h : isoclineref01PlusJ2 a0 a1 v2 v3 v4 = some o)
    (hl : ∀ v', o = .inl v' → Goes w90V P C F w90P1 (w90L1S a0 a1 v'.1 v'.2.1 v'.2.2)) (hr : ∀ r', o = .inr r' → r' = r)
    (K1 : ∀ r1, r = r1 → Goes w90V P C F w90P5 (⟨62, [(5, ol (.ar 14 0)), (6, ol (.int .u64 r1.1))], [(14, .arr 115 (.int .u32) r1.2 0 false)]⟩ : Ab.St yaE)) : Goes w90V P C F w90P3 (w90J2S a0 a1 v2 v3 v4) := by
  unfold isoclineref01PlusJ2 at h
  rcases ite_some h with ⟨b4, h⟩ | ⟨b4, h⟩
  · obtain ⟨c5, h⟩ := need_some h
    exact sg G [.reg [], .br true, .reg [], .auto, .weak [.keep [0, 1, 5, 6, 7] [14]]] (aa b4 <| aa c5 <| tt) (w90J3_w G E h hl hr K1)
  · exact sg G [.reg [], .br false, .auto, .weak [.keep [0, 1, 5, 6, 7] [14]]] (aa b4 <| tt) (w90J3_w G E h hl hr K1)
theorem w90J1_w (G : Good w90V P) {y : (List Int)} {o} {r} {a0} {a1} {v1} {v2} {v3} (E : Ends w90V C F Try.f90.results.toList [] [(.sl (.int .u32))] (y, ())) (h : isoclineref01PlusJ1 a0 a1 v1 v2 v3 = some o)
    (hl : ∀ v', o = .inl v' → Goes w90V P C F w90P1 (w90L1S a0 a1 v'.1 v'.2.1 v'.2.2)) (hr : ∀ r', o = .inr r' → r' = r)
    (K1 : ∀ r1, r = r1 → Goes w90V P C F w90P5 (⟨62, [(5, ol (.ar 14 0)), (6, ol (.int .u64 r1.1))], [(14, .arr 115 (.int .u32) r1.2 0 false)]⟩ : Ab.St yaE)) : Goes w90V P C F w90P2 (w90J1S a0 a1 v1 v2 v3) := by
  unfold isoclineref01PlusJ1 at h
  rcases ite_some h with ⟨b3, h⟩ | ⟨b3, h⟩
  · obtain ⟨c4, h⟩ := need_some h
    exact sg G [.reg [], .br true, .reg [], .auto, .weak [.keep [0, 1, 5, 6, 7] [14]]] (aa b3 <| aa c4 <| tt) (w90J2_w G E h hl hr K1)
  · exact sg G [.reg [], .br false, .auto, .weak [.keep [0, 1, 5, 6, 7] [14]]] (aa b3 <| tt) (w90J2_w G E h hl hr K1)
theorem w90L1_w (G : Good w90V P) {y : (List Int)} {o} {r} {a0} {a1} {v1} {v2} {v3} (E : Ends w90V C F Try.f90.results.toList [] [(.sl (.int .u32))] (y, ())) (h : isoclineref01PlusL1 a0 a1 v1 v2 v3 = some o)
    (hl : ∀ v', o = .inl v' → Goes w90V P C F w90P1 (w90L1S a0 a1 v'.1 v'.2.1 v'.2.2)) (hr : ∀ r', o = .inr r' → r' = r)
    (K1 : ∀ r1, r = r1 → Goes w90V P C F w90P5 (⟨62, [(5, ol (.ar 14 0)), (6, ol (.int .u64 r1.1))], [(14, .arr 115 (.int .u32) r1.2 0 false)]⟩ : Ab.St yaE)) : Goes w90V P C F w90P1 (w90L1S a0 a1 v1 v2 v3) := by
  unfold isoclineref01PlusL1 at h
  rcases ite_some h with ⟨b1, h⟩ | ⟨b1, h⟩
  · exact sg G [.reg [(4, .bit true), (9, .bit true)], .br true, .auto, .weak [.keep [0, 1, 5, 6, 7] [14]]] (aa b1 <| aa b1 <| aa b1 <| aa b1 <| aa b1 <| aa (show true = true from rfl) <| tt) (w90J1_w G E h hl hr K1)
  · rcases ite_some h with ⟨b2, h⟩ | ⟨b2, h⟩
    · exact sg G [.reg [(4, .bit false), (9, .bit false)], .br true, .auto, .weak [.keep [0, 1, 5, 6, 7] [14]]] (aa b1 <| aa b1 <| aa b1 <| aa b1 <| aa b1 <| aa b2 <| tt) (w90J1_w G E h hl hr K1)
    · exact sg G [.reg [(4, .bit false), (9, .bit false)], .br false, .auto, .weak [.keep [5, 6] [14]]] (aa b1 <| aa b1 <| aa b1 <| aa b1 <| aa b1 <| aa b2 <| tt) (K1 _ (hr _ (si h)).symm)
theorem w90_w (G : Good w90V P) {y : (List Int)} {a0} {a1} (E : Ends w90V C F Try.f90.results.toList [] [(.sl (.int .u32))] (y, ())) (h : isoclineref01Plus a0 a1 = some y) : Goes w90V P C F w90P0 (w90S a0 a1) := by
  unfold isoclineref01Plus at h
  obtain ⟨c1, h⟩ := need_some h
  obtain ⟨c2, h⟩ := need_some h
  obtain ⟨c3, h⟩ := need_some h
  obtain ⟨r1, hi, h⟩ := bind_some h
  have K1 : ∀ q, r1 = q → Goes w90V P C F w90P5 (⟨62, [(5, ol (.ar 14 0)), (6, ol (.int .u64 q.1))], [(14, .arr 115 (.int .u32) q.2 0 false)]⟩ : Ab.St yaE) := by
    rintro q rfl
    obtain ⟨c8, h⟩ := need_some h
    obtain ⟨y1, c9, h⟩ := bind_some h
    have e := sj h; subst e
    exact se G E [.reg [(5, .res ⟨[(.sl (.int .u32))], (y1, ())⟩)], .auto, .weak [.fix (.slot 4)]] (aa c8 <| aa (ca c9) <| tt)
  exact sg G [.reg [], .reg [], .reg [], .reg [], .enter, .weak [.keep [0, 1, 5, 6, 7] [14]]] (aa c1 <| aa c2 <| aa c3 <| tt) (loop_goes (V := w90V) (F := F) (k := w90P1) (S := fun v => w90L1S a0 a1 v.1 v.2.1 v.2.2) (fun v o h hl hr => w90L1_w G E h hl hr K1) _ hi)
noncomputable def w90FS : FS yaE := ⟨[(.sl (.int .u32)), (.sl (.int .u32))], [(.sl (.int .u32))], [], [], fun x => Option.map (fun r => (r, ())) (isoclineref01Plus x.1 x.2.1)⟩
theorem w90Meets : MT 90 w90FS := show Meets w90V _ _ _ from mt (fn := Try.f90) (S := fun x => w90S x.1 x.2.1) (GB ⟨w86Meets, trivial⟩ trivial) fun G _ _ _ _ E h => w90_w G E h
noncomputable abbrev w91V : Env := EV [(86, w86FS)] [] false
noncomputable def w91P0 : List Item := [.code (Try.f91.body.getD .skip)]
noncomputable def w91P1 : List Item := ctl [.reg, .reg, .reg, .reg, .enter] w91P0
noncomputable def w91P2 : List Item := ctl [.reg, .br true, .reg, .reg, .br true, .reg, .auto] w91P1
noncomputable def w91P3 : List Item := ctl [.reg, .br false, .auto] w91P1
noncomputable def w91J1S (a0 : (List Int)) (a1 : (List Int)) (v2 : Int) (v3 : (List Int)) (v4 : Int) : Ab.St yaE := ⟨45, [(0, ol (.sl (.int .u32) false a0)), (1, ol (.sl (.int .u32) false a1)), (5, ol (.ar 11 0)), (7, oi v2), (8, ol (.int .u64 v4))], [(11, .arr 115 (.int .u32) v3 0 false)]⟩
noncomputable def w91L1S (a0 : (List Int)) (a1 : (List Int)) (v1 : Int) (v2 : Int) (v3 : (List Int)) : Ab.St yaE := ⟨45, [(0, ol (.sl (.int .u32) false a0)), (1, ol (.sl (.int .u32) false a1)), (5, ol (.ar 11 0)), (6, ol (.int .u64 v1)), (7, oi v2)], [(11, .arr 115 (.int .u32) v3 0 false)]⟩
noncomputable def w91S (a0 : (List Int)) (a1 : (List Int)) : Ab.St yaE := ⟨45, [(0, ol (.sl (.int .u32) false a0)), (1, ol (.sl (.int .u32) false a1))], []⟩
theorem w91J1_w (G : Good w91V P) {y : (List Int)} {o} {r} {a0} {a1} {v2} {v3} {v4} (E : Ends w91V C F Try.f91.results.toList [] [(.sl (.int .u32))] (y, ())) (h : isoclineref01LessJ1 a0 a1 v2 v3 v4 = some o)
    (hl : ∀ v', o = .inl v' → Goes w91V P C F w91P1 (w91L1S a0 a1 v'.1 v'.2.1 v'.2.2)) (hr : ∀ r', o = .inr r' → r' = r)
    (K1 : ∀ r1, r = r1 → Goes w91V P C F w91P3 (⟨45, [(5, ol (.ar 11 0))], [(11, .arr 115 (.int .u32) r1 0 false)]⟩ : Ab.St yaE)) : Goes w91V P C F w91P2 (w91J1S a0 a1 v2 v3 v4) := by
  unfold isoclineref01LessJ1 at h
  obtain ⟨c6, h⟩ := need_some h
  obtain ⟨c7, h⟩ := need_some h
  exact sg G [.reg [], .reg [], .reg [], .enter, .weak [.re 11 11 0, .keep [0, 1, 5, 6, 7] [11]]] (aa c6 <| aa c7 <| tt) (hl _ (si h))
theorem w91L1_w (G : Good w91V P) {y : (List Int)} {o} {r} {a0} {a1} {v1} {v2} {v3} (E : Ends w91V C F Try.f91.results.toList [] [(.sl (.int .u32))] (y, ())) (h : isoclineref01LessL1 a0 a1 v1 v2 v3 = some o)
    (hl : ∀ v', o = .inl v' → Goes w91V P C F w91P1 (w91L1S a0 a1 v'.1 v'.2.1 v'.2.2)) (hr : ∀ r', o = .inr r' → r' = r)
    (K1 : ∀ r1, r = r1 → Goes w91V P C F w91P3 (⟨45, [(5, ol (.ar 11 0))], [(11, .arr 115 (.int .u32) r1 0 false)]⟩ : Ab.St yaE)) : Goes w91V P C F w91P1 (w91L1S a0 a1 v1 v2 v3) := by
  unfold isoclineref01LessL1 at h
  rcases ite_some h with ⟨b1, h⟩ | ⟨b1, h⟩
  · obtain ⟨c4, h⟩ := need_some h
    rcases ite_some h with ⟨b2, h⟩ | ⟨b2, h⟩
    · obtain ⟨c5, h⟩ := need_some h
      exact sg G [.reg [], .br true, .reg [], .reg [], .br true, .reg [], .auto, .weak [.keep [0, 1, 5, 7, 8] [11]]] (aa b1 <| aa c4 <| aa b2 <| aa c5 <| tt) (w91J1_w G E h hl hr K1)
    · exact sg G [.reg [], .br true, .reg [], .reg [], .br false, .auto, .weak [.keep [0, 1, 5, 7, 8] [11]]] (aa b1 <| aa c4 <| aa b2 <| tt) (w91J1_w G E h hl hr K1)
  · exact sg G [.reg [], .br false, .auto, .weak [.keep [5] [11]]] (aa b1 <| tt) (K1 _ (hr _ (si h)).symm)
theorem w91_w (G : Good w91V P) {y : (List Int)} {a0} {a1} (E : Ends w91V C F Try.f91.results.toList [] [(.sl (.int .u32))] (y, ())) (h : isoclineref01Less a0 a1 = some y) : Goes w91V P C F w91P0 (w91S a0 a1) := by
  unfold isoclineref01Less at h
  obtain ⟨c1, h⟩ := need_some h
  obtain ⟨c2, h⟩ := need_some h
  obtain ⟨c3, h⟩ := need_some h
  obtain ⟨r1, hi, h⟩ := bind_some h
  have K1 : ∀ q, r1 = q → Goes w91V P C F w91P3 (⟨45, [(5, ol (.ar 11 0))], [(11, .arr 115 (.int .u32) q 0 false)]⟩ : Ab.St yaE) := by
    rintro q rfl
    obtain ⟨y1, c8, h⟩ := bind_some h
    have e := sj h; subst e
    exact se G E [.reg [(1, .res ⟨[(.sl (.int .u32))], (y1, ())⟩)], .auto, .weak [.fix (.slot 4)]] (aa (ca c8) <| tt)
  exact sg G [.reg [], .reg [], .reg [], .reg [], .enter, .weak [.keep [0, 1, 5, 6, 7] [11]]] (aa c1 <| aa c2 <| aa c3 <| tt) (loop_goes (V := w91V) (F := F) (k := w91P1) (S := fun v => w91L1S a0 a1 v.1 v.2.1 v.2.2) (fun v o h hl hr => w91L1_w G E h hl hr K1) _ hi)
noncomputable def w91FS : FS yaE := ⟨[(.sl (.int .u32)), (.sl (.int .u32))], [(.sl (.int .u32))], [], [], fun x => Option.map (fun r => (r, ())) (isoclineref01Less x.1 x.2.1)⟩
theorem w91Meets : MT 91 w91FS := show Meets w91V _ _ _ from mt (fn := Try.f91) (S := fun x => w91S x.1 x.2.1) (GB ⟨w86Meets, trivial⟩ trivial) fun G _ _ _ _ E h => w91_w G E h
noncomputable abbrev w64V : Env := EV [(85, w85FS), (89, w89FS), (90, w90FS), (91, w91FS)] [] false
noncomputable def w64P0 : List Item := [.code (Try.f64.body.getD .skip)]
noncomputable def w64S (a0 : Isoclineref01Whole) (a1 : Isoclineref01Whole) : Ab.St yaE := ⟨40, [(0, og (yaToIsoclineref01Whole a0)), (1, og (yaToIsoclineref01Whole a1))], []⟩
theorem w64_w (G : Good w64V P) {y : Isoclineref01Whole} {a0} {a1} (E : Ends w64V C F Try.f64.results.toList [] [(.nm 6)] (y, ())) (h : isoclineref01WholeAdd a0 a1 = some y) : Goes w64V P C F w64P0 (w64S a0 a1) := by
  unfold isoclineref01WholeAdd at h
  rcases ite_some h with ⟨b1, h⟩ | ⟨b1, h⟩
  · obtain ⟨y1, c1, h⟩ := bind_some h
    obtain ⟨y2, c2, h⟩ := bind_some h
    have e := sj h; subst e
    exact se G E [.reg [], .reg [], .br true, .reg [(4, .res ⟨[(.sl (.int .u32))], (y1, ())⟩), (7, .res ⟨[(.nm 6)], (y2, ())⟩)], .auto] (aa b1 <| aa (ca c1) <| aa (ca c2) <| tt)
  · obtain ⟨y3, c3, h⟩ := bind_some h
    rcases ite_some h with ⟨b2, h⟩ | ⟨b2, h⟩
    · obtain ⟨y4, c4, h⟩ := bind_some h
      obtain ⟨y5, c5, h⟩ := bind_some h
      have e := sj h; subst e
      exact se G E [.reg [], .reg [], .br false, .reg [(4, .res ⟨[(.int .i64)], (y3, ())⟩)], .br true, .reg [(4, .res ⟨[(.sl (.int .u32))], (y4, ())⟩), (7, .res ⟨[(.nm 6)], (y5, ())⟩)], .auto] (aa b1 <| aa (ca c3) <| aa b2 <| aa (ca c4) <| aa (ca c5) <| tt)
    · obtain ⟨y6, c6, h⟩ := bind_some h
      obtain ⟨y7, c7, h⟩ := bind_some h
      have e := sj h; subst e
      exact se G E [.reg [], .reg [], .br false, .reg [(4, .res ⟨[(.int .i64)], (y3, ())⟩)], .br false, .reg [(4, .res ⟨[(.sl (.int .u32))], (y6, ())⟩), (7, .res ⟨[(.nm 6)], (y7, ())⟩)], .auto] (aa b1 <| aa (ca c3) <| aa b2 <| aa (ca c6) <| aa (ca c7) <| tt)
noncomputable def w64FS : FS yaE := ⟨[(.nm 6), (.nm 6)], [(.nm 6)], [], [], fun x => Option.map (fun r => (r, ())) (isoclineref01WholeAdd x.1 x.2.1)⟩
theorem w64Meets : MT 64 w64FS := show Meets w64V _ _ _ from mt (fn := Try.f64) (S := fun x => w64S x.1 x.2.1) (GB ⟨w85Meets, w89Meets, w90Meets, w91Meets, trivial⟩ trivial) fun G _ _ _ _ E h => w64_w G E h
end
end Go.Ab
