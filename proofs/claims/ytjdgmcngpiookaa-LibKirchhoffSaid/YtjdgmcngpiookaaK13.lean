/- The functions compute what the plain functions tell. Conditions: none beyond those that each theorem names. -/
import Derived.Test.YtjdgmcngpiookaaK12
namespace Go.Ab
open Go Go.Proofs
set_option linter.unusedVariables false
section
variable {P : Program} {C : Ctx} {F : Act → World → Prop}
noncomputable abbrev w95V : Env := EV [(98, w98FS)] [] false
noncomputable def w95P0 : List Item := [.code (Try.f95.body.getD .skip)]
noncomputable def w95S (a0 : Int) : Ab.St yaE := ⟨6, [(0, ol (.int .u32 a0))], []⟩
theorem w95_w (G : Good w95V P) {y : Int} {a0} (E : Ends w95V C F Try.f95.results.toList [] [(.int .i64)] (y, ())) (h : bitsLeadingZeros32 a0 = some y) : Goes w95V P C F w95P0 (w95S a0) := by
  unfold bitsLeadingZeros32 at h
  obtain ⟨y1, c1, h⟩ := bind_some h
  have e := sj h; subst e
  exact se G E [.reg [], .reg [(1, .res ⟨[(.int .i64)], (y1, ())⟩)], .auto] (aa (ca c1) <| tt)
noncomputable def w95FS : FS yaE := ⟨[(.int .u32)], [(.int .i64)], [], [], fun x => Option.map (fun r => (r, ())) (bitsLeadingZeros32 x.1)⟩
theorem w95Meets : MT 95 w95FS := show Meets w95V _ _ _ from mt (fn := Try.f95) (S := fun x => w95S x.1) (GB ⟨w98Meets, trivial⟩ trivial) fun G _ _ _ _ E h => w95_w G E h
noncomputable abbrev w94V : Env := EV [(71, w71FS), (95, w95FS)] [] false
noncomputable def w94P0 : List Item := [.code (Try.f94.body.getD .skip)]
noncomputable def w94P1 : List Item := ctl [.reg, .reg, .br false, .reg, .br true, .reg, .reg, .reg, .enter] w94P0
noncomputable def w94P2 : List Item := ctl [.reg, .br false, .auto] w94P1
noncomputable def w94P3 : List Item := ctl [.reg, .reg, .br false, .reg, .br false, .reg, .reg, .reg, .reg, .enter] w94P0
noncomputable def w94P4 : List Item := ctl [.reg, .br true, .reg, .reg, .reg, .br true, .reg, .auto] w94P3
noncomputable def w94P5 : List Item := ctl [.reg, .br false, .auto] w94P3
noncomputable def w94P6 : List Item := ctl [.reg, .enter] w94P5
noncomputable def w94P7 : List Item := ctl [.reg, .br true, .reg, .reg, .br true, .reg, .auto] w94P6
noncomputable def w94P8 : List Item := ctl [.reg, .br true, .reg, .auto] w94P7
noncomputable def w94P9 : List Item := ctl [.reg, .br false, .auto] w94P6
noncomputable def w94P10 : List Item := ctl [.reg, .reg, .reg, .enter] w94P9
noncomputable def w94P11 : List Item := ctl [.reg, .br true, .reg, .reg, .enter] w94P10
noncomputable def w94P12 : List Item := ctl [.reg, .br true, .auto] w94P11
noncomputable def w94P13 : List Item := ctl [.reg, .br false, .auto] w94P11
noncomputable def w94P14 : List Item := ctl [.reg, .reg, .enter] w94P13
noncomputable def w94P15 : List Item := ctl [.reg, .br true, .reg, .reg, .reg, .reg, .reg, .reg, .reg, .br true, .reg, .auto] w94P14
noncomputable def w94P16 : List Item := ctl [.reg, .br false, .auto] w94P14
noncomputable def w94P17 : List Item := ctl [.reg, .reg, .reg, .br true, .reg, .reg, .reg, .enter] w94P16
noncomputable def w94P18 : List Item := ctl [.reg, .br false, .auto] w94P17
noncomputable def w94P19 : List Item := ctl [.reg, .auto] w94P18
noncomputable def w94P20 : List Item := ctl [.reg, .br false, .auto] w94P10
noncomputable def w94P21 : List Item := ctl [.reg, .reg, .enter] w94P20
noncomputable def w94P22 : List Item := ctl [.reg, .br true, .reg, .reg, .reg, .br true, .reg, .auto] w94P21
noncomputable def w94P23 : List Item := ctl [.reg, .br false, .auto] w94P21
noncomputable def w94L1S (a0 : (List Int)) (a1 : (List Int)) (v1 : Int) (v2 : Int) (v3 : (List Int)) : Ab.St yaE := ⟨392, [(0, ol (.sl (.int .u32) false a0)), (1, ol (.sl (.int .u32) false a1)), (6, ol (.ar 43 0)), (7, ol (.int .u64 v1)), (8, oi v2)], [(43, .arr 115 (.int .u32) v3 0 false)]⟩
noncomputable def w94J1S (a0 : (List Int)) (a1 : (List Int)) (v6 : Int) (v7 : (List Int)) (v9 : (List Int)) (y2 : Int) : Ab.St yaE := ⟨392, [(0, ol (.sl (.int .u32) false a0)), (1, ol (.sl (.int .u32) false a1)), (10, ol (.int .u64 (IntKind.wrap .u64 y2))), (11, ol (.ar 90 0)), (12, ol (.ar 93 0)), (95, oi ((a1.length : Nat) : Int)), (96, oi v6)], [(90, .arr 115 (.int .u32) v7 0 false), (93, .arr 115 (.int .u32) v9 0 false)]⟩
noncomputable def w94L2S (a0 : (List Int)) (a1 : (List Int)) (y2 : Int) (v6 : Int) (v7 : (List Int)) (v8 : (List Int)) : Ab.St yaE := ⟨392, [(0, ol (.sl (.int .u32) false a0)), (1, ol (.sl (.int .u32) false a1)), (10, ol (.int .u64 (IntKind.wrap .u64 y2))), (11, ol (.ar 90 0)), (12, ol (.ar 93 0)), (95, oi ((a1.length : Nat) : Int)), (96, oi v6)], [(90, .arr 115 (.int .u32) v7 0 false), (93, .arr 115 (.int .u32) v8 0 false)]⟩
noncomputable def w94J3S (a0 : (List Int)) (v12 : Int) (v15 : (List Int)) (r2 : ((List Int) × (List Int))) (y2 : Int) : Ab.St yaE := ⟨392, [(0, ol (.sl (.int .u32) false a0)), (10, ol (.int .u64 (IntKind.wrap .u64 y2))), (11, ol (.ar 90 0)), (12, ol (.ar 93 0)), (130, oi ((r2.1.length : Nat) : Int)), (131, oi v12)], [(90, .arr 115 (.int .u32) v15 0 false), (93, .arr 115 (.int .u32) r2.2 0 false)]⟩
noncomputable def w94J2S (a0 : (List Int)) (v12 : Int) (v14 : (List Int)) (r2 : ((List Int) × (List Int))) (y2 : Int) : Ab.St yaE := ⟨392, [(0, ol (.sl (.int .u32) false a0)), (10, ol (.int .u64 (IntKind.wrap .u64 y2))), (11, ol (.ar 90 0)), (12, ol (.ar 93 0)), (14, oi v12), (130, oi ((r2.1.length : Nat) : Int)), (131, oi v12)], [(90, .arr 115 (.int .u32) v14 0 false), (93, .arr 115 (.int .u32) r2.2 0 false)]⟩
noncomputable def w94L3S (a0 : (List Int)) (r2 : ((List Int) × (List Int))) (y2 : Int) (v12 : Int) (v13 : (List Int)) : Ab.St yaE := ⟨392, [(0, ol (.sl (.int .u32) false a0)), (10, ol (.int .u64 (IntKind.wrap .u64 y2))), (11, ol (.ar 90 0)), (12, ol (.ar 93 0)), (130, oi ((r2.1.length : Nat) : Int)), (131, oi v12)], [(90, .arr 115 (.int .u32) v13 0 false), (93, .arr 115 (.int .u32) r2.2 0 false)]⟩
noncomputable def w94J4S (v17 : Int) (v18 : (List Int)) (v19 : (List Int)) (v20 : Int) (v21 : Int) (r2 : ((List Int) × (List Int))) (y2 : Int) : Ab.St yaE := ⟨392, [(10, ol (.int .u64 (IntKind.wrap .u64 y2))), (11, ol (.ar 90 0)), (12, ol (.ar 93 0)), (15, oi ((r2.2.length : Nat) : Int)), (16, ol (.ar 175 0)), (17, oi v17), (19, ol (.int .u64 v20)), (20, ol (.int .u64 v21))], [(90, .arr 115 (.int .u32) v18 0 false), (93, .arr 115 (.int .u32) r2.2 0 false), (175, .arr 115 (.int .u32) v19 0 false)]⟩
noncomputable def w94L5S (v17 : Int) (v18 : (List Int)) (v19 : (List Int)) (r2 : ((List Int) × (List Int))) (y2 : Int) (v20 : Int) (v21 : Int) : Ab.St yaE := ⟨392, [(10, ol (.int .u64 (IntKind.wrap .u64 y2))), (11, ol (.ar 90 0)), (12, ol (.ar 93 0)), (15, oi ((r2.2.length : Nat) : Int)), (16, ol (.ar 175 0)), (17, oi v17), (19, ol (.int .u64 v20)), (20, ol (.int .u64 v21))], [(90, .arr 115 (.int .u32) v18 0 false), (93, .arr 115 (.int .u32) r2.2 0 false), (175, .arr 115 (.int .u32) v19 0 false)]⟩
noncomputable def w94J5S (v17 : Int) (v19 : (List Int)) (v25 : Int) (v27 : Int) (v28 : Int) (v29 : (List Int)) (r2 : ((List Int) × (List Int))) (r4 : Int) (y2 : Int) : Ab.St yaE := ⟨392, [(10, ol (.int .u64 (IntKind.wrap .u64 y2))), (11, ol (.ar 90 0)), (12, ol (.ar 93 0)), (15, oi ((r2.2.length : Nat) : Int)), (16, ol (.ar 175 0)), (17, oi v17), (19, ol (.int .u64 r4)), (21, oi v27), (22, ol (.int .u64 v28)), (253, oi ((r2.2.length : Nat) : Int)), (254, oi v25)], [(90, .arr 115 (.int .u32) v29 0 false), (93, .arr 115 (.int .u32) r2.2 0 false), (175, .arr 115 (.int .u32) v19 0 false)]⟩
noncomputable def w94L6S (v17 : Int) (v19 : (List Int)) (r2 : ((List Int) × (List Int))) (r4 : Int) (y2 : Int) (v23 : Int) (v24 : Int) (v25 : Int) (v26 : (List Int)) : Ab.St yaE := ⟨392, [(10, ol (.int .u64 (IntKind.wrap .u64 y2))), (11, ol (.ar 90 0)), (12, ol (.ar 93 0)), (15, oi ((r2.2.length : Nat) : Int)), (16, ol (.ar 175 0)), (17, oi v17), (19, ol (.int .u64 r4)), (21, oi v23), (22, ol (.int .u64 v24)), (253, oi ((r2.2.length : Nat) : Int)), (254, oi v25)], [(90, .arr 115 (.int .u32) v26 0 false), (93, .arr 115 (.int .u32) r2.2 0 false), (175, .arr 115 (.int .u32) v19 0 false)]⟩
noncomputable def w94L7S (v17 : Int) (v19 : (List Int)) (r2 : ((List Int) × (List Int))) (r4 : Int) (y2 : Int) (v33 : Int) (v34 : Int) (v35 : (List Int)) : Ab.St yaE := ⟨392, [(10, ol (.int .u64 (IntKind.wrap .u64 y2))), (11, ol (.ar 90 0)), (12, ol (.ar 93 0)), (15, oi ((r2.2.length : Nat) : Int)), (16, ol (.ar 175 0)), (17, oi v17), (19, ol (.int .u64 (IntKind.wrap .u64 (r4 - (1 : Int))))), (27, ol (.int .u64 v33)), (314, oi ((r2.2.length : Nat) : Int)), (315, oi v34)], [(90, .arr 115 (.int .u32) v35 0 false), (93, .arr 115 (.int .u32) r2.2 0 false), (175, .arr 115 (.int .u32) v19 0 false)]⟩
noncomputable def w94J6S (v17 : Int) (v19 : (List Int)) (v38 : Int) (v39 : (List Int)) (r2 : ((List Int) × (List Int))) (y2 : Int) : Ab.St yaE := ⟨392, [(10, ol (.int .u64 (IntKind.wrap .u64 y2))), (11, ol (.ar 90 0)), (12, ol (.ar 93 0)), (15, oi ((r2.2.length : Nat) : Int)), (16, ol (.ar 175 0)), (17, oi v17), (19, ol (.int .u64 v38))], [(90, .arr 115 (.int .u32) v39 0 false), (93, .arr 115 (.int .u32) r2.2 0 false), (175, .arr 115 (.int .u32) v19 0 false)]⟩
noncomputable def w94L4S (r2 : ((List Int) × (List Int))) (y2 : Int) (v17 : Int) (v18 : (List Int)) (v19 : (List Int)) : Ab.St yaE := ⟨392, [(10, ol (.int .u64 (IntKind.wrap .u64 y2))), (11, ol (.ar 90 0)), (12, ol (.ar 93 0)), (15, oi ((r2.2.length : Nat) : Int)), (16, ol (.ar 175 0)), (17, oi v17)], [(90, .arr 115 (.int .u32) v18 0 false), (93, .arr 115 (.int .u32) r2.2 0 false), (175, .arr 115 (.int .u32) v19 0 false)]⟩
noncomputable def w94J7S (v42 : Int) (v44 : (List Int)) (r2 : ((List Int) × (List Int))) (r7 : ((List Int) × (List Int))) (y2 : Int) : Ab.St yaE := ⟨392, [(10, ol (.int .u64 (IntKind.wrap .u64 y2))), (11, ol (.ar 90 0)), (16, ol (.ar 175 0)), (30, ol (.ar 359 0)), (360, oi ((r2.2.length : Nat) : Int)), (361, oi v42)], [(90, .arr 115 (.int .u32) r7.1 0 false), (175, .arr 115 (.int .u32) r7.2 0 false), (359, .arr 115 (.int .u32) v44 0 false)]⟩
noncomputable def w94L8S (r2 : ((List Int) × (List Int))) (r7 : ((List Int) × (List Int))) (y2 : Int) (v42 : Int) (v43 : (List Int)) : Ab.St yaE := ⟨392, [(10, ol (.int .u64 (IntKind.wrap .u64 y2))), (11, ol (.ar 90 0)), (16, ol (.ar 175 0)), (30, ol (.ar 359 0)), (360, oi ((r2.2.length : Nat) : Int)), (361, oi v42)], [(90, .arr 115 (.int .u32) r7.1 0 false), (175, .arr 115 (.int .u32) r7.2 0 false), (359, .arr 115 (.int .u32) v43 0 false)]⟩
noncomputable def w94S (a0 : (List Int)) (a1 : (List Int)) : Ab.St yaE := ⟨392, [(0, ol (.sl (.int .u32) false a0)), (1, ol (.sl (.int .u32) false a1))], []⟩
theorem w94L1_w (G : Good w94V P) {y : ((List Int) × (List Int))} {o} {r} {a0} {a1} {v1} {v2} {v3} (E : Ends w94V C F Try.f94.results.toList [] [(.sl (.int .u32)), (.sl (.int .u32))] (y.1, y.2, ())) (h : numQuoWordsL1 a0 a1 v1 v2 v3 = some o)
    (hl : ∀ v', o = .inl v' → Goes w94V P C F w94P1 (w94L1S a0 a1 v'.1 v'.2.1 v'.2.2)) (hr : ∀ r', o = .inr r' → r' = r)
    (K1 : ∀ r1, r = r1 → Goes w94V P C F w94P2 (⟨392, [(6, ol (.ar 43 0)), (7, ol (.int .u64 r1.1))], [(43, .arr 115 (.int .u32) r1.2 0 false)]⟩ : Ab.St yaE)) : Goes w94V P C F w94P1 (w94L1S a0 a1 v1 v2 v3) := by
  unfold numQuoWordsL1 at h
  rcases ite_some h with ⟨b3, h⟩ | ⟨b3, h⟩
  · obtain ⟨c6, h⟩ := need_some h
    obtain ⟨c7, h⟩ := need_some h
    obtain ⟨c8, h⟩ := need_some h
    obtain ⟨c9, h⟩ := need_some h
    obtain ⟨c10, h⟩ := need_some h
    obtain ⟨c11, h⟩ := need_some h
    obtain ⟨c12, h⟩ := need_some h
    exact sg G [.reg [], .br true, .reg [], .reg [], .reg [], .reg [], .enter, .weak [.keep [0, 1, 6, 7, 8] [43]]] (aa b3 <| aa c6 <| aa c7 <| aa c8 <| aa c9 <| aa c10 <| aa c11 <| aa c12 <| tt) (hl _ (si h))
  · exact sg G [.reg [], .br false, .auto, .weak [.keep [6, 7] [43]]] (aa b3 <| tt) (K1 _ (hr _ (si h)).symm)
theorem w94J1_w (G : Good w94V P) {y : ((List Int) × (List Int))} {o} {r} {a0} {a1} {v6} {v7} {v9} {y2} (E : Ends w94V C F Try.f94.results.toList [] [(.sl (.int .u32)), (.sl (.int .u32))] (y.1, y.2, ())) (h : numQuoWordsJ1 a0 a1 v6 v7 v9 y2 = some o)
    (hl : ∀ v', o = .inl v' → Goes w94V P C F w94P3 (w94L2S a0 a1 y2 v'.1 v'.2.1 v'.2.2)) (hr : ∀ r', o = .inr r' → r' = r)
    (K1 : ∀ r2, r = r2 → Goes w94V P C F w94P5 (⟨392, [(0, ol (.sl (.int .u32) false a0)), (10, ol (.int .u64 (IntKind.wrap .u64 y2))), (11, ol (.ar 90 0)), (12, ol (.ar 93 0))], [(90, .arr 115 (.int .u32) r2.1 0 false), (93, .arr 115 (.int .u32) r2.2 0 false)]⟩ : Ab.St yaE)) : Goes w94V P C F w94P4 (w94J1S a0 a1 v6 v7 v9 y2) := by
  unfold numQuoWordsJ1 at h
  exact sg G [.reg [], .enter, .weak [.keep [0, 1, 10, 11, 12, 95, 96] [90, 93]]] tt (hl _ (si h))
theorem w94L2_w (G : Good w94V P) {y : ((List Int) × (List Int))} {o} {r} {a0} {a1} {y2} {v6} {v7} {v8} (E : Ends w94V C F Try.f94.results.toList [] [(.sl (.int .u32)), (.sl (.int .u32))] (y.1, y.2, ())) (h : numQuoWordsL2 a0 a1 y2 v6 v7 v8 = some o)
    (hl : ∀ v', o = .inl v' → Goes w94V P C F w94P3 (w94L2S a0 a1 y2 v'.1 v'.2.1 v'.2.2)) (hr : ∀ r', o = .inr r' → r' = r)
    (K1 : ∀ r2, r = r2 → Goes w94V P C F w94P5 (⟨392, [(0, ol (.sl (.int .u32) false a0)), (10, ol (.int .u64 (IntKind.wrap .u64 y2))), (11, ol (.ar 90 0)), (12, ol (.ar 93 0))], [(90, .arr 115 (.int .u32) r2.1 0 false), (93, .arr 115 (.int .u32) r2.2 0 false)]⟩ : Ab.St yaE)) : Goes w94V P C F w94P3 (w94L2S a0 a1 y2 v6 v7 v8) := by
  unfold numQuoWordsL2 at h
  rcases ite_some h with ⟨b4, h⟩ | ⟨b4, h⟩
  · obtain ⟨c21, h⟩ := need_some h
    obtain ⟨c22, h⟩ := need_some h
    obtain ⟨c23, h⟩ := need_some h
    rcases ite_some h with ⟨b5, h⟩ | ⟨b5, h⟩
    · rcases ite_some h with ⟨b6, h⟩ | ⟨b6, h⟩
      · obtain ⟨c24, h⟩ := need_some h
        obtain ⟨c25, h⟩ := need_some h
        obtain ⟨c26, h⟩ := need_some h
        obtain ⟨c27, h⟩ := need_some h
        exact sg G [.reg [], .br true, .reg [], .reg [], .reg [(2, .bit true), (5, .bit true)], .br true, .reg [], .auto, .weak [.keep [0, 1, 10, 11, 12, 95, 96] [90, 93]]] (aa b4 <| aa c21 <| aa c22 <| aa c23 <| aa b5 <| aa b5 <| aa b5 <| aa b6 <| aa c24 <| aa c25 <| aa c26 <| aa c27 <| tt) (w94J1_w G E h hl hr K1)
      · exact sg G [.reg [], .br true, .reg [], .reg [], .reg [(2, .bit true), (5, .bit true)], .br false, .auto, .weak [.keep [0, 1, 10, 11, 12, 95, 96] [90, 93]]] (aa b4 <| aa c21 <| aa c22 <| aa c23 <| aa b5 <| aa b5 <| aa b5 <| aa b6 <| tt) (w94J1_w G E h hl hr K1)
    · exact sg G [.reg [], .br true, .reg [], .reg [], .reg [(2, .bit false), (5, .bit false)], .br false, .auto, .weak [.keep [0, 1, 10, 11, 12, 95, 96] [90, 93]]] (aa b4 <| aa c21 <| aa c22 <| aa c23 <| aa b5 <| aa b5 <| aa b5 <| aa (show false = false from rfl) <| tt) (w94J1_w G E h hl hr K1)
  · exact sg G [.reg [], .br false, .auto, .weak [.keep [0, 10, 11, 12] [90, 93]]] (aa b4 <| tt) (K1 _ (hr _ (si h)).symm)
theorem w94J3_w (G : Good w94V P) {y : ((List Int) × (List Int))} {o} {r} {a0} {v12} {v15} {r2} {y2} (E : Ends w94V C F Try.f94.results.toList [] [(.sl (.int .u32)), (.sl (.int .u32))] (y.1, y.2, ())) (h : numQuoWordsJ3 a0 v12 v15 r2 y2 = some o)
    (hl : ∀ v', o = .inl v' → Goes w94V P C F w94P6 (w94L3S a0 r2 y2 v'.1 v'.2)) (hr : ∀ r', o = .inr r' → r' = r)
    (K1 : ∀ r3, r = r3 → Goes w94V P C F w94P9 (⟨392, [(0, ol (.sl (.int .u32) false a0)), (10, ol (.int .u64 (IntKind.wrap .u64 y2))), (11, ol (.ar 90 0)), (12, ol (.ar 93 0))], [(90, .arr 115 (.int .u32) r3 0 false), (93, .arr 115 (.int .u32) r2.2 0 false)]⟩ : Ab.St yaE)) : Goes w94V P C F w94P8 (w94J3S a0 v12 v15 r2 y2) := by
  unfold numQuoWordsJ3 at h
  exact sg G [.reg [], .enter, .weak [.keep [0, 10, 11, 12, 130, 131] [90, 93]]] tt (hl _ (si h))
theorem w94J2_w (G : Good w94V P) {y : ((List Int) × (List Int))} {o} {r} {a0} {v12} {v14} {r2} {y2} (E : Ends w94V C F Try.f94.results.toList [] [(.sl (.int .u32)), (.sl (.int .u32))] (y.1, y.2, ())) (h : numQuoWordsJ2 a0 v12 v14 r2 y2 = some o)
    (hl : ∀ v', o = .inl v' → Goes w94V P C F w94P6 (w94L3S a0 r2 y2 v'.1 v'.2)) (hr : ∀ r', o = .inr r' → r' = r)
    (K1 : ∀ r3, r = r3 → Goes w94V P C F w94P9 (⟨392, [(0, ol (.sl (.int .u32) false a0)), (10, ol (.int .u64 (IntKind.wrap .u64 y2))), (11, ol (.ar 90 0)), (12, ol (.ar 93 0))], [(90, .arr 115 (.int .u32) r3 0 false), (93, .arr 115 (.int .u32) r2.2 0 false)]⟩ : Ab.St yaE)) : Goes w94V P C F w94P7 (w94J2S a0 v12 v14 r2 y2) := by
  unfold numQuoWordsJ2 at h
  rcases ite_some h with ⟨b9, h⟩ | ⟨b9, h⟩
  · rcases ite_some h with ⟨b10, h⟩ | ⟨b10, h⟩
    · obtain ⟨c31, h⟩ := need_some h
      obtain ⟨c32, h⟩ := need_some h
      obtain ⟨c33, h⟩ := need_some h
      obtain ⟨c34, h⟩ := need_some h
      exact sg G [.reg [(2, .bit true), (5, .bit true)], .br true, .reg [], .auto, .weak [.keep [0, 10, 11, 12, 130, 131] [90, 93]]] (aa b9 <| aa b9 <| aa b9 <| aa b10 <| aa c31 <| aa c32 <| aa c33 <| aa c34 <| tt) (w94J3_w G E h hl hr K1)
    · exact sg G [.reg [(2, .bit true), (5, .bit true)], .br false, .auto, .weak [.keep [0, 10, 11, 12, 130, 131] [90, 93]]] (aa b9 <| aa b9 <| aa b9 <| aa b10 <| tt) (w94J3_w G E h hl hr K1)
  · exact sg G [.reg [(2, .bit false), (5, .bit false)], .br false, .auto, .weak [.keep [0, 10, 11, 12, 130, 131] [90, 93]]] (aa b9 <| aa b9 <| aa b9 <| aa (show false = false from rfl) <| tt) (w94J3_w G E h hl hr K1)
theorem w94L3_w (G : Good w94V P) {y : ((List Int) × (List Int))} {o} {r} {a0} {r2} {y2} {v12} {v13} (E : Ends w94V C F Try.f94.results.toList [] [(.sl (.int .u32)), (.sl (.int .u32))] (y.1, y.2, ())) (h : numQuoWordsL3 a0 r2 y2 v12 v13 = some o)
    (hl : ∀ v', o = .inl v' → Goes w94V P C F w94P6 (w94L3S a0 r2 y2 v'.1 v'.2)) (hr : ∀ r', o = .inr r' → r' = r)
    (K1 : ∀ r3, r = r3 → Goes w94V P C F w94P9 (⟨392, [(0, ol (.sl (.int .u32) false a0)), (10, ol (.int .u64 (IntKind.wrap .u64 y2))), (11, ol (.ar 90 0)), (12, ol (.ar 93 0))], [(90, .arr 115 (.int .u32) r3 0 false), (93, .arr 115 (.int .u32) r2.2 0 false)]⟩ : Ab.St yaE)) : Goes w94V P C F w94P6 (w94L3S a0 r2 y2 v12 v13) := by
  unfold numQuoWordsL3 at h
  rcases ite_some h with ⟨b7, h⟩ | ⟨b7, h⟩
  · rcases ite_some h with ⟨b8, h⟩ | ⟨b8, h⟩
    · obtain ⟨c28, h⟩ := need_some h
      obtain ⟨c29, h⟩ := need_some h
      obtain ⟨c30, h⟩ := need_some h
      exact sg G [.reg [], .br true, .reg [], .reg [], .br true, .reg [], .auto, .weak [.keep [0, 10, 11, 12, 14, 130, 131] [90, 93]]] (aa b7 <| aa b8 <| aa c28 <| aa c29 <| aa c30 <| tt) (w94J2_w G E h hl hr K1)
    · exact sg G [.reg [], .br true, .reg [], .reg [], .br false, .auto, .weak [.keep [0, 10, 11, 12, 14, 130, 131] [90, 93]]] (aa b7 <| aa b8 <| tt) (w94J2_w G E h hl hr K1)
  · exact sg G [.reg [], .br false, .auto, .weak [.keep [0, 10, 11, 12] [90, 93]]] (aa b7 <| tt) (K1 _ (hr _ (si h)).symm)
theorem w94J4_w (G : Good w94V P) {y : ((List Int) × (List Int))} {o} {r} {v17} {v18} {v19} {v20} {v21} {r2} {y2} (E : Ends w94V C F Try.f94.results.toList [] [(.sl (.int .u32)), (.sl (.int .u32))] (y.1, y.2, ())) (h : numQuoWordsJ4 v17 v18 v19 v20 v21 r2 y2 = some o)
    (hl : ∀ v', o = .inl v' → Goes w94V P C F w94P11 (w94L5S v17 v18 v19 r2 y2 v'.1 v'.2)) (hr : ∀ r', o = .inr r' → r' = r)
    (K1 : ∀ r4, r = r4 → Goes w94V P C F w94P13 (⟨392, [(10, ol (.int .u64 (IntKind.wrap .u64 y2))), (11, ol (.ar 90 0)), (12, ol (.ar 93 0)), (15, oi ((r2.2.length : Nat) : Int)), (16, ol (.ar 175 0)), (17, oi v17), (19, ol (.int .u64 r4))], [(90, .arr 115 (.int .u32) v18 0 false), (93, .arr 115 (.int .u32) r2.2 0 false), (175, .arr 115 (.int .u32) v19 0 false)]⟩ : Ab.St yaE)) : Goes w94V P C F w94P12 (w94J4S v17 v18 v19 v20 v21 r2 y2) := by
  unfold numQuoWordsJ4 at h
  obtain ⟨c48, h⟩ := need_some h
  rcases ite_some h with ⟨b14, h⟩ | ⟨b14, h⟩
  · exact sg G [.reg [], .reg [], .reg [], .br true, .auto, .weak [.keep [10, 11, 12, 15, 16, 17, 19] [90, 93, 175]]] (aa c48 <| aa b14 <| tt) (K1 _ (hr _ (si h)).symm)
  · exact sg G [.reg [], .reg [], .reg [], .br false, .enter, .weak [.keep [10, 11, 12, 15, 16, 17, 19, 20] [90, 93, 175]]] (aa c48 <| aa b14 <| tt) (hl _ (si h))
theorem w94L5_w (G : Good w94V P) {y : ((List Int) × (List Int))} {o} {r} {v17} {v18} {v19} {r2} {y2} {v20} {v21} (E : Ends w94V C F Try.f94.results.toList [] [(.sl (.int .u32)), (.sl (.int .u32))] (y.1, y.2, ())) (h : numQuoWordsL5 v17 v18 v19 r2 y2 v20 v21 = some o)
    (hl : ∀ v', o = .inl v' → Goes w94V P C F w94P11 (w94L5S v17 v18 v19 r2 y2 v'.1 v'.2)) (hr : ∀ r', o = .inr r' → r' = r)
    (K1 : ∀ r4, r = r4 → Goes w94V P C F w94P13 (⟨392, [(10, ol (.int .u64 (IntKind.wrap .u64 y2))), (11, ol (.ar 90 0)), (12, ol (.ar 93 0)), (15, oi ((r2.2.length : Nat) : Int)), (16, ol (.ar 175 0)), (17, oi v17), (19, ol (.int .u64 r4))], [(90, .arr 115 (.int .u32) v18 0 false), (93, .arr 115 (.int .u32) r2.2 0 false), (175, .arr 115 (.int .u32) v19 0 false)]⟩ : Ab.St yaE)) : Goes w94V P C F w94P11 (w94L5S v17 v18 v19 r2 y2 v20 v21) := by
  unfold numQuoWordsL5 at h
  rcases ite_some h with ⟨b12, h⟩ | ⟨b12, h⟩
  · exact sg G [.reg [(2, .bit true), (23, .bit true)], .br true, .auto, .weak [.keep [10, 11, 12, 15, 16, 17, 19, 20] [90, 93, 175]]] (aa b12 <| aa b12 <| aa b12 <| aa b12 <| aa b12 <| aa b12 <| aa b12 <| aa b12 <| aa b12 <| aa b12 <| aa b12 <| aa b12 <| aa b12 <| aa b12 <| aa b12 <| aa b12 <| aa b12 <| aa b12 <| aa b12 <| aa b12 <| aa b12 <| aa (show true = true from rfl) <| tt) (w94J4_w G E h hl hr K1)
  · obtain ⟨c45, h⟩ := need_some h
    obtain ⟨c46, h⟩ := need_some h
    obtain ⟨c47, h⟩ := need_some h
    rcases ite_some h with ⟨b13, h⟩ | ⟨b13, h⟩
    · exact sg G [.reg [(2, .bit false), (23, .bit false)], .br true, .auto, .weak [.keep [10, 11, 12, 15, 16, 17, 19, 20] [90, 93, 175]]] (aa b12 <| aa b12 <| aa b12 <| aa b12 <| aa b12 <| aa c45 <| aa b12 <| aa b12 <| aa b12 <| aa b12 <| aa b12 <| aa c46 <| aa b12 <| aa b12 <| aa b12 <| aa b12 <| aa b12 <| aa b12 <| aa c47 <| aa b12 <| aa b12 <| aa b12 <| aa b12 <| aa b12 <| aa b13 <| tt) (w94J4_w G E h hl hr K1)
    · exact sg G [.reg [(2, .bit false), (23, .bit false)], .br false, .auto, .weak [.keep [10, 11, 12, 15, 16, 17, 19] [90, 93, 175]]] (aa b12 <| aa b12 <| aa b12 <| aa b12 <| aa b12 <| aa c45 <| aa b12 <| aa b12 <| aa b12 <| aa b12 <| aa b12 <| aa c46 <| aa b12 <| aa b12 <| aa b12 <| aa b12 <| aa b12 <| aa b12 <| aa c47 <| aa b12 <| aa b12 <| aa b12 <| aa b12 <| aa b12 <| aa b13 <| tt) (K1 _ (hr _ (si h)).symm)
theorem w94J5_w (G : Good w94V P) {y : ((List Int) × (List Int))} {o} {r} {v17} {v19} {v25} {v27} {v28} {v29} {r2} {r4} {y2} (E : Ends w94V C F Try.f94.results.toList [] [(.sl (.int .u32)), (.sl (.int .u32))] (y.1, y.2, ())) (h : numQuoWordsJ5 v17 v19 v25 v27 v28 v29 r2 r4 y2 = some o)
    (hl : ∀ v', o = .inl v' → Goes w94V P C F w94P14 (w94L6S v17 v19 r2 r4 y2 v'.1 v'.2.1 v'.2.2.1 v'.2.2.2)) (hr : ∀ r', o = .inr r' → r' = r)
    (K1 : ∀ r5, r = r5 → Goes w94V P C F w94P16 (⟨392, [(10, ol (.int .u64 (IntKind.wrap .u64 y2))), (11, ol (.ar 90 0)), (12, ol (.ar 93 0)), (15, oi ((r2.2.length : Nat) : Int)), (16, ol (.ar 175 0)), (17, oi v17), (19, ol (.int .u64 r4)), (21, oi r5.1), (22, ol (.int .u64 r5.2.1))], [(90, .arr 115 (.int .u32) r5.2.2 0 false), (93, .arr 115 (.int .u32) r2.2 0 false), (175, .arr 115 (.int .u32) v19 0 false)]⟩ : Ab.St yaE)) : Goes w94V P C F w94P15 (w94J5S v17 v19 v25 v27 v28 v29 r2 r4 y2) := by
  unfold numQuoWordsJ5 at h
  exact sg G [.reg [], .enter, .weak [.keep [10, 11, 12, 15, 16, 17, 19, 21, 22, 253, 254] [90, 93, 175]]] tt (hl _ (si h))
theorem w94L6_w (G : Good w94V P) {y : ((List Int) × (List Int))} {o} {r} {v17} {v19} {r2} {r4} {y2} {v23} {v24} {v25} {v26} (E : Ends w94V C F Try.f94.results.toList [] [(.sl (.int .u32)), (.sl (.int .u32))] (y.1, y.2, ())) (h : numQuoWordsL6 v17 v19 r2 r4 y2 v23 v24 v25 v26 = some o)
    (hl : ∀ v', o = .inl v' → Goes w94V P C F w94P14 (w94L6S v17 v19 r2 r4 y2 v'.1 v'.2.1 v'.2.2.1 v'.2.2.2)) (hr : ∀ r', o = .inr r' → r' = r)
    (K1 : ∀ r5, r = r5 → Goes w94V P C F w94P16 (⟨392, [(10, ol (.int .u64 (IntKind.wrap .u64 y2))), (11, ol (.ar 90 0)), (12, ol (.ar 93 0)), (15, oi ((r2.2.length : Nat) : Int)), (16, ol (.ar 175 0)), (17, oi v17), (19, ol (.int .u64 r4)), (21, oi r5.1), (22, ol (.int .u64 r5.2.1))], [(90, .arr 115 (.int .u32) r5.2.2 0 false), (93, .arr 115 (.int .u32) r2.2 0 false), (175, .arr 115 (.int .u32) v19 0 false)]⟩ : Ab.St yaE)) : Goes w94V P C F w94P14 (w94L6S v17 v19 r2 r4 y2 v23 v24 v25 v26) := by
  unfold numQuoWordsL6 at h
  rcases ite_some h with ⟨b15, h⟩ | ⟨b15, h⟩
  · obtain ⟨c49, h⟩ := need_some h
    obtain ⟨c50, h⟩ := need_some h
    obtain ⟨c51, h⟩ := need_some h
    obtain ⟨c52, h⟩ := need_some h
    rcases ite_some h with ⟨b16, h⟩ | ⟨b16, h⟩
    · exact sg G [.reg [], .br true, .reg [], .reg [], .reg [], .reg [], .reg [], .reg [], .reg [], .br true, .reg [], .auto, .weak [.keep [10, 11, 12, 15, 16, 17, 19, 21, 22, 253, 254] [90, 93, 175]]] (aa b15 <| aa c49 <| aa c50 <| aa c51 <| aa c52 <| aa b16 <| tt) (w94J5_w G E h hl hr K1)
    · exact sg G [.reg [], .br true, .reg [], .reg [], .reg [], .reg [], .reg [], .reg [], .reg [], .br false, .auto, .weak [.keep [10, 11, 12, 15, 16, 17, 19, 21, 22, 253, 254] [90, 93, 175]]] (aa b15 <| aa c49 <| aa c50 <| aa c51 <| aa c52 <| aa b16 <| tt) (w94J5_w G E h hl hr K1)
  · exact sg G [.reg [], .br false, .auto, .weak [.keep [10, 11, 12, 15, 16, 17, 19, 21, 22] [90, 93, 175]]] (aa b15 <| tt) (K1 _ (hr _ (si h)).symm)
theorem w94L7_w (G : Good w94V P) {y : ((List Int) × (List Int))} {o} {r} {v17} {v19} {r2} {r4} {y2} {v33} {v34} {v35} (E : Ends w94V C F Try.f94.results.toList [] [(.sl (.int .u32)), (.sl (.int .u32))] (y.1, y.2, ())) (h : numQuoWordsL7 v17 v19 r2 r4 y2 v33 v34 v35 = some o)
    (hl : ∀ v', o = .inl v' → Goes w94V P C F w94P17 (w94L7S v17 v19 r2 r4 y2 v'.1 v'.2.1 v'.2.2)) (hr : ∀ r', o = .inr r' → r' = r)
    (K1 : ∀ r6, r = r6 → Goes w94V P C F w94P18 (⟨392, [(10, ol (.int .u64 (IntKind.wrap .u64 y2))), (11, ol (.ar 90 0)), (12, ol (.ar 93 0)), (15, oi ((r2.2.length : Nat) : Int)), (16, ol (.ar 175 0)), (17, oi v17), (19, ol (.int .u64 (IntKind.wrap .u64 (r4 - (1 : Int))))), (27, ol (.int .u64 r6.1))], [(90, .arr 115 (.int .u32) r6.2 0 false), (93, .arr 115 (.int .u32) r2.2 0 false), (175, .arr 115 (.int .u32) v19 0 false)]⟩ : Ab.St yaE)) : Goes w94V P C F w94P17 (w94L7S v17 v19 r2 r4 y2 v33 v34 v35) := by
  unfold numQuoWordsL7 at h
  rcases ite_some h with ⟨b18, h⟩ | ⟨b18, h⟩
  · obtain ⟨c55, h⟩ := need_some h
    obtain ⟨c56, h⟩ := need_some h
    obtain ⟨c57, h⟩ := need_some h
    obtain ⟨c58, h⟩ := need_some h
    exact sg G [.reg [], .br true, .reg [], .reg [], .reg [], .reg [], .reg [], .enter, .weak [.keep [10, 11, 12, 15, 16, 17, 19, 27, 314, 315] [90, 93, 175]]] (aa b18 <| aa c55 <| aa c56 <| aa c57 <| aa c58 <| tt) (hl _ (si h))
  · exact sg G [.reg [], .br false, .auto, .weak [.keep [10, 11, 12, 15, 16, 17, 19, 27] [90, 93, 175]]] (aa b18 <| tt) (K1 _ (hr _ (si h)).symm)
theorem w94J6_w (G : Good w94V P) {y : ((List Int) × (List Int))} {o} {r} {v17} {v19} {v38} {v39} {r2} {y2} (E : Ends w94V C F Try.f94.results.toList [] [(.sl (.int .u32)), (.sl (.int .u32))] (y.1, y.2, ())) (h : numQuoWordsJ6 v17 v19 v38 v39 r2 y2 = some o)
    (hl : ∀ v', o = .inl v' → Goes w94V P C F w94P10 (w94L4S r2 y2 v'.1 v'.2.1 v'.2.2)) (hr : ∀ r', o = .inr r' → r' = r)
    (K1 : ∀ r7, r = r7 → Goes w94V P C F w94P20 (⟨392, [(10, ol (.int .u64 (IntKind.wrap .u64 y2))), (11, ol (.ar 90 0)), (15, oi ((r2.2.length : Nat) : Int)), (16, ol (.ar 175 0))], [(90, .arr 115 (.int .u32) r7.1 0 false), (175, .arr 115 (.int .u32) r7.2 0 false)]⟩ : Ab.St yaE)) : Goes w94V P C F w94P19 (w94J6S v17 v19 v38 v39 r2 y2) := by
  unfold numQuoWordsJ6 at h
  obtain ⟨c61, h⟩ := need_some h
  exact sg G [.reg [], .reg [], .enter, .weak [.keep [10, 11, 12, 15, 16, 17] [90, 93, 175]]] (aa c61 <| tt) (hl _ (si h))
theorem w94L4_w (G : Good w94V P) {y : ((List Int) × (List Int))} {o} {r} {r2} {y2} {v17} {v18} {v19} (E : Ends w94V C F Try.f94.results.toList [] [(.sl (.int .u32)), (.sl (.int .u32))] (y.1, y.2, ())) (h : numQuoWordsL4 r2 y2 v17 v18 v19 = some o)
    (hl : ∀ v', o = .inl v' → Goes w94V P C F w94P10 (w94L4S r2 y2 v'.1 v'.2.1 v'.2.2)) (hr : ∀ r', o = .inr r' → r' = r)
    (K1 : ∀ r7, r = r7 → Goes w94V P C F w94P20 (⟨392, [(10, ol (.int .u64 (IntKind.wrap .u64 y2))), (11, ol (.ar 90 0)), (15, oi ((r2.2.length : Nat) : Int)), (16, ol (.ar 175 0))], [(90, .arr 115 (.int .u32) r7.1 0 false), (175, .arr 115 (.int .u32) r7.2 0 false)]⟩ : Ab.St yaE)) : Goes w94V P C F w94P10 (w94L4S r2 y2 v17 v18 v19) := by
  unfold numQuoWordsL4 at h
  rcases ite_some h with ⟨b11, h⟩ | ⟨b11, h⟩
  · obtain ⟨c38, h⟩ := need_some h
    obtain ⟨c39, h⟩ := need_some h
    obtain ⟨c40, h⟩ := need_some h
    obtain ⟨c41, h⟩ := need_some h
    obtain ⟨c42, h⟩ := need_some h
    obtain ⟨c43, h⟩ := need_some h
    obtain ⟨c44, h⟩ := need_some h
    obtain ⟨r4, hi, h⟩ := bind_some h
    have K1 : ∀ q, r4 = q → Goes w94V P C F w94P13 (⟨392, [(10, ol (.int .u64 (IntKind.wrap .u64 y2))), (11, ol (.ar 90 0)), (12, ol (.ar 93 0)), (15, oi ((r2.2.length : Nat) : Int)), (16, ol (.ar 175 0)), (17, oi v17), (19, ol (.int .u64 q))], [(90, .arr 115 (.int .u32) v18 0 false), (93, .arr 115 (.int .u32) r2.2 0 false), (175, .arr 115 (.int .u32) v19 0 false)]⟩ : Ab.St yaE) := by
      rintro q rfl
      obtain ⟨r5, hi, h⟩ := bind_some h
      have K1 : ∀ q, r5 = q → Goes w94V P C F w94P16 (⟨392, [(10, ol (.int .u64 (IntKind.wrap .u64 y2))), (11, ol (.ar 90 0)), (12, ol (.ar 93 0)), (15, oi ((r2.2.length : Nat) : Int)), (16, ol (.ar 175 0)), (17, oi v17), (19, ol (.int .u64 r4)), (21, oi q.1), (22, ol (.int .u64 q.2.1))], [(90, .arr 115 (.int .u32) q.2.2 0 false), (93, .arr 115 (.int .u32) r2.2 0 false), (175, .arr 115 (.int .u32) v19 0 false)]⟩ : Ab.St yaE) := by
        rintro q rfl
        obtain ⟨c53, h⟩ := need_some h
        obtain ⟨c54, h⟩ := need_some h
        rcases ite_some h with ⟨b17, h⟩ | ⟨b17, h⟩
        · obtain ⟨r6, hi, h⟩ := bind_some h
          have K1 : ∀ q, r6 = q → Goes w94V P C F w94P18 (⟨392, [(10, ol (.int .u64 (IntKind.wrap .u64 y2))), (11, ol (.ar 90 0)), (12, ol (.ar 93 0)), (15, oi ((r2.2.length : Nat) : Int)), (16, ol (.ar 175 0)), (17, oi v17), (19, ol (.int .u64 (IntKind.wrap .u64 (r4 - (1 : Int))))), (27, ol (.int .u64 q.1))], [(90, .arr 115 (.int .u32) q.2 0 false), (93, .arr 115 (.int .u32) r2.2 0 false), (175, .arr 115 (.int .u32) v19 0 false)]⟩ : Ab.St yaE) := by
            rintro q rfl
            obtain ⟨c59, h⟩ := need_some h
            obtain ⟨c60, h⟩ := need_some h
            exact sg G [.reg [], .auto, .weak [.keep [10, 11, 12, 15, 16, 17, 19] [90, 93, 175]]] (aa c59 <| aa c60 <| tt) (w94J6_w G E h hl hr K1)
          exact sg G [.reg [], .reg [], .reg [], .br true, .reg [], .reg [], .reg [], .enter, .weak [.keep [10, 11, 12, 15, 16, 17, 19, 27, 314, 315] [90, 93, 175]]] (aa c53 <| aa c54 <| aa b17 <| tt) (loop_goes (V := w94V) (F := F) (k := w94P17) (S := fun v => w94L7S v17 v19 r2 r4 y2 v.1 v.2.1 v.2.2) (fun v o h hl hr => w94L7_w G E h hl hr K1) _ hi)
        · exact sg G [.reg [], .reg [], .reg [], .br false, .auto, .weak [.keep [10, 11, 12, 15, 16, 17, 19] [90, 93, 175]]] (aa c53 <| aa c54 <| aa b17 <| tt) (w94J6_w G E h hl hr K1)
      exact sg G [.reg [], .reg [], .enter, .weak [.keep [10, 11, 12, 15, 16, 17, 19, 21, 22, 253, 254] [90, 93, 175]]] tt (loop_goes (V := w94V) (F := F) (k := w94P14) (S := fun v => w94L6S v17 v19 r2 r4 y2 v.1 v.2.1 v.2.2.1 v.2.2.2) (fun v o h hl hr => w94L6_w G E h hl hr K1) _ hi)
    exact sg G [.reg [], .br true, .reg [], .reg [], .enter, .weak [.keep [10, 11, 12, 15, 16, 17, 19, 20] [90, 93, 175]]] (aa b11 <| aa c38 <| aa c39 <| aa c40 <| aa c41 <| aa c42 <| aa c43 <| aa c44 <| tt) (loop_goes (V := w94V) (F := F) (k := w94P11) (S := fun v => w94L5S v17 v18 v19 r2 y2 v.1 v.2) (fun v o h hl hr => w94L5_w G E h hl hr K1) _ hi)
  · exact sg G [.reg [], .br false, .auto, .weak [.keep [10, 11, 15, 16] [90, 175]]] (aa b11 <| tt) (K1 _ (hr _ (si h)).symm)
theorem w94J7_w (G : Good w94V P) {y : ((List Int) × (List Int))} {o} {r} {v42} {v44} {r2} {r7} {y2} (E : Ends w94V C F Try.f94.results.toList [] [(.sl (.int .u32)), (.sl (.int .u32))] (y.1, y.2, ())) (h : numQuoWordsJ7 v42 v44 r2 r7 y2 = some o)
    (hl : ∀ v', o = .inl v' → Goes w94V P C F w94P21 (w94L8S r2 r7 y2 v'.1 v'.2)) (hr : ∀ r', o = .inr r' → r' = r)
    (K1 : ∀ r8, r = r8 → Goes w94V P C F w94P23 (⟨392, [(16, ol (.ar 175 0)), (30, ol (.ar 359 0))], [(175, .arr 115 (.int .u32) r7.2 0 false), (359, .arr 115 (.int .u32) r8 0 false)]⟩ : Ab.St yaE)) : Goes w94V P C F w94P22 (w94J7S v42 v44 r2 r7 y2) := by
  unfold numQuoWordsJ7 at h
  exact sg G [.reg [], .enter, .weak [.keep [10, 11, 16, 30, 360, 361] [90, 175, 359]]] tt (hl _ (si h))
theorem w94L8_w (G : Good w94V P) {y : ((List Int) × (List Int))} {o} {r} {r2} {r7} {y2} {v42} {v43} (E : Ends w94V C F Try.f94.results.toList [] [(.sl (.int .u32)), (.sl (.int .u32))] (y.1, y.2, ())) (h : numQuoWordsL8 r2 r7 y2 v42 v43 = some o)
    (hl : ∀ v', o = .inl v' → Goes w94V P C F w94P21 (w94L8S r2 r7 y2 v'.1 v'.2)) (hr : ∀ r', o = .inr r' → r' = r)
    (K1 : ∀ r8, r = r8 → Goes w94V P C F w94P23 (⟨392, [(16, ol (.ar 175 0)), (30, ol (.ar 359 0))], [(175, .arr 115 (.int .u32) r7.2 0 false), (359, .arr 115 (.int .u32) r8 0 false)]⟩ : Ab.St yaE)) : Goes w94V P C F w94P21 (w94L8S r2 r7 y2 v42 v43) := by
  unfold numQuoWordsL8 at h
  rcases ite_some h with ⟨b19, h⟩ | ⟨b19, h⟩
  · obtain ⟨c65, h⟩ := need_some h
    obtain ⟨c66, h⟩ := need_some h
    obtain ⟨c67, h⟩ := need_some h
    rcases ite_some h with ⟨b20, h⟩ | ⟨b20, h⟩
    · obtain ⟨c68, h⟩ := need_some h
      obtain ⟨c69, h⟩ := need_some h
      obtain ⟨c70, h⟩ := need_some h
      obtain ⟨c71, h⟩ := need_some h
      exact sg G [.reg [], .br true, .reg [], .reg [], .reg [], .br true, .reg [], .auto, .weak [.keep [10, 11, 16, 30, 360, 361] [90, 175, 359]]] (aa b19 <| aa c65 <| aa c66 <| aa c67 <| aa b20 <| aa c68 <| aa c69 <| aa c70 <| aa c71 <| tt) (w94J7_w G E h hl hr K1)
    · exact sg G [.reg [], .br true, .reg [], .reg [], .reg [], .br false, .auto, .weak [.keep [10, 11, 16, 30, 360, 361] [90, 175, 359]]] (aa b19 <| aa c65 <| aa c66 <| aa c67 <| aa b20 <| tt) (w94J7_w G E h hl hr K1)
  · exact sg G [.reg [], .br false, .auto, .weak [.keep [16, 30] [175, 359]]] (aa b19 <| tt) (K1 _ (hr _ (si h)).symm)
theorem w94_w (G : Good w94V P) {y : ((List Int) × (List Int))} {a0} {a1} (E : Ends w94V C F Try.f94.results.toList [] [(.sl (.int .u32)), (.sl (.int .u32))] (y.1, y.2, ())) (h : numQuoWords a0 a1 = some y) : Goes w94V P C F w94P0 (w94S a0 a1) := by
  unfold numQuoWords at h
  obtain ⟨y1, c1, h⟩ := bind_some h
  rcases ite_some h with ⟨b1, h⟩ | ⟨b1, h⟩
  · obtain ⟨c2, h⟩ := need_some h
    have e := sj h; subst e
    exact se G E [.reg [], .reg [(2, .res ⟨[(.int .i64)], (y1, ())⟩)], .br true, .reg [], .auto, .weak [.fix (.slot 5)]] (aa (ca c1) <| aa b1 <| aa c2 <| tt)
  · rcases ite_some h with ⟨b2, h⟩ | ⟨b2, h⟩
    · obtain ⟨c3, h⟩ := need_some h
      obtain ⟨c4, h⟩ := need_some h
      obtain ⟨c5, h⟩ := need_some h
      obtain ⟨r1, hi, h⟩ := bind_some h
      have K1 : ∀ q, r1 = q → Goes w94V P C F w94P2 (⟨392, [(6, ol (.ar 43 0)), (7, ol (.int .u64 q.1))], [(43, .arr 115 (.int .u32) q.2 0 false)]⟩ : Ab.St yaE) := by
        rintro q rfl
        have e := sj h; subst e
        exact se G E [.reg [], .auto, .weak [.fix (.slot 4)]] tt
      exact sg G [.reg [], .reg [(2, .res ⟨[(.int .i64)], (y1, ())⟩)], .br false, .reg [], .br true, .reg [], .reg [], .reg [], .enter, .weak [.keep [0, 1, 6, 7, 8] [43]]] (aa (ca c1) <| aa b1 <| aa b2 <| aa c3 <| aa c4 <| aa c5 <| tt) (loop_goes (V := w94V) (F := F) (k := w94P1) (S := fun v => w94L1S a0 a1 v.1 v.2.1 v.2.2) (fun v o h hl hr => w94L1_w G E h hl hr K1) _ hi)
    · obtain ⟨c13, h⟩ := need_some h
      obtain ⟨y2, c14, h⟩ := bind_some h
      obtain ⟨c15, h⟩ := need_some h
      obtain ⟨c16, h⟩ := need_some h
      obtain ⟨c17, h⟩ := need_some h
      obtain ⟨c18, h⟩ := need_some h
      obtain ⟨c19, h⟩ := need_some h
      obtain ⟨c20, h⟩ := need_some h
      obtain ⟨r2, hi, h⟩ := bind_some h
      have K1 : ∀ q, r2 = q → Goes w94V P C F w94P5 (⟨392, [(0, ol (.sl (.int .u32) false a0)), (10, ol (.int .u64 (IntKind.wrap .u64 y2))), (11, ol (.ar 90 0)), (12, ol (.ar 93 0))], [(90, .arr 115 (.int .u32) q.1 0 false), (93, .arr 115 (.int .u32) q.2 0 false)]⟩ : Ab.St yaE) := by
        rintro q rfl
        obtain ⟨r3, hi, h⟩ := bind_some h
        have K1 : ∀ q, r3 = q → Goes w94V P C F w94P9 (⟨392, [(0, ol (.sl (.int .u32) false a0)), (10, ol (.int .u64 (IntKind.wrap .u64 y2))), (11, ol (.ar 90 0)), (12, ol (.ar 93 0))], [(90, .arr 115 (.int .u32) q 0 false), (93, .arr 115 (.int .u32) r2.2 0 false)]⟩ : Ab.St yaE) := by
          rintro q rfl
          obtain ⟨c35, h⟩ := need_some h
          obtain ⟨c36, h⟩ := need_some h
          obtain ⟨c37, h⟩ := need_some h
          obtain ⟨r7, hi, h⟩ := bind_some h
          have K1 : ∀ q, r7 = q → Goes w94V P C F w94P20 (⟨392, [(10, ol (.int .u64 (IntKind.wrap .u64 y2))), (11, ol (.ar 90 0)), (15, oi ((r2.2.length : Nat) : Int)), (16, ol (.ar 175 0))], [(90, .arr 115 (.int .u32) q.1 0 false), (175, .arr 115 (.int .u32) q.2 0 false)]⟩ : Ab.St yaE) := by
            rintro q rfl
            obtain ⟨c62, h⟩ := need_some h
            obtain ⟨c63, h⟩ := need_some h
            obtain ⟨c64, h⟩ := need_some h
            obtain ⟨r8, hi, h⟩ := bind_some h
            have K1 : ∀ q, r8 = q → Goes w94V P C F w94P23 (⟨392, [(16, ol (.ar 175 0)), (30, ol (.ar 359 0))], [(175, .arr 115 (.int .u32) r7.2 0 false), (359, .arr 115 (.int .u32) q 0 false)]⟩ : Ab.St yaE) := by
              rintro q rfl
              have e := sj h; subst e
              exact se G E [.reg [], .auto, .weak [.fix (.slot 4), .fix (.slot 5)]] tt
            exact sg G [.reg [], .reg [], .enter, .weak [.keep [10, 11, 16, 30, 360, 361] [90, 175, 359]]] (aa c62 <| aa c63 <| aa c64 <| tt) (loop_goes (V := w94V) (F := F) (k := w94P21) (S := fun v => w94L8S r2 r7 y2 v.1 v.2) (fun v o h hl hr => w94L8_w G E h hl hr K1) _ hi)
          exact sg G [.reg [], .reg [], .reg [], .enter, .weak [.keep [10, 11, 12, 15, 16, 17] [90, 93, 175]]] (aa c35 <| aa c36 <| aa c37 <| tt) (loop_goes (V := w94V) (F := F) (k := w94P10) (S := fun v => w94L4S r2 y2 v.1 v.2.1 v.2.2) (fun v o h hl hr => w94L4_w G E h hl hr K1) _ hi)
        exact sg G [.reg [], .enter, .weak [.keep [0, 10, 11, 12, 130, 131] [90, 93]]] tt (loop_goes (V := w94V) (F := F) (k := w94P6) (S := fun v => w94L3S a0 r2 y2 v.1 v.2) (fun v o h hl hr => w94L3_w G E h hl hr K1) _ hi)
      exact sg G [.reg [], .reg [(2, .res ⟨[(.int .i64)], (y1, ())⟩)], .br false, .reg [], .br false, .reg [(6, .res ⟨[(.int .i64)], (y2, ())⟩)], .reg [], .reg [], .reg [], .enter, .weak [.keep [0, 1, 10, 11, 12, 95, 96] [90, 93]]] (aa (ca c1) <| aa b1 <| aa b2 <| aa c13 <| aa (ca c14) <| aa c15 <| aa c16 <| aa c17 <| aa c18 <| aa c19 <| aa c20 <| tt) (loop_goes (V := w94V) (F := F) (k := w94P3) (S := fun v => w94L2S a0 a1 y2 v.1 v.2.1 v.2.2) (fun v o h hl hr => w94L2_w G E h hl hr K1) _ hi)
noncomputable def w94FS : FS yaE := ⟨[(.sl (.int .u32)), (.sl (.int .u32))], [(.sl (.int .u32)), (.sl (.int .u32))], [], [], fun x => Option.map (fun r => (r.1, r.2, ())) (numQuoWords x.1 x.2.1)⟩
theorem w94Meets : MT 94 w94FS := show Meets w94V _ _ _ from mt (fn := Try.f94) (S := fun x => w94S x.1 x.2.1) (GB ⟨w71Meets, w95Meets, trivial⟩ trivial) fun G _ _ _ _ E h => w94_w G E h
noncomputable abbrev w75V : Env := EV [(68, w68FS), (69, w69FS), (94, w94FS)] [] false
noncomputable def w75P0 : List Item := [.code (Try.f75.body.getD .skip)]
noncomputable def w75P1 : List Item := ctl [.reg, .reg, .br false, .auto] w75P0
noncomputable def w75J1S (a0 : NumZ) (a1 : NumZ) : Ab.St yaE := ⟨61, [(2, ol (.ptr 2 0)), (3, ol (.ptr 3 0)), (4, ol (.ptr 4 0)), (5, ol (.ptr 5 0))], [(2, .cells [.int .i64 a0.v, .sl (.int .u32) true a0.m, .bool a0.neg]), (3, .cells [.int .i64 a1.v, .sl (.int .u32) true a1.m, .bool a1.neg]), (4, .cells [.int .i64 (0 : Int), .sl (.int .u32) true [], .bool false]), (5, .cells [.int .i64 (0 : Int), .sl (.int .u32) true [], .bool false])]⟩
noncomputable def w75S (a0 : NumZ) (a1 : NumZ) : Ab.St yaE := ⟨61, [(0, og (yaToNumZ a0)), (1, og (yaToNumZ a1))], []⟩
theorem w75J1_w (G : Good w75V P) {y : (NumZ × NumZ)} {a0} {a1} (E : Ends w75V C F Try.f75.results.toList [] [(.nm 3), (.nm 3)] (y.1, y.2, ())) (h : numZQuoJ1 a0 a1 = some y) : Goes w75V P C F w75P1 (w75J1S a0 a1) := by
  unfold numZQuoJ1 at h
  obtain ⟨y1, c3, h⟩ := bind_some h
  obtain ⟨y2, c4, h⟩ := bind_some h
  obtain ⟨y3, c5, h⟩ := bind_some h
  obtain ⟨y4, c6, h⟩ := bind_some h
  obtain ⟨y5, c7, h⟩ := bind_some h
  have e := sj h; subst e
  exact se G E [.reg [(1, .res ⟨[(.sl (.int .u32)), .bool], (y1.1, y1.2, ())⟩)], .reg [(1, .res ⟨[(.sl (.int .u32)), .bool], (y2.1, y2.2, ())⟩)], .reg [(2, .res ⟨[(.sl (.int .u32)), (.sl (.int .u32))], (y3.1, y3.2, ())⟩)], .reg [(4, .res ⟨[(.nm 3)], (y4, ())⟩), (7, .res ⟨[(.nm 3)], (y5, ())⟩)], .auto] (aa (cb c3) <| aa (cb c4) <| aa (cb c5) <| aa (ca c6) <| aa (ca c7) <| tt)
theorem w75_w (G : Good w75V P) {y : (NumZ × NumZ)} {a0} {a1} (E : Ends w75V C F Try.f75.results.toList [] [(.nm 3), (.nm 3)] (y.1, y.2, ())) (h : numZQuo a0 a1 = some y) : Goes w75V P C F w75P0 (w75S a0 a1) := by
  unfold numZQuo at h
  rcases ite_some h with ⟨b1, h⟩ | ⟨b1, h⟩
  · rcases ite_some h with ⟨b2, h⟩ | ⟨b2, h⟩
    · rcases ite_some h with ⟨b3, h⟩ | ⟨b3, h⟩
      · obtain ⟨c1, h⟩ := need_some h
        obtain ⟨c2, h⟩ := need_some h
        have e := sj h; subst e
        exact se G E [.reg [], .reg [(3, .bit true), (7, .bit true), (8, .bit true), (12, .bit true)], .br true, .reg [], .auto] (aa b1 <| aa b1 <| aa b1 <| aa b1 <| aa b2 <| aa b2 <| aa b2 <| aa b2 <| aa b3 <| aa c1 <| aa c2 <| tt)
      · exact sg G [.reg [], .reg [(3, .bit true), (7, .bit true), (8, .bit true), (12, .bit true)], .br false, .auto, .weak [.keep [2, 3, 4, 5] [2, 3, 4, 5]]] (aa b1 <| aa b1 <| aa b1 <| aa b1 <| aa b2 <| aa b2 <| aa b2 <| aa b2 <| aa b3 <| tt) (w75J1_w G E h)
    · exact sg G [.reg [], .reg [(3, .bit true), (7, .bit true), (8, .bit false), (12, .bit false)], .br false, .auto, .weak [.keep [2, 3, 4, 5] [2, 3, 4, 5]]] (aa b1 <| aa b1 <| aa b1 <| aa b1 <| aa b2 <| aa b2 <| aa b2 <| aa b2 <| aa (show false = false from rfl) <| tt) (w75J1_w G E h)
  · exact sg G [.reg [], .reg [(3, .bit false), (7, .bit false), (8, .bit false), (12, .bit false)], .br false, .auto, .weak [.keep [2, 3, 4, 5] [2, 3, 4, 5]]] (aa b1 <| aa b1 <| aa b1 <| aa b1 <| aa (show false = false from rfl) <| aa (show false = false from rfl) <| aa (show false = false from rfl) <| aa (show false = false from rfl) <| aa (show false = false from rfl) <| tt) (w75J1_w G E h)
noncomputable def w75FS : FS yaE := ⟨[(.nm 3), (.nm 3)], [(.nm 3), (.nm 3)], [], [], fun x => Option.map (fun r => (r.1, r.2, ())) (numZQuo x.1 x.2.1)⟩
theorem w75Meets : MT 75 w75FS := show Meets w75V _ _ _ from mt (fn := Try.f75) (S := fun x => w75S x.1 x.2.1) (GB ⟨w68Meets, w69Meets, w94Meets, trivial⟩ trivial) fun G _ _ _ _ E h => w75_w G E h
noncomputable abbrev w93V : Env := EV [(61, w61FS), (73, w73FS)] [] false
noncomputable def w93P0 : List Item := [.code (Try.f93.body.getD .skip)]
noncomputable def w93S (a0 : NumZ) : Ab.St yaE := ⟨9, [(0, og (yaToNumZ a0))], []⟩
theorem w93_w (G : Good w93V P) {y : NumZ} {a0} (E : Ends w93V C F Try.f93.results.toList [] [(.nm 3)] (y, ())) (h : numZAbs a0 = some y) : Goes w93V P C F w93P0 (w93S a0) := by
  unfold numZAbs at h
  obtain ⟨y1, c1, h⟩ := bind_some h
  rcases ite_some h with ⟨b1, h⟩ | ⟨b1, h⟩
  · obtain ⟨y2, c2, h⟩ := bind_some h
    have e := sj h; subst e
    exact se G E [.reg [], .reg [(1, .res ⟨[(.int .i64)], (y1, ())⟩)], .br true, .reg [(1, .res ⟨[(.nm 3)], (y2, ())⟩)], .auto] (aa (ca c1) <| aa b1 <| aa (ca c2) <| tt)
  · have e := sj h; subst e
    exact se G E [.reg [], .reg [(1, .res ⟨[(.int .i64)], (y1, ())⟩)], .br false, .reg [], .auto] (aa (ca c1) <| aa b1 <| tt)
noncomputable def w93FS : FS yaE := ⟨[(.nm 3)], [(.nm 3)], [], [], fun x => Option.map (fun r => (r, ())) (numZAbs x.1)⟩
theorem w93Meets : MT 93 w93FS := show Meets w93V _ _ _ from mt (fn := Try.f93) (S := fun x => w93S x.1) (GB ⟨w61Meets, w73Meets, trivial⟩ trivial) fun G _ _ _ _ E h => w93_w G E h
noncomputable abbrev w74V : Env := EV [(61, w61FS), (75, w75FS), (93, w93FS)] [] false
noncomputable def w74P0 : List Item := [.code (Try.f74.body.getD .skip)]
noncomputable def w74P1 : List Item := ctl [.reg, .reg, .enter] w74P0
noncomputable def w74P2 : List Item := ctl [.reg, .br true, .reg, .br true, .reg, .enter] w74P1
noncomputable def w74P3 : List Item := ctl [.reg, .br false, .auto] w74P2
noncomputable def w74P4 : List Item := ctl [.reg, .br true, .reg, .br false, .auto] w74P1
noncomputable def w74P5 : List Item := ctl [.reg, .br false, .auto] w74P1
noncomputable def w74L2S (v7 : Int) (v8 : Int) : Ab.St yaE := ⟨45, [(4, ol (.ptr 4 0)), (5, oi v7), (6, oi v8)], [(4, .cells [.int .i64 (0 : Int), .sl (.int .u32) true [], .bool false])]⟩
noncomputable def w74J1S (v1 : Int) (v2 : (List Int)) (v3 : Bool) (v4 : Int) (v5 : (List Int)) (v6 : Bool) : Ab.St yaE := ⟨45, [(2, ol (.ptr 2 0)), (3, ol (.ptr 3 0)), (4, ol (.ptr 4 0))], [(2, .cells [.int .i64 v1, .sl (.int .u32) true v2, .bool v3]), (3, .cells [.int .i64 v4, .sl (.int .u32) true v5, .bool v6]), (4, .cells [.int .i64 (0 : Int), .sl (.int .u32) true [], .bool false])]⟩
noncomputable def w74L1S (v1 : Int) (v2 : (List Int)) (v3 : Bool) (v4 : Int) (v5 : (List Int)) (v6 : Bool) : Ab.St yaE := ⟨45, [(2, ol (.ptr 2 0)), (3, ol (.ptr 3 0)), (4, ol (.ptr 4 0))], [(2, .cells [.int .i64 v1, .sl (.int .u32) true v2, .bool v3]), (3, .cells [.int .i64 v4, .sl (.int .u32) true v5, .bool v6]), (4, .cells [.int .i64 (0 : Int), .sl (.int .u32) true [], .bool false])]⟩
noncomputable def w74S (a0 : NumZ) (a1 : NumZ) : Ab.St yaE := ⟨45, [(0, og (yaToNumZ a0)), (1, og (yaToNumZ a1))], []⟩
theorem w74L2_w (G : Good w74V P) {y : NumZ} {o} {r} {v7} {v8} (E : Ends w74V C F Try.f74.results.toList [] [(.nm 3)] (y, ())) (h : numGcdL2 v7 v8 = some o)
    (hl : ∀ v', o = .inl v' → Goes w74V P C F w74P2 (w74L2S v'.1 v'.2)) (hr : ∀ r', o = .inr r' → r' = r)
    (K1 : ∀ r1, r = r1 → Goes w74V P C F w74P3 (⟨45, [(4, ol (.ptr 4 0)), (5, oi r1)], [(4, .cells [.int .i64 (0 : Int), .sl (.int .u32) true [], .bool false])]⟩ : Ab.St yaE)) : Goes w74V P C F w74P2 (w74L2S v7 v8) := by
  unfold numGcdL2 at h
  rcases ite_some h with ⟨b4, h⟩ | ⟨b4, h⟩
  · obtain ⟨c4, h⟩ := need_some h
    exact sg G [.reg [], .br true, .reg [], .enter, .weak [.keep [4, 5, 6] [4]]] (aa b4 <| aa c4 <| tt) (hl _ (si h))
  · exact sg G [.reg [], .br false, .auto, .weak [.keep [4, 5] [4]]] (aa b4 <| tt) (K1 _ (hr _ (si h)).symm)
theorem w74J1_w (G : Good w74V P) {y : NumZ} {o} {r} {v1} {v2} {v3} {v4} {v5} {v6} (E : Ends w74V C F Try.f74.results.toList [] [(.nm 3)] (y, ())) (h : numGcdJ1 v1 v2 v3 v4 v5 v6 = some o)
    (hl : ∀ v', o = .inl v' → Goes w74V P C F w74P1 (w74L1S v'.1 v'.2.1 v'.2.2.1 v'.2.2.2.1 v'.2.2.2.2.1 v'.2.2.2.2.2)) (hr : ∀ r', o = .inr r' → r' = r)
    (K1 : ∀ r2, r = (.inl r2) → Goes w74V P C F w74P5 (⟨45, [(2, ol (.ptr 2 0)), (4, ol (.ptr 4 0))], [(2, .cells [.int .i64 r2.1, .sl (.int .u32) true r2.2.1, .bool r2.2.2]), (4, .cells [.int .i64 (0 : Int), .sl (.int .u32) true [], .bool false])]⟩ : Ab.St yaE))
    (KR : ∀ r', r = (.inr r') → r' = y) : Goes w74V P C F w74P4 (w74J1S v1 v2 v3 v4 v5 v6) := by
  unfold numGcdJ1 at h
  obtain ⟨y4, c5, h⟩ := bind_some h
  exact sg G [.reg [(2, .res ⟨[(.nm 3), (.nm 3)], (y4.1, y4.2, ())⟩)], .reg [], .enter, .weak [.keep [2, 3, 4] [2, 3, 4]]] (aa (cb c5) <| tt) (hl _ (si h))
theorem w74L1_w (G : Good w74V P) {y : NumZ} {o} {r} {v1} {v2} {v3} {v4} {v5} {v6} (E : Ends w74V C F Try.f74.results.toList [] [(.nm 3)] (y, ())) (h : numGcdL1 v1 v2 v3 v4 v5 v6 = some o)
    (hl : ∀ v', o = .inl v' → Goes w74V P C F w74P1 (w74L1S v'.1 v'.2.1 v'.2.2.1 v'.2.2.2.1 v'.2.2.2.2.1 v'.2.2.2.2.2)) (hr : ∀ r', o = .inr r' → r' = r)
    (K1 : ∀ r2, r = (.inl r2) → Goes w74V P C F w74P5 (⟨45, [(2, ol (.ptr 2 0)), (4, ol (.ptr 4 0))], [(2, .cells [.int .i64 r2.1, .sl (.int .u32) true r2.2.1, .bool r2.2.2]), (4, .cells [.int .i64 (0 : Int), .sl (.int .u32) true [], .bool false])]⟩ : Ab.St yaE))
    (KR : ∀ r', r = (.inr r') → r' = y) : Goes w74V P C F w74P1 (w74L1S v1 v2 v3 v4 v5 v6) := by
  unfold numGcdL1 at h
  obtain ⟨y3, c3, h⟩ := bind_some h
  rcases ite_some h with ⟨b1, h⟩ | ⟨b1, h⟩
  · rcases ite_some h with ⟨b2, h⟩ | ⟨b2, h⟩
    · rcases ite_some h with ⟨b3, h⟩ | ⟨b3, h⟩
      · obtain ⟨r1, hi, h⟩ := bind_some h
        have K1 : ∀ q, r1 = q → Goes w74V P C F w74P3 (⟨45, [(4, ol (.ptr 4 0)), (5, oi q)], [(4, .cells [.int .i64 (0 : Int), .sl (.int .u32) true [], .bool false])]⟩ : Ab.St yaE) := by
          rintro q rfl
          have e := KR _ (hr _ (si h)).symm; subst e
          exact se G E [.reg [], .auto] tt
        exact sg G [.reg [(1, .res ⟨[(.int .i64)], (y3, ())⟩)], .br true, .reg [(3, .bit true), (7, .bit true)], .br true, .reg [], .enter, .weak [.keep [4, 5, 6] [4]]] (aa (ca c3) <| aa b1 <| aa b2 <| aa b2 <| aa b2 <| aa b2 <| aa b3 <| tt) (loop_goes (V := w74V) (F := F) (k := w74P2) (S := fun v => w74L2S v.1 v.2) (fun v o h hl hr => w74L2_w G E h hl hr K1) _ hi)
      · exact sg G [.reg [(1, .res ⟨[(.int .i64)], (y3, ())⟩)], .br true, .reg [(3, .bit true), (7, .bit true)], .br false, .auto, .weak [.keep [2, 3, 4] [2, 3, 4]]] (aa (ca c3) <| aa b1 <| aa b2 <| aa b2 <| aa b2 <| aa b2 <| aa b3 <| tt) (w74J1_w G E h hl hr K1 KR)
    · exact sg G [.reg [(1, .res ⟨[(.int .i64)], (y3, ())⟩)], .br true, .reg [(3, .bit false), (7, .bit false)], .br false, .auto, .weak [.keep [2, 3, 4] [2, 3, 4]]] (aa (ca c3) <| aa b1 <| aa b2 <| aa b2 <| aa b2 <| aa b2 <| aa (show false = false from rfl) <| tt) (w74J1_w G E h hl hr K1 KR)
  · exact sg G [.reg [(1, .res ⟨[(.int .i64)], (y3, ())⟩)], .br false, .auto, .weak [.keep [2, 4] [2, 4]]] (aa (ca c3) <| aa b1 <| tt) (K1 _ (hr _ (si h)).symm)
theorem w74_w (G : Good w74V P) {y : NumZ} {a0} {a1} (E : Ends w74V C F Try.f74.results.toList [] [(.nm 3)] (y, ())) (h : numGcd a0 a1 = some y) : Goes w74V P C F w74P0 (w74S a0 a1) := by
  unfold numGcd at h
  obtain ⟨y1, c1, h⟩ := bind_some h
  obtain ⟨y2, c2, h⟩ := bind_some h
  obtain ⟨r, hi, h⟩ := bind_some h
  have K1 : ∀ r2, r = (.inl r2) → Goes w74V P C F w74P5 (⟨45, [(2, ol (.ptr 2 0)), (4, ol (.ptr 4 0))], [(2, .cells [.int .i64 r2.1, .sl (.int .u32) true r2.2.1, .bool r2.2.2]), (4, .cells [.int .i64 (0 : Int), .sl (.int .u32) true [], .bool false])]⟩ : Ab.St yaE) := by
    rintro r2 rfl
    have e := sj h; subst e
    exact se G E [.reg [], .auto] tt
  have KR : ∀ r3, r = (.inr r3) → r3 = y := by
    rintro r3 rfl
    exact Option.some.inj h
  exact sg G [.reg [], .reg [(1, .res ⟨[(.nm 3)], (y1, ())⟩), (3, .res ⟨[(.nm 3)], (y2, ())⟩)], .enter, .weak [.keep [2, 3, 4] [2, 3, 4]]] (aa (ca c1) <| aa (ca c2) <| tt) (loop_goes (V := w74V) (F := F) (k := w74P1) (S := fun v => w74L1S v.1 v.2.1 v.2.2.1 v.2.2.2.1 v.2.2.2.2.1 v.2.2.2.2.2) (fun v o h hl hr => w74L1_w G E h hl hr K1 KR) _ hi)
noncomputable def w74FS : FS yaE := ⟨[(.nm 3), (.nm 3)], [(.nm 3)], [], [], fun x => Option.map (fun r => (r, ())) (numGcd x.1 x.2.1)⟩
theorem w74Meets : MT 74 w74FS := show Meets w74V _ _ _ from mt (fn := Try.f74) (S := fun x => w74S x.1 x.2.1) (GB ⟨w61Meets, w75Meets, w93Meets, trivial⟩ trivial) fun G _ _ _ _ E h => w74_w G E h
noncomputable abbrev w46V : Env := EV [(61, w61FS), (73, w73FS), (74, w74FS), (75, w75FS)] [] false
noncomputable def w46P0 : List Item := [.code (Try.f46.body.getD .skip)]
noncomputable def w46P1 : List Item := ctl [.reg, .reg, .br true, .reg, .auto] w46P0
noncomputable def w46P2 : List Item := ctl [.reg, .reg, .br true, .auto] w46P1
noncomputable def w46P3 : List Item := ctl [.reg, .reg, .auto] w46P2
noncomputable def w46J3S (v7 : Int) (v8 : (List Int)) (v9 : Bool) (v10 : Int) (v11 : (List Int)) (v12 : Bool) : Ab.St yaE := ⟨39, [(2, ol (.ptr 2 0)), (3, ol (.ptr 3 0)), (4, ol (.ptr 4 0))], [(2, .cells [.int .i64 v7, .sl (.int .u32) true v8, .bool v9]), (3, .cells [.int .i64 v10, .sl (.int .u32) true v11, .bool v12]), (4, .cells [.int .i64 (0 : Int), .sl (.int .u32) true [], .bool false, .int .i64 (0 : Int), .sl (.int .u32) true [], .bool false])]⟩
noncomputable def w46J2S (v1 : Int) (v2 : (List Int)) (v3 : Bool) (v4 : Int) (v5 : (List Int)) (v6 : Bool) (y4 : NumZ) : Ab.St yaE := ⟨39, [(2, ol (.ptr 2 0)), (3, ol (.ptr 3 0)), (4, ol (.ptr 4 0)), (5, ol (.ptr 5 0))], [(2, .cells [.int .i64 v1, .sl (.int .u32) true v2, .bool v3]), (3, .cells [.int .i64 v4, .sl (.int .u32) true v5, .bool v6]), (4, .cells [.int .i64 (0 : Int), .sl (.int .u32) true [], .bool false, .int .i64 (0 : Int), .sl (.int .u32) true [], .bool false]), (5, .cells [.int .i64 y4.v, .sl (.int .u32) true y4.m, .bool y4.neg])]⟩
noncomputable def w46J1S (v1 : Int) (v2 : (List Int)) (v3 : Bool) (v4 : Int) (v5 : (List Int)) (v6 : Bool) : Ab.St yaE := ⟨39, [(2, ol (.ptr 2 0)), (3, ol (.ptr 3 0)), (4, ol (.ptr 4 0))], [(2, .cells [.int .i64 v1, .sl (.int .u32) true v2, .bool v3]), (3, .cells [.int .i64 v4, .sl (.int .u32) true v5, .bool v6]), (4, .cells [.int .i64 (0 : Int), .sl (.int .u32) true [], .bool false, .int .i64 (0 : Int), .sl (.int .u32) true [], .bool false])]⟩
noncomputable def w46S (a0 : NumZ) (a1 : NumZ) : Ab.St yaE := ⟨39, [(0, og (yaToNumZ a0)), (1, og (yaToNumZ a1))], []⟩
theorem w46J3_w (G : Good w46V P) {y : NumQ} {v7} {v8} {v9} {v10} {v11} {v12} (E : Ends w46V C F Try.f46.results.toList [] [(.nm 4)] (y, ())) (h : numOverJ3 v7 v8 v9 v10 v11 v12 = some y) : Goes w46V P C F w46P3 (w46J3S v7 v8 v9 v10 v11 v12) := by
  unfold numOverJ3 at h
  have e := sj h; subst e
  exact se G E [.reg [], .auto] tt
theorem w46J2_w (G : Good w46V P) {y : NumQ} {v1} {v2} {v3} {v4} {v5} {v6} {y4} (E : Ends w46V C F Try.f46.results.toList [] [(.nm 4)] (y, ())) (h : numOverJ2 v1 v2 v3 v4 v5 v6 y4 = some y) : Goes w46V P C F w46P2 (w46J2S v1 v2 v3 v4 v5 v6 y4) := by
  unfold numOverJ2 at h
  obtain ⟨y5, c5, h⟩ := bind_some h
  obtain ⟨y6, c6, h⟩ := bind_some h
  exact sg G [.reg [(2, .res ⟨[(.nm 3), (.nm 3)], (y5.1, y5.2, ())⟩)], .reg [(2, .res ⟨[(.nm 3), (.nm 3)], (y6.1, y6.2, ())⟩)], .auto, .weak [.keep [2, 3, 4] [2, 3, 4]]] (aa (cb c5) <| aa (cb c6) <| tt) (w46J3_w G E h)
theorem w46J1_w (G : Good w46V P) {y : NumQ} {v1} {v2} {v3} {v4} {v5} {v6} (E : Ends w46V C F Try.f46.results.toList [] [(.nm 4)] (y, ())) (h : numOverJ1 v1 v2 v3 v4 v5 v6 = some y) : Goes w46V P C F w46P1 (w46J1S v1 v2 v3 v4 v5 v6) := by
  unfold numOverJ1 at h
  obtain ⟨y4, c4, h⟩ := bind_some h
  rcases ite_some h with ⟨b2, h⟩ | ⟨b2, h⟩
  · exact sg G [.reg [(2, .res ⟨[(.nm 3)], (y4, ())⟩)], .reg [(3, .bit true), (7, .bit true)], .br true, .auto, .weak [.keep [2, 3, 4, 5] [2, 3, 4, 5]]] (aa (ca c4) <| aa b2 <| aa b2 <| aa b2 <| aa b2 <| aa (show true = true from rfl) <| tt) (w46J2_w G E h)
  · rcases ite_some h with ⟨b3, h⟩ | ⟨b3, h⟩
    · exact sg G [.reg [(2, .res ⟨[(.nm 3)], (y4, ())⟩)], .reg [(3, .bit false), (7, .bit false)], .br true, .auto, .weak [.keep [2, 3, 4, 5] [2, 3, 4, 5]]] (aa (ca c4) <| aa b2 <| aa b2 <| aa b2 <| aa b2 <| aa b3 <| tt) (w46J2_w G E h)
    · exact sg G [.reg [(2, .res ⟨[(.nm 3)], (y4, ())⟩)], .reg [(3, .bit false), (7, .bit false)], .br false, .auto, .weak [.keep [2, 3, 4] [2, 3, 4]]] (aa (ca c4) <| aa b2 <| aa b2 <| aa b2 <| aa b2 <| aa b3 <| tt) (w46J3_w G E h)
theorem w46_w (G : Good w46V P) {y : NumQ} {a0} {a1} (E : Ends w46V C F Try.f46.results.toList [] [(.nm 4)] (y, ())) (h : numOver a0 a1 = some y) : Goes w46V P C F w46P0 (w46S a0 a1) := by
  unfold numOver at h
  obtain ⟨y1, c1, h⟩ := bind_some h
  rcases ite_some h with ⟨b1, h⟩ | ⟨b1, h⟩
  · obtain ⟨y2, c2, h⟩ := bind_some h
    obtain ⟨y3, c3, h⟩ := bind_some h
    exact sg G [.reg [], .reg [(1, .res ⟨[(.int .i64)], (y1, ())⟩)], .br true, .reg [(1, .res ⟨[(.nm 3)], (y2, ())⟩), (3, .res ⟨[(.nm 3)], (y3, ())⟩)], .auto, .weak [.keep [2, 3, 4] [2, 3, 4]]] (aa (ca c1) <| aa b1 <| aa (ca c2) <| aa (ca c3) <| tt) (w46J1_w G E h)
  · exact sg G [.reg [], .reg [(1, .res ⟨[(.int .i64)], (y1, ())⟩)], .br false, .auto, .weak [.keep [2, 3, 4] [2, 3, 4]]] (aa (ca c1) <| aa b1 <| tt) (w46J1_w G E h)
noncomputable def w46FS : FS yaE := ⟨[(.nm 3), (.nm 3)], [(.nm 4)], [], [], fun x => Option.map (fun r => (r, ())) (numOver x.1 x.2.1)⟩
theorem w46Meets : MT 46 w46FS := show Meets w46V _ _ _ from mt (fn := Try.f46) (S := fun x => w46S x.1 x.2.1) (GB ⟨w61Meets, w73Meets, w74Meets, w75Meets, trivial⟩ trivial) fun G _ _ _ _ E h => w46_w G E h
noncomputable abbrev w76V : Env := EV [] [] false
noncomputable def w76P0 : List Item := [.code (Try.f76.body.getD .skip)]
noncomputable def w76S (a0 : Int) (a1 : Int) : Ab.St yaE := ⟨51, [(0, ol (.int .u64 a0)), (1, ol (.int .u64 a1))], []⟩
theorem w76_w (G : Good w76V P) {y : (Int × Int)} {a0} {a1} (E : Ends w76V C F Try.f76.results.toList [] [(.int .u64), (.int .u64)] (y.1, y.2, ())) (h : bitsMul64 a0 a1 = some y) : Goes w76V P C F w76P0 (w76S a0 a1) := by
  unfold bitsMul64 at h
  obtain ⟨c1, h⟩ := need_some h
  obtain ⟨c2, h⟩ := need_some h
  obtain ⟨c3, h⟩ := need_some h
  obtain ⟨c4, h⟩ := need_some h
  obtain ⟨c5, h⟩ := need_some h
  have e := sj h; subst e
  exact se G E [.reg [], .reg [], .reg [], .reg [], .reg [], .reg [], .reg [], .reg [], .reg [], .reg [], .reg [], .reg [], .auto] (aa c1 <| aa c2 <| aa c3 <| aa c4 <| aa c5 <| tt)
noncomputable def w76FS : FS yaE := ⟨[(.int .u64), (.int .u64)], [(.int .u64), (.int .u64)], [], [], fun x => Option.map (fun r => (r.1, r.2, ())) (bitsMul64 x.1 x.2.1)⟩
theorem w76Meets : MT 76 w76FS := show Meets w76V _ _ _ from mt (fn := Try.f76) (S := fun x => w76S x.1 x.2.1) (GB trivial trivial) fun G _ _ _ _ E h => w76_w G E h
end
end Go.Ab
