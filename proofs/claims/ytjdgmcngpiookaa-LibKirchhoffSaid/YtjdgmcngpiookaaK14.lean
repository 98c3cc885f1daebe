/- The functions compute what the plain functions tell. Conditions: none beyond those that each theorem names. -/
import Derived.Test.YtjdgmcngpiookaaK13
namespace Go.Ab
open Go Go.Proofs
set_option linter.unusedVariables false
section
variable {P : Program} {C : Ctx} {F : Act → World → Prop}
noncomputable abbrev w47V : Env := EV [(68, w68FS), (69, w69FS), (76, w76FS)] [] false
noncomputable def w47P0 : List Item := [.code (Try.f47.body.getD .skip)]
noncomputable def w47P1 : List Item := ctl [.reg, .reg, .br true, .reg, .reg, .br true, .reg, .auto] w47P0
noncomputable def w47P2 : List Item := ctl [.reg, .br true, .reg, .auto] w47P1
noncomputable def w47P3 : List Item := ctl [.reg, .reg, .br false, .auto] w47P2
noncomputable def w47P4 : List Item := ctl [.reg, .reg, .reg, .reg, .enter] w47P3
noncomputable def w47P5 : List Item := ctl [.reg, .br true, .reg, .reg, .reg, .enter] w47P4
noncomputable def w47P6 : List Item := ctl [.reg, .br false, .auto] w47P5
noncomputable def w47P7 : List Item := ctl [.reg, .br false, .auto] w47P4
noncomputable def w47L2S (v3 : Int) (y2 : ((List Int) × Bool)) (y3 : ((List Int) × Bool)) (v5 : Int) (v6 : Int) (v7 : (List Int)) : Ab.St yaE := ⟨139, [(4, ol (.ptr 4 0)), (9, ol (.sl (.int .u32) false y2.1)), (10, ol (.bool y2.2)), (11, ol (.sl (.int .u32) false y3.1)), (12, ol (.bool y3.2)), (13, ol (.ar 83 0)), (14, oi v3), (15, ol (.int .u64 v5)), (85, oi ((y2.1.length : Nat) : Int)), (86, oi v3), (90, oi ((y3.1.length : Nat) : Int)), (91, oi v6)], [(4, .cells [.int .i64 (0 : Int), .sl (.int .u32) true [], .bool false]), (83, .arr 115 (.int .u32) v7 0 false)]⟩
noncomputable def w47L1S (y2 : ((List Int) × Bool)) (y3 : ((List Int) × Bool)) (v3 : Int) (v4 : (List Int)) : Ab.St yaE := ⟨139, [(4, ol (.ptr 4 0)), (9, ol (.sl (.int .u32) false y2.1)), (10, ol (.bool y2.2)), (11, ol (.sl (.int .u32) false y3.1)), (12, ol (.bool y3.2)), (13, ol (.ar 83 0)), (85, oi ((y2.1.length : Nat) : Int)), (86, oi v3)], [(4, .cells [.int .i64 (0 : Int), .sl (.int .u32) true [], .bool false]), (83, .arr 115 (.int .u32) v4 0 false)]⟩
noncomputable def w47J3S (a0 : NumZ) (a1 : NumZ) : Ab.St yaE := ⟨139, [(2, ol (.ptr 2 0)), (3, ol (.ptr 3 0)), (4, ol (.ptr 4 0))], [(2, .cells [.int .i64 a0.v, .sl (.int .u32) true a0.m, .bool a0.neg]), (3, .cells [.int .i64 a1.v, .sl (.int .u32) true a1.m, .bool a1.neg]), (4, .cells [.int .i64 (0 : Int), .sl (.int .u32) true [], .bool false])]⟩
noncomputable def w47J2S (a0 : NumZ) (a1 : NumZ) (v1 : Int) (v2 : Int) : Ab.St yaE := ⟨139, [(2, ol (.ptr 2 0)), (3, ol (.ptr 3 0)), (4, ol (.ptr 4 0)), (5, ol (.int .u64 v1)), (6, ol (.int .u64 v2))], [(2, .cells [.int .i64 a0.v, .sl (.int .u32) true a0.m, .bool a0.neg]), (3, .cells [.int .i64 a1.v, .sl (.int .u32) true a1.m, .bool a1.neg]), (4, .cells [.int .i64 (0 : Int), .sl (.int .u32) true [], .bool false])]⟩
noncomputable def w47J1S (a0 : NumZ) (a1 : NumZ) (v1 : Int) : Ab.St yaE := ⟨139, [(2, ol (.ptr 2 0)), (3, ol (.ptr 3 0)), (4, ol (.ptr 4 0)), (5, ol (.int .u64 v1)), (6, ol (.int .u64 (IntKind.wrap .u64 a1.v)))], [(2, .cells [.int .i64 a0.v, .sl (.int .u32) true a0.m, .bool a0.neg]), (3, .cells [.int .i64 a1.v, .sl (.int .u32) true a1.m, .bool a1.neg]), (4, .cells [.int .i64 (0 : Int), .sl (.int .u32) true [], .bool false])]⟩
noncomputable def w47S (a0 : NumZ) (a1 : NumZ) : Ab.St yaE := ⟨139, [(0, og (yaToNumZ a0)), (1, og (yaToNumZ a1))], []⟩
theorem w47L2_w (G : Good w47V P) {y : NumZ} {o} {r} {v3} {y2} {y3} {v5} {v6} {v7} (E : Ends w47V C F Try.f47.results.toList [] [(.nm 3)] (y, ())) (h : numZMulL2 v3 y2 y3 v5 v6 v7 = some o)
    (hl : ∀ v', o = .inl v' → Goes w47V P C F w47P5 (w47L2S v3 y2 y3 v'.1 v'.2.1 v'.2.2)) (hr : ∀ r', o = .inr r' → r' = r)
    (K1 : ∀ r1, r = r1 → Goes w47V P C F w47P6 (⟨139, [(4, ol (.ptr 4 0)), (9, ol (.sl (.int .u32) false y2.1)), (10, ol (.bool y2.2)), (11, ol (.sl (.int .u32) false y3.1)), (12, ol (.bool y3.2)), (13, ol (.ar 83 0)), (14, oi v3), (15, ol (.int .u64 r1.1)), (85, oi ((y2.1.length : Nat) : Int)), (86, oi v3)], [(4, .cells [.int .i64 (0 : Int), .sl (.int .u32) true [], .bool false]), (83, .arr 115 (.int .u32) r1.2 0 false)]⟩ : Ab.St yaE)) : Goes w47V P C F w47P5 (w47L2S v3 y2 y3 v5 v6 v7) := by
  unfold numZMulL2 at h
  rcases ite_some h with ⟨b9, h⟩ | ⟨b9, h⟩
  · obtain ⟨c7, h⟩ := need_some h
    obtain ⟨c8, h⟩ := need_some h
    obtain ⟨c9, h⟩ := need_some h
    obtain ⟨c10, h⟩ := need_some h
    obtain ⟨c11, h⟩ := need_some h
    exact sg G [.reg [], .br true, .reg [], .reg [], .reg [], .reg [], .reg [], .enter, .weak [.keep [4, 9, 10, 11, 12, 13, 14, 15, 85, 86, 90, 91] [4, 83]]] (aa b9 <| aa c7 <| aa c8 <| aa c9 <| aa c10 <| aa c11 <| tt) (hl _ (si h))
  · exact sg G [.reg [], .br false, .auto, .weak [.keep [4, 9, 10, 11, 12, 13, 14, 15, 85, 86] [4, 83]]] (aa b9 <| tt) (K1 _ (hr _ (si h)).symm)
theorem w47L1_w (G : Good w47V P) {y : NumZ} {o} {r} {y2} {y3} {v3} {v4} (E : Ends w47V C F Try.f47.results.toList [] [(.nm 3)] (y, ())) (h : numZMulL1 y2 y3 v3 v4 = some o)
    (hl : ∀ v', o = .inl v' → Goes w47V P C F w47P4 (w47L1S y2 y3 v'.1 v'.2)) (hr : ∀ r', o = .inr r' → r' = r)
    (K1 : ∀ r2, r = r2 → Goes w47V P C F w47P7 (⟨139, [(4, ol (.ptr 4 0)), (10, ol (.bool y2.2)), (12, ol (.bool y3.2)), (13, ol (.ar 83 0))], [(4, .cells [.int .i64 (0 : Int), .sl (.int .u32) true [], .bool false]), (83, .arr 115 (.int .u32) r2 0 false)]⟩ : Ab.St yaE)) : Goes w47V P C F w47P4 (w47L1S y2 y3 v3 v4) := by
  unfold numZMulL1 at h
  rcases ite_some h with ⟨b8, h⟩ | ⟨b8, h⟩
  · obtain ⟨r1, hi, h⟩ := bind_some h
    have K1 : ∀ q, r1 = q → Goes w47V P C F w47P6 (⟨139, [(4, ol (.ptr 4 0)), (9, ol (.sl (.int .u32) false y2.1)), (10, ol (.bool y2.2)), (11, ol (.sl (.int .u32) false y3.1)), (12, ol (.bool y3.2)), (13, ol (.ar 83 0)), (14, oi v3), (15, ol (.int .u64 q.1)), (85, oi ((y2.1.length : Nat) : Int)), (86, oi v3)], [(4, .cells [.int .i64 (0 : Int), .sl (.int .u32) true [], .bool false]), (83, .arr 115 (.int .u32) q.2 0 false)]⟩ : Ab.St yaE) := by
      rintro q rfl
      obtain ⟨c12, h⟩ := need_some h
      exact sg G [.reg [], .reg [], .enter, .weak [.keep [4, 9, 10, 11, 12, 13, 85, 86] [4, 83]]] (aa c12 <| tt) (hl _ (si h))
    exact sg G [.reg [], .br true, .reg [], .reg [], .reg [], .enter, .weak [.keep [4, 9, 10, 11, 12, 13, 14, 15, 85, 86, 90, 91] [4, 83]]] (aa b8 <| tt) (loop_goes (V := w47V) (F := F) (k := w47P5) (S := fun v => w47L2S v3 y2 y3 v.1 v.2.1 v.2.2) (fun v o h hl hr => w47L2_w G E h hl hr K1) _ hi)
  · exact sg G [.reg [], .br false, .auto, .weak [.keep [4, 10, 12, 13] [4, 83]]] (aa b8 <| tt) (K1 _ (hr _ (si h)).symm)
theorem w47J3_w (G : Good w47V P) {y : NumZ} {a0} {a1} (E : Ends w47V C F Try.f47.results.toList [] [(.nm 3)] (y, ())) (h : numZMulJ3 a0 a1 = some y) : Goes w47V P C F w47P3 (w47J3S a0 a1) := by
  unfold numZMulJ3 at h
  obtain ⟨y2, c2, h⟩ := bind_some h
  obtain ⟨y3, c3, h⟩ := bind_some h
  obtain ⟨c4, h⟩ := need_some h
  obtain ⟨c5, h⟩ := need_some h
  obtain ⟨c6, h⟩ := need_some h
  obtain ⟨r2, hi, h⟩ := bind_some h
  have K1 : ∀ q, r2 = q → Goes w47V P C F w47P7 (⟨139, [(4, ol (.ptr 4 0)), (10, ol (.bool y2.2)), (12, ol (.bool y3.2)), (13, ol (.ar 83 0))], [(4, .cells [.int .i64 (0 : Int), .sl (.int .u32) true [], .bool false]), (83, .arr 115 (.int .u32) q 0 false)]⟩ : Ab.St yaE) := by
    rintro q rfl
    obtain ⟨y4, c13, h⟩ := bind_some h
    have e := sj h; subst e
    exact se G E [.reg [(4, .res ⟨[(.nm 3)], (y4, ())⟩)], .auto] (aa (ca c13) <| tt)
  exact sg G [.reg [(1, .res ⟨[(.sl (.int .u32)), .bool], (y2.1, y2.2, ())⟩)], .reg [(1, .res ⟨[(.sl (.int .u32)), .bool], (y3.1, y3.2, ())⟩)], .reg [], .reg [], .enter, .weak [.keep [4, 9, 10, 11, 12, 13, 85, 86] [4, 83]]] (aa (cb c2) <| aa (cb c3) <| aa c4 <| aa c5 <| aa c6 <| tt) (loop_goes (V := w47V) (F := F) (k := w47P4) (S := fun v => w47L1S y2 y3 v.1 v.2) (fun v o h hl hr => w47L1_w G E h hl hr K1) _ hi)
theorem w47J2_w (G : Good w47V P) {y : NumZ} {a0} {a1} {v1} {v2} (E : Ends w47V C F Try.f47.results.toList [] [(.nm 3)] (y, ())) (h : numZMulJ2 a0 a1 v1 v2 = some y) : Goes w47V P C F w47P2 (w47J2S a0 a1 v1 v2) := by
  unfold numZMulJ2 at h
  obtain ⟨y1, c1, h⟩ := bind_some h
  rcases ite_some h with ⟨b5, h⟩ | ⟨b5, h⟩
  · rcases ite_some h with ⟨b6, h⟩ | ⟨b6, h⟩
    · rcases ite_some h with ⟨b7, h⟩ | ⟨b7, h⟩
      · have e := sj h; subst e
        exact se G E [.reg [(2, .res ⟨[(.int .u64), (.int .u64)], (y1.1, y1.2, ())⟩)], .reg [(2, .bit true), (5, .bit true)], .br true, .reg [], .br true, .reg [], .auto] (aa (cb c1) <| aa b5 <| aa b5 <| aa b5 <| aa b6 <| aa b7 <| tt)
      · have e := sj h; subst e
        exact se G E [.reg [(2, .res ⟨[(.int .u64), (.int .u64)], (y1.1, y1.2, ())⟩)], .reg [(2, .bit true), (5, .bit true)], .br true, .reg [], .br false, .reg [], .auto] (aa (cb c1) <| aa b5 <| aa b5 <| aa b5 <| aa b6 <| aa b7 <| tt)
    · exact sg G [.reg [(2, .res ⟨[(.int .u64), (.int .u64)], (y1.1, y1.2, ())⟩)], .reg [(2, .bit true), (5, .bit true)], .br false, .auto, .weak [.keep [2, 3, 4] [2, 3, 4]]] (aa (cb c1) <| aa b5 <| aa b5 <| aa b5 <| aa b6 <| tt) (w47J3_w G E h)
  · exact sg G [.reg [(2, .res ⟨[(.int .u64), (.int .u64)], (y1.1, y1.2, ())⟩)], .reg [(2, .bit false), (5, .bit false)], .br false, .auto, .weak [.keep [2, 3, 4] [2, 3, 4]]] (aa (cb c1) <| aa b5 <| aa b5 <| aa b5 <| aa (show false = false from rfl) <| tt) (w47J3_w G E h)
theorem w47J1_w (G : Good w47V P) {y : NumZ} {a0} {a1} {v1} (E : Ends w47V C F Try.f47.results.toList [] [(.nm 3)] (y, ())) (h : numZMulJ1 a0 a1 v1 = some y) : Goes w47V P C F w47P1 (w47J1S a0 a1 v1) := by
  unfold numZMulJ1 at h
  rcases ite_some h with ⟨b4, h⟩ | ⟨b4, h⟩
  · exact sg G [.reg [], .br true, .reg [], .auto, .weak [.keep [2, 3, 4, 5, 6] [2, 3, 4]]] (aa b4 <| tt) (w47J2_w G E h)
  · exact sg G [.reg [], .br false, .auto, .weak [.keep [2, 3, 4, 5, 6] [2, 3, 4]]] (aa b4 <| tt) (w47J2_w G E h)
theorem w47_w (G : Good w47V P) {y : NumZ} {a0} {a1} (E : Ends w47V C F Try.f47.results.toList [] [(.nm 3)] (y, ())) (h : numZMul a0 a1 = some y) : Goes w47V P C F w47P0 (w47S a0 a1) := by
  unfold numZMul at h
  rcases ite_some h with ⟨b1, h⟩ | ⟨b1, h⟩
  · rcases ite_some h with ⟨b2, h⟩ | ⟨b2, h⟩
    · rcases ite_some h with ⟨b3, h⟩ | ⟨b3, h⟩
      · exact sg G [.reg [], .reg [(3, .bit true), (7, .bit true)], .br true, .reg [], .reg [], .br true, .reg [], .auto, .weak [.keep [2, 3, 4, 5, 6] [2, 3, 4]]] (aa b1 <| aa b1 <| aa b1 <| aa b1 <| aa b2 <| aa b3 <| tt) (w47J1_w G E h)
      · exact sg G [.reg [], .reg [(3, .bit true), (7, .bit true)], .br true, .reg [], .reg [], .br false, .auto, .weak [.keep [2, 3, 4, 5, 6] [2, 3, 4]]] (aa b1 <| aa b1 <| aa b1 <| aa b1 <| aa b2 <| aa b3 <| tt) (w47J1_w G E h)
    · exact sg G [.reg [], .reg [(3, .bit true), (7, .bit true)], .br false, .auto, .weak [.keep [2, 3, 4] [2, 3, 4]]] (aa b1 <| aa b1 <| aa b1 <| aa b1 <| aa b2 <| tt) (w47J3_w G E h)
  · exact sg G [.reg [], .reg [(3, .bit false), (7, .bit false)], .br false, .auto, .weak [.keep [2, 3, 4] [2, 3, 4]]] (aa b1 <| aa b1 <| aa b1 <| aa b1 <| aa (show false = false from rfl) <| tt) (w47J3_w G E h)
noncomputable def w47FS : FS yaE := ⟨[(.nm 3), (.nm 3)], [(.nm 3)], [], [], fun x => Option.map (fun r => (r, ())) (numZMul x.1 x.2.1)⟩
theorem w47Meets : MT 47 w47FS := show Meets w47V _ _ _ from mt (fn := Try.f47) (S := fun x => w47S x.1 x.2.1) (GB ⟨w68Meets, w69Meets, w76Meets, trivial⟩ trivial) fun G _ _ _ _ E h => w47_w G E h
noncomputable abbrev w18V : Env := EV [(44, w44FS), (45, w45FS), (46, w46FS), (47, w47FS)] [] false
noncomputable def w18P0 : List Item := [.code (Try.f18.body.getD .skip)]
noncomputable def w18P1 : List Item := ctl [.reg, .reg, .br false, .auto] w18P0
noncomputable def w18J1S (a0 : NumQ) (a1 : NumQ) : Ab.St yaE := ⟨36, [(2, ol (.ptr 2 0)), (3, ol (.ptr 3 0)), (4, ol (.ptr 4 0))], [(2, .cells [.int .i64 a0.N.v, .sl (.int .u32) true a0.N.m, .bool a0.N.neg, .int .i64 a0.D.v, .sl (.int .u32) true a0.D.m, .bool a0.D.neg]), (3, .cells [.int .i64 a1.N.v, .sl (.int .u32) true a1.N.m, .bool a1.N.neg, .int .i64 a1.D.v, .sl (.int .u32) true a1.D.m, .bool a1.D.neg]), (4, .cells [.int .i64 (0 : Int), .sl (.int .u32) true [], .bool false, .int .i64 (0 : Int), .sl (.int .u32) true [], .bool false])]⟩
noncomputable def w18S (a0 : NumQ) (a1 : NumQ) : Ab.St yaE := ⟨36, [(0, og (yaToNumQ a0)), (1, og (yaToNumQ a1))], []⟩
theorem w18J1_w (G : Good w18V P) {y : NumQ} {a0} {a1} (E : Ends w18V C F Try.f18.results.toList [] [(.nm 4)] (y, ())) (h : numQAddJ1 a0 a1 = some y) : Goes w18V P C F w18P1 (w18J1S a0 a1) := by
  unfold numQAddJ1 at h
  obtain ⟨y4, c4, h⟩ := bind_some h
  obtain ⟨y5, c5, h⟩ := bind_some h
  obtain ⟨y6, c6, h⟩ := bind_some h
  obtain ⟨y7, c7, h⟩ := bind_some h
  obtain ⟨y8, c8, h⟩ := bind_some h
  have e := sj h; subst e
  exact se G E [.reg [(4, .res ⟨[(.nm 3)], (y4, ())⟩), (9, .res ⟨[(.nm 3)], (y5, ())⟩), (10, .res ⟨[(.nm 3)], (y6, ())⟩), (15, .res ⟨[(.nm 3)], (y7, ())⟩), (16, .res ⟨[(.nm 4)], (y8, ())⟩)], .auto] (aa (ca c4) <| aa (ca c5) <| aa (ca c6) <| aa (ca c7) <| aa (ca c8) <| tt)
theorem w18_w (G : Good w18V P) {y : NumQ} {a0} {a1} (E : Ends w18V C F Try.f18.results.toList [] [(.nm 4)] (y, ())) (h : numQAdd a0 a1 = some y) : Goes w18V P C F w18P0 (w18S a0 a1) := by
  unfold numQAdd at h
  obtain ⟨y1, c1, h⟩ := bind_some h
  rcases ite_some h with ⟨b1, h⟩ | ⟨b1, h⟩
  · obtain ⟨y2, c2, h⟩ := bind_some h
    rcases ite_some h with ⟨b2, h⟩ | ⟨b2, h⟩
    · obtain ⟨y3, c3, h⟩ := bind_some h
      have e := sj h; subst e
      exact se G E [.reg [], .reg [(1, .res ⟨[.bool], (y1, ())⟩), (2, .bit true), (4, .res ⟨[.bool], (y2, ())⟩), (5, .bit true)], .br true, .reg [(4, .res ⟨[(.nm 3)], (y3, ())⟩)], .auto] (aa (ca c1) <| aa b1 <| aa b1 <| aa (ca c2) <| aa b1 <| aa b2 <| aa (ca c3) <| tt)
    · exact sg G [.reg [], .reg [(1, .res ⟨[.bool], (y1, ())⟩), (2, .bit true), (4, .res ⟨[.bool], (y2, ())⟩), (5, .bit true)], .br false, .auto, .weak [.keep [2, 3, 4] [2, 3, 4]]] (aa (ca c1) <| aa b1 <| aa b1 <| aa (ca c2) <| aa b1 <| aa b2 <| tt) (w18J1_w G E h)
  · exact sg G [.reg [], .reg [(1, .res ⟨[.bool], (y1, ())⟩), (2, .bit false), (5, .bit false)], .br false, .auto, .weak [.keep [2, 3, 4] [2, 3, 4]]] (aa (ca c1) <| aa b1 <| aa b1 <| aa b1 <| aa (show false = false from rfl) <| tt) (w18J1_w G E h)
noncomputable def w18FS : FS yaE := ⟨[(.nm 4), (.nm 4)], [(.nm 4)], [], [], fun x => Option.map (fun r => (r, ())) (numQAdd x.1 x.2.1)⟩
theorem w18Meets : MT 18 w18FS := show Meets w18V _ _ _ from mt (fn := Try.f18) (S := fun x => w18S x.1 x.2.1) (GB ⟨w44Meets, w45Meets, w46Meets, w47Meets, trivial⟩ trivial) fun G _ _ _ _ E h => w18_w G E h
noncomputable abbrev w48V : Env := EV [(73, w73FS)] [] false
noncomputable def w48P0 : List Item := [.code (Try.f48.body.getD .skip)]
noncomputable def w48S (a0 : NumQ) : Ab.St yaE := ⟨9, [(0, og (yaToNumQ a0))], []⟩
theorem w48_w (G : Good w48V P) {y : NumQ} {a0} (E : Ends w48V C F Try.f48.results.toList [] [(.nm 4)] (y, ())) (h : numQNeg a0 = some y) : Goes w48V P C F w48P0 (w48S a0) := by
  unfold numQNeg at h
  obtain ⟨y1, c1, h⟩ := bind_some h
  have e := sj h; subst e
  exact se G E [.reg [], .reg [(2, .res ⟨[(.nm 3)], (y1, ())⟩)], .auto] (aa (ca c1) <| tt)
noncomputable def w48FS : FS yaE := ⟨[(.nm 4)], [(.nm 4)], [], [], fun x => Option.map (fun r => (r, ())) (numQNeg x.1)⟩
theorem w48Meets : MT 48 w48FS := show Meets w48V _ _ _ from mt (fn := Try.f48) (S := fun x => w48S x.1) (GB ⟨w73Meets, trivial⟩ trivial) fun G _ _ _ _ E h => w48_w G E h
noncomputable abbrev w19V : Env := EV [(18, w18FS), (48, w48FS)] [] false
noncomputable def w19P0 : List Item := [.code (Try.f19.body.getD .skip)]
noncomputable def w19S (a0 : NumQ) (a1 : NumQ) : Ab.St yaE := ⟨9, [(0, og (yaToNumQ a0)), (1, og (yaToNumQ a1))], []⟩
theorem w19_w (G : Good w19V P) {y : NumQ} {a0} {a1} (E : Ends w19V C F Try.f19.results.toList [] [(.nm 4)] (y, ())) (h : numQSub a0 a1 = some y) : Goes w19V P C F w19P0 (w19S a0 a1) := by
  unfold numQSub at h
  obtain ⟨y1, c1, h⟩ := bind_some h
  obtain ⟨y2, c2, h⟩ := bind_some h
  have e := sj h; subst e
  exact se G E [.reg [], .reg [(2, .res ⟨[(.nm 4)], (y1, ())⟩), (3, .res ⟨[(.nm 4)], (y2, ())⟩)], .auto] (aa (ca c1) <| aa (ca c2) <| tt)
noncomputable def w19FS : FS yaE := ⟨[(.nm 4), (.nm 4)], [(.nm 4)], [], [], fun x => Option.map (fun r => (r, ())) (numQSub x.1 x.2.1)⟩
theorem w19Meets : MT 19 w19FS := show Meets w19V _ _ _ from mt (fn := Try.f19) (S := fun x => w19S x.1 x.2.1) (GB ⟨w18Meets, w48Meets, trivial⟩ trivial) fun G _ _ _ _ E h => w19_w G E h
noncomputable abbrev w31V : Env := EV [(46, w46FS), (47, w47FS)] [] false
noncomputable def w31P0 : List Item := [.code (Try.f31.body.getD .skip)]
noncomputable def w31S (a0 : NumQ) (a1 : NumQ) : Ab.St yaE := ⟨16, [(0, og (yaToNumQ a0)), (1, og (yaToNumQ a1))], []⟩
theorem w31_w (G : Good w31V P) {y : NumQ} {a0} {a1} (E : Ends w31V C F Try.f31.results.toList [] [(.nm 4)] (y, ())) (h : numQDiv a0 a1 = some y) : Goes w31V P C F w31P0 (w31S a0 a1) := by
  unfold numQDiv at h
  obtain ⟨y1, c1, h⟩ := bind_some h
  obtain ⟨y2, c2, h⟩ := bind_some h
  obtain ⟨y3, c3, h⟩ := bind_some h
  have e := sj h; subst e
  exact se G E [.reg [], .reg [(4, .res ⟨[(.nm 3)], (y1, ())⟩), (9, .res ⟨[(.nm 3)], (y2, ())⟩), (10, .res ⟨[(.nm 4)], (y3, ())⟩)], .auto] (aa (ca c1) <| aa (ca c2) <| aa (ca c3) <| tt)
noncomputable def w31FS : FS yaE := ⟨[(.nm 4), (.nm 4)], [(.nm 4)], [], [], fun x => Option.map (fun r => (r, ())) (numQDiv x.1 x.2.1)⟩
theorem w31Meets : MT 31 w31FS := show Meets w31V _ _ _ from mt (fn := Try.f31) (S := fun x => w31S x.1 x.2.1) (GB ⟨w46Meets, w47Meets, trivial⟩ trivial) fun G _ _ _ _ E h => w31_w G E h
noncomputable abbrev w60V : Env := EV [(43, w43FS)] [] false
noncomputable def w60P0 : List Item := [.code (Try.f60.body.getD .skip)]
noncomputable def w60S (a0 : ApiRat) : Ab.St yaE := ⟨10, [(0, og (yaToApiRat a0))], []⟩
theorem w60_w (G : Good w60V P) {y : NumQ} {a0} (E : Ends w60V C F Try.f60.results.toList [] [(.nm 4)] (y, ())) (h : numOf a0 = some y) : Goes w60V P C F w60P0 (w60S a0) := by
  unfold numOf at h
  obtain ⟨y1, c1, h⟩ := bind_some h
  obtain ⟨y2, c2, h⟩ := bind_some h
  have e := sj h; subst e
  exact se G E [.reg [], .reg [(2, .res ⟨[(.nm 3)], (y1, ())⟩), (5, .res ⟨[(.nm 3)], (y2, ())⟩)], .auto] (aa (ca c1) <| aa (ca c2) <| tt)
noncomputable def w60FS : FS yaE := ⟨[(.nm 0)], [(.nm 4)], [], [], fun x => Option.map (fun r => (r, ())) (numOf x.1)⟩
theorem w60Meets : MT 60 w60FS := show Meets w60V _ _ _ from mt (fn := Try.f60) (S := fun x => w60S x.1) (GB ⟨w43Meets, trivial⟩ trivial) fun G _ _ _ _ E h => w60_w G E h
noncomputable abbrev w29V : Env := EV [(17, w17FS), (31, w31FS), (60, w60FS)] [] false
noncomputable def w29P0 : List Item := [.code (Try.f29.body.getD .skip)]
noncomputable def w29S (a0 : ApiArm) : Ab.St yaE := ⟨8, [(0, og (yaToApiArm a0))], []⟩
theorem w29_w (G : Good w29V P) {y : NumQ} {a0} (E : Ends w29V C F Try.f29.results.toList [] [(.nm 4)] (y, ())) (h : libGuide a0 = some y) : Goes w29V P C F w29P0 (w29S a0) := by
  unfold libGuide at h
  obtain ⟨y1, c1, h⟩ := bind_some h
  obtain ⟨y2, c2, h⟩ := bind_some h
  obtain ⟨y3, c3, h⟩ := bind_some h
  have e := sj h; subst e
  exact se G E [.reg [], .reg [(0, .res ⟨[(.nm 4)], (y1, ())⟩), (3, .res ⟨[(.nm 4)], (y2, ())⟩), (4, .res ⟨[(.nm 4)], (y3, ())⟩)], .auto] (aa (ca c1) <| aa (ca c2) <| aa (ca c3) <| tt)
noncomputable def w29FS : FS yaE := ⟨[(.nm 1)], [(.nm 4)], [], [], fun x => Option.map (fun r => (r, ())) (libGuide x.1)⟩
theorem w29Meets : MT 29 w29FS := show Meets w29V _ _ _ from mt (fn := Try.f29) (S := fun x => w29S x.1) (GB ⟨w17Meets, w31Meets, w60Meets, trivial⟩ trivial) fun G _ _ _ _ E h => w29_w G E h
noncomputable abbrev w49V : Env := EV [(17, w17FS)] [] false
noncomputable def w49P0 : List Item := [.code (Try.f49.body.getD .skip)]
noncomputable def w49P1 : List Item := ctl [.reg, .reg, .reg, .enter] w49P0
noncomputable def w49P2 : List Item := ctl [.reg, .br true, .reg, .reg, .reg, .enter] w49P1
noncomputable def w49P3 : List Item := ctl [.reg, .br false, .auto] w49P2
noncomputable def w49P4 : List Item := ctl [.reg, .br false, .auto] w49P1
noncomputable def w49L2S (a1 : Int) (v1 : Int) (v2 : Int) (v4 : Int) (v5 : Int) (v6 : (List (List NumQ))) : Ab.St yaE := ⟨44, [(1, oi a1), (4, ol (.ptr 4 0)), (5, ol (.ptr 5 0)), (6, oi v2), (14, oi v1), (15, oi v2), (29, oi v4), (30, oi v5)], [(4, .cells [.int .i64 (0 : Int), .sl (.sl (.nm 4)) true []]), (5, .cells [.int .i64 a1, .ar 10 0]), (10, .rows 48 53 (.nm 4) v6 0 0 .opn)]⟩
noncomputable def w49L1S (a1 : Int) (v1 : Int) (v2 : Int) (v3 : (List (List NumQ))) : Ab.St yaE := ⟨44, [(1, oi a1), (4, ol (.ptr 4 0)), (5, ol (.ptr 5 0)), (14, oi v1), (15, oi v2)], [(4, .cells [.int .i64 (0 : Int), .sl (.sl (.nm 4)) true []]), (5, .cells [.int .i64 a1, .ar 10 0]), (10, .rows 48 53 (.nm 4) v3 0 0 .opn)]⟩
noncomputable def w49S (a0 : Int) (a1 : Int) : Ab.St yaE := ⟨44, [(0, oi a0), (1, oi a1)], []⟩
theorem w49L2_w (G : Good w49V P) {y : QmM} {o} {r} {a1} {v1} {v2} {v4} {v5} {v6} (E : Ends w49V C F Try.f49.results.toList [[(0, 0), (48, 53)]] [(.nm 5)] (y, ())) (h : qmNewL2 a1 v1 v2 v4 v5 v6 = some o)
    (hl : ∀ v', o = .inl v' → Goes w49V P C F w49P2 (w49L2S a1 v1 v2 v'.1 v'.2.1 v'.2.2)) (hr : ∀ r', o = .inr r' → r' = r)
    (K1 : ∀ r1, r = r1 → Goes w49V P C F w49P3 (⟨44, [(1, oi a1), (4, ol (.ptr 4 0)), (5, ol (.ptr 5 0)), (14, oi v1), (15, oi v2)], [(4, .cells [.int .i64 (0 : Int), .sl (.sl (.nm 4)) true []]), (5, .cells [.int .i64 a1, .ar 10 0]), (10, .rows 48 53 (.nm 4) r1 0 0 .opn)]⟩ : Ab.St yaE)) : Goes w49V P C F w49P2 (w49L2S a1 v1 v2 v4 v5 v6) := by
  unfold qmNewL2 at h
  rcases ite_some h with ⟨b2, h⟩ | ⟨b2, h⟩
  · obtain ⟨c9, h⟩ := need_some h
    obtain ⟨y1, c10, h⟩ := bind_some h
    obtain ⟨c11, h⟩ := need_some h
    exact sg G [.reg [], .br true, .reg [], .reg [(6, .res ⟨[(.nm 4)], (y1, ())⟩)], .reg [], .enter, .weak [.keep [1, 4, 5, 6, 14, 15, 29, 30] [4, 5, 10]]] (aa b2 <| aa c9 <| aa (ca c10) <| aa c11 <| tt) (hl _ (si h))
  · exact sg G [.reg [], .br false, .auto, .weak [.keep [1, 4, 5, 14, 15] [4, 5, 10]]] (aa b2 <| tt) (K1 _ (hr _ (si h)).symm)
theorem w49L1_w (G : Good w49V P) {y : QmM} {o} {r} {a1} {v1} {v2} {v3} (E : Ends w49V C F Try.f49.results.toList [[(0, 0), (48, 53)]] [(.nm 5)] (y, ())) (h : qmNewL1 a1 v1 v2 v3 = some o)
    (hl : ∀ v', o = .inl v' → Goes w49V P C F w49P1 (w49L1S a1 v'.1 v'.2.1 v'.2.2)) (hr : ∀ r', o = .inr r' → r' = r)
    (K1 : ∀ r2, r = r2 → Goes w49V P C F w49P4 (⟨44, [(4, ol (.ptr 4 0)), (5, ol (.ptr 5 0))], [(4, .cells [.int .i64 (0 : Int), .sl (.sl (.nm 4)) true []]), (5, .cells [.int .i64 a1, .ar 10 0]), (10, .rows 48 53 (.nm 4) r2 0 0 .opn)]⟩ : Ab.St yaE)) : Goes w49V P C F w49P1 (w49L1S a1 v1 v2 v3) := by
  unfold qmNewL1 at h
  rcases ite_some h with ⟨b1, h⟩ | ⟨b1, h⟩
  · obtain ⟨c4, h⟩ := need_some h
    obtain ⟨c5, h⟩ := need_some h
    obtain ⟨c6, h⟩ := need_some h
    obtain ⟨c7, h⟩ := need_some h
    obtain ⟨c8, h⟩ := need_some h
    obtain ⟨r1, hi, h⟩ := bind_some h
    have K1 : ∀ q, r1 = q → Goes w49V P C F w49P3 (⟨44, [(1, oi a1), (4, ol (.ptr 4 0)), (5, ol (.ptr 5 0)), (14, oi v1), (15, oi v2)], [(4, .cells [.int .i64 (0 : Int), .sl (.sl (.nm 4)) true []]), (5, .cells [.int .i64 a1, .ar 10 0]), (10, .rows 48 53 (.nm 4) q 0 0 .opn)]⟩ : Ab.St yaE) := by
      rintro q rfl
      exact sg G [.reg [], .enter, .weak [.keep [1, 4, 5, 14, 15] [4, 5, 10]]] tt (hl _ (si h))
    exact sg G [.reg [], .br true, .reg [], .reg [], .reg [], .enter, .weak [.re 10 10 0, .keep [1, 4, 5, 6, 14, 15, 29, 30] [4, 5, 10]]] (aa b1 <| aa c4 <| aa c5 <| aa c6 <| aa c7 <| aa c8 <| tt) (loop_goes (V := w49V) (F := F) (k := w49P2) (S := fun v => w49L2S a1 v1 v2 v.1 v.2.1 v.2.2) (fun v o h hl hr => w49L2_w G E h hl hr K1) _ hi)
  · exact sg G [.reg [], .br false, .auto, .weak [.keep [4, 5] [4, 5, 10]]] (aa b1 <| tt) (K1 _ (hr _ (si h)).symm)
theorem w49_w (G : Good w49V P) {y : QmM} {a0} {a1} (E : Ends w49V C F Try.f49.results.toList [[(0, 0), (48, 53)]] [(.nm 5)] (y, ())) (h : qmNew a0 a1 = some y) : Goes w49V P C F w49P0 (w49S a0 a1) := by
  unfold qmNew at h
  obtain ⟨c1, h⟩ := need_some h
  obtain ⟨c2, h⟩ := need_some h
  obtain ⟨c3, h⟩ := need_some h
  obtain ⟨r2, hi, h⟩ := bind_some h
  have K1 : ∀ q, r2 = q → Goes w49V P C F w49P4 (⟨44, [(4, ol (.ptr 4 0)), (5, ol (.ptr 5 0))], [(4, .cells [.int .i64 (0 : Int), .sl (.sl (.nm 4)) true []]), (5, .cells [.int .i64 a1, .ar 10 0]), (10, .rows 48 53 (.nm 4) q 0 0 .opn)]⟩ : Ab.St yaE) := by
    rintro q rfl
    have e := sj h; subst e
    exact se G E [.reg [], .auto] tt
  exact sg G [.reg [], .reg [(2, .own)], .reg [], .enter, .weak [.keep [1, 4, 5, 14, 15] [4, 5, 10]]] (aa c1 <| aa c2 <| aa c3 <| tt) (loop_goes (V := w49V) (F := F) (k := w49P1) (S := fun v => w49L1S a1 v.1 v.2.1 v.2.2) (fun v o h hl hr => w49L1_w G E h hl hr K1) _ hi)
noncomputable def w49FS : FS yaE := ⟨[(.int .i64), (.int .i64)], [(.nm 5)], [], [[(0, 0), (48, 53)]], fun x => Option.map (fun r => (r, ())) (qmNew x.1 x.2.1)⟩
theorem w49Meets : MT 49 w49FS := show Meets w49V _ _ _ from mt (fn := Try.f49) (S := fun x => w49S x.1 x.2.1) (GB ⟨w17Meets, trivial⟩ trivial) fun G _ _ _ _ E h => w49_w G E h
noncomputable abbrev w22V : Env := EV [(18, w18FS), (19, w19FS), (29, w29FS), (49, w49FS)] [] false
noncomputable def w22P0 : List Item := [.code (Try.f22.body.getD .skip)]
noncomputable def w22P1 : List Item := ctl [.reg, .reg, .reg, .enter] w22P0
noncomputable def w22P2 : List Item := ctl [.reg, .br false, .auto] w22P1
noncomputable def w22L1S (a0 : ApiGrid) (y1 : QmM) (v1 : Int) (v2 : (List (List NumQ))) : Ab.St yaE := ⟨112, [(2, ol (.ptr 2 0)), (3, ol (.ptr 3 0)), (13, ol (.sl (.nm 1) false a0.Arms)), (14, oi ((a0.Arms.length : Nat) : Int)), (15, oi v1)], [(2, .cells [.int .i64 (0 : Int), .sl (.sl (.nm 4)) true []]), (3, .cells [.int .i64 y1.C, .ar 1011 0]), (1011, .rows 48 53 (.nm 4) v2 0 0 .opn)]⟩
noncomputable def w22S (a0 : ApiGrid) : Ab.St yaE := ⟨112, [(0, og (yaToApiGrid a0))], []⟩
theorem w22L1_w (G : Good w22V P) {y : QmM} {o} {r} {a0} {y1} {v1} {v2} (E : Ends w22V C F Try.f22.results.toList [[(0, 0), (48, 53)]] [(.nm 5)] (y, ())) (h : libLaplaceL1 a0 y1 v1 v2 = some o)
    (hl : ∀ v', o = .inl v' → Goes w22V P C F w22P1 (w22L1S a0 y1 v'.1 v'.2)) (hr : ∀ r', o = .inr r' → r' = r)
    (K1 : ∀ r1, r = r1 → Goes w22V P C F w22P2 (⟨112, [(2, ol (.ptr 2 0)), (3, ol (.ptr 3 0))], [(2, .cells [.int .i64 (0 : Int), .sl (.sl (.nm 4)) true []]), (3, .cells [.int .i64 y1.C, .ar 1011 0]), (1011, .rows 48 53 (.nm 4) r1 0 0 .opn)]⟩ : Ab.St yaE)) : Goes w22V P C F w22P1 (w22L1S a0 y1 v1 v2) := by
  unfold libLaplaceL1 at h
  rcases ite_some h with ⟨b1, h⟩ | ⟨b1, h⟩
  · obtain ⟨c2, h⟩ := need_some h
    rcases ite_some h with ⟨b2, h⟩ | ⟨b2, h⟩
    · exact sg G [.reg [], .br true, .reg [], .reg [], .br true, .reg [], .enter, .weak [.keep [2, 3, 13, 14, 15] [2, 3, 1011]]] (aa b1 <| aa c2 <| aa b2 <| tt) (hl _ (si h))
    · obtain ⟨y2, c3, h⟩ := bind_some h
      obtain ⟨c4, h⟩ := need_some h
      obtain ⟨c5, h⟩ := need_some h
      obtain ⟨c6, h⟩ := need_some h
      obtain ⟨y3, c7, h⟩ := bind_some h
      obtain ⟨c8, h⟩ := need_some h
      obtain ⟨c9, h⟩ := need_some h
      obtain ⟨c10, h⟩ := need_some h
      obtain ⟨c11, h⟩ := need_some h
      obtain ⟨y4, c12, h⟩ := bind_some h
      obtain ⟨c13, h⟩ := need_some h
      obtain ⟨c14, h⟩ := need_some h
      obtain ⟨c15, h⟩ := need_some h
      obtain ⟨c16, h⟩ := need_some h
      obtain ⟨y5, c17, h⟩ := bind_some h
      obtain ⟨c18, h⟩ := need_some h
      obtain ⟨c19, h⟩ := need_some h
      obtain ⟨c20, h⟩ := need_some h
      obtain ⟨c21, h⟩ := need_some h
      obtain ⟨y6, c22, h⟩ := bind_some h
      obtain ⟨c23, h⟩ := need_some h
      exact sg G [.reg [], .br true, .reg [], .reg [], .br false, .reg [(1, .res ⟨[(.nm 4)], (y2, ())⟩)], .reg [(19, .res ⟨[(.nm 4)], (y3, ())⟩)], .reg [(19, .res ⟨[(.nm 4)], (y4, ())⟩)], .reg [(19, .res ⟨[(.nm 4)], (y5, ())⟩)], .reg [(19, .res ⟨[(.nm 4)], (y6, ())⟩)], .reg [], .enter, .weak [.keep [2, 3, 13, 14, 15] [2, 3, 1011]]] (aa b1 <| aa c2 <| aa b2 <| aa (ca c3) <| aa c4 <| aa c5 <| aa c6 <| aa (ca c7) <| aa c8 <| aa c9 <| aa c10 <| aa c11 <| aa (ca c12) <| aa c13 <| aa c14 <| aa c15 <| aa c16 <| aa (ca c17) <| aa c18 <| aa c19 <| aa c20 <| aa c21 <| aa (ca c22) <| aa c23 <| tt) (hl _ (si h))
  · exact sg G [.reg [], .br false, .auto, .weak [.keep [2, 3] [2, 3, 1011]]] (aa b1 <| tt) (K1 _ (hr _ (si h)).symm)
theorem w22_w (G : Good w22V P) {y : QmM} {a0} (E : Ends w22V C F Try.f22.results.toList [[(0, 0), (48, 53)]] [(.nm 5)] (y, ())) (h : libLaplace a0 = some y) : Goes w22V P C F w22P0 (w22S a0) := by
  unfold libLaplace at h
  obtain ⟨y1, c1, h⟩ := bind_some h
  obtain ⟨r1, hi, h⟩ := bind_some h
  have K1 : ∀ q, r1 = q → Goes w22V P C F w22P2 (⟨112, [(2, ol (.ptr 2 0)), (3, ol (.ptr 3 0))], [(2, .cells [.int .i64 (0 : Int), .sl (.sl (.nm 4)) true []]), (3, .cells [.int .i64 y1.C, .ar 1011 0]), (1011, .rows 48 53 (.nm 4) q 0 0 .opn)]⟩ : Ab.St yaE) := by
    rintro q rfl
    have e := sj h; subst e
    exact se G E [.reg [], .auto] tt
  exact sg G [.reg [], .reg [(4, .res ⟨[(.nm 5)], (y1, ())⟩)], .reg [], .enter, .weak [.keep [2, 3, 13, 14, 15] [2, 3, 1011]]] (aa (ca c1) <| tt) (loop_goes (V := w22V) (F := F) (k := w22P1) (S := fun v => w22L1S a0 y1 v.1 v.2) (fun v o h hl hr => w22L1_w G E h hl hr K1) _ hi)
noncomputable def w22FS : FS yaE := ⟨[(.nm 2)], [(.nm 5)], [], [[(0, 0), (48, 53)]], fun x => Option.map (fun r => (r, ())) (libLaplace x.1)⟩
theorem w22Meets : MT 22 w22FS := show Meets w22V _ _ _ from mt (fn := Try.f22) (S := fun x => w22S x.1) (GB ⟨w18Meets, w19Meets, w29Meets, w49Meets, trivial⟩ trivial) fun G _ _ _ _ E h => w22_w G E h
noncomputable abbrev w30V : Env := EV [(61, w61FS)] [] false
noncomputable def w30P0 : List Item := [.code (Try.f30.body.getD .skip)]
noncomputable def w30S (a0 : NumQ) : Ab.St yaE := ⟨7, [(0, og (yaToNumQ a0))], []⟩
theorem w30_w (G : Good w30V P) {y : Bool} {a0} (E : Ends w30V C F Try.f30.results.toList [] [.bool] (y, ())) (h : numQIsZero a0 = some y) : Goes w30V P C F w30P0 (w30S a0) := by
  unfold numQIsZero at h
  obtain ⟨y1, c1, h⟩ := bind_some h
  have e := sj h; subst e
  exact se G E [.reg [], .reg [(2, .res ⟨[(.int .i64)], (y1, ())⟩)], .auto] (aa (ca c1) <| tt)
noncomputable def w30FS : FS yaE := ⟨[(.nm 4)], [.bool], [], [], fun x => Option.map (fun r => (r, ())) (numQIsZero x.1)⟩
theorem w30Meets : MT 30 w30FS := show Meets w30V _ _ _ from mt (fn := Try.f30) (S := fun x => w30S x.1) (GB ⟨w61Meets, trivial⟩ trivial) fun G _ _ _ _ E h => w30_w G E h
noncomputable abbrev w32V : Env := EV [(44, w44FS), (46, w46FS), (47, w47FS)] [] false
noncomputable def w32P0 : List Item := [.code (Try.f32.body.getD .skip)]
noncomputable def w32P1 : List Item := ctl [.reg, .reg, .br false, .auto] w32P0
noncomputable def w32J1S (a0 : NumQ) (a1 : NumQ) : Ab.St yaE := ⟨30, [(2, ol (.ptr 2 0)), (3, ol (.ptr 3 0)), (4, ol (.ptr 4 0))], [(2, .cells [.int .i64 a0.N.v, .sl (.int .u32) true a0.N.m, .bool a0.N.neg, .int .i64 a0.D.v, .sl (.int .u32) true a0.D.m, .bool a0.D.neg]), (3, .cells [.int .i64 a1.N.v, .sl (.int .u32) true a1.N.m, .bool a1.N.neg, .int .i64 a1.D.v, .sl (.int .u32) true a1.D.m, .bool a1.D.neg]), (4, .cells [.int .i64 (0 : Int), .sl (.int .u32) true [], .bool false, .int .i64 (0 : Int), .sl (.int .u32) true [], .bool false])]⟩
noncomputable def w32S (a0 : NumQ) (a1 : NumQ) : Ab.St yaE := ⟨30, [(0, og (yaToNumQ a0)), (1, og (yaToNumQ a1))], []⟩
theorem w32J1_w (G : Good w32V P) {y : NumQ} {a0} {a1} (E : Ends w32V C F Try.f32.results.toList [] [(.nm 4)] (y, ())) (h : numQMulJ1 a0 a1 = some y) : Goes w32V P C F w32P1 (w32J1S a0 a1) := by
  unfold numQMulJ1 at h
  obtain ⟨y4, c4, h⟩ := bind_some h
  obtain ⟨y5, c5, h⟩ := bind_some h
  obtain ⟨y6, c6, h⟩ := bind_some h
  have e := sj h; subst e
  exact se G E [.reg [(4, .res ⟨[(.nm 3)], (y4, ())⟩), (9, .res ⟨[(.nm 3)], (y5, ())⟩), (10, .res ⟨[(.nm 4)], (y6, ())⟩)], .auto] (aa (ca c4) <| aa (ca c5) <| aa (ca c6) <| tt)
theorem w32_w (G : Good w32V P) {y : NumQ} {a0} {a1} (E : Ends w32V C F Try.f32.results.toList [] [(.nm 4)] (y, ())) (h : numQMul a0 a1 = some y) : Goes w32V P C F w32P0 (w32S a0 a1) := by
  unfold numQMul at h
  obtain ⟨y1, c1, h⟩ := bind_some h
  rcases ite_some h with ⟨b1, h⟩ | ⟨b1, h⟩
  · obtain ⟨y2, c2, h⟩ := bind_some h
    rcases ite_some h with ⟨b2, h⟩ | ⟨b2, h⟩
    · obtain ⟨y3, c3, h⟩ := bind_some h
      have e := sj h; subst e
      exact se G E [.reg [], .reg [(1, .res ⟨[.bool], (y1, ())⟩), (2, .bit true), (4, .res ⟨[.bool], (y2, ())⟩), (5, .bit true)], .br true, .reg [(4, .res ⟨[(.nm 3)], (y3, ())⟩)], .auto] (aa (ca c1) <| aa b1 <| aa b1 <| aa (ca c2) <| aa b1 <| aa b2 <| aa (ca c3) <| tt)
    · exact sg G [.reg [], .reg [(1, .res ⟨[.bool], (y1, ())⟩), (2, .bit true), (4, .res ⟨[.bool], (y2, ())⟩), (5, .bit true)], .br false, .auto, .weak [.keep [2, 3, 4] [2, 3, 4]]] (aa (ca c1) <| aa b1 <| aa b1 <| aa (ca c2) <| aa b1 <| aa b2 <| tt) (w32J1_w G E h)
  · exact sg G [.reg [], .reg [(1, .res ⟨[.bool], (y1, ())⟩), (2, .bit false), (5, .bit false)], .br false, .auto, .weak [.keep [2, 3, 4] [2, 3, 4]]] (aa (ca c1) <| aa b1 <| aa b1 <| aa b1 <| aa (show false = false from rfl) <| tt) (w32J1_w G E h)
noncomputable def w32FS : FS yaE := ⟨[(.nm 4), (.nm 4)], [(.nm 4)], [], [], fun x => Option.map (fun r => (r, ())) (numQMul x.1 x.2.1)⟩
theorem w32Meets : MT 32 w32FS := show Meets w32V _ _ _ from mt (fn := Try.f32) (S := fun x => w32S x.1 x.2.1) (GB ⟨w44Meets, w46Meets, w47Meets, trivial⟩ trivial) fun G _ _ _ _ E h => w32_w G E h
noncomputable abbrev w81V : Env := EV [] [] false
noncomputable def w81P0 : List Item := [.code (Try.f81.body.getD .skip)]
noncomputable def w81P1 : List Item := ctl [.reg, .reg, .reg, .enter] w81P0
noncomputable def w81P2 : List Item := ctl [.reg, .br false, .auto] w81P1
noncomputable def w81L1S (a0 : QmM) (v1 : Int) (v2 : (List (List NumQ))) : Ab.St yaE := ⟨25, [(2, ol (.ptr 2 0)), (3, ol (.ptr 3 0)), (10, ol (.sl (.sl (.nm 4)) false a0.V)), (11, oi ((a0.V.length : Nat) : Int)), (12, oi v1)], [(2, .cells [.int .i64 (0 : Int), .ar 8000201 0]), (3, .cells [.int .i64 a0.C, .ar 8000301 0]), (8000201, .rows 48 53 (.nm 4) [] 0 0 .opn), (8000301, .rows 48 53 (.nm 4) v2 0 0 .opn)]⟩
noncomputable def w81S (a0 : QmM) : Ab.St yaE := ⟨25, [(0, og (yaToQmM a0))], []⟩
theorem w81L1_w (G : Good w81V P) {y : QmM} {o} {r} {a0} {v1} {v2} (E : Ends w81V C F Try.f81.results.toList [[(0, 0), (48, 53)]] [(.nm 5)] (y, ())) (h : qmMCopyL1 a0 v1 v2 = some o)
    (hl : ∀ v', o = .inl v' → Goes w81V P C F w81P1 (w81L1S a0 v'.1 v'.2)) (hr : ∀ r', o = .inr r' → r' = r)
    (K1 : ∀ r1, r = r1 → Goes w81V P C F w81P2 (⟨25, [(2, ol (.ptr 2 0)), (3, ol (.ptr 3 0))], [(2, .cells [.int .i64 (0 : Int), .ar 8000201 0]), (3, .cells [.int .i64 a0.C, .ar 8000301 0]), (8000201, .rows 48 53 (.nm 4) [] 0 0 .opn), (8000301, .rows 48 53 (.nm 4) r1 0 0 .opn)]⟩ : Ab.St yaE)) : Goes w81V P C F w81P1 (w81L1S a0 v1 v2) := by
  unfold qmMCopyL1 at h
  rcases ite_some h with ⟨b1, h⟩ | ⟨b1, h⟩
  · obtain ⟨c1, h⟩ := need_some h
    obtain ⟨c2, h⟩ := need_some h
    obtain ⟨c3, h⟩ := need_some h
    exact sg G [.reg [], .br true, .reg [], .reg [(4, .own)], .reg [], .enter, .weak [.re 8000301 8000301 0, .keep [2, 3, 10, 11, 12] [2, 3, 8000201, 8000301]]] (aa b1 <| aa c1 <| aa c2 <| aa c3 <| tt) (hl _ (si h))
  · exact sg G [.reg [], .br false, .auto, .weak [.keep [2, 3] [2, 3, 8000201, 8000301]]] (aa b1 <| tt) (K1 _ (hr _ (si h)).symm)
theorem w81_w (G : Good w81V P) {y : QmM} {a0} (E : Ends w81V C F Try.f81.results.toList [[(0, 0), (48, 53)]] [(.nm 5)] (y, ())) (h : qmMCopy a0 = some y) : Goes w81V P C F w81P0 (w81S a0) := by
  unfold qmMCopy at h
  obtain ⟨r1, hi, h⟩ := bind_some h
  have K1 : ∀ q, r1 = q → Goes w81V P C F w81P2 (⟨25, [(2, ol (.ptr 2 0)), (3, ol (.ptr 3 0))], [(2, .cells [.int .i64 (0 : Int), .ar 8000201 0]), (3, .cells [.int .i64 a0.C, .ar 8000301 0]), (8000201, .rows 48 53 (.nm 4) [] 0 0 .opn), (8000301, .rows 48 53 (.nm 4) q 0 0 .opn)]⟩ : Ab.St yaE) := by
    rintro q rfl
    have e := sj h; subst e
    exact se G E [.reg [], .auto] tt
  exact sg G [.reg [], .weak [.own (.cell 2) 1 8000201 48 53], .reg [], .weak [.own (.cell 3) 1 8000301 48 53], .reg [], .enter, .weak [.keep [2, 3, 10, 11, 12] [2, 3, 8000201, 8000301]]] tt (loop_goes (V := w81V) (F := F) (k := w81P1) (S := fun v => w81L1S a0 v.1 v.2) (fun v o h hl hr => w81L1_w G E h hl hr K1) _ hi)
noncomputable def w81FS : FS yaE := ⟨[(.nm 5)], [(.nm 5)], [], [[(0, 0), (48, 53)]], fun x => Option.map (fun r => (r, ())) (qmMCopy x.1)⟩
theorem w81Meets : MT 81 w81FS := show Meets w81V _ _ _ from mt (fn := Try.f81) (S := fun x => w81S x.1) (GB trivial trivial) fun G _ _ _ _ E h => w81_w G E h
end
end Go.Ab
