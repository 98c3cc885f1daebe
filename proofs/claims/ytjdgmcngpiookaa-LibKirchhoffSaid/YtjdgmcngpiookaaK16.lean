/- The functions compute what the plain functions tell. Conditions: none beyond those that each theorem names. -/
import Derived.Test.YtjdgmcngpiookaaK15
namespace Go.Ab
open Go Go.Proofs
set_option linter.unusedVariables false
section
variable {P : Program} {C : Ctx} {F : Act → World → Prop}
noncomputable abbrev w20V : Env := EV [(16, w16FS), (17, w17FS), (22, w22FS), (49, w49FS), (50, w50FS)] [] false
noncomputable def w20P0 : List Item := [.code (Try.f20.body.getD .skip)]
noncomputable def w20P1 : List Item := ctl [.reg, .reg, .reg, .enter] w20P0
noncomputable def w20P2 : List Item := ctl [.reg, .br true, .reg, .reg, .br true, .reg, .reg, .reg, .auto] w20P1
noncomputable def w20P3 : List Item := ctl [.reg, .br false, .auto] w20P1
noncomputable def w20J1S (a0 : ApiGrid) (v1 : Int) (v4 : (List NumQ)) (v5 : (List (List NumQ))) (y1 : QmM) (y2 : (List Int)) : Ab.St yaE := ⟨53, [(1, ol (.ar 1000001 0)), (2, ol (.ptr 2 0)), (5, ol (.ptr 5 0)), (15, ol (.sl (.int .i64) false y2)), (16, oi ((y2.length : Nat) : Int)), (17, oi v1)], [(2, .cells [.int .i64 a0.Nodes, .sl (.nm 1) false a0.Arms]), (5, .cells [.int .i64 y1.C, .ar 1013 0]), (1013, .rows 48 53 (.nm 4) v5 0 0 .opn), (1000001, .arr 53 (.nm 4) v4 0 false)]⟩
noncomputable def w20L1S (a0 : ApiGrid) (y1 : QmM) (y2 : (List Int)) (v1 : Int) (v2 : (List NumQ)) (v3 : (List (List NumQ))) : Ab.St yaE := ⟨53, [(1, ol (.ar 1000001 0)), (2, ol (.ptr 2 0)), (5, ol (.ptr 5 0)), (15, ol (.sl (.int .i64) false y2)), (16, oi ((y2.length : Nat) : Int)), (17, oi v1)], [(2, .cells [.int .i64 a0.Nodes, .sl (.nm 1) false a0.Arms]), (5, .cells [.int .i64 y1.C, .ar 1013 0]), (1013, .rows 48 53 (.nm 4) v3 0 0 .opn), (1000001, .arr 53 (.nm 4) v2 0 false)]⟩
noncomputable def w20S (a0 : ApiGrid) (a1 : (List NumQ)) : Ab.St yaE := ⟨53, [(0, og (yaToApiGrid a0)), (1, ol (.ar 1000001 0))], [(1000001, .arr 53 (.nm 4) a1 0 false)]⟩
theorem w20J1_w (G : Good w20V P) {y : (List NumQ)} {o} {r} {a0} {v1} {v4} {v5} {y1} {y2} (E : Ends w20V C F Try.f20.results.toList [] [(.sl (.nm 4))] (y, ())) (h : libSolvedJ1 a0 v1 v4 v5 y1 y2 = some o)
    (hl : ∀ v', o = .inl v' → Goes w20V P C F w20P1 (w20L1S a0 y1 y2 v'.1 v'.2.1 v'.2.2)) (hr : ∀ r', o = .inr r' → r' = r)
    (K1 : ∀ r1, r = r1 → Goes w20V P C F w20P3 (⟨53, [(1, ol (.ar 1000001 0)), (5, ol (.ptr 5 0))], [(5, .cells [.int .i64 y1.C, .ar 1013 0]), (1013, .rows 48 53 (.nm 4) r1.2 0 0 .opn), (1000001, .arr 53 (.nm 4) r1.1 0 false)]⟩ : Ab.St yaE)) : Goes w20V P C F w20P2 (w20J1S a0 v1 v4 v5 y1 y2) := by
  unfold libSolvedJ1 at h
  exact sg G [.reg [], .enter, .weak [.keep [1, 2, 5, 15, 16, 17] [2, 5, 1013, 1000001]]] tt (hl _ (si h))
theorem w20L1_w (G : Good w20V P) {y : (List NumQ)} {o} {r} {a0} {y1} {y2} {v1} {v2} {v3} (E : Ends w20V C F Try.f20.results.toList [] [(.sl (.nm 4))] (y, ())) (h : libSolvedL1 a0 y1 y2 v1 v2 v3 = some o)
    (hl : ∀ v', o = .inl v' → Goes w20V P C F w20P1 (w20L1S a0 y1 y2 v'.1 v'.2.1 v'.2.2)) (hr : ∀ r', o = .inr r' → r' = r)
    (K1 : ∀ r1, r = r1 → Goes w20V P C F w20P3 (⟨53, [(1, ol (.ar 1000001 0)), (5, ol (.ptr 5 0))], [(5, .cells [.int .i64 y1.C, .ar 1013 0]), (1013, .rows 48 53 (.nm 4) r1.2 0 0 .opn), (1000001, .arr 53 (.nm 4) r1.1 0 false)]⟩ : Ab.St yaE)) : Goes w20V P C F w20P1 (w20L1S a0 y1 y2 v1 v2 v3) := by
  unfold libSolvedL1 at h
  rcases ite_some h with ⟨b1, h⟩ | ⟨b1, h⟩
  · obtain ⟨c3, h⟩ := need_some h
    rcases ite_some h with ⟨b2, h⟩ | ⟨b2, h⟩
    · obtain ⟨y3, c4, h⟩ := bind_some h
      obtain ⟨c5, h⟩ := need_some h
      obtain ⟨y4, c6, h⟩ := bind_some h
      obtain ⟨c7, h⟩ := need_some h
      obtain ⟨y5, c8, h⟩ := bind_some h
      obtain ⟨c9, h⟩ := need_some h
      obtain ⟨c10, h⟩ := need_some h
      exact sg G [.reg [], .br true, .reg [], .reg [], .br true, .reg [(2, .res ⟨[(.nm 5)], (y3, ())⟩)], .reg [(2, .res ⟨[(.nm 4)], (y4, ())⟩)], .reg [(6, .res ⟨[(.nm 4)], (y5, ())⟩)], .auto, .weak [.re 1013 1013 0, .keep [1, 2, 5, 15, 16, 17] [2, 5, 1013, 1000001]]] (aa b1 <| aa c3 <| aa b2 <| aa (ca c4) <| aa c5 <| aa (ca c6) <| aa c7 <| aa (ca c8) <| aa c9 <| aa c10 <| tt) (w20J1_w G E h hl hr K1)
    · exact sg G [.reg [], .br true, .reg [], .reg [], .br false, .auto, .weak [.keep [1, 2, 5, 15, 16, 17] [2, 5, 1013, 1000001]]] (aa b1 <| aa c3 <| aa b2 <| tt) (w20J1_w G E h hl hr K1)
  · exact sg G [.reg [], .br false, .auto, .weak [.keep [1, 5] [5, 1013, 1000001]]] (aa b1 <| tt) (K1 _ (hr _ (si h)).symm)
theorem w20_w (G : Good w20V P) {y : (List NumQ)} {a0} {a1} (E : Ends w20V C F Try.f20.results.toList [] [(.sl (.nm 4))] (y, ())) (h : libSolved a0 a1 = some y) : Goes w20V P C F w20P0 (w20S a0 a1) := by
  unfold libSolved at h
  obtain ⟨y1, c1, h⟩ := bind_some h
  obtain ⟨y2, c2, h⟩ := bind_some h
  obtain ⟨r1, hi, h⟩ := bind_some h
  have K1 : ∀ q, r1 = q → Goes w20V P C F w20P3 (⟨53, [(1, ol (.ar 1000001 0)), (5, ol (.ptr 5 0))], [(5, .cells [.int .i64 y1.C, .ar 1013 0]), (1013, .rows 48 53 (.nm 4) q.2 0 0 .opn), (1000001, .arr 53 (.nm 4) q.1 0 false)]⟩ : Ab.St yaE) := by
    rintro q rfl
    obtain ⟨y6, c11, h⟩ := bind_some h
    have e := sj h; subst e
    exact se G E [.reg [(2, .res ⟨[(.sl (.nm 4)), (.sl (.sl (.nm 4))), .bool], (y6.1, y6.2.1, y6.2.2, ())⟩)], .reg [], .auto] (aa (congrArg (Option.map (fun r => (r.1, r.2.1, r.2.2, ()))) c11) <| tt)
  exact sg G [.reg [], .reg [(1, .res ⟨[(.nm 5)], (y1, ())⟩)], .reg [(1, .res ⟨[(.sl (.int .i64))], (y2, ())⟩)], .enter, .weak [.keep [1, 2, 5, 15, 16, 17] [2, 5, 1013, 1000001]]] (aa (ca c1) <| aa (ca c2) <| tt) (loop_goes (V := w20V) (F := F) (k := w20P1) (S := fun v => w20L1S a0 y1 y2 v.1 v.2.1 v.2.2) (fun v o h hl hr => w20L1_w G E h hl hr K1) _ hi)
noncomputable def w20FS : FS yaE := ⟨[(.nm 2), (.sl (.nm 4))], [(.sl (.nm 4))], [0, 53], [], fun x => Option.map (fun r => (r, ())) (libSolved x.1 x.2.1)⟩
theorem w20Meets : MT 20 w20FS := show Meets w20V _ _ _ from mt (fn := Try.f20) (S := fun x => w20S x.1 x.2.1) (GB ⟨w16Meets, w17Meets, w22Meets, w49Meets, w50Meets, trivial⟩ trivial) fun G _ _ _ _ E h => w20_w G E h
noncomputable abbrev w80V : Env := EV [] [] false
noncomputable def w80P0 : List Item := [.code (Try.f80.body.getD .skip)]
noncomputable def w80P1 : List Item := ctl [.reg, .reg, .br true, .auto] w80P0
noncomputable def w80J1S : Ab.St yaE := ⟨24, [], []⟩
noncomputable def w80S (a0 : NumZ) (a1 : Int) : Ab.St yaE := ⟨24, [(0, og (yaToNumZ a0)), (1, oi a1)], []⟩
theorem w80J1_w (G : Good w80V P) {y : (Int × Bool)} (E : Ends w80V C F Try.f80.results.toList [] [(.int .i64), .bool] (y.1, y.2, ())) (h : numZIntJ1 = some y) : Goes w80V P C F w80P1 (w80J1S) := by
  unfold numZIntJ1 at h
  have e := sj h; subst e
  exact se G E [.reg [], .auto] tt
theorem w80_w (G : Good w80V P) {y : (Int × Bool)} {a0} {a1} (E : Ends w80V C F Try.f80.results.toList [] [(.int .i64), .bool] (y.1, y.2, ())) (h : numZInt a0 a1 = some y) : Goes w80V P C F w80P0 (w80S a0 a1) := by
  unfold numZInt at h
  rcases ite_some h with ⟨b1, h⟩ | ⟨b1, h⟩
  · exact sg G [.reg [], .reg [(3, .bit true), (8, .bit true), (9, .bit true), (15, .bit true)], .br true, .auto, .weak [.keep [] []]] (aa b1 <| aa b1 <| aa b1 <| aa b1 <| aa b1 <| aa (show true = true from rfl) <| aa (show true = true from rfl) <| aa (show true = true from rfl) <| aa (show true = true from rfl) <| aa (show true = true from rfl) <| aa (show true = true from rfl) <| aa (show true = true from rfl) <| tt) (w80J1_w G E h)
  · rcases ite_some h with ⟨b2, h⟩ | ⟨b2, h⟩
    · exact sg G [.reg [], .reg [(3, .bit false), (8, .bit false), (9, .bit true), (15, .bit true)], .br true, .auto, .weak [.keep [] []]] (aa b1 <| aa b1 <| aa b1 <| aa b1 <| aa b1 <| aa b2 <| aa b2 <| aa b2 <| aa b2 <| aa b2 <| aa b2 <| aa (show true = true from rfl) <| tt) (w80J1_w G E h)
    · rcases ite_some h with ⟨b3, h⟩ | ⟨b3, h⟩
      · exact sg G [.reg [], .reg [(3, .bit false), (8, .bit false), (9, .bit false), (15, .bit false)], .br true, .auto, .weak [.keep [] []]] (aa b1 <| aa b1 <| aa b1 <| aa b1 <| aa b1 <| aa b2 <| aa b2 <| aa b2 <| aa b2 <| aa b2 <| aa b2 <| aa b3 <| tt) (w80J1_w G E h)
      · have e := sj h; subst e
        exact se G E [.reg [], .reg [(3, .bit false), (8, .bit false), (9, .bit false), (15, .bit false)], .br false, .reg [], .auto] (aa b1 <| aa b1 <| aa b1 <| aa b1 <| aa b1 <| aa b2 <| aa b2 <| aa b2 <| aa b2 <| aa b2 <| aa b2 <| aa b3 <| tt)
noncomputable def w80FS : FS yaE := ⟨[(.nm 3), (.int .i64)], [(.int .i64), .bool], [], [], fun x => Option.map (fun r => (r.1, r.2, ())) (numZInt x.1 x.2.1)⟩
theorem w80Meets : MT 80 w80FS := show Meets w80V _ _ _ from mt (fn := Try.f80) (S := fun x => w80S x.1 x.2.1) (GB trivial trivial) fun G _ _ _ _ E h => w80_w G E h
noncomputable abbrev w51V : Env := EV [(80, w80FS)] [] false
noncomputable def w51P0 : List Item := [.code (Try.f51.body.getD .skip)]
noncomputable def w51P1 : List Item := ctl [.reg, .reg, .reg, .reg, .br true, .auto] w51P0
noncomputable def w51J1S : Ab.St yaE := ⟨30, [(2, ol (.ptr 2 0))], [(2, .cells [.int .i64 (0 : Int), .int .i64 (0 : Int)])]⟩
noncomputable def w51S (a0 : NumQ) : Ab.St yaE := ⟨30, [(0, og (yaToNumQ a0))], []⟩
theorem w51J1_w (G : Good w51V P) {y : (ApiRat × Bool)} (E : Ends w51V C F Try.f51.results.toList [] [(.nm 0), .bool] (y.1, y.2, ())) (h : numQOutJ1 = some y) : Goes w51V P C F w51P1 (w51J1S) := by
  unfold numQOutJ1 at h
  have e := sj h; subst e
  exact se G E [.reg [], .auto] tt
theorem w51_w (G : Good w51V P) {y : (ApiRat × Bool)} {a0} (E : Ends w51V C F Try.f51.results.toList [] [(.nm 0), .bool] (y.1, y.2, ())) (h : numQOut a0 = some y) : Goes w51V P C F w51P0 (w51S a0) := by
  unfold numQOut at h
  obtain ⟨y1, c1, h⟩ := bind_some h
  obtain ⟨y2, c2, h⟩ := bind_some h
  rcases ite_some h with ⟨b1, h⟩ | ⟨b1, h⟩
  · exact sg G [.reg [], .reg [(2, .res ⟨[(.int .i64), .bool], (y1.1, y1.2, ())⟩)], .reg [(2, .res ⟨[(.int .i64), .bool], (y2.1, y2.2, ())⟩)], .reg [(2, .bit true), (5, .bit true)], .br true, .auto, .weak [.keep [2] [2]]] (aa (cb c1) <| aa (cb c2) <| aa b1 <| aa b1 <| aa b1 <| aa (show true = true from rfl) <| tt) (w51J1_w G E h)
  · rcases ite_some h with ⟨b2, h⟩ | ⟨b2, h⟩
    · exact sg G [.reg [], .reg [(2, .res ⟨[(.int .i64), .bool], (y1.1, y1.2, ())⟩)], .reg [(2, .res ⟨[(.int .i64), .bool], (y2.1, y2.2, ())⟩)], .reg [(2, .bit false), (5, .bit false)], .br true, .auto, .weak [.keep [2] [2]]] (aa (cb c1) <| aa (cb c2) <| aa b1 <| aa b1 <| aa b1 <| aa b2 <| tt) (w51J1_w G E h)
    · have e := sj h; subst e
      exact se G E [.reg [], .reg [(2, .res ⟨[(.int .i64), .bool], (y1.1, y1.2, ())⟩)], .reg [(2, .res ⟨[(.int .i64), .bool], (y2.1, y2.2, ())⟩)], .reg [(2, .bit false), (5, .bit false)], .br false, .reg [], .auto] (aa (cb c1) <| aa (cb c2) <| aa b1 <| aa b1 <| aa b1 <| aa b2 <| tt)
noncomputable def w51FS : FS yaE := ⟨[(.nm 4)], [(.nm 0), .bool], [], [], fun x => Option.map (fun r => (r.1, r.2, ())) (numQOut x.1)⟩
theorem w51Meets : MT 51 w51FS := show Meets w51V _ _ _ from mt (fn := Try.f51) (S := fun x => w51S x.1) (GB ⟨w80Meets, trivial⟩ trivial) fun G _ _ _ _ E h => w51_w G E h
noncomputable abbrev w21V : Env := EV [(51, w51FS)] [] false
noncomputable def w21P0 : List Item := [.code (Try.f21.body.getD .skip)]
noncomputable def w21S (a0 : NumQ) : Ab.St yaE := ⟨15, [(0, og (yaToNumQ a0))], []⟩
theorem w21_w (G : Good w21V P) {y : (ApiRat × Int)} {a0} (E : Ends w21V C F Try.f21.results.toList [] [(.nm 0), (.int .i64)] (y.1, y.2, ())) (h : libNumber a0 = some y) : Goes w21V P C F w21P0 (w21S a0) := by
  unfold libNumber at h
  obtain ⟨y1, c1, h⟩ := bind_some h
  rcases ite_some h with ⟨b1, h⟩ | ⟨b1, h⟩
  · have e := sj h; subst e
    exact se G E [.reg [], .reg [(1, .res ⟨[(.nm 0), .bool], (y1.1, y1.2, ())⟩)], .reg [], .br true, .reg [], .auto] (aa (cb c1) <| aa b1 <| tt)
  · have e := sj h; subst e
    exact se G E [.reg [], .reg [(1, .res ⟨[(.nm 0), .bool], (y1.1, y1.2, ())⟩)], .reg [], .br false, .reg [], .auto] (aa (cb c1) <| aa b1 <| tt)
noncomputable def w21FS : FS yaE := ⟨[(.nm 4)], [(.nm 0), (.int .i64)], [], [], fun x => Option.map (fun r => (r.1, r.2, ())) (libNumber x.1)⟩
theorem w21Meets : MT 21 w21FS := show Meets w21V _ _ _ from mt (fn := Try.f21) (S := fun x => w21S x.1) (GB ⟨w51Meets, trivial⟩ trivial) fun G _ _ _ _ E h => w21_w G E h
noncomputable abbrev w6V : Env := EV [(15, w15FS), (16, w16FS), (17, w17FS), (18, w18FS), (19, w19FS), (20, w20FS), (21, w21FS)] [] false
noncomputable def w6P0 : List Item := [.code (Try.f6.body.getD .skip)]
noncomputable def w6P1 : List Item := ctl [.reg, .reg, .reg, .br false, .reg, .br true, .auto] w6P0
noncomputable def w6P2 : List Item := ctl [.reg, .reg, .reg, .br false, .reg, .br false, .reg, .reg, .br false, .reg, .reg, .enter] w6P0
noncomputable def w6P3 : List Item := ctl [.reg, .br false, .auto] w6P2
noncomputable def w6J1S : Ab.St yaE := ⟨96, [(6, ol (.ptr 6 0))], [(6, .cells [.int .i64 (0 : Int), .int .i64 (0 : Int)])]⟩
noncomputable def w6L1S (a0 : ApiGrid) (a1 : Int) (a2 : Int) (v1 : Int) (v2 : Int) (v3 : (List NumQ)) : Ab.St yaE := ⟨96, [(1, oi a1), (2, oi a2), (3, ol (.ptr 3 0)), (6, ol (.ptr 6 0)), (10, ol (.ar 52 0)), (54, oi v1), (55, oi v2)], [(3, .cells [.int .i64 a0.Nodes, .sl (.nm 1) false a0.Arms]), (6, .cells [.int .i64 (0 : Int), .int .i64 (0 : Int)]), (52, .arr 53 (.nm 4) v3 0 false)]⟩
noncomputable def w6S (a0 : ApiGrid) (a1 : Int) (a2 : Int) : Ab.St yaE := ⟨96, [(0, og (yaToApiGrid a0)), (1, oi a1), (2, oi a2)], []⟩
theorem w6J1_w (G : Good w6V P) {y : (ApiRat × Int)} (E : Ends w6V C F Try.f6.results.toList [] [(.nm 0), (.int .i64)] (y.1, y.2, ())) (h : libBetweenJ1 = some y) : Goes w6V P C F w6P1 (w6J1S) := by
  unfold libBetweenJ1 at h
  have e := sj h; subst e
  exact se G E [.reg [], .auto] tt
theorem w6L1_w (G : Good w6V P) {y : (ApiRat × Int)} {o} {r} {a0} {a1} {a2} {v1} {v2} {v3} (E : Ends w6V C F Try.f6.results.toList [] [(.nm 0), (.int .i64)] (y.1, y.2, ())) (h : libBetweenL1 a0 a1 a2 v1 v2 v3 = some o)
    (hl : ∀ v', o = .inl v' → Goes w6V P C F w6P2 (w6L1S a0 a1 a2 v'.1 v'.2.1 v'.2.2)) (hr : ∀ r', o = .inr r' → r' = r)
    (K1 : ∀ r1, r = r1 → Goes w6V P C F w6P3 (⟨96, [(1, oi a1), (2, oi a2), (3, ol (.ptr 3 0)), (6, ol (.ptr 6 0)), (10, ol (.ar 52 0))], [(3, .cells [.int .i64 a0.Nodes, .sl (.nm 1) false a0.Arms]), (6, .cells [.int .i64 (0 : Int), .int .i64 (0 : Int)]), (52, .arr 53 (.nm 4) r1 0 false)]⟩ : Ab.St yaE)) : Goes w6V P C F w6P2 (w6L1S a0 a1 a2 v1 v2 v3) := by
  unfold libBetweenL1 at h
  rcases ite_some h with ⟨b7, h⟩ | ⟨b7, h⟩
  · obtain ⟨y3, c8, h⟩ := bind_some h
    obtain ⟨c9, h⟩ := need_some h
    exact sg G [.reg [], .br true, .reg [], .reg [(2, .res ⟨[(.nm 4)], (y3, ())⟩)], .reg [], .enter, .weak [.keep [1, 2, 3, 6, 10, 54, 55] [3, 6, 52]]] (aa b7 <| aa (ca c8) <| aa c9 <| tt) (hl _ (si h))
  · exact sg G [.reg [], .br false, .auto, .weak [.keep [1, 2, 3, 6, 10] [3, 6, 52]]] (aa b7 <| tt) (K1 _ (hr _ (si h)).symm)
theorem w6_w (G : Good w6V P) {y : (ApiRat × Int)} {a0} {a1} {a2} (E : Ends w6V C F Try.f6.results.toList [] [(.nm 0), (.int .i64)] (y.1, y.2, ())) (h : libBetween a0 a1 a2 = some y) : Goes w6V P C F w6P0 (w6S a0 a1 a2) := by
  unfold libBetween at h
  obtain ⟨y1, c1, h⟩ := bind_some h
  rcases ite_some h with ⟨b1, h⟩ | ⟨b1, h⟩
  · have e := sj h; subst e
    exact se G E [.reg [], .reg [(1, .res ⟨[(.int .i64)], (y1, ())⟩)], .reg [], .br true, .reg [], .auto] (aa (ca c1) <| aa b1 <| tt)
  · rcases ite_some h with ⟨b2, h⟩ | ⟨b2, h⟩
    · exact sg G [.reg [], .reg [(1, .res ⟨[(.int .i64)], (y1, ())⟩)], .reg [], .br false, .reg [(2, .bit true), (7, .bit true), (8, .bit true), (11, .bit true), (12, .bit true), (17, .bit true)], .br true, .auto, .weak [.keep [6] [6]]] (aa (ca c1) <| aa b1 <| aa b2 <| aa b2 <| aa b2 <| aa b2 <| aa b2 <| aa (show true = true from rfl) <| aa (show true = true from rfl) <| aa (show true = true from rfl) <| aa (show true = true from rfl) <| aa (show true = true from rfl) <| aa (show true = true from rfl) <| aa (show true = true from rfl) <| aa (show true = true from rfl) <| aa (show true = true from rfl) <| tt) (w6J1_w G E h)
    · rcases ite_some h with ⟨b3, h⟩ | ⟨b3, h⟩
      · exact sg G [.reg [], .reg [(1, .res ⟨[(.int .i64)], (y1, ())⟩)], .reg [], .br false, .reg [(2, .bit false), (7, .bit false), (8, .bit true), (11, .bit true), (12, .bit true), (17, .bit true)], .br true, .auto, .weak [.keep [6] [6]]] (aa (ca c1) <| aa b1 <| aa b2 <| aa b2 <| aa b2 <| aa b2 <| aa b2 <| aa b3 <| aa b3 <| aa b3 <| aa (show true = true from rfl) <| aa (show true = true from rfl) <| aa (show true = true from rfl) <| aa (show true = true from rfl) <| aa (show true = true from rfl) <| aa (show true = true from rfl) <| tt) (w6J1_w G E h)
      · rcases ite_some h with ⟨b4, h⟩ | ⟨b4, h⟩
        · exact sg G [.reg [], .reg [(1, .res ⟨[(.int .i64)], (y1, ())⟩)], .reg [], .br false, .reg [(2, .bit false), (7, .bit false), (8, .bit false), (11, .bit false), (12, .bit true), (17, .bit true)], .br true, .auto, .weak [.keep [6] [6]]] (aa (ca c1) <| aa b1 <| aa b2 <| aa b2 <| aa b2 <| aa b2 <| aa b2 <| aa b3 <| aa b3 <| aa b3 <| aa b4 <| aa b4 <| aa b4 <| aa b4 <| aa b4 <| aa (show true = true from rfl) <| tt) (w6J1_w G E h)
        · rcases ite_some h with ⟨b5, h⟩ | ⟨b5, h⟩
          · exact sg G [.reg [], .reg [(1, .res ⟨[(.int .i64)], (y1, ())⟩)], .reg [], .br false, .reg [(2, .bit false), (7, .bit false), (8, .bit false), (11, .bit false), (12, .bit false), (17, .bit false)], .br true, .auto, .weak [.keep [6] [6]]] (aa (ca c1) <| aa b1 <| aa b2 <| aa b2 <| aa b2 <| aa b2 <| aa b2 <| aa b3 <| aa b3 <| aa b3 <| aa b4 <| aa b4 <| aa b4 <| aa b4 <| aa b4 <| aa b5 <| tt) (w6J1_w G E h)
          · obtain ⟨y2, c2, h⟩ := bind_some h
            obtain ⟨c3, h⟩ := need_some h
            obtain ⟨c4, h⟩ := need_some h
            rcases ite_some h with ⟨b6, h⟩ | ⟨b6, h⟩
            · have e := sj h; subst e
              exact se G E [.reg [], .reg [(1, .res ⟨[(.int .i64)], (y1, ())⟩)], .reg [], .br false, .reg [(2, .bit false), (7, .bit false), (8, .bit false), (11, .bit false), (12, .bit false), (17, .bit false)], .br false, .reg [(1, .res ⟨[(.sl (.int .i64))], (y2, ())⟩)], .reg [], .br true, .reg [], .auto] (aa (ca c1) <| aa b1 <| aa b2 <| aa b2 <| aa b2 <| aa b2 <| aa b2 <| aa b3 <| aa b3 <| aa b3 <| aa b4 <| aa b4 <| aa b4 <| aa b4 <| aa b4 <| aa b5 <| aa (ca c2) <| aa c3 <| aa c4 <| aa b6 <| tt)
            · obtain ⟨c5, h⟩ := need_some h
              obtain ⟨c6, h⟩ := need_some h
              obtain ⟨c7, h⟩ := need_some h
              obtain ⟨r1, hi, h⟩ := bind_some h
              have K1 : ∀ q, r1 = q → Goes w6V P C F w6P3 (⟨96, [(1, oi a1), (2, oi a2), (3, ol (.ptr 3 0)), (6, ol (.ptr 6 0)), (10, ol (.ar 52 0))], [(3, .cells [.int .i64 a0.Nodes, .sl (.nm 1) false a0.Arms]), (6, .cells [.int .i64 (0 : Int), .int .i64 (0 : Int)]), (52, .arr 53 (.nm 4) q 0 false)]⟩ : Ab.St yaE) := by
                rintro q rfl
                obtain ⟨c10, h⟩ := need_some h
                obtain ⟨y4, c11, h⟩ := bind_some h
                obtain ⟨y5, c12, h⟩ := bind_some h
                obtain ⟨c13, h⟩ := need_some h
                obtain ⟨c14, h⟩ := need_some h
                obtain ⟨y6, c15, h⟩ := bind_some h
                obtain ⟨y7, c16, h⟩ := bind_some h
                obtain ⟨c17, h⟩ := need_some h
                obtain ⟨y8, c18, h⟩ := bind_some h
                obtain ⟨c19, h⟩ := need_some h
                obtain ⟨c20, h⟩ := need_some h
                obtain ⟨y9, c21, h⟩ := bind_some h
                obtain ⟨y10, c22, h⟩ := bind_some h
                have e := sj h; subst e
                exact se G E [.reg [(6, .res ⟨[(.nm 4)], (y4, ())⟩), (7, .res ⟨[(.nm 4)], (y5, ())⟩)], .reg [(6, .res ⟨[(.nm 4)], (y6, ())⟩), (7, .res ⟨[(.nm 4)], (y7, ())⟩)], .reg [(2, .res ⟨[(.sl (.nm 4))], (y8, ())⟩)], .reg [(8, .res ⟨[(.nm 4)], (y9, ())⟩), (9, .res ⟨[(.nm 0), (.int .i64)], (y10.1, y10.2, ())⟩)], .auto] (aa c10 <| aa (ca c11) <| aa (ca c12) <| aa c13 <| aa c14 <| aa (ca c15) <| aa (ca c16) <| aa c17 <| aa (ca c18) <| aa c19 <| aa c20 <| aa (ca c21) <| aa (cb c22) <| tt)
              exact sg G [.reg [], .reg [(1, .res ⟨[(.int .i64)], (y1, ())⟩)], .reg [], .br false, .reg [(2, .bit false), (7, .bit false), (8, .bit false), (11, .bit false), (12, .bit false), (17, .bit false)], .br false, .reg [(1, .res ⟨[(.sl (.int .i64))], (y2, ())⟩)], .reg [], .br false, .reg [], .reg [], .enter, .weak [.keep [1, 2, 3, 6, 10, 54, 55] [3, 6, 52]]] (aa (ca c1) <| aa b1 <| aa b2 <| aa b2 <| aa b2 <| aa b2 <| aa b2 <| aa b3 <| aa b3 <| aa b3 <| aa b4 <| aa b4 <| aa b4 <| aa b4 <| aa b4 <| aa b5 <| aa (ca c2) <| aa c3 <| aa c4 <| aa b6 <| aa c5 <| aa c6 <| aa c7 <| tt) (loop_goes (V := w6V) (F := F) (k := w6P2) (S := fun v => w6L1S a0 a1 a2 v.1 v.2.1 v.2.2) (fun v o h hl hr => w6L1_w G E h hl hr K1) _ hi)
noncomputable def w6FS : FS yaE := ⟨[(.nm 2), (.int .i64), (.int .i64)], [(.nm 0), (.int .i64)], [], [], fun x => Option.map (fun r => (r.1, r.2, ())) (libBetween x.1 x.2.1 x.2.2.1)⟩
theorem w6Meets : MT 6 w6FS := show Meets w6V _ _ _ from mt (fn := Try.f6) (S := fun x => w6S x.1 x.2.1 x.2.2.1) (GB ⟨w15Meets, w16Meets, w17Meets, w18Meets, w19Meets, w20Meets, w21Meets, trivial⟩ trivial) fun G _ _ _ _ E h => w6_w G E h
noncomputable abbrev w23V : Env := EV [(17, w17FS), (52, w52FS)] [] false
noncomputable def w23P0 : List Item := [.code (Try.f23.body.getD .skip)]
noncomputable def w23S (a0 : QmM) : Ab.St yaE := ⟨22, [(0, og (yaToQmM a0))], []⟩
theorem w23_w (G : Good w23V P) {y : NumQ} {a0} (E : Ends w23V C F Try.f23.results.toList [] [(.nm 4)] (y, ())) (h : qmMDet a0 = some y) : Goes w23V P C F w23P0 (w23S a0) := by
  unfold qmMDet at h
  obtain ⟨y1, c1, h⟩ := bind_some h
  rcases ite_some h with ⟨b1, h⟩ | ⟨b1, h⟩
  · obtain ⟨y2, c2, h⟩ := bind_some h
    have e := sj h; subst e
    exact se G E [.reg [], .reg [(3, .res ⟨[(.nm 5), (.sl (.int .i64)), (.nm 4)], (y1.1, y1.2.1, y1.2.2, ())⟩)], .reg [], .br true, .reg [(0, .res ⟨[(.nm 4)], (y2, ())⟩)], .auto] (aa (congrArg (Option.map (fun r => (r.1, r.2.1, r.2.2, ()))) c1) <| aa b1 <| aa (ca c2) <| tt)
  · have e := sj h; subst e
    exact se G E [.reg [], .reg [(3, .res ⟨[(.nm 5), (.sl (.int .i64)), (.nm 4)], (y1.1, y1.2.1, y1.2.2, ())⟩)], .reg [], .br false, .reg [], .auto] (aa (congrArg (Option.map (fun r => (r.1, r.2.1, r.2.2, ()))) c1) <| aa b1 <| tt)
noncomputable def w23FS : FS yaE := ⟨[(.nm 5)], [(.nm 4)], [], [], fun x => Option.map (fun r => (r, ())) (qmMDet x.1)⟩
theorem w23Meets : MT 23 w23FS := show Meets w23V _ _ _ from mt (fn := Try.f23) (S := fun x => w23S x.1) (GB ⟨w17Meets, w52Meets, trivial⟩ trivial) fun G _ _ _ _ E h => w23_w G E h
noncomputable abbrev w7V : Env := EV [(15, w15FS), (21, w21FS), (22, w22FS), (23, w23FS)] [] false
noncomputable def w7P0 : List Item := [.code (Try.f7.body.getD .skip)]
noncomputable def w7P1 : List Item := ctl [.reg, .reg, .reg, .br false, .reg, .reg, .reg, .enter] w7P0
noncomputable def w7P2 : List Item := ctl [.reg, .br false, .auto] w7P1
noncomputable def w7L1S (a0 : ApiGrid) (v1 : (List (List NumQ))) (v2 : Int) (v3 : Int) (v4 : (List (List NumQ))) : Ab.St yaE := ⟨42, [(2, ol (.ptr 2 0)), (6, ol (.ptr 6 0)), (23, ol (.sl (.sl (.nm 4)) false v1)), (24, oi v2), (25, oi v3)], [(2, .cells [.int .i64 (0 : Int), .int .i64 (0 : Int)]), (6, .cells [.int .i64 (IntKind.wrap .i64 (a0.Nodes - (1 : Int))), .ar 34 0]), (34, .arr 48 (.sl (.nm 4)) v4 0 false)]⟩
noncomputable def w7S (a0 : ApiGrid) : Ab.St yaE := ⟨42, [(0, og (yaToApiGrid a0))], []⟩
theorem w7L1_w (G : Good w7V P) {y : (ApiRat × Int)} {o} {r} {a0} {v1} {v2} {v3} {v4} (E : Ends w7V C F Try.f7.results.toList [] [(.nm 0), (.int .i64)] (y.1, y.2, ())) (h : libTreesL1 a0 v1 v2 v3 v4 = some o)
    (hl : ∀ v', o = .inl v' → Goes w7V P C F w7P1 (w7L1S a0 v'.1 v'.2.1 v'.2.2.1 v'.2.2.2)) (hr : ∀ r', o = .inr r' → r' = r)
    (K1 : ∀ r1, r = r1 → Goes w7V P C F w7P2 (⟨42, [(2, ol (.ptr 2 0)), (6, ol (.ptr 6 0))], [(2, .cells [.int .i64 (0 : Int), .int .i64 (0 : Int)]), (6, .cells [.int .i64 (IntKind.wrap .i64 (a0.Nodes - (1 : Int))), .ar 34 0]), (34, .arr 48 (.sl (.nm 4)) r1 0 false)]⟩ : Ab.St yaE)) : Goes w7V P C F w7P1 (w7L1S a0 v1 v2 v3 v4) := by
  unfold libTreesL1 at h
  rcases ite_some h with ⟨b2, h⟩ | ⟨b2, h⟩
  · obtain ⟨c6, h⟩ := need_some h
    obtain ⟨c7, h⟩ := need_some h
    obtain ⟨c8, h⟩ := need_some h
    obtain ⟨c9, h⟩ := need_some h
    obtain ⟨c10, h⟩ := need_some h
    exact sg G [.reg [], .br true, .reg [], .reg [], .reg [], .enter, .weak [.re 34 34 0, .keep [2, 6, 23, 24, 25] [2, 6, 34]]] (aa b2 <| aa c6 <| aa c7 <| aa c8 <| aa c9 <| aa c10 <| tt) (hl _ (si h))
  · exact sg G [.reg [], .br false, .auto, .weak [.keep [2, 6] [2, 6, 34]]] (aa b2 <| tt) (K1 _ (hr _ (si h)).symm)
theorem w7_w (G : Good w7V P) {y : (ApiRat × Int)} {a0} (E : Ends w7V C F Try.f7.results.toList [] [(.nm 0), (.int .i64)] (y.1, y.2, ())) (h : libTrees a0 = some y) : Goes w7V P C F w7P0 (w7S a0) := by
  unfold libTrees at h
  obtain ⟨y1, c1, h⟩ := bind_some h
  rcases ite_some h with ⟨b1, h⟩ | ⟨b1, h⟩
  · have e := sj h; subst e
    exact se G E [.reg [], .reg [(1, .res ⟨[(.int .i64)], (y1, ())⟩)], .reg [], .br true, .reg [], .auto] (aa (ca c1) <| aa b1 <| tt)
  · obtain ⟨y2, c2, h⟩ := bind_some h
    obtain ⟨c3, h⟩ := need_some h
    obtain ⟨c4, h⟩ := need_some h
    obtain ⟨c5, h⟩ := need_some h
    obtain ⟨r1, hi, h⟩ := bind_some h
    have K1 : ∀ q, r1 = q → Goes w7V P C F w7P2 (⟨42, [(2, ol (.ptr 2 0)), (6, ol (.ptr 6 0))], [(2, .cells [.int .i64 (0 : Int), .int .i64 (0 : Int)]), (6, .cells [.int .i64 (IntKind.wrap .i64 (a0.Nodes - (1 : Int))), .ar 34 0]), (34, .arr 48 (.sl (.nm 4)) q 0 false)]⟩ : Ab.St yaE) := by
      rintro q rfl
      obtain ⟨y3, c11, h⟩ := bind_some h
      obtain ⟨y4, c12, h⟩ := bind_some h
      have e := sj h; subst e
      exact se G E [.reg [(1, .res ⟨[(.nm 4)], (y3, ())⟩), (2, .res ⟨[(.nm 0), (.int .i64)], (y4.1, y4.2, ())⟩)], .auto] (aa (ca c11) <| aa (cb c12) <| tt)
    exact sg G [.reg [], .reg [(1, .res ⟨[(.int .i64)], (y1, ())⟩)], .reg [], .br false, .reg [(1, .res ⟨[(.nm 5)], (y2, ())⟩)], .reg [], .weak [.fix (.slot 16)], .weak [.fix (.cell 5)], .reg [], .enter, .weak [.own (.cell 6) 1 34 48 0, .keep [2, 6, 23, 24, 25] [2, 6, 34]]] (aa (ca c1) <| aa b1 <| aa (ca c2) <| aa c3 <| aa c4 <| aa c5 <| tt) (loop_goes (V := w7V) (F := F) (k := w7P1) (S := fun v => w7L1S a0 v.1 v.2.1 v.2.2.1 v.2.2.2) (fun v o h hl hr => w7L1_w G E h hl hr K1) _ hi)
noncomputable def w7FS : FS yaE := ⟨[(.nm 2)], [(.nm 0), (.int .i64)], [], [], fun x => Option.map (fun r => (r.1, r.2, ())) (libTrees x.1)⟩
theorem w7Meets : MT 7 w7FS := show Meets w7V _ _ _ from mt (fn := Try.f7) (S := fun x => w7S x.1) (GB ⟨w15Meets, w21Meets, w22Meets, w23Meets, trivial⟩ trivial) fun G _ _ _ _ E h => w7_w G E h
noncomputable abbrev w12V : Env := EV [] [] false
noncomputable def w12P0 : List Item := [.code (Try.f12.body.getD .skip)]
noncomputable def w12S (a0 : Int) : Ab.St yaE := ⟨5, [(0, oi a0)], []⟩
theorem w12_w (G : Good w12V P) {y : ApiRat} {a0} (E : Ends w12V C F Try.f12.results.toList [] [(.nm 0)] (y, ())) (h : isoclinelaw32Known_1 a0 = some y) : Goes w12V P C F w12P0 (w12S a0) := by
  unfold isoclinelaw32Known_1 at h
  have e := sj h; subst e
  exact se G E [.reg [], .reg [], .auto] tt
noncomputable def w12FS : FS yaE := ⟨[(.int .i64)], [(.nm 0)], [], [], fun x => Option.map (fun r => (r, ())) (isoclinelaw32Known_1 x.1)⟩
theorem w12Meets : MT 12 w12FS := show Meets w12V _ _ _ from mt (fn := Try.f12) (S := fun x => w12S x.1) (GB trivial trivial) fun G _ _ _ _ E h => w12_w G E h
noncomputable abbrev w40V : Env := EV [(17, w17FS), (18, w18FS), (19, w19FS), (20, w20FS), (29, w29FS), (32, w32FS), (60, w60FS)] [] false
noncomputable def w40P0 : List Item := [.code (Try.f40.body.getD .skip)]
noncomputable def w40P1 : List Item := ctl [.reg, .reg, .reg, .enter] w40P0
noncomputable def w40P2 : List Item := ctl [.reg, .br false, .auto] w40P1
noncomputable def w40P3 : List Item := ctl [.reg, .enter] w40P2
noncomputable def w40P4 : List Item := ctl [.reg, .br false, .auto] w40P3
noncomputable def w40P5 : List Item := ctl [.reg, .reg, .reg, .enter] w40P4
noncomputable def w40P6 : List Item := ctl [.reg, .br false, .auto] w40P5
noncomputable def w40L1S (a0 : ApiGrid) (v1 : Int) (v2 : Int) (v3 : (List NumQ)) : Ab.St yaE := ⟨96, [(1, ol (.ptr 1 0)), (4, ol (.ar 15 0)), (17, oi v1), (18, oi v2)], [(1, .cells [.int .i64 a0.Nodes, .sl (.nm 1) false a0.Arms]), (15, .arr 53 (.nm 4) v3 0 false)]⟩
noncomputable def w40L2S (a0 : ApiGrid) (v5 : Int) (v6 : (List NumQ)) : Ab.St yaE := ⟨96, [(1, ol (.ptr 1 0)), (4, ol (.ar 15 0)), (27, ol (.sl (.nm 1) false a0.Arms)), (28, oi ((a0.Arms.length : Nat) : Int)), (29, oi v5)], [(1, .cells [.int .i64 a0.Nodes, .sl (.nm 1) false a0.Arms]), (15, .arr 53 (.nm 4) v6 0 false)]⟩
noncomputable def w40L3S (a0 : ApiGrid) (y7 : (List NumQ)) (v8 : Int) (v9 : (List NumQ)) : Ab.St yaE := ⟨96, [(9, ol (.sl (.nm 4) false y7)), (10, ol (.ar 92 0)), (66, ol (.sl (.nm 1) false a0.Arms)), (67, oi ((a0.Arms.length : Nat) : Int)), (68, oi v8)], [(92, .arr 53 (.nm 4) v9 0 false)]⟩
noncomputable def w40S (a0 : ApiGrid) : Ab.St yaE := ⟨96, [(0, og (yaToApiGrid a0))], []⟩
theorem w40L1_w (G : Good w40V P) {y : ((List NumQ) × (List NumQ))} {o} {r} {a0} {v1} {v2} {v3} (E : Ends w40V C F Try.f40.results.toList [] [(.sl (.nm 4)), (.sl (.nm 4))] (y.1, y.2, ())) (h : libFlowL1 a0 v1 v2 v3 = some o)
    (hl : ∀ v', o = .inl v' → Goes w40V P C F w40P1 (w40L1S a0 v'.1 v'.2.1 v'.2.2)) (hr : ∀ r', o = .inr r' → r' = r)
    (K1 : ∀ r1, r = r1 → Goes w40V P C F w40P2 (⟨96, [(1, ol (.ptr 1 0)), (4, ol (.ar 15 0))], [(1, .cells [.int .i64 a0.Nodes, .sl (.nm 1) false a0.Arms]), (15, .arr 53 (.nm 4) r1 0 false)]⟩ : Ab.St yaE)) : Goes w40V P C F w40P1 (w40L1S a0 v1 v2 v3) := by
  unfold libFlowL1 at h
  rcases ite_some h with ⟨b1, h⟩ | ⟨b1, h⟩
  · obtain ⟨y1, c4, h⟩ := bind_some h
    obtain ⟨c5, h⟩ := need_some h
    exact sg G [.reg [], .br true, .reg [], .reg [(2, .res ⟨[(.nm 4)], (y1, ())⟩)], .reg [], .enter, .weak [.keep [1, 4, 17, 18] [1, 15]]] (aa b1 <| aa (ca c4) <| aa c5 <| tt) (hl _ (si h))
  · exact sg G [.reg [], .br false, .auto, .weak [.keep [1, 4] [1, 15]]] (aa b1 <| tt) (K1 _ (hr _ (si h)).symm)
theorem w40L2_w (G : Good w40V P) {y : ((List NumQ) × (List NumQ))} {o} {r} {a0} {v5} {v6} (E : Ends w40V C F Try.f40.results.toList [] [(.sl (.nm 4)), (.sl (.nm 4))] (y.1, y.2, ())) (h : libFlowL2 a0 v5 v6 = some o)
    (hl : ∀ v', o = .inl v' → Goes w40V P C F w40P3 (w40L2S a0 v'.1 v'.2)) (hr : ∀ r', o = .inr r' → r' = r)
    (K1 : ∀ r2, r = r2 → Goes w40V P C F w40P4 (⟨96, [(1, ol (.ptr 1 0)), (4, ol (.ar 15 0))], [(1, .cells [.int .i64 a0.Nodes, .sl (.nm 1) false a0.Arms]), (15, .arr 53 (.nm 4) r2 0 false)]⟩ : Ab.St yaE)) : Goes w40V P C F w40P3 (w40L2S a0 v5 v6) := by
  unfold libFlowL2 at h
  rcases ite_some h with ⟨b2, h⟩ | ⟨b2, h⟩
  · obtain ⟨c6, h⟩ := need_some h
    obtain ⟨y2, c7, h⟩ := bind_some h
    obtain ⟨y3, c8, h⟩ := bind_some h
    obtain ⟨y4, c9, h⟩ := bind_some h
    obtain ⟨c10, h⟩ := need_some h
    obtain ⟨y5, c11, h⟩ := bind_some h
    obtain ⟨c12, h⟩ := need_some h
    obtain ⟨c13, h⟩ := need_some h
    obtain ⟨y6, c14, h⟩ := bind_some h
    obtain ⟨c15, h⟩ := need_some h
    exact sg G [.reg [], .br true, .reg [], .reg [(1, .res ⟨[(.nm 4)], (y2, ())⟩), (4, .res ⟨[(.nm 4)], (y3, ())⟩), (5, .res ⟨[(.nm 4)], (y4, ())⟩)], .reg [(9, .res ⟨[(.nm 4)], (y5, ())⟩)], .reg [(9, .res ⟨[(.nm 4)], (y6, ())⟩)], .reg [], .enter, .weak [.keep [1, 4, 27, 28, 29] [1, 15]]] (aa b2 <| aa c6 <| aa (ca c7) <| aa (ca c8) <| aa (ca c9) <| aa c10 <| aa (ca c11) <| aa c12 <| aa c13 <| aa (ca c14) <| aa c15 <| tt) (hl _ (si h))
  · exact sg G [.reg [], .br false, .auto, .weak [.keep [1, 4] [1, 15]]] (aa b2 <| tt) (K1 _ (hr _ (si h)).symm)
theorem w40L3_w (G : Good w40V P) {y : ((List NumQ) × (List NumQ))} {o} {r} {a0} {y7} {v8} {v9} (E : Ends w40V C F Try.f40.results.toList [] [(.sl (.nm 4)), (.sl (.nm 4))] (y.1, y.2, ())) (h : libFlowL3 a0 y7 v8 v9 = some o)
    (hl : ∀ v', o = .inl v' → Goes w40V P C F w40P5 (w40L3S a0 y7 v'.1 v'.2)) (hr : ∀ r', o = .inr r' → r' = r)
    (K1 : ∀ r3, r = r3 → Goes w40V P C F w40P6 (⟨96, [(9, ol (.sl (.nm 4) false y7)), (10, ol (.ar 92 0))], [(92, .arr 53 (.nm 4) r3 0 false)]⟩ : Ab.St yaE)) : Goes w40V P C F w40P5 (w40L3S a0 y7 v8 v9) := by
  unfold libFlowL3 at h
  rcases ite_some h with ⟨b3, h⟩ | ⟨b3, h⟩
  · obtain ⟨c17, h⟩ := need_some h
    obtain ⟨c18, h⟩ := need_some h
    obtain ⟨c19, h⟩ := need_some h
    obtain ⟨y8, c20, h⟩ := bind_some h
    obtain ⟨y9, c21, h⟩ := bind_some h
    obtain ⟨y10, c22, h⟩ := bind_some h
    obtain ⟨y11, c23, h⟩ := bind_some h
    obtain ⟨y12, c24, h⟩ := bind_some h
    obtain ⟨c25, h⟩ := need_some h
    exact sg G [.reg [], .br true, .reg [], .reg [(11, .res ⟨[(.nm 4)], (y8, ())⟩), (14, .res ⟨[(.nm 4)], (y9, ())⟩), (15, .res ⟨[(.nm 4)], (y10, ())⟩), (17, .res ⟨[(.nm 4)], (y11, ())⟩), (18, .res ⟨[(.nm 4)], (y12, ())⟩)], .reg [], .enter, .weak [.re 92 92 0, .keep [9, 10, 66, 67, 68] [92]]] (aa b3 <| aa c17 <| aa c18 <| aa c19 <| aa (ca c20) <| aa (ca c21) <| aa (ca c22) <| aa (ca c23) <| aa (ca c24) <| aa c25 <| tt) (hl _ (si h))
  · exact sg G [.reg [], .br false, .auto, .weak [.keep [9, 10] [92]]] (aa b3 <| tt) (K1 _ (hr _ (si h)).symm)
theorem w40_w (G : Good w40V P) {y : ((List NumQ) × (List NumQ))} {a0} (E : Ends w40V C F Try.f40.results.toList [] [(.sl (.nm 4)), (.sl (.nm 4))] (y.1, y.2, ())) (h : libFlow a0 = some y) : Goes w40V P C F w40P0 (w40S a0) := by
  unfold libFlow at h
  obtain ⟨c1, h⟩ := need_some h
  obtain ⟨c2, h⟩ := need_some h
  obtain ⟨c3, h⟩ := need_some h
  obtain ⟨r1, hi, h⟩ := bind_some h
  have K1 : ∀ q, r1 = q → Goes w40V P C F w40P2 (⟨96, [(1, ol (.ptr 1 0)), (4, ol (.ar 15 0))], [(1, .cells [.int .i64 a0.Nodes, .sl (.nm 1) false a0.Arms]), (15, .arr 53 (.nm 4) q 0 false)]⟩ : Ab.St yaE) := by
    rintro q rfl
    obtain ⟨r2, hi, h⟩ := bind_some h
    have K1 : ∀ q, r2 = q → Goes w40V P C F w40P4 (⟨96, [(1, ol (.ptr 1 0)), (4, ol (.ar 15 0))], [(1, .cells [.int .i64 a0.Nodes, .sl (.nm 1) false a0.Arms]), (15, .arr 53 (.nm 4) q 0 false)]⟩ : Ab.St yaE) := by
      rintro q rfl
      obtain ⟨y7, c16, h⟩ := bind_some h
      obtain ⟨r3, hi, h⟩ := bind_some h
      have K1 : ∀ q, r3 = q → Goes w40V P C F w40P6 (⟨96, [(9, ol (.sl (.nm 4) false y7)), (10, ol (.ar 92 0))], [(92, .arr 53 (.nm 4) q 0 false)]⟩ : Ab.St yaE) := by
        rintro q rfl
        have e := sj h; subst e
        exact se G E [.reg [], .auto, .weak [.fix (.slot 3)]] tt
      exact sg G [.reg [(2, .res ⟨[(.sl (.nm 4))], (y7, ())⟩)], .reg [], .reg [], .enter, .weak [.own (.slot 10) 0 92 53 0, .keep [9, 10, 66, 67, 68] [92]]] (aa (ca c16) <| tt) (loop_goes (V := w40V) (F := F) (k := w40P5) (S := fun v => w40L3S a0 y7 v.1 v.2) (fun v o h hl hr => w40L3_w G E h hl hr K1) _ hi)
    exact sg G [.reg [], .enter, .weak [.keep [1, 4, 27, 28, 29] [1, 15]]] tt (loop_goes (V := w40V) (F := F) (k := w40P3) (S := fun v => w40L2S a0 v.1 v.2) (fun v o h hl hr => w40L2_w G E h hl hr K1) _ hi)
  exact sg G [.reg [], .reg [], .reg [], .enter, .weak [.keep [1, 4, 17, 18] [1, 15]]] (aa c1 <| aa c2 <| aa c3 <| tt) (loop_goes (V := w40V) (F := F) (k := w40P1) (S := fun v => w40L1S a0 v.1 v.2.1 v.2.2) (fun v o h hl hr => w40L1_w G E h hl hr K1) _ hi)
noncomputable def w40FS : FS yaE := ⟨[(.nm 2)], [(.sl (.nm 4)), (.sl (.nm 4))], [], [], fun x => Option.map (fun r => (r.1, r.2, ())) (libFlow x.1)⟩
theorem w40Meets : MT 40 w40FS := show Meets w40V _ _ _ from mt (fn := Try.f40) (S := fun x => w40S x.1) (GB ⟨w17Meets, w18Meets, w19Meets, w20Meets, w29Meets, w32Meets, w60Meets, trivial⟩ trivial) fun G _ _ _ _ E h => w40_w G E h
noncomputable abbrev w41V : Env := EV [(51, w51FS)] [] false
noncomputable def w41P0 : List Item := [.code (Try.f41.body.getD .skip)]
noncomputable def w41P1 : List Item := ctl [.reg, .reg, .reg, .enter] w41P0
noncomputable def w41P2 : List Item := ctl [.reg, .br false, .auto] w41P1
noncomputable def w41L1S (a0 : (List NumQ)) (v1 : Int) (v2 : (List ApiRat)) : Ab.St yaE := ⟨32, [(4, ol (.ar 11 0)), (12, ol (.sl (.nm 4) false a0)), (13, oi ((a0.length : Nat) : Int)), (14, oi v1)], [(11, .arr 26 (.nm 0) v2 0 false)]⟩
noncomputable def w41S (a0 : (List NumQ)) : Ab.St yaE := ⟨32, [(0, ol (.sl (.nm 4) false a0))], []⟩
theorem w41L1_w (G : Good w41V P) {y : ((List ApiRat) × Bool)} {o} {r} {a0} {v1} {v2} (E : Ends w41V C F Try.f41.results.toList [] [(.sl (.nm 0)), .bool] (y.1, y.2, ())) (h : numOutsL1 a0 v1 v2 = some o)
    (hl : ∀ v', o = .inl v' → Goes w41V P C F w41P1 (w41L1S a0 v'.1 v'.2)) (hr : ∀ r', o = .inr r' → r' = r)
    (K1 : ∀ r1, r = (.inl r1) → Goes w41V P C F w41P2 (⟨32, [(4, ol (.ar 11 0))], [(11, .arr 26 (.nm 0) r1 0 false)]⟩ : Ab.St yaE))
    (KR : ∀ r', r = (.inr r') → r' = y) : Goes w41V P C F w41P1 (w41L1S a0 v1 v2) := by
  unfold numOutsL1 at h
  rcases ite_some h with ⟨b1, h⟩ | ⟨b1, h⟩
  · obtain ⟨c4, h⟩ := need_some h
    obtain ⟨y1, c5, h⟩ := bind_some h
    rcases ite_some h with ⟨b2, h⟩ | ⟨b2, h⟩
    · have e := KR _ (hr _ (si h)).symm; subst e
      exact se G E [.reg [], .br true, .reg [], .reg [(1, .res ⟨[(.nm 0), .bool], (y1.1, y1.2, ())⟩)], .reg [], .br true, .reg [], .auto] (aa b1 <| aa c4 <| aa (cb c5) <| aa b2 <| tt)
    · obtain ⟨c6, h⟩ := need_some h
      exact sg G [.reg [], .br true, .reg [], .reg [(1, .res ⟨[(.nm 0), .bool], (y1.1, y1.2, ())⟩)], .reg [], .br false, .reg [], .reg [], .enter, .weak [.keep [4, 12, 13, 14] [11]]] (aa b1 <| aa c4 <| aa (cb c5) <| aa b2 <| aa c6 <| tt) (hl _ (si h))
  · exact sg G [.reg [], .br false, .auto, .weak [.keep [4] [11]]] (aa b1 <| tt) (K1 _ (hr _ (si h)).symm)
theorem w41_w (G : Good w41V P) {y : ((List ApiRat) × Bool)} {a0} (E : Ends w41V C F Try.f41.results.toList [] [(.sl (.nm 0)), .bool] (y.1, y.2, ())) (h : numOuts a0 = some y) : Goes w41V P C F w41P0 (w41S a0) := by
  unfold numOuts at h
  obtain ⟨c1, h⟩ := need_some h
  obtain ⟨c2, h⟩ := need_some h
  obtain ⟨c3, h⟩ := need_some h
  obtain ⟨r, hi, h⟩ := bind_some h
  have K1 : ∀ r1, r = (.inl r1) → Goes w41V P C F w41P2 (⟨32, [(4, ol (.ar 11 0))], [(11, .arr 26 (.nm 0) r1 0 false)]⟩ : Ab.St yaE) := by
    rintro r1 rfl
    have e := sj h; subst e
    exact se G E [.reg [], .auto, .weak [.fix (.slot 2)]] tt
  have KR : ∀ r2, r = (.inr r2) → r2 = y := by
    rintro r2 rfl
    exact Option.some.inj h
  exact sg G [.reg [], .reg [], .reg [], .enter, .weak [.keep [4, 12, 13, 14] [11]]] (aa c1 <| aa c2 <| aa c3 <| tt) (loop_goes (V := w41V) (F := F) (k := w41P1) (S := fun v => w41L1S a0 v.1 v.2) (fun v o h hl hr => w41L1_w G E h hl hr K1 KR) _ hi)
noncomputable def w41FS : FS yaE := ⟨[(.sl (.nm 4))], [(.sl (.nm 0)), .bool], [], [], fun x => Option.map (fun r => (r.1, r.2, ())) (numOuts x.1)⟩
theorem w41Meets : MT 41 w41FS := show Meets w41V _ _ _ from mt (fn := Try.f41) (S := fun x => w41S x.1) (GB ⟨w51Meets, trivial⟩ trivial) fun G _ _ _ _ E h => w41_w G E h
noncomputable abbrev w13V : Env := EV [(15, w15FS), (40, w40FS), (41, w41FS)] [] false
noncomputable def w13P0 : List Item := [.code (Try.f13.body.getD .skip)]
noncomputable def w13P1 : List Item := ctl [.reg, .reg, .reg, .br false, .reg, .reg, .reg, .reg, .br true, .auto] w13P0
noncomputable def w13J1S : Ab.St yaE := ⟨40, [], []⟩
noncomputable def w13S (a0 : ApiGrid) : Ab.St yaE := ⟨40, [(0, og (yaToApiGrid a0))], []⟩
theorem w13J1_w (G : Good w13V P) {y : ((List ApiRat) × (List ApiRat) × Int)} (E : Ends w13V C F Try.f13.results.toList [] [(.sl (.nm 0)), (.sl (.nm 0)), (.int .i64)] (y.1, y.2.1, y.2.2, ())) (h : libPotentialsJ1 = some y) : Goes w13V P C F w13P1 (w13J1S) := by
  unfold libPotentialsJ1 at h
  have e := sj h; subst e
  exact se G E [.reg [], .auto] tt
theorem w13_w (G : Good w13V P) {y : ((List ApiRat) × (List ApiRat) × Int)} {a0} (E : Ends w13V C F Try.f13.results.toList [] [(.sl (.nm 0)), (.sl (.nm 0)), (.int .i64)] (y.1, y.2.1, y.2.2, ())) (h : libPotentials a0 = some y) : Goes w13V P C F w13P0 (w13S a0) := by
  unfold libPotentials at h
  obtain ⟨y1, c1, h⟩ := bind_some h
  rcases ite_some h with ⟨b1, h⟩ | ⟨b1, h⟩
  · have e := sj h; subst e
    exact se G E [.reg [], .reg [(1, .res ⟨[(.int .i64)], (y1, ())⟩)], .reg [], .br true, .reg [], .auto] (aa (ca c1) <| aa b1 <| tt)
  · obtain ⟨y2, c2, h⟩ := bind_some h
    obtain ⟨y3, c3, h⟩ := bind_some h
    obtain ⟨y4, c4, h⟩ := bind_some h
    rcases ite_some h with ⟨b2, h⟩ | ⟨b2, h⟩
    · exact sg G [.reg [], .reg [(1, .res ⟨[(.int .i64)], (y1, ())⟩)], .reg [], .br false, .reg [(1, .res ⟨[(.sl (.nm 4)), (.sl (.nm 4))], (y2.1, y2.2, ())⟩)], .reg [(1, .res ⟨[(.sl (.nm 0)), .bool], (y3.1, y3.2, ())⟩)], .reg [(1, .res ⟨[(.sl (.nm 0)), .bool], (y4.1, y4.2, ())⟩)], .reg [(2, .bit true), (5, .bit true)], .br true, .auto, .weak [.keep [] []]] (aa (ca c1) <| aa b1 <| aa (cb c2) <| aa (cb c3) <| aa (cb c4) <| aa b2 <| aa b2 <| aa b2 <| aa (show true = true from rfl) <| tt) (w13J1_w G E h)
    · rcases ite_some h with ⟨b3, h⟩ | ⟨b3, h⟩
      · exact sg G [.reg [], .reg [(1, .res ⟨[(.int .i64)], (y1, ())⟩)], .reg [], .br false, .reg [(1, .res ⟨[(.sl (.nm 4)), (.sl (.nm 4))], (y2.1, y2.2, ())⟩)], .reg [(1, .res ⟨[(.sl (.nm 0)), .bool], (y3.1, y3.2, ())⟩)], .reg [(1, .res ⟨[(.sl (.nm 0)), .bool], (y4.1, y4.2, ())⟩)], .reg [(2, .bit false), (5, .bit false)], .br true, .auto, .weak [.keep [] []]] (aa (ca c1) <| aa b1 <| aa (cb c2) <| aa (cb c3) <| aa (cb c4) <| aa b2 <| aa b2 <| aa b2 <| aa b3 <| tt) (w13J1_w G E h)
      · have e := sj h; subst e
        exact se G E [.reg [], .reg [(1, .res ⟨[(.int .i64)], (y1, ())⟩)], .reg [], .br false, .reg [(1, .res ⟨[(.sl (.nm 4)), (.sl (.nm 4))], (y2.1, y2.2, ())⟩)], .reg [(1, .res ⟨[(.sl (.nm 0)), .bool], (y3.1, y3.2, ())⟩)], .reg [(1, .res ⟨[(.sl (.nm 0)), .bool], (y4.1, y4.2, ())⟩)], .reg [(2, .bit false), (5, .bit false)], .br false, .reg [], .auto] (aa (ca c1) <| aa b1 <| aa (cb c2) <| aa (cb c3) <| aa (cb c4) <| aa b2 <| aa b2 <| aa b2 <| aa b3 <| tt)
noncomputable def w13FS : FS yaE := ⟨[(.nm 2)], [(.sl (.nm 0)), (.sl (.nm 0)), (.int .i64)], [], [], fun x => Option.map (fun r => (r.1, r.2.1, r.2.2, ())) (libPotentials x.1)⟩
theorem w13Meets : MT 13 w13FS := show Meets w13V _ _ _ from mt (fn := Try.f13) (S := fun x => w13S x.1) (GB ⟨w15Meets, w40Meets, w41Meets, trivial⟩ trivial) fun G _ _ _ _ E h => w13_w G E h
noncomputable abbrev w14V : Env := EV [] [] false
noncomputable def w14P0 : List Item := [.code (Try.f14.body.getD .skip)]
noncomputable def w14P1 : List Item := ctl [.reg, .reg, .enter] w14P0
noncomputable def w14P2 : List Item := ctl [.reg, .br false, .auto] w14P1
noncomputable def w14L1S (a0 : (List ApiRat)) (a1 : (List ApiRat)) (v1 : Int) : Ab.St yaE := ⟨32, [(0, ol (.sl (.nm 0) false a0)), (1, ol (.sl (.nm 0) false a1)), (5, oi v1)], []⟩
noncomputable def w14S (a0 : (List ApiRat)) (a1 : (List ApiRat)) : Ab.St yaE := ⟨32, [(0, ol (.sl (.nm 0) false a0)), (1, ol (.sl (.nm 0) false a1))], []⟩
theorem w14L1_w (G : Good w14V P) {y : Bool} {o} {r} {a0} {a1} {v1} (E : Ends w14V C F Try.f14.results.toList [] [.bool] (y, ())) (h : isoclineref02SameL1 a0 a1 v1 = some o)
    (hl : ∀ v', o = .inl v' → Goes w14V P C F w14P1 (w14L1S a0 a1 v')) (hr : ∀ r', o = .inr r' → r' = r)
    (K1 : ∀ r1, r = (.inl r1) → Goes w14V P C F w14P2 (⟨32, [(0, ol (.sl (.nm 0) false a0)), (1, ol (.sl (.nm 0) false a1))], []⟩ : Ab.St yaE))
    (KR : ∀ r', r = (.inr r') → r' = y) : Goes w14V P C F w14P1 (w14L1S a0 a1 v1) := by
  unfold isoclineref02SameL1 at h
  rcases ite_some h with ⟨b1, h⟩ | ⟨b1, h⟩
  · rcases ite_some h with ⟨b2, h⟩ | ⟨b2, h⟩
    · obtain ⟨c1, h⟩ := need_some h
      obtain ⟨c2, h⟩ := need_some h
      rcases ite_some h with ⟨b3, h⟩ | ⟨b3, h⟩
      · have e := KR _ (hr _ (si h)).symm; subst e
        exact se G E [.reg [(4, .bit true), (9, .bit true)], .br true, .reg [], .br true, .reg [], .auto] (aa b1 <| aa b1 <| aa b1 <| aa b1 <| aa b1 <| aa b2 <| aa c1 <| aa c2 <| aa b3 <| tt)
      · exact sg G [.reg [(4, .bit true), (9, .bit true)], .br true, .reg [], .br false, .reg [], .enter, .weak [.keep [0, 1, 5] []]] (aa b1 <| aa b1 <| aa b1 <| aa b1 <| aa b1 <| aa b2 <| aa c1 <| aa c2 <| aa b3 <| tt) (hl _ (si h))
    · exact sg G [.reg [(4, .bit true), (9, .bit true)], .br false, .auto, .weak [.keep [0, 1] []]] (aa b1 <| aa b1 <| aa b1 <| aa b1 <| aa b1 <| aa b2 <| tt) (K1 _ (hr _ (si h)).symm)
  · exact sg G [.reg [(4, .bit false), (9, .bit false)], .br false, .auto, .weak [.keep [0, 1] []]] (aa b1 <| aa b1 <| aa b1 <| aa b1 <| aa b1 <| aa (show false = false from rfl) <| tt) (K1 _ (hr _ (si h)).symm)
theorem w14_w (G : Good w14V P) {y : Bool} {a0} {a1} (E : Ends w14V C F Try.f14.results.toList [] [.bool] (y, ())) (h : isoclineref02Same a0 a1 = some y) : Goes w14V P C F w14P0 (w14S a0 a1) := by
  unfold isoclineref02Same at h
  obtain ⟨r, hi, h⟩ := bind_some h
  have K1 : ∀ r1, r = (.inl r1) → Goes w14V P C F w14P2 (⟨32, [(0, ol (.sl (.nm 0) false a0)), (1, ol (.sl (.nm 0) false a1))], []⟩ : Ab.St yaE) := by
    rintro r1 rfl
    have e := sj h; subst e
    exact se G E [.reg [], .auto] tt
  have KR : ∀ r2, r = (.inr r2) → r2 = y := by
    rintro r2 rfl
    exact Option.some.inj h
  exact sg G [.reg [], .reg [], .enter, .weak [.keep [0, 1, 5] []]] tt (loop_goes (V := w14V) (F := F) (k := w14P1) (S := fun v => w14L1S a0 a1 v) (fun v o h hl hr => w14L1_w G E h hl hr K1 KR) _ hi)
noncomputable def w14FS : FS yaE := ⟨[(.sl (.nm 0)), (.sl (.nm 0))], [.bool], [], [], fun x => Option.map (fun r => (r, ())) (isoclineref02Same x.1 x.2.1)⟩
theorem w14Meets : MT 14 w14FS := show Meets w14V _ _ _ from mt (fn := Try.f14) (S := fun x => w14S x.1 x.2.1) (GB trivial trivial) fun G _ _ _ _ E h => w14_w G E h
noncomputable abbrev w5V : Env := EV [(6, w6FS), (7, w7FS), (12, w12FS), (13, w13FS), (14, w14FS)] [] false
noncomputable def w5P0 : List Item := [.code (Try.f5.body.getD .skip)]
noncomputable def w5S : Ab.St yaE := ⟨75, [], []⟩
theorem w5_w (G : Good w5V P) {y : Bool} (E : Ends w5V C F Try.f5.results.toList [] [.bool] (y, ())) (h : isoclinelaw32Known = some y) : Goes w5V P C F w5P0 (w5S) := by
  unfold isoclinelaw32Known at h
  obtain ⟨y1, c1, h⟩ := bind_some h
  obtain ⟨y2, c2, h⟩ := bind_some h
  obtain ⟨y3, c3, h⟩ := bind_some h
  obtain ⟨y4, c4, h⟩ := bind_some h
  obtain ⟨y5, c5, h⟩ := bind_some h
  obtain ⟨y6, c6, h⟩ := bind_some h
  obtain ⟨y7, c7, h⟩ := bind_some h
  obtain ⟨y8, c8, h⟩ := bind_some h
  obtain ⟨y9, c9, h⟩ := bind_some h
  obtain ⟨y10, c10, h⟩ := bind_some h
  obtain ⟨y11, c11, h⟩ := bind_some h
  obtain ⟨y12, c12, h⟩ := bind_some h
  obtain ⟨y13, c13, h⟩ := bind_some h
  rcases ite_some h with ⟨b1, h⟩ | ⟨b1, h⟩
  · rcases ite_some h with ⟨b2, h⟩ | ⟨b2, h⟩
    · obtain ⟨y14, c14, h⟩ := bind_some h
      rcases ite_some h with ⟨b3, h⟩ | ⟨b3, h⟩
      · rcases ite_some h with ⟨b4, h⟩ | ⟨b4, h⟩
        · rcases ite_some h with ⟨b5, h⟩ | ⟨b5, h⟩
          · have e := sj h; subst e
            exact se G E [.reg [], .reg [], .reg [(1, .res ⟨[(.nm 0)], (y1, ())⟩), (3, .res ⟨[(.nm 0)], (y2, ())⟩), (6, .res ⟨[(.nm 0)], (y3, ())⟩), (8, .res ⟨[(.nm 0)], (y4, ())⟩), (11, .res ⟨[(.nm 0)], (y5, ())⟩), (13, .res ⟨[(.nm 0)], (y6, ())⟩)], .reg [(1, .res ⟨[(.sl (.nm 0)), (.sl (.nm 0)), (.int .i64)], (y7.1, y7.2.1, y7.2.2, ())⟩)], .reg [(1, .res ⟨[(.nm 0), (.int .i64)], (y8.1, y8.2, ())⟩)], .reg [(1, .res ⟨[(.nm 0), (.int .i64)], (y9.1, y9.2, ())⟩)], .reg [(2, .res ⟨[(.nm 0)], (y10, ())⟩), (4, .res ⟨[(.nm 0)], (y11, ())⟩), (6, .res ⟨[(.nm 0)], (y12, ())⟩), (8, .res ⟨[.bool], (y13, ())⟩), (9, .bit true), (12, .bit true), (13, .bit true), (16, .res ⟨[(.nm 0)], (y14, ())⟩), (18, .bit true), (19, .bit true), (22, .bit true), (23, .bit true), (27, .bit true), (28, .bit true), (31, .bit true)], .auto] (aa (ca c1) <| aa (ca c2) <| aa (ca c3) <| aa (ca c4) <| aa (ca c5) <| aa (ca c6) <| aa (congrArg (Option.map (fun r => (r.1, r.2.1, r.2.2, ()))) c7) <| aa (cb c8) <| aa (cb c9) <| aa (ca c10) <| aa (ca c11) <| aa (ca c12) <| aa (ca c13) <| aa b1 <| aa b1 <| aa b1 <| aa b2 <| aa b2 <| aa b2 <| aa (ca c14) <| aa b2 <| aa b2 <| aa b3 <| aa b3 <| aa b3 <| aa b4 <| aa b4 <| aa b4 <| aa b4 <| aa b5 <| aa b5 <| aa b5 <| tt)
          · have e := sj h; subst e
            exact se G E [.reg [], .reg [], .reg [(1, .res ⟨[(.nm 0)], (y1, ())⟩), (3, .res ⟨[(.nm 0)], (y2, ())⟩), (6, .res ⟨[(.nm 0)], (y3, ())⟩), (8, .res ⟨[(.nm 0)], (y4, ())⟩), (11, .res ⟨[(.nm 0)], (y5, ())⟩), (13, .res ⟨[(.nm 0)], (y6, ())⟩)], .reg [(1, .res ⟨[(.sl (.nm 0)), (.sl (.nm 0)), (.int .i64)], (y7.1, y7.2.1, y7.2.2, ())⟩)], .reg [(1, .res ⟨[(.nm 0), (.int .i64)], (y8.1, y8.2, ())⟩)], .reg [(1, .res ⟨[(.nm 0), (.int .i64)], (y9.1, y9.2, ())⟩)], .reg [(2, .res ⟨[(.nm 0)], (y10, ())⟩), (4, .res ⟨[(.nm 0)], (y11, ())⟩), (6, .res ⟨[(.nm 0)], (y12, ())⟩), (8, .res ⟨[.bool], (y13, ())⟩), (9, .bit true), (12, .bit true), (13, .bit true), (16, .res ⟨[(.nm 0)], (y14, ())⟩), (18, .bit true), (19, .bit true), (22, .bit true), (23, .bit true), (27, .bit true), (28, .bit false), (31, .bit false)], .auto] (aa (ca c1) <| aa (ca c2) <| aa (ca c3) <| aa (ca c4) <| aa (ca c5) <| aa (ca c6) <| aa (congrArg (Option.map (fun r => (r.1, r.2.1, r.2.2, ()))) c7) <| aa (cb c8) <| aa (cb c9) <| aa (ca c10) <| aa (ca c11) <| aa (ca c12) <| aa (ca c13) <| aa b1 <| aa b1 <| aa b1 <| aa b2 <| aa b2 <| aa b2 <| aa (ca c14) <| aa b2 <| aa b2 <| aa b3 <| aa b3 <| aa b3 <| aa b4 <| aa b4 <| aa b4 <| aa b4 <| aa b5 <| aa b5 <| aa b5 <| tt)
        · have e := sj h; subst e
          exact se G E [.reg [], .reg [], .reg [(1, .res ⟨[(.nm 0)], (y1, ())⟩), (3, .res ⟨[(.nm 0)], (y2, ())⟩), (6, .res ⟨[(.nm 0)], (y3, ())⟩), (8, .res ⟨[(.nm 0)], (y4, ())⟩), (11, .res ⟨[(.nm 0)], (y5, ())⟩), (13, .res ⟨[(.nm 0)], (y6, ())⟩)], .reg [(1, .res ⟨[(.sl (.nm 0)), (.sl (.nm 0)), (.int .i64)], (y7.1, y7.2.1, y7.2.2, ())⟩)], .reg [(1, .res ⟨[(.nm 0), (.int .i64)], (y8.1, y8.2, ())⟩)], .reg [(1, .res ⟨[(.nm 0), (.int .i64)], (y9.1, y9.2, ())⟩)], .reg [(2, .res ⟨[(.nm 0)], (y10, ())⟩), (4, .res ⟨[(.nm 0)], (y11, ())⟩), (6, .res ⟨[(.nm 0)], (y12, ())⟩), (8, .res ⟨[.bool], (y13, ())⟩), (9, .bit true), (12, .bit true), (13, .bit true), (16, .res ⟨[(.nm 0)], (y14, ())⟩), (18, .bit true), (19, .bit true), (22, .bit true), (23, .bit false), (27, .bit false), (28, .bit false), (31, .bit false)], .auto] (aa (ca c1) <| aa (ca c2) <| aa (ca c3) <| aa (ca c4) <| aa (ca c5) <| aa (ca c6) <| aa (congrArg (Option.map (fun r => (r.1, r.2.1, r.2.2, ()))) c7) <| aa (cb c8) <| aa (cb c9) <| aa (ca c10) <| aa (ca c11) <| aa (ca c12) <| aa (ca c13) <| aa b1 <| aa b1 <| aa b1 <| aa b2 <| aa b2 <| aa b2 <| aa (ca c14) <| aa b2 <| aa b2 <| aa b3 <| aa b3 <| aa b3 <| aa b4 <| aa b4 <| aa b4 <| aa b4 <| aa (show false = false from rfl) <| aa (show false = false from rfl) <| aa (show false = false from rfl) <| tt)
      · have e := sj h; subst e
        exact se G E [.reg [], .reg [], .reg [(1, .res ⟨[(.nm 0)], (y1, ())⟩), (3, .res ⟨[(.nm 0)], (y2, ())⟩), (6, .res ⟨[(.nm 0)], (y3, ())⟩), (8, .res ⟨[(.nm 0)], (y4, ())⟩), (11, .res ⟨[(.nm 0)], (y5, ())⟩), (13, .res ⟨[(.nm 0)], (y6, ())⟩)], .reg [(1, .res ⟨[(.sl (.nm 0)), (.sl (.nm 0)), (.int .i64)], (y7.1, y7.2.1, y7.2.2, ())⟩)], .reg [(1, .res ⟨[(.nm 0), (.int .i64)], (y8.1, y8.2, ())⟩)], .reg [(1, .res ⟨[(.nm 0), (.int .i64)], (y9.1, y9.2, ())⟩)], .reg [(2, .res ⟨[(.nm 0)], (y10, ())⟩), (4, .res ⟨[(.nm 0)], (y11, ())⟩), (6, .res ⟨[(.nm 0)], (y12, ())⟩), (8, .res ⟨[.bool], (y13, ())⟩), (9, .bit true), (12, .bit true), (13, .bit true), (16, .res ⟨[(.nm 0)], (y14, ())⟩), (18, .bit true), (19, .bit false), (22, .bit false), (23, .bit false), (27, .bit false), (28, .bit false), (31, .bit false)], .auto] (aa (ca c1) <| aa (ca c2) <| aa (ca c3) <| aa (ca c4) <| aa (ca c5) <| aa (ca c6) <| aa (congrArg (Option.map (fun r => (r.1, r.2.1, r.2.2, ()))) c7) <| aa (cb c8) <| aa (cb c9) <| aa (ca c10) <| aa (ca c11) <| aa (ca c12) <| aa (ca c13) <| aa b1 <| aa b1 <| aa b1 <| aa b2 <| aa b2 <| aa b2 <| aa (ca c14) <| aa b2 <| aa b2 <| aa b3 <| aa b3 <| aa b3 <| aa (show false = false from rfl) <| aa (show false = false from rfl) <| aa (show false = false from rfl) <| aa (show false = false from rfl) <| aa (show false = false from rfl) <| aa (show false = false from rfl) <| aa (show false = false from rfl) <| tt)
    · have e := sj h; subst e
      exact se G E [.reg [], .reg [], .reg [(1, .res ⟨[(.nm 0)], (y1, ())⟩), (3, .res ⟨[(.nm 0)], (y2, ())⟩), (6, .res ⟨[(.nm 0)], (y3, ())⟩), (8, .res ⟨[(.nm 0)], (y4, ())⟩), (11, .res ⟨[(.nm 0)], (y5, ())⟩), (13, .res ⟨[(.nm 0)], (y6, ())⟩)], .reg [(1, .res ⟨[(.sl (.nm 0)), (.sl (.nm 0)), (.int .i64)], (y7.1, y7.2.1, y7.2.2, ())⟩)], .reg [(1, .res ⟨[(.nm 0), (.int .i64)], (y8.1, y8.2, ())⟩)], .reg [(1, .res ⟨[(.nm 0), (.int .i64)], (y9.1, y9.2, ())⟩)], .reg [(2, .res ⟨[(.nm 0)], (y10, ())⟩), (4, .res ⟨[(.nm 0)], (y11, ())⟩), (6, .res ⟨[(.nm 0)], (y12, ())⟩), (8, .res ⟨[.bool], (y13, ())⟩), (9, .bit true), (12, .bit true), (13, .bit false), (18, .bit false), (19, .bit false), (22, .bit false), (23, .bit false), (27, .bit false), (28, .bit false), (31, .bit false)], .auto] (aa (ca c1) <| aa (ca c2) <| aa (ca c3) <| aa (ca c4) <| aa (ca c5) <| aa (ca c6) <| aa (congrArg (Option.map (fun r => (r.1, r.2.1, r.2.2, ()))) c7) <| aa (cb c8) <| aa (cb c9) <| aa (ca c10) <| aa (ca c11) <| aa (ca c12) <| aa (ca c13) <| aa b1 <| aa b1 <| aa b1 <| aa b2 <| aa b2 <| aa b2 <| aa b2 <| aa b2 <| aa (show false = false from rfl) <| aa (show false = false from rfl) <| aa (show false = false from rfl) <| aa (show false = false from rfl) <| aa (show false = false from rfl) <| aa (show false = false from rfl) <| aa (show false = false from rfl) <| aa (show false = false from rfl) <| aa (show false = false from rfl) <| aa (show false = false from rfl) <| tt)
  · have e := sj h; subst e
    exact se G E [.reg [], .reg [], .reg [(1, .res ⟨[(.nm 0)], (y1, ())⟩), (3, .res ⟨[(.nm 0)], (y2, ())⟩), (6, .res ⟨[(.nm 0)], (y3, ())⟩), (8, .res ⟨[(.nm 0)], (y4, ())⟩), (11, .res ⟨[(.nm 0)], (y5, ())⟩), (13, .res ⟨[(.nm 0)], (y6, ())⟩)], .reg [(1, .res ⟨[(.sl (.nm 0)), (.sl (.nm 0)), (.int .i64)], (y7.1, y7.2.1, y7.2.2, ())⟩)], .reg [(1, .res ⟨[(.nm 0), (.int .i64)], (y8.1, y8.2, ())⟩)], .reg [(1, .res ⟨[(.nm 0), (.int .i64)], (y9.1, y9.2, ())⟩)], .reg [(2, .res ⟨[(.nm 0)], (y10, ())⟩), (4, .res ⟨[(.nm 0)], (y11, ())⟩), (6, .res ⟨[(.nm 0)], (y12, ())⟩), (8, .res ⟨[.bool], (y13, ())⟩), (9, .bit false), (12, .bit false), (13, .bit false), (18, .bit false), (19, .bit false), (22, .bit false), (23, .bit false), (27, .bit false), (28, .bit false), (31, .bit false)], .auto] (aa (ca c1) <| aa (ca c2) <| aa (ca c3) <| aa (ca c4) <| aa (ca c5) <| aa (ca c6) <| aa (congrArg (Option.map (fun r => (r.1, r.2.1, r.2.2, ()))) c7) <| aa (cb c8) <| aa (cb c9) <| aa (ca c10) <| aa (ca c11) <| aa (ca c12) <| aa (ca c13) <| aa b1 <| aa b1 <| aa b1 <| aa (show false = false from rfl) <| aa (show false = false from rfl) <| aa (show false = false from rfl) <| aa (show false = false from rfl) <| aa (show false = false from rfl) <| aa (show false = false from rfl) <| aa (show false = false from rfl) <| aa (show false = false from rfl) <| aa (show false = false from rfl) <| aa (show false = false from rfl) <| aa (show false = false from rfl) <| aa (show false = false from rfl) <| aa (show false = false from rfl) <| aa (show false = false from rfl) <| aa (show false = false from rfl) <| tt)
noncomputable def w5FS : FS yaE := ⟨[], [.bool], [], [], fun x => Option.map (fun r => (r, ())) (isoclinelaw32Known)⟩
theorem w5Meets : MT 5 w5FS := show Meets w5V _ _ _ from mt (fn := Try.f5) (S := fun _ => w5S) (GB ⟨w6Meets, w7Meets, w12Meets, w13Meets, w14Meets, trivial⟩ trivial) fun G _ _ _ _ E h => w5_w G E h
noncomputable abbrev w56V : Env := EV [] [] false
noncomputable def w56P0 : List Item := [.code (Try.f56.body.getD .skip)]
noncomputable def w56S (a0 : Isoclineref01Whole) : Ab.St yaE := ⟨19, [(0, og (yaToIsoclineref01Whole a0))], []⟩
theorem w56_w (G : Good w56V P) {y : Bool} {a0} (E : Ends w56V C F Try.f56.results.toList [] [.bool] (y, ())) (h : isoclineref01IsOne a0 = some y) : Goes w56V P C F w56P0 (w56S a0) := by
  unfold isoclineref01IsOne at h
  rcases ite_some h with ⟨b1, h⟩ | ⟨b1, h⟩
  · obtain ⟨c1, h⟩ := need_some h
    rcases ite_some h with ⟨b2, h⟩ | ⟨b2, h⟩
    · have e := sj h; subst e
      exact se G E [.reg [], .reg [(4, .bit true), (10, .bit true), (11, .bit true), (15, .bit true)], .auto] (aa b1 <| aa b1 <| aa b1 <| aa c1 <| aa b1 <| aa b1 <| aa b1 <| aa b2 <| aa b2 <| aa b2 <| aa b2 <| tt)
    · have e := sj h; subst e
      exact se G E [.reg [], .reg [(4, .bit true), (10, .bit true), (11, .bit false), (15, .bit false)], .auto] (aa b1 <| aa b1 <| aa b1 <| aa c1 <| aa b1 <| aa b1 <| aa b1 <| aa b2 <| aa b2 <| aa b2 <| aa b2 <| tt)
  · have e := sj h; subst e
    exact se G E [.reg [], .reg [(4, .bit false), (10, .bit false), (11, .bit false), (15, .bit false)], .auto] (aa b1 <| aa b1 <| aa b1 <| aa b1 <| aa b1 <| aa b1 <| aa (show false = false from rfl) <| aa (show false = false from rfl) <| aa (show false = false from rfl) <| aa (show false = false from rfl) <| tt)
noncomputable def w56FS : FS yaE := ⟨[(.nm 6)], [.bool], [], [], fun x => Option.map (fun r => (r, ())) (isoclineref01IsOne x.1)⟩
theorem w56Meets : MT 56 w56FS := show Meets w56V _ _ _ from mt (fn := Try.f56) (S := fun x => w56S x.1) (GB trivial trivial) fun G _ _ _ _ E h => w56_w G E h
noncomputable abbrev w65V : Env := EV [] [] false
noncomputable def w65P0 : List Item := [.code (Try.f65.body.getD .skip)]
noncomputable def w65S (a0 : Isoclineref01Whole) : Ab.St yaE := ⟨7, [(0, og (yaToIsoclineref01Whole a0))], []⟩
theorem w65_w (G : Good w65V P) {y : Bool} {a0} (E : Ends w65V C F Try.f65.results.toList [] [.bool] (y, ())) (h : isoclineref01WholeIsNought a0 = some y) : Goes w65V P C F w65P0 (w65S a0) := by
  unfold isoclineref01WholeIsNought at h
  have e := sj h; subst e
  exact se G E [.reg [], .reg [], .auto] tt
noncomputable def w65FS : FS yaE := ⟨[(.nm 6)], [.bool], [], [], fun x => Option.map (fun r => (r, ())) (isoclineref01WholeIsNought x.1)⟩
theorem w65Meets : MT 65 w65FS := show Meets w65V _ _ _ from mt (fn := Try.f65) (S := fun x => w65S x.1) (GB trivial trivial) fun G _ _ _ _ E h => w65_w G E h
noncomputable abbrev w85V : Env := EV [] [] false
noncomputable def w85P0 : List Item := [.code (Try.f85.body.getD .skip)]
noncomputable def w85S (a0 : (List Int)) (a1 : Bool) : Ab.St yaE := ⟨13, [(0, ol (.sl (.int .u32) false a0)), (1, ol (.bool a1))], []⟩
theorem w85_w (G : Good w85V P) {y : Isoclineref01Whole} {a0} {a1} (E : Ends w85V C F Try.f85.results.toList [] [(.nm 6)] (y, ())) (h : isoclineref01Signed a0 a1 = some y) : Goes w85V P C F w85P0 (w85S a0 a1) := by
  unfold isoclineref01Signed at h
  rcases ite_some h with ⟨b1, h⟩ | ⟨b1, h⟩
  · have e := sj h; subst e
    exact se G E [.reg [], .reg [(2, .bit true), (6, .bit true)], .auto] (aa b1 <| aa b1 <| aa b1 <| aa b1 <| tt)
  · have e := sj h; subst e
    exact se G E [.reg [], .reg [(2, .bit false), (6, .bit false)], .auto] (aa b1 <| aa b1 <| aa b1 <| aa b1 <| tt)
noncomputable def w85FS : FS yaE := ⟨[(.sl (.int .u32)), .bool], [(.nm 6)], [], [], fun x => Option.map (fun r => (r, ())) (isoclineref01Signed x.1 x.2.1)⟩
theorem w85Meets : MT 85 w85FS := show Meets w85V _ _ _ from mt (fn := Try.f85) (S := fun x => w85S x.1 x.2.1) (GB trivial trivial) fun G _ _ _ _ E h => w85_w G E h
noncomputable abbrev w82V : Env := EV [(85, w85FS)] [] false
noncomputable def w82P0 : List Item := [.code (Try.f82.body.getD .skip)]
noncomputable def w82S (a0 : Isoclineref01Whole) : Ab.St yaE := ⟨9, [(0, og (yaToIsoclineref01Whole a0))], []⟩
theorem w82_w (G : Good w82V P) {y : Isoclineref01Whole} {a0} (E : Ends w82V C F Try.f82.results.toList [] [(.nm 6)] (y, ())) (h : isoclineref01WholeNeg a0 = some y) : Goes w82V P C F w82P0 (w82S a0) := by
  unfold isoclineref01WholeNeg at h
  obtain ⟨y1, c1, h⟩ := bind_some h
  have e := sj h; subst e
  exact se G E [.reg [], .reg [(5, .res ⟨[(.nm 6)], (y1, ())⟩)], .auto] (aa (ca c1) <| tt)
noncomputable def w82FS : FS yaE := ⟨[(.nm 6)], [(.nm 6)], [], [], fun x => Option.map (fun r => (r, ())) (isoclineref01WholeNeg x.1)⟩
theorem w82Meets : MT 82 w82FS := show Meets w82V _ _ _ from mt (fn := Try.f82) (S := fun x => w82S x.1) (GB ⟨w85Meets, trivial⟩ trivial) fun G _ _ _ _ E h => w82_w G E h
noncomputable abbrev w86V : Env := EV [] [] false
noncomputable def w86P0 : List Item := [.code (Try.f86.body.getD .skip)]
noncomputable def w86P1 : List Item := ctl [.reg, .enter] w86P0
noncomputable def w86P2 : List Item := ctl [.reg, .br false, .auto] w86P1
noncomputable def w86L1S (v1 : (List Int)) : Ab.St yaE := ⟨21, [(0, ol (.ar 1000000 0))], [(1000000, .arr 115 (.int .u32) v1 0 false)]⟩
noncomputable def w86S (a0 : (List Int)) : Ab.St yaE := ⟨21, [(0, ol (.ar 1000000 0))], [(1000000, .arr 115 (.int .u32) a0 0 false)]⟩
theorem w86L1_w (G : Good w86V P) {y : (List Int)} {o} {r} {v1} (E : Ends w86V C F Try.f86.results.toList [[(115, 0)]] [(.sl (.int .u32))] (y, ())) (h : isoclineref01TrimL1 v1 = some o)
    (hl : ∀ v', o = .inl v' → Goes w86V P C F w86P1 (w86L1S v')) (hr : ∀ r', o = .inr r' → r' = r)
    (K1 : ∀ r1, r = r1 → Goes w86V P C F w86P2 (⟨21, [(0, ol (.ar 1000000 0))], [(1000000, .arr 115 (.int .u32) r1 0 false)]⟩ : Ab.St yaE)) : Goes w86V P C F w86P1 (w86L1S v1) := by
  unfold isoclineref01TrimL1 at h
  rcases ite_some h with ⟨b1, h⟩ | ⟨b1, h⟩
  · obtain ⟨c1, h⟩ := need_some h
    rcases ite_some h with ⟨b2, h⟩ | ⟨b2, h⟩
    · obtain ⟨c2, h⟩ := need_some h
      obtain ⟨c3, h⟩ := need_some h
      exact sg G [.reg [(3, .bit true), (11, .bit true)], .br true, .reg [], .enter, .weak [.re 1000000 1000000 0, .keep [0] [1000000]]] (aa b1 <| aa b1 <| aa b1 <| aa b1 <| aa b1 <| aa c1 <| aa b1 <| aa b1 <| aa b1 <| aa b2 <| aa c2 <| aa c3 <| tt) (hl _ (si h))
    · exact sg G [.reg [(3, .bit true), (11, .bit true)], .br false, .auto, .weak [.keep [0] [1000000]]] (aa b1 <| aa b1 <| aa b1 <| aa b1 <| aa b1 <| aa c1 <| aa b1 <| aa b1 <| aa b1 <| aa b2 <| tt) (K1 _ (hr _ (si h)).symm)
  · exact sg G [.reg [(3, .bit false), (11, .bit false)], .br false, .auto, .weak [.keep [0] [1000000]]] (aa b1 <| aa b1 <| aa b1 <| aa b1 <| aa b1 <| aa b1 <| aa b1 <| aa b1 <| aa (show false = false from rfl) <| tt) (K1 _ (hr _ (si h)).symm)
theorem w86_w (G : Good w86V P) {y : (List Int)} {a0} (E : Ends w86V C F Try.f86.results.toList [[(115, 0)]] [(.sl (.int .u32))] (y, ())) (h : isoclineref01Trim a0 = some y) : Goes w86V P C F w86P0 (w86S a0) := by
  unfold isoclineref01Trim at h
  obtain ⟨r1, hi, h⟩ := bind_some h
  have K1 : ∀ q, r1 = q → Goes w86V P C F w86P2 (⟨21, [(0, ol (.ar 1000000 0))], [(1000000, .arr 115 (.int .u32) q 0 false)]⟩ : Ab.St yaE) := by
    rintro q rfl
    have e := sj h; subst e
    exact se G E [.reg [], .auto] tt
  exact sg G [.reg [], .enter, .weak [.keep [0] [1000000]]] tt (loop_goes (V := w86V) (F := F) (k := w86P1) (S := fun v => w86L1S v) (fun v o h hl hr => w86L1_w G E h hl hr K1) _ hi)
noncomputable def w86FS : FS yaE := ⟨[(.sl (.int .u32))], [(.sl (.int .u32))], [115], [[(115, 0)]], fun x => Option.map (fun r => (r, ())) (isoclineref01Trim x.1)⟩
theorem w86Meets : MT 86 w86FS := show Meets w86V _ _ _ from mt (fn := Try.f86) (S := fun x => w86S x.1) (GB trivial trivial) fun G _ _ _ _ E h => w86_w G E h
noncomputable abbrev w89V : Env := EV [] [] false
noncomputable def w89P0 : List Item := [.code (Try.f89.body.getD .skip)]
noncomputable def w89P1 : List Item := ctl [.reg, .reg, .br false, .reg, .enter] w89P0
noncomputable def w89P2 : List Item := ctl [.reg, .br false, .auto] w89P1
noncomputable def w89L1S (a0 : (List Int)) (a1 : (List Int)) (v1 : Int) : Ab.St yaE := ⟨41, [(0, ol (.sl (.int .u32) false a0)), (1, ol (.sl (.int .u32) false a1)), (5, oi v1)], []⟩
noncomputable def w89S (a0 : (List Int)) (a1 : (List Int)) : Ab.St yaE := ⟨41, [(0, ol (.sl (.int .u32) false a0)), (1, ol (.sl (.int .u32) false a1))], []⟩
theorem w89L1_w (G : Good w89V P) {y : Int} {o} {r} {a0} {a1} {v1} (E : Ends w89V C F Try.f89.results.toList [] [(.int .i64)] (y, ())) (h : isoclineref01OrderL1 a0 a1 v1 = some o)
    (hl : ∀ v', o = .inl v' → Goes w89V P C F w89P1 (w89L1S a0 a1 v')) (hr : ∀ r', o = .inr r' → r' = r)
    (K1 : ∀ r1, r = (.inl r1) → Goes w89V P C F w89P2 (⟨41, [], []⟩ : Ab.St yaE))
    (KR : ∀ r', r = (.inr r') → r' = y) : Goes w89V P C F w89P1 (w89L1S a0 a1 v1) := by
  unfold isoclineref01OrderL1 at h
  rcases ite_some h with ⟨b3, h⟩ | ⟨b3, h⟩
  · obtain ⟨c1, h⟩ := need_some h
    obtain ⟨c2, h⟩ := need_some h
    rcases ite_some h with ⟨b4, h⟩ | ⟨b4, h⟩
    · have e := KR _ (hr _ (si h)).symm; subst e
      exact se G E [.reg [], .br true, .reg [], .br true, .reg [], .auto] (aa b3 <| aa c1 <| aa c2 <| aa b4 <| tt)
    · obtain ⟨c3, h⟩ := need_some h
      obtain ⟨c4, h⟩ := need_some h
      rcases ite_some h with ⟨b5, h⟩ | ⟨b5, h⟩
      · have e := KR _ (hr _ (si h)).symm; subst e
        exact se G E [.reg [], .br true, .reg [], .br false, .reg [], .br true, .reg [], .auto] (aa b3 <| aa c1 <| aa c2 <| aa b4 <| aa c3 <| aa c4 <| aa b5 <| tt)
      · exact sg G [.reg [], .br true, .reg [], .br false, .reg [], .br false, .reg [], .enter, .weak [.keep [0, 1, 5] []]] (aa b3 <| aa c1 <| aa c2 <| aa b4 <| aa c3 <| aa c4 <| aa b5 <| tt) (hl _ (si h))
  · exact sg G [.reg [], .br false, .auto, .weak [.keep [] []]] (aa b3 <| tt) (K1 _ (hr _ (si h)).symm)
theorem w89_w (G : Good w89V P) {y : Int} {a0} {a1} (E : Ends w89V C F Try.f89.results.toList [] [(.int .i64)] (y, ())) (h : isoclineref01Order a0 a1 = some y) : Goes w89V P C F w89P0 (w89S a0 a1) := by
  unfold isoclineref01Order at h
  rcases ite_some h with ⟨b1, h⟩ | ⟨b1, h⟩
  · rcases ite_some h with ⟨b2, h⟩ | ⟨b2, h⟩
    · have e := sj h; subst e
      exact se G E [.reg [], .reg [], .br true, .reg [], .br true, .reg [], .auto] (aa b1 <| aa b2 <| tt)
    · have e := sj h; subst e
      exact se G E [.reg [], .reg [], .br true, .reg [], .br false, .reg [], .auto] (aa b1 <| aa b2 <| tt)
  · obtain ⟨r, hi, h⟩ := bind_some h
    have K1 : ∀ r1, r = (.inl r1) → Goes w89V P C F w89P2 (⟨41, [], []⟩ : Ab.St yaE) := by
      rintro r1 rfl
      have e := sj h; subst e
      exact se G E [.reg [], .auto] tt
    have KR : ∀ r2, r = (.inr r2) → r2 = y := by
      rintro r2 rfl
      exact Option.some.inj h
    exact sg G [.reg [], .reg [], .br false, .reg [], .enter, .weak [.keep [0, 1, 5] []]] (aa b1 <| tt) (loop_goes (V := w89V) (F := F) (k := w89P1) (S := fun v => w89L1S a0 a1 v) (fun v o h hl hr => w89L1_w G E h hl hr K1 KR) _ hi)
noncomputable def w89FS : FS yaE := ⟨[(.sl (.int .u32)), (.sl (.int .u32))], [(.int .i64)], [], [], fun x => Option.map (fun r => (r, ())) (isoclineref01Order x.1 x.2.1)⟩
theorem w89Meets : MT 89 w89FS := show Meets w89V _ _ _ from mt (fn := Try.f89) (S := fun x => w89S x.1 x.2.1) (GB trivial trivial) fun G _ _ _ _ E h => w89_w G E h
end
end Go.Ab
