/- The functions compute what the plain functions tell. What a plain function gives, and numbers by words. The integers of package num: words, sums, comparison. Conditions: none beyond those that each theorem names. -/
import Derived.Test.YtjdgmcngpiookaaK17
import Derived.Test.YtjdgmcngpiookaaK10
namespace Go.Ab
open Go Go.Proofs
set_option linter.unusedVariables false
section
variable {P : Program} {C : Ctx} {F : Act → World → Prop}
noncomputable abbrev w36V : Env := EV [(53, w53FS), (55, w55FS), (56, w56FS), (57, w57FS), (64, w64FS)] [] false
noncomputable def w36P0 : List Item := [.code (Try.f36.body.getD .skip)]
noncomputable def w36P1 : List Item := ctl [.reg, .reg, .reg, .br false, .auto] w36P0
noncomputable def w36J1S (a0 : Isoclineref01Q) (a1 : Isoclineref01Q) (y1 : Isoclineref01Whole) (y2 : Isoclineref01Whole) : Ab.St yaE := ⟨37, [(2, ol (.ptr 2 0)), (3, ol (.ptr 3 0)), (4, ol (.ptr 4 0)), (5, ol (.ptr 5 0)), (6, ol (.ptr 6 0))], [(2, .cells [.sl (.int .u32) false a0.n.d, .bool a0.n.minus, .sl (.int .u32) false a0.d.d, .bool a0.d.minus]), (3, .cells [.sl (.int .u32) false a1.n.d, .bool a1.n.minus, .sl (.int .u32) false a1.d.d, .bool a1.d.minus]), (4, .cells [.sl (.int .u32) true [], .bool false, .sl (.int .u32) true [], .bool false]), (5, .cells [.sl (.int .u32) false y1.d, .bool y1.minus]), (6, .cells [.sl (.int .u32) false y2.d, .bool y2.minus])]⟩
noncomputable def w36S (a0 : Isoclineref01Q) (a1 : Isoclineref01Q) : Ab.St yaE := ⟨37, [(0, og (yaToIsoclineref01Q a0)), (1, og (yaToIsoclineref01Q a1))], []⟩
theorem w36J1_w (G : Good w36V P) {y : Isoclineref01Q} {a0} {a1} {y1} {y2} (E : Ends w36V C F Try.f36.results.toList [] [(.nm 7)] (y, ())) (h : isoclineref01QAddJ1 a0 a1 y1 y2 = some y) : Goes w36V P C F w36P1 (w36J1S a0 a1 y1 y2) := by
  unfold isoclineref01QAddJ1 at h
  obtain ⟨y6, c6, h⟩ := bind_some h
  obtain ⟨y7, c7, h⟩ := bind_some h
  obtain ⟨y8, c8, h⟩ := bind_some h
  obtain ⟨y9, c9, h⟩ := bind_some h
  obtain ⟨y10, c10, h⟩ := bind_some h
  have e := sj h; subst e
  exact se G E [.reg [(3, .res ⟨[(.nm 6)], (y6, ())⟩), (7, .res ⟨[(.nm 6)], (y7, ())⟩), (8, .res ⟨[(.nm 6)], (y8, ())⟩), (11, .res ⟨[(.nm 6)], (y9, ())⟩), (12, .res ⟨[(.nm 7)], (y10, ())⟩)], .auto] (aa (ca c6) <| aa (ca c7) <| aa (ca c8) <| aa (ca c9) <| aa (ca c10) <| tt)
theorem w36_w (G : Good w36V P) {y : Isoclineref01Q} {a0} {a1} (E : Ends w36V C F Try.f36.results.toList [] [(.nm 7)] (y, ())) (h : isoclineref01QAdd a0 a1 = some y) : Goes w36V P C F w36P0 (w36S a0 a1) := by
  unfold isoclineref01QAdd at h
  obtain ⟨y1, c1, h⟩ := bind_some h
  obtain ⟨y2, c2, h⟩ := bind_some h
  obtain ⟨y3, c3, h⟩ := bind_some h
  rcases ite_some h with ⟨b1, h⟩ | ⟨b1, h⟩
  · obtain ⟨y4, c4, h⟩ := bind_some h
    rcases ite_some h with ⟨b2, h⟩ | ⟨b2, h⟩
    · obtain ⟨y5, c5, h⟩ := bind_some h
      have e := sj h; subst e
      exact se G E [.reg [], .reg [(1, .res ⟨[(.nm 6)], (y1, ())⟩), (3, .res ⟨[(.nm 6)], (y2, ())⟩)], .reg [(1, .res ⟨[.bool], (y3, ())⟩), (2, .bit true), (4, .res ⟨[.bool], (y4, ())⟩), (5, .bit true)], .br true, .reg [(4, .res ⟨[(.nm 6)], (y5, ())⟩)], .auto] (aa (ca c1) <| aa (ca c2) <| aa (ca c3) <| aa b1 <| aa b1 <| aa (ca c4) <| aa b1 <| aa b2 <| aa (ca c5) <| tt)
    · exact sg G [.reg [], .reg [(1, .res ⟨[(.nm 6)], (y1, ())⟩), (3, .res ⟨[(.nm 6)], (y2, ())⟩)], .reg [(1, .res ⟨[.bool], (y3, ())⟩), (2, .bit true), (4, .res ⟨[.bool], (y4, ())⟩), (5, .bit true)], .br false, .auto, .weak [.keep [2, 3, 4, 5, 6] [2, 3, 4, 5, 6]]] (aa (ca c1) <| aa (ca c2) <| aa (ca c3) <| aa b1 <| aa b1 <| aa (ca c4) <| aa b1 <| aa b2 <| tt) (w36J1_w G E h)
  · exact sg G [.reg [], .reg [(1, .res ⟨[(.nm 6)], (y1, ())⟩), (3, .res ⟨[(.nm 6)], (y2, ())⟩)], .reg [(1, .res ⟨[.bool], (y3, ())⟩), (2, .bit false), (5, .bit false)], .br false, .auto, .weak [.keep [2, 3, 4, 5, 6] [2, 3, 4, 5, 6]]] (aa (ca c1) <| aa (ca c2) <| aa (ca c3) <| aa b1 <| aa b1 <| aa b1 <| aa (show false = false from rfl) <| tt) (w36J1_w G E h)
noncomputable def w36FS : FS yaE := ⟨[(.nm 7), (.nm 7)], [(.nm 7)], [], [], fun x => Option.map (fun r => (r, ())) (isoclineref01QAdd x.1 x.2.1)⟩
theorem w36Meets : MT 36 w36FS := show Meets w36V _ _ _ from mt (fn := Try.f36) (S := fun x => w36S x.1 x.2.1) (GB ⟨w53Meets, w55Meets, w56Meets, w57Meets, w64Meets, trivial⟩ trivial) fun G _ _ _ _ E h => w36_w G E h
noncomputable abbrev w59V : Env := EV [(55, w55FS), (82, w82FS)] [] false
noncomputable def w59P0 : List Item := [.code (Try.f59.body.getD .skip)]
noncomputable def w59S (a0 : Isoclineref01Q) : Ab.St yaE := ⟨9, [(0, og (yaToIsoclineref01Q a0))], []⟩
theorem w59_w (G : Good w59V P) {y : Isoclineref01Q} {a0} (E : Ends w59V C F Try.f59.results.toList [] [(.nm 7)] (y, ())) (h : isoclineref01QNeg a0 = some y) : Goes w59V P C F w59P0 (w59S a0) := by
  unfold isoclineref01QNeg at h
  obtain ⟨y1, c1, h⟩ := bind_some h
  obtain ⟨y2, c2, h⟩ := bind_some h
  have e := sj h; subst e
  exact se G E [.reg [], .reg [(2, .res ⟨[(.nm 6)], (y1, ())⟩), (4, .res ⟨[(.nm 6)], (y2, ())⟩)], .auto] (aa (ca c1) <| aa (ca c2) <| tt)
noncomputable def w59FS : FS yaE := ⟨[(.nm 7)], [(.nm 7)], [], [], fun x => Option.map (fun r => (r, ())) (isoclineref01QNeg x.1)⟩
theorem w59Meets : MT 59 w59FS := show Meets w59V _ _ _ from mt (fn := Try.f59) (S := fun x => w59S x.1) (GB ⟨w55Meets, w82Meets, trivial⟩ trivial) fun G _ _ _ _ E h => w59_w G E h
noncomputable abbrev w27V : Env := EV [(36, w36FS), (59, w59FS)] [] false
noncomputable def w27P0 : List Item := [.code (Try.f27.body.getD .skip)]
noncomputable def w27S (a0 : Isoclineref01Q) (a1 : Isoclineref01Q) : Ab.St yaE := ⟨9, [(0, og (yaToIsoclineref01Q a0)), (1, og (yaToIsoclineref01Q a1))], []⟩
theorem w27_w (G : Good w27V P) {y : Isoclineref01Q} {a0} {a1} (E : Ends w27V C F Try.f27.results.toList [] [(.nm 7)] (y, ())) (h : isoclineref01QSub a0 a1 = some y) : Goes w27V P C F w27P0 (w27S a0 a1) := by
  unfold isoclineref01QSub at h
  obtain ⟨y1, c1, h⟩ := bind_some h
  obtain ⟨y2, c2, h⟩ := bind_some h
  have e := sj h; subst e
  exact se G E [.reg [], .reg [(2, .res ⟨[(.nm 7)], (y1, ())⟩), (3, .res ⟨[(.nm 7)], (y2, ())⟩)], .auto] (aa (ca c1) <| aa (ca c2) <| tt)
noncomputable def w27FS : FS yaE := ⟨[(.nm 7), (.nm 7)], [(.nm 7)], [], [], fun x => Option.map (fun r => (r, ())) (isoclineref01QSub x.1 x.2.1)⟩
theorem w27Meets : MT 27 w27FS := show Meets w27V _ _ _ from mt (fn := Try.f27) (S := fun x => w27S x.1 x.2.1) (GB ⟨w36Meets, w59Meets, trivial⟩ trivial) fun G _ _ _ _ E h => w27_w G E h
noncomputable abbrev w8V : Env := EV [(24, w24FS), (25, w25FS), (26, w26FS), (27, w27FS)] [] false
noncomputable def w8P0 : List Item := [.code (Try.f8.body.getD .skip)]
noncomputable def w8S (a0 : ApiRat) (a1 : ApiRat) (a2 : ApiRat) (a3 : ApiRat) : Ab.St yaE := ⟨27, [(0, og (yaToApiRat a0)), (1, og (yaToApiRat a1)), (2, og (yaToApiRat a2)), (3, og (yaToApiRat a3))], []⟩
theorem w8_w (G : Good w8V P) {y : Bool} {a0} {a1} {a2} {a3} (E : Ends w8V C F Try.f8.results.toList [] [.bool] (y, ())) (h : isoclineref32IsPart a0 a1 a2 a3 = some y) : Goes w8V P C F w8P0 (w8S a0 a1 a2 a3) := by
  unfold isoclineref32IsPart at h
  obtain ⟨y1, c1, h⟩ := bind_some h
  obtain ⟨y2, c2, h⟩ := bind_some h
  obtain ⟨y3, c3, h⟩ := bind_some h
  obtain ⟨y4, c4, h⟩ := bind_some h
  obtain ⟨y5, c5, h⟩ := bind_some h
  obtain ⟨y6, c6, h⟩ := bind_some h
  obtain ⟨y7, c7, h⟩ := bind_some h
  obtain ⟨y8, c8, h⟩ := bind_some h
  have e := sj h; subst e
  exact se G E [.reg [], .reg [(1, .res ⟨[(.nm 7)], (y1, ())⟩), (3, .res ⟨[(.nm 7)], (y2, ())⟩)], .reg [(1, .res ⟨[(.nm 7)], (y3, ())⟩), (3, .res ⟨[(.nm 7)], (y4, ())⟩), (6, .res ⟨[(.nm 7)], (y5, ())⟩), (8, .res ⟨[(.nm 7)], (y6, ())⟩), (9, .res ⟨[(.nm 7)], (y7, ())⟩), (10, .res ⟨[(.int .i64)], (y8, ())⟩)], .auto] (aa (ca c1) <| aa (ca c2) <| aa (ca c3) <| aa (ca c4) <| aa (ca c5) <| aa (ca c6) <| aa (ca c7) <| aa (ca c8) <| tt)
noncomputable def w8FS : FS yaE := ⟨[(.nm 0), (.nm 0), (.nm 0), (.nm 0)], [.bool], [], [], fun x => Option.map (fun r => (r, ())) (isoclineref32IsPart x.1 x.2.1 x.2.2.1 x.2.2.2.1)⟩
theorem w8Meets : MT 8 w8FS := show Meets w8V _ _ _ from mt (fn := Try.f8) (S := fun x => w8S x.1 x.2.1 x.2.2.1 x.2.2.2.1) (GB ⟨w24Meets, w25Meets, w26Meets, w27Meets, trivial⟩ trivial) fun G _ _ _ _ E h => w8_w G E h
noncomputable abbrev w3V : Env := EV [(5, w5FS), (6, w6FS), (7, w7FS), (8, w8FS)] [] false
noncomputable def w3P0 : List Item := [.code (Try.f3.body.getD .skip)]
noncomputable def w3P1 : List Item := ctl [.reg, .reg, .br true, .auto] w3P0
noncomputable def w3P2 : List Item := ctl [.reg, .reg, .br false, .reg, .reg, .reg, .reg, .reg, .br true, .auto] w3P0
noncomputable def w3J1S : Ab.St yaE := ⟨102, [], []⟩
noncomputable def w3J2S : Ab.St yaE := ⟨102, [], []⟩
noncomputable def w3S (a0 : ApiGrid) (a1 : Int) : Ab.St yaE := ⟨102, [(0, og (yaToApiGrid a0)), (1, oi a1)], []⟩
theorem w3J1_w (G : Good w3V P) {y : Bool} (E : Ends w3V C F Try.f3.results.toList [] [.bool] (y, ())) (h : isoclinelaw32LibKirchhoffJ1 = some y) : Goes w3V P C F w3P1 (w3J1S) := by
  unfold isoclinelaw32LibKirchhoffJ1 at h
  obtain ⟨y1, c3, h⟩ := bind_some h
  have e := sj h; subst e
  exact se G E [.reg [(0, .res ⟨[.bool], (y1, ())⟩)], .auto] (aa (ca c3) <| tt)
theorem w3J2_w (G : Good w3V P) {y : Bool} (E : Ends w3V C F Try.f3.results.toList [] [.bool] (y, ())) (h : isoclinelaw32LibKirchhoffJ2 = some y) : Goes w3V P C F w3P2 (w3J2S) := by
  unfold isoclinelaw32LibKirchhoffJ2 at h
  obtain ⟨y5, c17, h⟩ := bind_some h
  have e := sj h; subst e
  exact se G E [.reg [(0, .res ⟨[.bool], (y5, ())⟩)], .auto] (aa (ca c17) <| tt)
theorem w3_w (G : Good w3V P) {y : Bool} {a0} {a1} (E : Ends w3V C F Try.f3.results.toList [] [.bool] (y, ())) (h : isoclinelaw32LibKirchhoff a0 a1 = some y) : Goes w3V P C F w3P0 (w3S a0 a1) := by
  unfold isoclinelaw32LibKirchhoff at h
  rcases ite_some h with ⟨b1, h⟩ | ⟨b1, h⟩
  · exact sg G [.reg [], .reg [(2, .bit true), (8, .bit true), (9, .bit true), (23, .bit true)], .br true, .auto, .weak [.keep [] []]] (aa b1 <| aa b1 <| aa b1 <| aa b1 <| aa b1 <| aa b1 <| aa (show true = true from rfl) <| aa (show true = true from rfl) <| aa (show true = true from rfl) <| aa (show true = true from rfl) <| aa (show true = true from rfl) <| aa (show true = true from rfl) <| aa (show true = true from rfl) <| aa (show true = true from rfl) <| aa (show true = true from rfl) <| aa (show true = true from rfl) <| aa (show true = true from rfl) <| aa (show true = true from rfl) <| aa (show true = true from rfl) <| aa (show true = true from rfl) <| aa (show true = true from rfl) <| tt) (w3J1_w G E h)
  · rcases ite_some h with ⟨b2, h⟩ | ⟨b2, h⟩
    · exact sg G [.reg [], .reg [(2, .bit false), (8, .bit false), (9, .bit true), (23, .bit true)], .br true, .auto, .weak [.keep [] []]] (aa b1 <| aa b1 <| aa b1 <| aa b1 <| aa b1 <| aa b1 <| aa b2 <| aa b2 <| aa b2 <| aa b2 <| aa b2 <| aa b2 <| aa b2 <| aa b2 <| aa b2 <| aa b2 <| aa b2 <| aa b2 <| aa b2 <| aa b2 <| aa (show true = true from rfl) <| tt) (w3J1_w G E h)
    · obtain ⟨c1, h⟩ := need_some h
      obtain ⟨c2, h⟩ := need_some h
      rcases ite_some h with ⟨b3, h⟩ | ⟨b3, h⟩
      · exact sg G [.reg [], .reg [(2, .bit false), (8, .bit false), (9, .bit false), (23, .bit false)], .br true, .auto, .weak [.keep [] []]] (aa b1 <| aa b1 <| aa b1 <| aa b1 <| aa b1 <| aa b1 <| aa b2 <| aa b2 <| aa b2 <| aa b2 <| aa c1 <| aa b2 <| aa b2 <| aa b2 <| aa b2 <| aa b2 <| aa b2 <| aa c2 <| aa b2 <| aa b2 <| aa b2 <| aa b2 <| aa b3 <| tt) (w3J1_w G E h)
      · obtain ⟨c4, h⟩ := need_some h
        obtain ⟨c5, h⟩ := need_some h
        obtain ⟨c6, h⟩ := need_some h
        obtain ⟨c7, h⟩ := need_some h
        obtain ⟨c8, h⟩ := need_some h
        obtain ⟨c9, h⟩ := need_some h
        obtain ⟨c10, h⟩ := need_some h
        obtain ⟨c11, h⟩ := need_some h
        obtain ⟨c12, h⟩ := need_some h
        obtain ⟨c13, h⟩ := need_some h
        obtain ⟨y2, c14, h⟩ := bind_some h
        obtain ⟨y3, c15, h⟩ := bind_some h
        obtain ⟨y4, c16, h⟩ := bind_some h
        rcases ite_some h with ⟨b4, h⟩ | ⟨b4, h⟩
        · exact sg G [.reg [], .reg [(2, .bit false), (8, .bit false), (9, .bit false), (23, .bit false)], .br false, .reg [], .reg [(13, .res ⟨[(.nm 0), (.int .i64)], (y2.1, y2.2, ())⟩)], .reg [(1, .res ⟨[(.nm 0), (.int .i64)], (y3.1, y3.2, ())⟩)], .reg [(1, .res ⟨[(.nm 0), (.int .i64)], (y4.1, y4.2, ())⟩)], .reg [(2, .bit true), (5, .bit true), (6, .bit true), (9, .bit true)], .br true, .auto, .weak [.keep [] []]] (aa b1 <| aa b1 <| aa b1 <| aa b1 <| aa b1 <| aa b1 <| aa b2 <| aa b2 <| aa b2 <| aa b2 <| aa c1 <| aa b2 <| aa b2 <| aa b2 <| aa b2 <| aa b2 <| aa b2 <| aa c2 <| aa b2 <| aa b2 <| aa b2 <| aa b2 <| aa b3 <| aa c4 <| aa c5 <| aa c6 <| aa c7 <| aa c8 <| aa c9 <| aa c10 <| aa c11 <| aa c12 <| aa c13 <| aa (cb c14) <| aa (cb c15) <| aa (cb c16) <| aa b4 <| aa b4 <| aa b4 <| aa (show true = true from rfl) <| aa (show true = true from rfl) <| aa (show true = true from rfl) <| aa (show true = true from rfl) <| tt) (w3J2_w G E h)
        · rcases ite_some h with ⟨b5, h⟩ | ⟨b5, h⟩
          · exact sg G [.reg [], .reg [(2, .bit false), (8, .bit false), (9, .bit false), (23, .bit false)], .br false, .reg [], .reg [(13, .res ⟨[(.nm 0), (.int .i64)], (y2.1, y2.2, ())⟩)], .reg [(1, .res ⟨[(.nm 0), (.int .i64)], (y3.1, y3.2, ())⟩)], .reg [(1, .res ⟨[(.nm 0), (.int .i64)], (y4.1, y4.2, ())⟩)], .reg [(2, .bit false), (5, .bit false), (6, .bit true), (9, .bit true)], .br true, .auto, .weak [.keep [] []]] (aa b1 <| aa b1 <| aa b1 <| aa b1 <| aa b1 <| aa b1 <| aa b2 <| aa b2 <| aa b2 <| aa b2 <| aa c1 <| aa b2 <| aa b2 <| aa b2 <| aa b2 <| aa b2 <| aa b2 <| aa c2 <| aa b2 <| aa b2 <| aa b2 <| aa b2 <| aa b3 <| aa c4 <| aa c5 <| aa c6 <| aa c7 <| aa c8 <| aa c9 <| aa c10 <| aa c11 <| aa c12 <| aa c13 <| aa (cb c14) <| aa (cb c15) <| aa (cb c16) <| aa b4 <| aa b4 <| aa b4 <| aa b5 <| aa b5 <| aa b5 <| aa (show true = true from rfl) <| tt) (w3J2_w G E h)
          · rcases ite_some h with ⟨b6, h⟩ | ⟨b6, h⟩
            · exact sg G [.reg [], .reg [(2, .bit false), (8, .bit false), (9, .bit false), (23, .bit false)], .br false, .reg [], .reg [(13, .res ⟨[(.nm 0), (.int .i64)], (y2.1, y2.2, ())⟩)], .reg [(1, .res ⟨[(.nm 0), (.int .i64)], (y3.1, y3.2, ())⟩)], .reg [(1, .res ⟨[(.nm 0), (.int .i64)], (y4.1, y4.2, ())⟩)], .reg [(2, .bit false), (5, .bit false), (6, .bit false), (9, .bit false)], .br true, .auto, .weak [.keep [] []]] (aa b1 <| aa b1 <| aa b1 <| aa b1 <| aa b1 <| aa b1 <| aa b2 <| aa b2 <| aa b2 <| aa b2 <| aa c1 <| aa b2 <| aa b2 <| aa b2 <| aa b2 <| aa b2 <| aa b2 <| aa c2 <| aa b2 <| aa b2 <| aa b2 <| aa b2 <| aa b3 <| aa c4 <| aa c5 <| aa c6 <| aa c7 <| aa c8 <| aa c9 <| aa c10 <| aa c11 <| aa c12 <| aa c13 <| aa (cb c14) <| aa (cb c15) <| aa (cb c16) <| aa b4 <| aa b4 <| aa b4 <| aa b5 <| aa b5 <| aa b5 <| aa b6 <| tt) (w3J2_w G E h)
            · obtain ⟨c18, h⟩ := need_some h
              obtain ⟨y6, c19, h⟩ := bind_some h
              rcases ite_some h with ⟨b7, h⟩ | ⟨b7, h⟩
              · obtain ⟨y7, c20, h⟩ := bind_some h
                have e := sj h; subst e
                exact se G E [.reg [], .reg [(2, .bit false), (8, .bit false), (9, .bit false), (23, .bit false)], .br false, .reg [], .reg [(13, .res ⟨[(.nm 0), (.int .i64)], (y2.1, y2.2, ())⟩)], .reg [(1, .res ⟨[(.nm 0), (.int .i64)], (y3.1, y3.2, ())⟩)], .reg [(1, .res ⟨[(.nm 0), (.int .i64)], (y4.1, y4.2, ())⟩)], .reg [(2, .bit false), (5, .bit false), (6, .bit false), (9, .bit false)], .br false, .reg [(9, .res ⟨[.bool], (y6, ())⟩), (10, .bit true), (11, .res ⟨[.bool], (y7, ())⟩), (12, .bit true)], .auto] (aa b1 <| aa b1 <| aa b1 <| aa b1 <| aa b1 <| aa b1 <| aa b2 <| aa b2 <| aa b2 <| aa b2 <| aa c1 <| aa b2 <| aa b2 <| aa b2 <| aa b2 <| aa b2 <| aa b2 <| aa c2 <| aa b2 <| aa b2 <| aa b2 <| aa b2 <| aa b3 <| aa c4 <| aa c5 <| aa c6 <| aa c7 <| aa c8 <| aa c9 <| aa c10 <| aa c11 <| aa c12 <| aa c13 <| aa (cb c14) <| aa (cb c15) <| aa (cb c16) <| aa b4 <| aa b4 <| aa b4 <| aa b5 <| aa b5 <| aa b5 <| aa b6 <| aa c18 <| aa (ca c19) <| aa b7 <| aa (ca c20) <| aa b7 <| tt)
              · have e := sj h; subst e
                exact se G E [.reg [], .reg [(2, .bit false), (8, .bit false), (9, .bit false), (23, .bit false)], .br false, .reg [], .reg [(13, .res ⟨[(.nm 0), (.int .i64)], (y2.1, y2.2, ())⟩)], .reg [(1, .res ⟨[(.nm 0), (.int .i64)], (y3.1, y3.2, ())⟩)], .reg [(1, .res ⟨[(.nm 0), (.int .i64)], (y4.1, y4.2, ())⟩)], .reg [(2, .bit false), (5, .bit false), (6, .bit false), (9, .bit false)], .br false, .reg [(9, .res ⟨[.bool], (y6, ())⟩), (10, .bit false), (12, .bit false)], .auto] (aa b1 <| aa b1 <| aa b1 <| aa b1 <| aa b1 <| aa b1 <| aa b2 <| aa b2 <| aa b2 <| aa b2 <| aa c1 <| aa b2 <| aa b2 <| aa b2 <| aa b2 <| aa b2 <| aa b2 <| aa c2 <| aa b2 <| aa b2 <| aa b2 <| aa b2 <| aa b3 <| aa c4 <| aa c5 <| aa c6 <| aa c7 <| aa c8 <| aa c9 <| aa c10 <| aa c11 <| aa c12 <| aa c13 <| aa (cb c14) <| aa (cb c15) <| aa (cb c16) <| aa b4 <| aa b4 <| aa b4 <| aa b5 <| aa b5 <| aa b5 <| aa b6 <| aa c18 <| aa (ca c19) <| aa b7 <| aa b7 <| tt)
noncomputable def w3FS : FS yaE := ⟨[(.nm 2), (.int .i64)], [.bool], [], [], fun x => Option.map (fun r => (r, ())) (isoclinelaw32LibKirchhoff x.1 x.2.1)⟩
theorem w3Meets : MT 3 w3FS := show Meets w3V _ _ _ from mt (fn := Try.f3) (S := fun x => w3S x.1 x.2.1) (GB ⟨w5Meets, w6Meets, w7Meets, w8Meets, trivial⟩ trivial) fun G _ _ _ _ E h => w3_w G E h
end
end Go.Ab
namespace Go.Ab
open Go
set_option linter.unusedVariables false
def Gives {α : Type} (o : Option α) (Q : α → Prop) : Prop := ∃ r, o = some r ∧ Q r
section
variable {α β σ ρ : Type}
theorem gives_some {a : α} {Q : α → Prop} : Gives (some a) Q ↔ Q a := by
  constructor
  · rintro ⟨r, h, k⟩; cases h; exact k
  · intro h; exact ⟨a, rfl, h⟩
theorem gives_need {c : Prop} {o : Option α} {Q : α → Prop} : Gives (need c o) Q ↔ c ∧ Gives o Q := by
  constructor
  · rintro ⟨r, h, k⟩; obtain ⟨h1, h2⟩ := need_some h; exact ⟨h1, r, h2, k⟩
  · rintro ⟨h, k⟩; rw [need_of h]; exact k
theorem gives_bind {o : Option α} {f : α → Option β} {Q : β → Prop} : Gives (Option.bind o f) Q ↔ Gives o fun r => Gives (f r) Q := by
  constructor
  · rintro ⟨r, h, k⟩; obtain ⟨z, h1, h2⟩ := bind_some h; exact ⟨z, h1, r, h2, k⟩
  · rintro ⟨z, h1, r, h2, k⟩; exact ⟨r, by rw [h1]; exact h2, k⟩
theorem gives_ite {c : Prop} [Decidable c] {x y : Option α} {Q : α → Prop} : Gives (if c then x else y) Q ↔ (c → Gives x Q) ∧ (¬ c → Gives y Q) := by
  by_cases h : c <;> simp [h]
theorem Gives.mono {o : Option α} {R Q : α → Prop} (h : Gives o R) (k : ∀ r, R r → Q r) : Gives o Q := by
  obtain ⟨r, h1, h2⟩ := h; exact ⟨r, h1, k r h2⟩
theorem Gives.bind {o : Option α} {f : α → Option β} {R : α → Prop} {Q : β → Prop} (h : Gives o R) (k : ∀ r, R r → Gives (f r) Q) : Gives (Option.bind o f) Q :=
  gives_bind.2 (h.mono k)
theorem Gives.and {o : Option α} {R Q : α → Prop} (h : Gives o R) (k : Gives o Q) : Gives o fun r => R r ∧ Q r := by
  obtain ⟨r, h1, h2⟩ := h; obtain ⟨r', h3, h4⟩ := k; rw [h1] at h3; cases h3; exact ⟨r, h1, h2, h4⟩
def Round (I : σ → Prop) (μ : σ → Nat) (s : σ) (Q : ρ → Prop) : σ ⊕ ρ → Prop
  | .inl s' => I s' ∧ μ s' < μ s
  | .inr r => Q r
@[simp] theorem round_inl {I : σ → Prop} {μ : σ → Nat} {s s' : σ} {Q : ρ → Prop} : Round I μ s Q (.inl s') ↔ I s' ∧ μ s' < μ s := Iff.rfl
@[simp] theorem round_inr {I : σ → Prop} {μ : σ → Nat} {s : σ} {Q : ρ → Prop} {r : ρ} : Round I μ s Q (.inr r) ↔ Q r := Iff.rfl
theorem gives_iter {f : σ → Option (σ ⊕ ρ)} (I : σ → Prop) (μ : σ → Nat) {Q : ρ → Prop} {s : σ} (hs : I s) (h : ∀ s, I s → Gives (f s) (Round I μ s Q)) : Gives (iter f s) Q := by
  refine iter_spec I μ Q (fun s hI => ?_) s hs
  obtain ⟨o, h1, h2⟩ := h s hI
  cases o with
  | inl s' => exact .inl ⟨s', h1, h2.1, h2.2⟩
  | inr r => exact .inr ⟨r, h1, h2⟩
end
theorem w32 (x : Int) : IntKind.wrap .u32 x = x % 4294967296 := by simp [IntKind.wrap, IntKind.bits, IntKind.signed]
theorem w64 (x : Int) : IntKind.wrap .u64 x = x % 18446744073709551616 := by simp [IntKind.wrap, IntKind.bits, IntKind.signed]
theorem w8 (x : Int) : IntKind.wrap .u8 x = x % 256 := by simp [IntKind.wrap, IntKind.bits, IntKind.signed]
theorem wi64 {x : Int} (h1 : -9223372036854775808 ≤ x) (h2 : x < 9223372036854775808) : IntKind.wrap .i64 x = x := by
  rw [IntKind.wrap_i64]; omega
theorem wi64' (x : Int) : IntKind.wrap .i64 x = (x + 9223372036854775808) % 18446744073709551616 - 9223372036854775808 := by
  rw [IntKind.wrap_i64]
theorem sh32 (x : Int) : Int.fdiv x (2 ^ (min (32 : Int).toNat (IntKind.bits .u64))) = x / 4294967296 := by
  have : ((2 : Int) ^ (min (32 : Int).toNat (IntKind.bits .u64))) = 4294967296 := by decide
  rw [this, Int.fdiv_eq_ediv_of_nonneg _ (by decide)]
theorem shl32 (x : Int) : x * 2 ^ (min (32 : Int).toNat (IntKind.bits .u64)) = x * 4294967296 := by
  have : ((2 : Int) ^ (min (32 : Int).toNat (IntKind.bits .u64))) = 4294967296 := by decide
  rw [this]
theorem lor_add {n k : Nat} {a b : Int} (ha : 0 ≤ a) (hb : 0 ≤ b) (hbk : b < 2 ^ k) (hab : a + b < 2 ^ n) (hd : a % 2 ^ k = 0) :
    (((BitVec.ofInt n a ||| BitVec.ofInt n b).toNat : Nat) : Int) = a + b := by
  obtain ⟨a, rfl⟩ := Int.eq_ofNat_of_zero_le ha
  obtain ⟨b, rfl⟩ := Int.eq_ofNat_of_zero_le hb
  have e : ((2 : Int) ^ n) = ((2 ^ n : Nat) : Int) := by simp
  have e' : ((2 : Int) ^ k) = ((2 ^ k : Nat) : Int) := by simp
  rw [e] at hab
  rw [e'] at hbk hd
  have hbk : b < 2 ^ k := by exact_mod_cast hbk
  have hab : a + b < 2 ^ n := by exact_mod_cast hab
  have hd : a % 2 ^ k = 0 := by exact_mod_cast hd
  have h1 : (BitVec.ofInt n (a : Int)) = BitVec.ofNat n a := by simp
  have h2 : (BitVec.ofInt n (b : Int)) = BitVec.ofNat n b := by simp
  rw [h1, h2, BitVec.toNat_or, BitVec.toNat_ofNat, BitVec.toNat_ofNat, Nat.mod_eq_of_lt (by omega), Nat.mod_eq_of_lt (by omega)]
  have h3 : a = 2 ^ k * (a / 2 ^ k) := by have := Nat.div_add_mod a (2 ^ k); omega
  have h4 := Nat.two_pow_add_eq_or_of_lt hbk (a / 2 ^ k)
  rw [← h3] at h4
  rw [← h4]; simp
def vl (f : Nat → Int) : Nat → Int
  | 0 => 0
  | k + 1 => vl f k + f k * 4294967296 ^ k
def val (xs : List Int) : Int := vl (fun i => xs.getD i 0) xs.length
def WW (xs : List Int) : Prop := ∀ i, 0 ≤ xs.getD i 0 ∧ xs.getD i 0 < 4294967296
theorem vl_congr {f g : Nat → Int} : ∀ {k : Nat}, (∀ j, j < k → f j = g j) → vl f k = vl g k
  | 0, _ => rfl
  | k + 1, h => by rw [vl, vl, vl_congr (k := k) (fun j hj => h j (by omega)), h k (by omega)]
theorem pow_pos' (k : Nat) : (0 : Int) < 4294967296 ^ k := Int.pow_pos (by decide)
theorem pow_mono' {a b : Nat} (h : a ≤ b) : (4294967296 : Int) ^ a ≤ 4294967296 ^ b := by
  rcases Nat.lt_or_eq_of_le h with h | rfl
  · exact Int.le_of_lt (Int.pow_lt_pow_of_lt (by decide) h)
  · exact Int.le_refl _
theorem vl_bound {f : Nat → Int} : ∀ (k : Nat), (∀ j, j < k → 0 ≤ f j ∧ f j < 4294967296) → 0 ≤ vl f k ∧ vl f k < 4294967296 ^ k
  | 0, _ => by simp [vl]
  | k + 1, h => by
    obtain ⟨h1, h2⟩ := vl_bound k (fun j hj => h j (by omega))
    obtain ⟨h3, h4⟩ := h k (by omega)
    have hp := pow_pos' k
    have h5 : 0 ≤ f k * 4294967296 ^ k := Int.mul_nonneg h3 (by omega)
    have h6 : f k * 4294967296 ^ k ≤ 4294967295 * 4294967296 ^ k := Int.mul_le_mul_of_nonneg_right (by omega) (by omega)
    rw [vl, Int.pow_succ]
    constructor
    · omega
    · omega
theorem vl_add (f : Nat → Int) (k : Nat) : ∀ m, vl f (k + m) = vl f k + vl (fun i => f (k + i)) m * 4294967296 ^ k
  | 0 => by simp [vl]
  | m + 1 => by
    rw [← Nat.add_assoc, vl, vl_add f k m, vl, Int.add_mul, Int.pow_add]
    grind
theorem vl_zero {f : Nat → Int} : ∀ {k : Nat}, (∀ j, j < k → f j = 0) → vl f k = 0
  | 0, _ => rfl
  | k + 1, h => by rw [vl, vl_zero (k := k) (fun j hj => h j (by omega)), h k (by omega)]; simp
theorem val_of_le {xs : List Int} {k : Nat} (h : xs.length ≤ k) : vl (fun i => xs.getD i 0) k = val xs := by
  obtain ⟨m, rfl⟩ := Nat.exists_eq_add_of_le h
  rw [vl_add, vl_zero (f := fun i => xs.getD (xs.length + i) 0), val]
  · simp
  · intro j _; simp
theorem WW.nil : WW [] := fun i => by simp
theorem getD_append_one (xs : List Int) (w : Int) (i : Nat) : (xs ++ [w]).getD i 0 = if i < xs.length then xs.getD i 0 else if i = xs.length then w else 0 := by
  simp only [List.getD_eq_getElem?_getD]
  split
  · rename_i h; rw [List.getElem?_append_left h]
  · split
    · rename_i h; subst h; simp
    · rw [List.getElem?_eq_none (by simp; omega)]; rfl
theorem WW.append {xs : List Int} (h : WW xs) {w : Int} (h1 : 0 ≤ w) (h2 : w < 4294967296) : WW (xs ++ [w]) := by
  intro i
  rw [getD_append_one]
  split
  · exact h i
  · split
    · exact ⟨h1, h2⟩
    · simp
theorem val_nil : val [] = 0 := rfl
theorem val_append (xs : List Int) (w : Int) : val (xs ++ [w]) = val xs + w * 4294967296 ^ xs.length := by
  unfold val
  rw [List.length_append, List.length_singleton, vl, vl_congr (g := fun i => xs.getD i 0)]
  · congr 2
    simp
  · intro j hj
    show (xs ++ [w]).getD j 0 = _
    rw [getD_append_one, if_pos hj]
theorem val_single (w : Int) : val [w] = w := by simp [val, vl]
theorem val_pair (a b : Int) : val [a, b] = a + b * 4294967296 := by simp [val, vl]
theorem WW.val {xs : List Int} (h : WW xs) : 0 ≤ Go.Ab.val xs ∧ Go.Ab.val xs < 4294967296 ^ xs.length := vl_bound _ fun j _ => h j
theorem getD_take (xs : List Int) (n i : Nat) : (xs.take n).getD i 0 = if i < n then xs.getD i 0 else 0 := by
  simp only [List.getD_eq_getElem?_getD, List.getElem?_take]
  split <;> simp
theorem WW.take {xs : List Int} (h : WW xs) (n : Nat) : WW (xs.take n) := by
  intro i; rw [getD_take]; split
  · exact h i
  · simp
theorem val_take {xs : List Int} {n : Nat} (h : n ≤ xs.length) : val (xs.take n) = vl (fun i => xs.getD i 0) n := by
  unfold val
  rw [List.length_take, Nat.min_eq_left h]
  exact vl_congr fun j hj => by show (xs.take n).getD j 0 = _; rw [getD_take, if_pos hj]
theorem getD_set (xs : List Int) (n : Nat) (w : Int) (i : Nat) : (xs.set n w).getD i 0 = if i = n ∧ n < xs.length then w else xs.getD i 0 := by
  simp only [List.getD_eq_getElem?_getD, List.getElem?_set]
  split
  · rename_i h; subst h
    split
    · rename_i h; simp [h]
    · rename_i h; simp [h]
  · rename_i h
    rw [if_neg (by rintro ⟨rfl, _⟩; exact h rfl)]
theorem WW.set {xs : List Int} (h : WW xs) {n : Nat} {w : Int} (h1 : 0 ≤ w) (h2 : w < 4294967296) : WW (xs.set n w) := by
  intro i; rw [getD_set]; split
  · exact ⟨h1, h2⟩
  · exact h i
theorem getD_replicate (n i : Nat) : (List.replicate n (0 : Int)).getD i 0 = 0 := by
  simp only [List.getD_eq_getElem?_getD, List.getElem?_replicate]
  split <;> rfl
theorem WW.replicate (n : Nat) : WW (List.replicate n 0) := fun i => by rw [getD_replicate]; simp
theorem vl_lt {f g : Nat → Int} {k n : Nat} (hk : k < n) (hf : ∀ j, j < n → 0 ≤ f j ∧ f j < 4294967296) (hg : ∀ j, j < n → 0 ≤ g j ∧ g j < 4294967296) (hlt : f k < g k) (he : ∀ j, k < j → j < n → f j = g j) : vl f n < vl g n := by
  obtain ⟨m, rfl⟩ : ∃ m, n = (k + 1) + m := ⟨n - (k + 1), by omega⟩
  rw [vl_add, vl_add g, vl_congr (f := fun i => f (k + 1 + i)) (g := fun i => g (k + 1 + i)) (fun j hj => he _ (by omega) (by omega))]
  obtain ⟨h1, h2⟩ := vl_bound (f := f) k (fun j hj => hf j (by omega))
  obtain ⟨h3, h4⟩ := vl_bound (f := g) k (fun j hj => hg j (by omega))
  have hp := pow_pos' k
  have : (f k + 1) * 4294967296 ^ k ≤ g k * 4294967296 ^ k := Int.mul_le_mul_of_nonneg_right (by omega) (by omega)
  rw [Int.add_mul] at this
  simp only [vl]
  omega
theorem vl_top {f : Nat → Int} {k : Nat} (hf : ∀ j, j < k → 0 ≤ f j ∧ f j < 4294967296) (ht : 0 < f k) : 4294967296 ^ k ≤ vl f (k + 1) := by
  obtain ⟨h1, h2⟩ := vl_bound (f := f) k hf
  have : 1 * 4294967296 ^ k ≤ f k * 4294967296 ^ k := Int.mul_le_mul_of_nonneg_right (by omega) (by have := pow_pos' k; omega)
  simp only [vl]; omega
def Top (xs : List Int) : Prop := xs ≠ [] → xs.getD (xs.length - 1) 0 ≠ 0
theorem top_le {xs : List Int} (h : WW xs) (ht : Top xs) (hne : xs ≠ []) : 4294967296 ^ (xs.length - 1) ≤ val xs := by
  have hl : 0 < xs.length := List.length_pos_iff.2 hne
  have := vl_top (f := fun i => xs.getD i 0) (k := xs.length - 1) (fun j _ => h j) (by have h1 := (h (xs.length - 1)).1; have h2 := ht hne; show 0 < xs.getD _ 0; omega)
  rw [Nat.sub_add_cancel hl] at this
  exact this
theorem val_lt_of_length {xs ys : List Int} (hx : WW xs) (hy : WW ys) (ht : Top ys) (h : xs.length < ys.length) : val xs < val ys := by
  have h1 := hx.val.2
  have h2 := top_le hy ht (by rintro rfl; simp at h)
  have : (4294967296 : Int) ^ xs.length ≤ 4294967296 ^ (ys.length - 1) := pow_mono' (by omega)
  omega
theorem length_le_of_val {xs : List Int} (h : WW xs) (ht : Top xs) {k : Nat} (hk : val xs < 4294967296 ^ k) : xs.length ≤ k := by
  by_cases hne : xs = []
  · subst hne; simp
  · have h1 := top_le h ht hne
    by_cases hc : xs.length ≤ k
    · exact hc
    · have : (4294967296 : Int) ^ k ≤ 4294967296 ^ (xs.length - 1) := pow_mono' (by omega)
      omega
theorem vl_upd {f g : Nat → Int} {k : Nat} {w : Int} (hk : g k = w) (hg : ∀ j, j ≠ k → g j = f j) : ∀ {n : Nat}, k < n → vl g n = vl f n + (w - f k) * 4294967296 ^ k
  | 0, h => by omega
  | n + 1, h => by
    by_cases hn : k = n
    · subst hn
      rw [vl, vl, vl_congr (f := g) (g := f) (fun j hj => hg j (by omega)), hk]
      grind
    · rw [vl, vl, vl_upd hk hg (n := n) (by omega), hg n (by omega)]
      grind
theorem val_set {xs : List Int} {k : Nat} (hk : k < xs.length) (w : Int) : val (xs.set k w) = val xs + (w - xs.getD k 0) * 4294967296 ^ k := by
  unfold val
  rw [List.length_set]
  exact vl_upd (f := fun i => xs.getD i 0) (by show (xs.set k w).getD k 0 = w; rw [getD_set]; simp [hk]) (fun j hj => by show (xs.set k w).getD j 0 = _; rw [getD_set, if_neg (by rintro ⟨rfl, _⟩; exact hj rfl)]) hk
theorem mul_words {x y : Int} (h1 : 0 ≤ x) (h2 : x < 4294967296) (h3 : 0 ≤ y) (h4 : y < 4294967296) : 0 ≤ x * y ∧ x * y ≤ 18446744065119617025 := by
  refine ⟨Int.mul_nonneg h1 h3, ?_⟩
  have : x * y ≤ 4294967295 * 4294967295 := Int.mul_le_mul (by omega) (by omega) h3 (by decide)
  omega
theorem gives_iter_step {σ ρ : Type} {f : σ → Option (σ ⊕ ρ)} {s : σ} {Q : ρ → Prop} (h : Gives (f s) fun o => match o with | .inl s' => Gives (iter f s') Q | .inr r => Q r) : Gives (iter f s) Q := by
  rw [iter_eq, gives_bind]
  refine h.mono fun o ho => ?_
  cases o with
  | inl s' => exact ho
  | inr r => exact gives_some.2 ho
end Go.Ab
namespace Go.Ab
open Go
set_option linter.unusedVariables false
set_option linter.unusedSimpArgs false
def ZOk (z : NumZ) : Prop :=
  (z.m = [] → -9223372036854775808 ≤ z.v ∧ z.v < 9223372036854775808) ∧ (z.m ≠ [] → WW z.m ∧ Top z.m ∧ 9223372036854775808 ≤ val z.m)
def sgn (neg : Bool) (n : Int) : Int := if neg then -n else n
def zval (z : NumZ) : Int := if z.m = [] then z.v else sgn z.neg (val z.m)
theorem isEmpty_iff' {α : Type} (l : List α) : (List.isEmpty l = true) ↔ l = [] := by cases l <;> simp
theorem zsign_gives {z : NumZ} (h : ZOk z) : Gives (numZSign z) fun r => r = Int.sign (zval z) := by
  obtain ⟨h1, h2⟩ := h
  unfold numZSign numZSignJ2 numZSignJ1 numZSignJ3 zval sgn
  by_cases hm : z.m = []
  · simp only [hm, List.isEmpty_nil, Bool.not_true, Bool.false_eq_true, if_false, if_true, gives_ite, gives_some, decide_eq_true_eq]
    refine ⟨fun h => ?_, fun h => ⟨fun h0 => ?_, fun h0 => ?_⟩⟩
    · rw [Int.sign_eq_neg_one_of_neg h]
    · rw [h0]; rfl
    · rw [Int.sign_eq_one_of_pos (by omega)]
  · obtain ⟨w, t, hv⟩ := h2 hm
    have hE : List.isEmpty z.m = false := by cases hz : z.m <;> simp_all
    simp only [hE, Bool.not_false, Bool.false_eq_true, if_false, if_true, gives_ite, gives_some, hm]
    refine ⟨fun h => ?_, fun h => ?_⟩
    · rw [if_pos h, Int.sign_eq_neg_one_of_neg (by omega)]
    · rw [if_neg h, Int.sign_eq_one_of_pos (by omega)]
theorem words_u {u : Int} (h0 : 0 ≤ u) (h1 : u ≤ 9223372036854775808) (z : NumZ) : Gives (numZWordsJ1 z u) fun r => WW r.1 ∧ Top r.1 ∧ val r.1 = u ∧ r.1.length ≤ 2 ∧ (r.2 = true ↔ (z.v < 0 ∧ u ≠ 0)) := by
  unfold numZWordsJ1
  simp only [gives_ite, gives_some, gives_need, sh32, w32, decide_eq_true_eq]
  refine ⟨fun h => ⟨WW.nil, fun h => (h rfl).elim, by rw [h]; rfl, by simp, by simp [h]⟩, fun h => ⟨by decide, fun h2 => ?_, fun h2 => ⟨by decide, ?_⟩⟩⟩
  · have e : u % 4294967296 = u := by omega
    rw [e]
    refine ⟨fun i => ?_, fun _ => by simpa using h, val_single u, by simp, by simp [h]⟩
    cases i <;> simp
    omega
  · refine ⟨fun i => ?_, fun _ => ?_, ?_, by simp, by simp [h]⟩
    · rcases i with _ | _ | i <;> simp <;> omega
    · simp; omega
    · rw [val_pair]; omega
theorem words_gives {z : NumZ} (h : ZOk z) : Gives (numZWords z) fun r => WW r.1 ∧ Top r.1 ∧ sgn r.2 (val r.1) = zval z ∧ (r.2 = true → 0 < val r.1) := by
  obtain ⟨h1, h2⟩ := h
  unfold numZWords zval
  by_cases hm : z.m = []
  · obtain ⟨v0, v1⟩ := h1 hm
    simp only [hm, List.isEmpty_nil, Bool.not_true, Bool.false_eq_true, if_false, if_true, gives_ite, decide_eq_true_eq, w64]
    refine ⟨fun h => ?_, fun h => ?_⟩
    · have e : (0 - z.v % 18446744073709551616) % 18446744073709551616 = - z.v := by omega
      rw [e]
      refine (words_u (by omega) (by omega) z).mono ?_
      rintro r ⟨a1, a2, a3, a4, a5⟩
      have : r.2 = true := a5.2 ⟨h, by omega⟩
      refine ⟨a1, a2, ?_, fun _ => by omega⟩
      rw [this, sgn, if_pos rfl, a3]; omega
    · have e : z.v % 18446744073709551616 = z.v := by omega
      rw [e]
      refine (words_u (by omega) (by omega) z).mono ?_
      rintro r ⟨a1, a2, a3, a4, a5⟩
      have : r.2 = false := by
        cases hr : r.2
        · rfl
        · exact (h (a5.1 hr).1).elim
      refine ⟨a1, a2, ?_, fun k => by rw [this] at k; cases k⟩
      rw [this, sgn, if_neg (by decide), a3]
  · obtain ⟨w, t, hv⟩ := h2 hm
    have hE : List.isEmpty z.m = false := by cases hz : z.m <;> simp_all
    simp only [hE, Bool.not_false, if_true, gives_some, if_neg hm]
    exact ⟨w, t, trivial, fun _ => by omega⟩
theorem made_gives {xs : List Int} (hw : WW xs) (hl : xs.length ≤ 8796093022208) (neg : Bool) : Gives (numMade xs neg) fun z => ZOk z ∧ zval z = sgn neg (val xs) := by
  unfold numMade
  rw [gives_bind]
  refine (gives_iter (I := fun ys => WW ys ∧ val ys = val xs ∧ ys.length ≤ 8796093022208) (μ := List.length) (Q := fun ys => WW ys ∧ val ys = val xs ∧ ys.length ≤ 8796093022208 ∧ Top ys) ⟨hw, rfl, hl⟩ ?_).mono ?_
  · rintro ys ⟨y1, y2, y3⟩
    unfold numMadeL1
    simp only [gives_ite, gives_need, gives_some, decide_eq_true_eq, round_inl, round_inr, inRange]
    refine ⟨fun h => ?_, fun h => ⟨y1, y2, y3, fun hne => ?_⟩⟩
    · rw [wi64 (by omega) (by omega)]
      have e : ((ys.length : Int) - 1).toNat = ys.length - 1 := by omega
      have ev : vl (fun i => ys.getD i 0) (ys.length - 1 + 1) = val ys := by rw [Nat.sub_add_cancel (by omega)]; rfl
      rw [e]
      refine ⟨by omega, fun h0 => ⟨by omega, by omega, by omega, ⟨?_, ?_, ?_⟩, ?_⟩, fun h0 => ⟨y1, y2, y3, fun _ => h0⟩⟩
      · simpa using y1.take _
      · simp only [Int.toNat_zero, List.drop_zero, Nat.sub_zero]
        rw [val_take (by omega), ← y2, ← ev, vl, h0]; simp
      · simp; omega
      · simp; omega
    · have := List.length_pos_iff.2 hne; omega
  · rintro ys ⟨y1, y2, y3, y4⟩
    have hJ : 9223372036854775808 ≤ val ys → Gives (numMadeJ1 neg ys) fun z => ZOk z ∧ zval z = sgn neg (val xs) := by
      intro hbig
      have hne : ys ≠ [] := by rintro rfl; rw [val_nil] at hbig; omega
      unfold numMadeJ1
      rw [gives_need, gives_some]
      exact ⟨hne, ⟨fun h => (hne h).elim, fun _ => ⟨y1, y4, hbig⟩⟩, by rw [zval, if_neg hne, y2]⟩
    rw [gives_ite]
    simp only [decide_eq_true_eq]
    refine ⟨fun h2 => ?_, fun h2 => hJ ?_⟩
    · rw [gives_bind]
      have key : Gives (iter (fun v : (Int × Int) => numMadeL2 neg ys v.1 v.2) ((0 : Int), IntKind.wrap .i64 (((ys.length : Nat) : Int) - (1 : Int)))) fun r => r = val ys := by
        rw [wi64 (by omega) (by omega)]
        refine gives_iter (I := fun s => -1 ≤ s.2 ∧ s.2 + 1 ≤ (ys.length : Int) ∧ 0 ≤ s.1 ∧ (s.2 + 1 = (ys.length : Int) → s.1 = 0) ∧ (0 ≤ s.2 → s.1 < 4294967296) ∧ s.1 * 4294967296 ^ (s.2 + 1).toNat + vl (fun i => ys.getD i 0) (s.2 + 1).toNat = val ys) (μ := fun s => (s.2 + 1).toNat) ?_ ?_
        · refine ⟨by omega, by omega, by omega, fun _ => rfl, fun _ => by simp, ?_⟩
          rw [show ((ys.length : Int) - 1 + 1).toNat = ys.length by omega]; simp [val]
        · rintro ⟨u, k⟩ ⟨a1, a2, a3, a4, a5, a6⟩
          simp only at a1 a2 a3 a4 a5 a6
          unfold numMadeL2
          simp only [gives_ite, gives_need, gives_some, decide_eq_true_eq, round_inl, round_inr, inRange, w64, shl32]
          refine ⟨fun hk => ⟨by decide, by omega, ?_⟩, fun hk => ?_⟩
          · obtain ⟨n, rfl⟩ := Int.eq_ofNat_of_zero_le hk
            have hy := y1 n
            have hu := a5 hk
            have e1 : (u * 4294967296) % 18446744073709551616 = u * 4294967296 := by omega
            have e2 : (ys.getD n 0) % 18446744073709551616 = ys.getD n 0 := by omega
            rw [Int.toNat_natCast, e1, e2]
            have e3 := lor_add (n := IntKind.bits .u64) (k := 32) (a := u * 4294967296) (b := ys.getD n 0) (by omega) hy.1 (by simpa using hy.2) (by show _ < (2 : Int) ^ 64; omega) (by show _ % (2 : Int) ^ 32 = 0; omega)
            rw [e3, wi64 (by omega) (by omega)]
            have e4 : (u * 4294967296 + ys.getD n 0) % 18446744073709551616 = u * 4294967296 + ys.getD n 0 := by omega
            rw [e4]
            have e5 : ((n : Int) - 1 + 1).toNat = n := by omega
            have e6 : ((n : Int) + 1).toNat = n + 1 := by omega
            rw [e5]
            rw [e6] at a6
            refine ⟨⟨by omega, by omega, by omega, fun hl => by omega, fun hn => ?_, ?_⟩, by omega⟩
            · have : u = 0 := a4 (by omega)
              omega
            · rw [← a6, vl, Int.pow_succ, Int.add_mul]
              show u * 4294967296 * 4294967296 ^ n + ys.getD n 0 * 4294967296 ^ n + _ = _
              grind
          · have : (k + 1).toNat = 0 := by omega
            rw [this] at a6
            simpa [vl] using a6
      refine key.mono ?_
      rintro r rfl
      have hv := y1.val
      simp only [gives_ite, gives_some, decide_eq_true_eq]
      refine ⟨fun hs => ?_, fun hs => hJ (by omega)⟩
      refine ⟨fun hn => ?_, fun hn => ?_⟩
      · rw [wi64 (x := val ys) (by omega) (by omega), wi64 (by omega) (by omega), hn]
        refine ⟨⟨fun _ => by dsimp only; omega, fun h => (h rfl).elim⟩, ?_⟩
        rw [zval, if_pos rfl, sgn, if_pos rfl]
        show 0 - val ys = -val xs
        omega
      · rw [wi64 (by omega) (by omega)]
        refine ⟨⟨fun _ => by dsimp only; omega, fun h => (h rfl).elim⟩, ?_⟩
        rw [zval, if_pos rfl, sgn, if_neg hn]
        exact y2
    · have h1 := top_le y1 y4 (by rintro rfl; simp at h2)
      have h3 : (4294967296 : Int) ^ 2 ≤ 4294967296 ^ (ys.length - 1) := pow_mono' (by omega)
      have : (4294967296 : Int) ^ 2 = 18446744073709551616 := by decide
      omega
theorem addWordsJ_gives {a b : List Int} (ha : WW a) (hb : WW b) (hl : b.length ≤ a.length) (hs : a.length ≤ 1099511627776) : Gives (numAddWordsJ1 a b) fun r => WW r ∧ val r = val a + val b ∧ r.length = a.length + 1 := by
  unfold numAddWordsJ1
  simp only [gives_need]
  rw [wi64 (by omega) (by omega)]
  refine ⟨by decide, by omega, by unfold maxBytes; omega, ?_⟩
  rw [gives_bind]
  refine (gives_iter (I := fun s : Int × Int × List Int => ∃ n : Nat, s.2.1 = (n : Int) ∧ n ≤ a.length ∧ WW s.2.2 ∧ s.2.2.length = n ∧ 0 ≤ s.1 ∧ s.1 ≤ 1 ∧ val s.2.2 + s.1 * 4294967296 ^ n = vl (fun i => a.getD i 0) n + vl (fun i => b.getD i 0) n)
    (μ := fun s : Int × Int × List Int => a.length - s.2.1.toNat) (Q := fun r => WW r.2 ∧ r.2.length = a.length ∧ 0 ≤ r.1 ∧ r.1 ≤ 1 ∧ val r.2 + r.1 * 4294967296 ^ a.length = val a + val b) ⟨0, rfl, by omega, WW.nil, rfl, by decide, by decide, by simp [vl, val_nil]⟩ ?_).mono ?_
  · rintro ⟨c, i, out⟩ ⟨n, h1, h2, h3, h4, h5, h6, h7⟩
    simp only at h1 h3 h4 h5 h6 h7
    subst h1
    have step : ∀ s : Int, s = a.getD n 0 + b.getD n 0 + c → n < a.length → Gives (numAddWordsJ2 a b n out s) (Round (fun s : Int × Int × List Int => ∃ n : Nat, s.2.1 = (n : Int) ∧ n ≤ a.length ∧ WW s.2.2 ∧ s.2.2.length = n ∧ 0 ≤ s.1 ∧ s.1 ≤ 1 ∧ val s.2.2 + s.1 * 4294967296 ^ n = vl (fun i => a.getD i 0) n + vl (fun i => b.getD i 0) n) (fun s : Int × Int × List Int => a.length - s.2.1.toNat) (c, (n : Int), out) (fun r => WW r.2 ∧ r.2.length = a.length ∧ 0 ≤ r.1 ∧ r.1 ≤ 1 ∧ val r.2 + r.1 * 4294967296 ^ a.length = val a + val b)) := by
      intro s hs' hn
      have ha' := ha n
      have hb' := hb n
      unfold numAddWordsJ2
      simp only [gives_need, gives_some, round_inl, sh32, w32]
      rw [wi64 (by omega) (by omega)]
      refine ⟨by unfold maxBytes; simp; omega, by decide, ⟨n + 1, by simp, hn, h3.append (by omega) (by omega), by simp [h4], by omega, by omega, ?_⟩, by simp; omega⟩
      rw [val_append, h4, vl, vl, Int.pow_succ]
      have e : s % 4294967296 + s / 4294967296 * 4294967296 = a.getD n 0 + b.getD n 0 + c := by omega
      generalize s % 4294967296 = o at *
      generalize s / 4294967296 = q at *
      grind
    unfold numAddWordsL1
    simp only [gives_ite, gives_need, gives_some, decide_eq_true_eq, round_inr, inRange, w64, Int.toNat_natCast]
    have ha' := ha n
    have hb' := hb n
    refine ⟨fun hn => ⟨by omega, fun hm => ⟨by omega, ?_⟩, fun hm => ?_⟩, fun hn => ?_⟩
    · exact step _ (by omega) (by omega)
    · have : b.getD n 0 = 0 := by rw [List.getD_eq_getElem?_getD, List.getElem?_eq_none (by omega)]; rfl
      exact step _ (by omega) (by omega)
    · have : n = a.length := by omega
      subst this
      refine ⟨h3, h4, h5, h6, ?_⟩
      rw [h7, val_of_le hl]; rfl
  · rintro ⟨c, out⟩ ⟨h1, h2, h3, h4, h5⟩
    simp only at h1 h2 h3 h4 h5
    simp only [gives_need, gives_some, w32]
    have e : c % 4294967296 = c := by omega
    rw [e]
    refine ⟨by unfold maxBytes; simp; omega, h1.append (by omega) (by omega), ?_, by simp [h2]⟩
    rw [val_append, h2]; exact h5
theorem addWords_gives {a b : List Int} (ha : WW a) (hb : WW b) (h1 : a.length ≤ 1099511627776) (h2 : b.length ≤ 1099511627776) : Gives (numAddWords a b) fun r => WW r ∧ val r = val a + val b ∧ r.length ≤ 1099511627777 := by
  unfold numAddWords
  simp only [gives_ite, decide_eq_true_eq]
  refine ⟨fun h => ?_, fun h => ?_⟩
  · exact (addWordsJ_gives hb ha (by omega) h2).mono fun r hr => ⟨hr.1, by rw [hr.2.1]; omega, by omega⟩
  · exact (addWordsJ_gives ha hb (by omega) h1).mono fun r hr => ⟨hr.1, hr.2.1, by omega⟩
theorem subWords_gives {a b : List Int} (ha : WW a) (hb : WW b) (hl : b.length ≤ a.length) (hs : a.length ≤ 1099511627776) (hv : val b ≤ val a) : Gives (numSubWords a b) fun r => WW r ∧ val r = val a - val b ∧ r.length = a.length := by
  unfold numSubWords
  simp only [gives_need]
  refine ⟨by decide, by omega, by unfold maxBytes; omega, ?_⟩
  rw [gives_bind]
  refine (gives_iter (I := fun s : Int × Int × List Int => ∃ n : Nat, s.2.1 = (n : Int) ∧ n ≤ a.length ∧ WW s.2.2 ∧ s.2.2.length = n ∧ 0 ≤ s.1 ∧ s.1 ≤ 1 ∧ val s.2.2 - s.1 * 4294967296 ^ n = vl (fun i => a.getD i 0) n - vl (fun i => b.getD i 0) n)
    (μ := fun s : Int × Int × List Int => a.length - s.2.1.toNat) (Q := fun r => WW r ∧ val r = val a - val b ∧ r.length = a.length) ⟨0, rfl, by omega, WW.nil, rfl, by decide, by decide, by simp [vl, val_nil]⟩ ?_).mono ?_
  · rintro ⟨c, i, out⟩ ⟨n, h1, h2, h3, h4, h5, h6, h7⟩
    simp only at h1 h3 h4 h5 h6 h7
    subst h1
    have ha' := ha n
    have hb' := hb n
    have step : ∀ d : Int, d = a.getD n 0 - b.getD n 0 - c → n < a.length → Gives (numSubWordsJ1 a b n out d) (Round (fun s : Int × Int × List Int => ∃ n : Nat, s.2.1 = (n : Int) ∧ n ≤ a.length ∧ WW s.2.2 ∧ s.2.2.length = n ∧ 0 ≤ s.1 ∧ s.1 ≤ 1 ∧ val s.2.2 - s.1 * 4294967296 ^ n = vl (fun i => a.getD i 0) n - vl (fun i => b.getD i 0) n) (fun s : Int × Int × List Int => a.length - s.2.1.toNat) (c, (n : Int), out) (fun r => WW r ∧ val r = val a - val b ∧ r.length = a.length)) := by
      intro d hd hn
      have fin : ∀ c' o : Int, 0 ≤ c' → c' ≤ 1 → 0 ≤ o → o < 4294967296 → o - c' * 4294967296 = d → Gives (numSubWordsJ2 a b n out c' o) (Round (fun s : Int × Int × List Int => ∃ n : Nat, s.2.1 = (n : Int) ∧ n ≤ a.length ∧ WW s.2.2 ∧ s.2.2.length = n ∧ 0 ≤ s.1 ∧ s.1 ≤ 1 ∧ val s.2.2 - s.1 * 4294967296 ^ n = vl (fun i => a.getD i 0) n - vl (fun i => b.getD i 0) n) (fun s : Int × Int × List Int => a.length - s.2.1.toNat) (c, (n : Int), out) (fun r => WW r ∧ val r = val a - val b ∧ r.length = a.length)) := by
        intro c' o q1 q2 q3 q4 q5
        unfold numSubWordsJ2
        simp only [gives_need, gives_some, round_inl, w32]
        rw [wi64 (by omega) (by omega)]
        have e : o % 4294967296 = o := by omega
        rw [e]
        refine ⟨by unfold maxBytes; simp; omega, ⟨n + 1, by simp, hn, h3.append q3 q4, by simp [h4], q1, q2, ?_⟩, by simp; omega⟩
        rw [val_append, h4, vl, vl, Int.pow_succ]
        grind
      unfold numSubWordsJ1
      simp only [gives_ite, decide_eq_true_eq]
      refine ⟨fun hneg => ?_, fun hneg => fin 0 d (by omega) (by omega) (by omega) (by omega) (by omega)⟩
      rw [wi64 (by omega) (by omega)]
      exact fin 1 _ (by omega) (by omega) (by omega) (by omega) (by omega)
    unfold numSubWordsL1
    simp only [gives_ite, gives_need, gives_some, decide_eq_true_eq, round_inr, inRange, Int.toNat_natCast]
    rw [wi64 (x := a.getD n 0) (by omega) (by omega), wi64 (x := b.getD n 0) (by omega) (by omega), wi64 (x := a.getD n 0 - c) (by omega) (by omega), wi64 (x := a.getD n 0 - c - b.getD n 0) (by omega) (by omega)]
    refine ⟨fun hn => ⟨by omega, fun hm => ⟨by omega, ?_⟩, fun hm => ?_⟩, fun hn => ?_⟩
    · exact step _ (by omega) (by omega)
    · have : b.getD n 0 = 0 := by rw [List.getD_eq_getElem?_getD, List.getElem?_eq_none (by omega)]; rfl
      exact step _ (by omega) (by omega)
    · have : n = a.length := by omega
      subst this
      have e : vl (fun i => b.getD i 0) a.length = val b := val_of_le hl
      have e2 : vl (fun i => a.getD i 0) a.length = val a := rfl
      rw [e, e2] at h7
      have hb2 := h3.val
      rw [h4] at hb2
      have hp := pow_pos' a.length
      have hc : c = 0 := by
        rcases (show c = 0 ∨ c = 1 by omega) with h | h
        · exact h
        · rw [h] at h7; omega
      rw [hc] at h7
      exact ⟨h3, by omega, h4⟩
  · intro r hr; exact gives_some.2 hr
theorem cmpWords_gives {a b : List Int} (ha : WW a) (hb : WW b) (ta : Top a) (tb : Top b) (h1 : a.length ≤ 1099511627776) (h2 : b.length ≤ 1099511627776) : Gives (numCmpWords a b) fun r => r = Int.sign (val a - val b) := by
  unfold numCmpWords
  simp only [gives_ite, gives_some, gives_bind, decide_eq_true_eq, Bool.not_eq_true', decide_eq_false_iff_not]
  refine ⟨fun hne => ⟨fun hlt => ?_, fun hge => ?_⟩, fun heq => ?_⟩
  · have := val_lt_of_length ha hb tb (by omega)
    rw [Int.sign_eq_neg_one_of_neg (by omega)]
  · have := val_lt_of_length hb ha ta (by omega)
    rw [Int.sign_eq_one_of_pos (by omega)]
  · have hl : a.length = b.length := by omega
    rw [wi64 (by omega) (by omega)]
    refine (gives_iter (I := fun i : Int => -1 ≤ i ∧ i < a.length ∧ ∀ j : Nat, i < j → a.getD j 0 = b.getD j 0) (μ := fun i => (i + 1).toNat)
      (Q := fun r => match r with | .inl _ => Int.sign (val a - val b) = 0 | .inr r => r = Int.sign (val a - val b)) ⟨by omega, by omega, fun j hj => ?_⟩ ?_).mono ?_
    · rw [List.getD_eq_getElem?_getD, List.getD_eq_getElem?_getD, List.getElem?_eq_none (by omega), List.getElem?_eq_none (by omega)]
    · rintro i ⟨i1, i2, i3⟩
      unfold numCmpWordsL1
      simp only [gives_ite, gives_need, gives_some, decide_eq_true_eq, Bool.not_eq_true', decide_eq_false_iff_not, round_inl, round_inr, inRange]
      refine ⟨fun hi => ?_, fun hi => ?_⟩
      · obtain ⟨n, rfl⟩ := Int.eq_ofNat_of_zero_le hi
        simp only [Int.toNat_natCast]
        have key : ∀ {f g : List Int}, WW f → WW g → f.length = g.length → n < f.length → f.getD n 0 < g.getD n 0 → (∀ j, n < j → f.getD j 0 = g.getD j 0) → val f < val g := by
          intro f g hf hg hlen hn hlt he
          unfold val
          rw [← hlen]
          exact vl_lt (k := n) hn (fun j _ => hf j) (fun j _ => hg j) hlt fun j hj _ => he j hj
        refine ⟨by omega, by omega, fun hne => ⟨by omega, by omega, fun hlt => ?_, fun hge => ?_⟩, fun he => ?_⟩
        · have := key ha hb hl (by omega) hlt fun j hj => i3 j (by omega)
          rw [Int.sign_eq_neg_one_of_neg (by omega)]
        · have := key hb ha hl.symm (by omega) (by omega) fun j hj => (i3 j (by omega)).symm
          rw [Int.sign_eq_one_of_pos (by omega)]
        · rw [wi64 (by omega) (by omega)]
          refine ⟨⟨by omega, by omega, fun j hj => ?_⟩, by omega⟩
          by_cases hjn : j = n
          · subst hjn; simpa using he
          · exact i3 j (by omega)
      · have : val a = val b := by
          unfold val
          rw [hl]
          exact vl_congr fun j _ => i3 j (by omega)
        rw [this]; simp
    · rintro r hr
      cases r with
      | inl u => rw [gives_some]; exact hr.symm
      | inr r => rw [gives_some]; exact hr
end Go.Ab
