/- The functions compute what the plain functions tell. Conditions: none beyond those that each theorem names. -/
import Derived.Test.YtjdgmcngpiookaaK11
namespace Go.Ab
open Go Go.Proofs
set_option linter.unusedVariables false
section
variable {P : Program} {C : Ctx} {F : Act → World → Prop}
noncomputable abbrev w42V : Env := EV [] [] false
noncomputable def w42P0 : List Item := [.code (Try.f42.body.getD .skip)]
noncomputable def w42P1 : List Item := ctl [.reg, .reg, .br true, .auto] w42P0
noncomputable def w42P2 : List Item := ctl [.reg, .reg, .br false, .reg, .enter] w42P0
noncomputable def w42P3 : List Item := ctl [.reg, .br false, .auto] w42P2
noncomputable def w42J1S : Ab.St yaE := ⟨39, [], []⟩
noncomputable def w42L1S (v1 : Int) (v2 : Int) : Ab.St yaE := ⟨39, [(3, oi v1), (4, oi v2)], []⟩
noncomputable def w42S (a0 : ApiRat) : Ab.St yaE := ⟨39, [(0, og (yaToApiRat a0))], []⟩
theorem w42J1_w (G : Good w42V P) {y : Bool} (E : Ends w42V C F Try.f42.results.toList [] [.bool] (y, ())) (h : numValidJ1 = some y) : Goes w42V P C F w42P1 (w42J1S) := by
  unfold numValidJ1 at h
  have e := sj h; subst e
  exact se G E [.reg [], .auto] tt
theorem w42L1_w (G : Good w42V P) {y : Bool} {o} {r} {v1} {v2} (E : Ends w42V C F Try.f42.results.toList [] [.bool] (y, ())) (h : numValidL1 v1 v2 = some o)
    (hl : ∀ v', o = .inl v' → Goes w42V P C F w42P2 (w42L1S v'.1 v'.2)) (hr : ∀ r', o = .inr r' → r' = r)
    (K1 : ∀ r1, r = r1 → Goes w42V P C F w42P3 (⟨39, [(3, oi r1)], []⟩ : Ab.St yaE)) : Goes w42V P C F w42P2 (w42L1S v1 v2) := by
  unfold numValidL1 at h
  rcases ite_some h with ⟨b5, h⟩ | ⟨b5, h⟩
  · obtain ⟨c1, h⟩ := need_some h
    exact sg G [.reg [], .br true, .reg [], .enter, .weak [.keep [3, 4] []]] (aa b5 <| aa c1 <| tt) (hl _ (si h))
  · exact sg G [.reg [], .br false, .auto, .weak [.keep [3] []]] (aa b5 <| tt) (K1 _ (hr _ (si h)).symm)
theorem w42_w (G : Good w42V P) {y : Bool} {a0} (E : Ends w42V C F Try.f42.results.toList [] [.bool] (y, ())) (h : numValid a0 = some y) : Goes w42V P C F w42P0 (w42S a0) := by
  unfold numValid at h
  rcases ite_some h with ⟨b1, h⟩ | ⟨b1, h⟩
  · exact sg G [.reg [], .reg [(3, .bit true), (7, .bit true), (8, .bit true), (12, .bit true), (13, .bit true), (17, .bit true)], .br true, .auto, .weak [.keep [] []]] (aa b1 <| aa b1 <| aa b1 <| aa b1 <| aa (show true = true from rfl) <| aa (show true = true from rfl) <| aa (show true = true from rfl) <| aa (show true = true from rfl) <| aa (show true = true from rfl) <| aa (show true = true from rfl) <| aa (show true = true from rfl) <| aa (show true = true from rfl) <| aa (show true = true from rfl) <| tt) (w42J1_w G E h)
  · rcases ite_some h with ⟨b2, h⟩ | ⟨b2, h⟩
    · exact sg G [.reg [], .reg [(3, .bit false), (7, .bit false), (8, .bit true), (12, .bit true), (13, .bit true), (17, .bit true)], .br true, .auto, .weak [.keep [] []]] (aa b1 <| aa b1 <| aa b1 <| aa b1 <| aa b2 <| aa b2 <| aa b2 <| aa b2 <| aa (show true = true from rfl) <| aa (show true = true from rfl) <| aa (show true = true from rfl) <| aa (show true = true from rfl) <| aa (show true = true from rfl) <| tt) (w42J1_w G E h)
    · rcases ite_some h with ⟨b3, h⟩ | ⟨b3, h⟩
      · exact sg G [.reg [], .reg [(3, .bit false), (7, .bit false), (8, .bit false), (12, .bit false), (13, .bit true), (17, .bit true)], .br true, .auto, .weak [.keep [] []]] (aa b1 <| aa b1 <| aa b1 <| aa b1 <| aa b2 <| aa b2 <| aa b2 <| aa b2 <| aa b3 <| aa b3 <| aa b3 <| aa b3 <| aa (show true = true from rfl) <| tt) (w42J1_w G E h)
      · rcases ite_some h with ⟨b4, h⟩ | ⟨b4, h⟩
        · exact sg G [.reg [], .reg [(3, .bit false), (7, .bit false), (8, .bit false), (12, .bit false), (13, .bit false), (17, .bit false)], .br true, .auto, .weak [.keep [] []]] (aa b1 <| aa b1 <| aa b1 <| aa b1 <| aa b2 <| aa b2 <| aa b2 <| aa b2 <| aa b3 <| aa b3 <| aa b3 <| aa b3 <| aa b4 <| tt) (w42J1_w G E h)
        · obtain ⟨r1, hi, h⟩ := bind_some h
          have K1 : ∀ q, r1 = q → Goes w42V P C F w42P3 (⟨39, [(3, oi q)], []⟩ : Ab.St yaE) := by
            rintro q rfl
            rcases ite_some h with ⟨b6, h⟩ | ⟨b6, h⟩
            · have e := sj h; subst e
              exact se G E [.reg [(2, .bit true), (5, .bit true)], .auto] (aa b6 <| aa b6 <| aa b6 <| tt)
            · have e := sj h; subst e
              exact se G E [.reg [(2, .bit false), (5, .bit false)], .auto] (aa b6 <| aa b6 <| aa b6 <| tt)
          exact sg G [.reg [], .reg [(3, .bit false), (7, .bit false), (8, .bit false), (12, .bit false), (13, .bit false), (17, .bit false)], .br false, .reg [], .enter, .weak [.keep [3, 4] []]] (aa b1 <| aa b1 <| aa b1 <| aa b1 <| aa b2 <| aa b2 <| aa b2 <| aa b2 <| aa b3 <| aa b3 <| aa b3 <| aa b3 <| aa b4 <| tt) (loop_goes (V := w42V) (F := F) (k := w42P2) (S := fun v => w42L1S v.1 v.2) (fun v o h hl hr => w42L1_w G E h hl hr K1) _ hi)
noncomputable def w42FS : FS yaE := ⟨[(.nm 0)], [.bool], [], [], fun x => Option.map (fun r => (r, ())) (numValid x.1)⟩
theorem w42Meets : MT 42 w42FS := show Meets w42V _ _ _ from mt (fn := Try.f42) (S := fun x => w42S x.1) (GB trivial trivial) fun G _ _ _ _ E h => w42_w G E h
noncomputable abbrev w15V : Env := EV [(42, w42FS)] [] false
noncomputable def w15P0 : List Item := [.code (Try.f15.body.getD .skip)]
noncomputable def w15P1 : List Item := ctl [.reg, .reg, .br false, .reg, .br true, .auto] w15P0
noncomputable def w15P2 : List Item := ctl [.reg, .reg, .br false, .reg, .br false, .reg, .enter] w15P0
noncomputable def w15P3 : List Item := ctl [.reg, .br true, .reg, .reg, .br true, .auto] w15P2
noncomputable def w15P4 : List Item := ctl [.reg, .br false, .auto] w15P2
noncomputable def w15J1S : Ab.St yaE := ⟨65, [], []⟩
noncomputable def w15J2S : Ab.St yaE := ⟨65, [], []⟩
noncomputable def w15L1S (a0 : ApiGrid) (v1 : Int) : Ab.St yaE := ⟨65, [(1, ol (.ptr 1 0)), (18, ol (.sl (.nm 1) false a0.Arms)), (19, oi ((a0.Arms.length : Nat) : Int)), (20, oi v1)], [(1, .cells [.int .i64 a0.Nodes, .sl (.nm 1) false a0.Arms])]⟩
noncomputable def w15S (a0 : ApiGrid) : Ab.St yaE := ⟨65, [(0, og (yaToApiGrid a0))], []⟩
theorem w15J1_w (G : Good w15V P) {y : Int} (E : Ends w15V C F Try.f15.results.toList [] [(.int .i64)] (y, ())) (h : libGridJ1 = some y) : Goes w15V P C F w15P1 (w15J1S) := by
  unfold libGridJ1 at h
  have e := sj h; subst e
  exact se G E [.reg [], .auto] tt
theorem w15J2_w (G : Good w15V P) {y : Int} {a0} {o} {r} (E : Ends w15V C F Try.f15.results.toList [] [(.int .i64)] (y, ())) (h : libGridJ2 = some o)
    (hl : ∀ v', o = .inl v' → Goes w15V P C F w15P2 (w15L1S a0 v')) (hr : ∀ r', o = .inr r' → r' = r)
    (K1 : ∀ r1, r = (.inl r1) → Goes w15V P C F w15P4 (⟨65, [], []⟩ : Ab.St yaE))
    (KR : ∀ r', r = (.inr r') → r' = y) : Goes w15V P C F w15P3 (w15J2S) := by
  unfold libGridJ2 at h
  have e := KR _ (hr _ (si h)).symm; subst e
  exact se G E [.reg [], .auto] tt
theorem w15L1_w (G : Good w15V P) {y : Int} {o} {r} {a0} {v1} (E : Ends w15V C F Try.f15.results.toList [] [(.int .i64)] (y, ())) (h : libGridL1 a0 v1 = some o)
    (hl : ∀ v', o = .inl v' → Goes w15V P C F w15P2 (w15L1S a0 v')) (hr : ∀ r', o = .inr r' → r' = r)
    (K1 : ∀ r1, r = (.inl r1) → Goes w15V P C F w15P4 (⟨65, [], []⟩ : Ab.St yaE))
    (KR : ∀ r', r = (.inr r') → r' = y) : Goes w15V P C F w15P2 (w15L1S a0 v1) := by
  unfold libGridL1 at h
  rcases ite_some h with ⟨b4, h⟩ | ⟨b4, h⟩
  · obtain ⟨c1, h⟩ := need_some h
    rcases ite_some h with ⟨b5, h⟩ | ⟨b5, h⟩
    · exact sg G [.reg [], .br true, .reg [], .reg [(3, .bit true), (9, .bit true), (10, .bit true), (14, .bit true), (15, .bit true), (21, .bit true), (22, .bit true), (27, .bit true), (28, .bit true), (33, .bit true), (34, .bit true), (39, .bit true)], .br true, .auto, .weak [.keep [] []]] (aa b4 <| aa c1 <| aa b5 <| aa b5 <| aa b5 <| aa b5 <| aa b5 <| aa b5 <| aa (show true = true from rfl) <| aa (show true = true from rfl) <| aa (show true = true from rfl) <| aa (show true = true from rfl) <| aa (show true = true from rfl) <| aa (show true = true from rfl) <| aa (show true = true from rfl) <| aa (show true = true from rfl) <| aa (show true = true from rfl) <| aa (show true = true from rfl) <| aa (show true = true from rfl) <| aa (show true = true from rfl) <| aa (show true = true from rfl) <| aa (show true = true from rfl) <| aa (show true = true from rfl) <| aa (show true = true from rfl) <| aa (show true = true from rfl) <| aa (show true = true from rfl) <| aa (show true = true from rfl) <| aa (show true = true from rfl) <| aa (show true = true from rfl) <| aa (show true = true from rfl) <| aa (show true = true from rfl) <| aa (show true = true from rfl) <| aa (show true = true from rfl) <| aa (show true = true from rfl) <| tt) (w15J2_w G E h hl hr K1 KR)
    · rcases ite_some h with ⟨b6, h⟩ | ⟨b6, h⟩
      · exact sg G [.reg [], .br true, .reg [], .reg [(3, .bit false), (9, .bit false), (10, .bit true), (14, .bit true), (15, .bit true), (21, .bit true), (22, .bit true), (27, .bit true), (28, .bit true), (33, .bit true), (34, .bit true), (39, .bit true)], .br true, .auto, .weak [.keep [] []]] (aa b4 <| aa c1 <| aa b5 <| aa b5 <| aa b5 <| aa b5 <| aa b5 <| aa b5 <| aa b6 <| aa b6 <| aa b6 <| aa b6 <| aa (show true = true from rfl) <| aa (show true = true from rfl) <| aa (show true = true from rfl) <| aa (show true = true from rfl) <| aa (show true = true from rfl) <| aa (show true = true from rfl) <| aa (show true = true from rfl) <| aa (show true = true from rfl) <| aa (show true = true from rfl) <| aa (show true = true from rfl) <| aa (show true = true from rfl) <| aa (show true = true from rfl) <| aa (show true = true from rfl) <| aa (show true = true from rfl) <| aa (show true = true from rfl) <| aa (show true = true from rfl) <| aa (show true = true from rfl) <| aa (show true = true from rfl) <| aa (show true = true from rfl) <| aa (show true = true from rfl) <| aa (show true = true from rfl) <| aa (show true = true from rfl) <| tt) (w15J2_w G E h hl hr K1 KR)
      · rcases ite_some h with ⟨b7, h⟩ | ⟨b7, h⟩
        · exact sg G [.reg [], .br true, .reg [], .reg [(3, .bit false), (9, .bit false), (10, .bit false), (14, .bit false), (15, .bit true), (21, .bit true), (22, .bit true), (27, .bit true), (28, .bit true), (33, .bit true), (34, .bit true), (39, .bit true)], .br true, .auto, .weak [.keep [] []]] (aa b4 <| aa c1 <| aa b5 <| aa b5 <| aa b5 <| aa b5 <| aa b5 <| aa b5 <| aa b6 <| aa b6 <| aa b6 <| aa b6 <| aa b7 <| aa b7 <| aa b7 <| aa b7 <| aa b7 <| aa b7 <| aa (show true = true from rfl) <| aa (show true = true from rfl) <| aa (show true = true from rfl) <| aa (show true = true from rfl) <| aa (show true = true from rfl) <| aa (show true = true from rfl) <| aa (show true = true from rfl) <| aa (show true = true from rfl) <| aa (show true = true from rfl) <| aa (show true = true from rfl) <| aa (show true = true from rfl) <| aa (show true = true from rfl) <| aa (show true = true from rfl) <| aa (show true = true from rfl) <| aa (show true = true from rfl) <| aa (show true = true from rfl) <| tt) (w15J2_w G E h hl hr K1 KR)
        · rcases ite_some h with ⟨b8, h⟩ | ⟨b8, h⟩
          · exact sg G [.reg [], .br true, .reg [], .reg [(3, .bit false), (9, .bit false), (10, .bit false), (14, .bit false), (15, .bit false), (21, .bit false), (22, .bit true), (27, .bit true), (28, .bit true), (33, .bit true), (34, .bit true), (39, .bit true)], .br true, .auto, .weak [.keep [] []]] (aa b4 <| aa c1 <| aa b5 <| aa b5 <| aa b5 <| aa b5 <| aa b5 <| aa b5 <| aa b6 <| aa b6 <| aa b6 <| aa b6 <| aa b7 <| aa b7 <| aa b7 <| aa b7 <| aa b7 <| aa b7 <| aa b8 <| aa b8 <| aa b8 <| aa b8 <| aa b8 <| aa (show true = true from rfl) <| aa (show true = true from rfl) <| aa (show true = true from rfl) <| aa (show true = true from rfl) <| aa (show true = true from rfl) <| aa (show true = true from rfl) <| aa (show true = true from rfl) <| aa (show true = true from rfl) <| aa (show true = true from rfl) <| aa (show true = true from rfl) <| aa (show true = true from rfl) <| tt) (w15J2_w G E h hl hr K1 KR)
          · obtain ⟨y1, c2, h⟩ := bind_some h
            rcases ite_some h with ⟨b9, h⟩ | ⟨b9, h⟩
            · exact sg G [.reg [], .br true, .reg [], .reg [(3, .bit false), (9, .bit false), (10, .bit false), (14, .bit false), (15, .bit false), (21, .bit false), (22, .bit false), (25, .res ⟨[.bool], (y1, ())⟩), (27, .bit false), (28, .bit true), (33, .bit true), (34, .bit true), (39, .bit true)], .br true, .auto, .weak [.keep [] []]] (aa b4 <| aa c1 <| aa b5 <| aa b5 <| aa b5 <| aa b5 <| aa b5 <| aa b5 <| aa b6 <| aa b6 <| aa b6 <| aa b6 <| aa b7 <| aa b7 <| aa b7 <| aa b7 <| aa b7 <| aa b7 <| aa b8 <| aa b8 <| aa b8 <| aa (ca c2) <| aa b8 <| aa b8 <| aa b9 <| aa b9 <| aa b9 <| aa b9 <| aa b9 <| aa (show true = true from rfl) <| aa (show true = true from rfl) <| aa (show true = true from rfl) <| aa (show true = true from rfl) <| aa (show true = true from rfl) <| aa (show true = true from rfl) <| tt) (w15J2_w G E h hl hr K1 KR)
            · rcases ite_some h with ⟨b10, h⟩ | ⟨b10, h⟩
              · exact sg G [.reg [], .br true, .reg [], .reg [(3, .bit false), (9, .bit false), (10, .bit false), (14, .bit false), (15, .bit false), (21, .bit false), (22, .bit false), (25, .res ⟨[.bool], (y1, ())⟩), (27, .bit false), (28, .bit false), (33, .bit false), (34, .bit true), (39, .bit true)], .br true, .auto, .weak [.keep [] []]] (aa b4 <| aa c1 <| aa b5 <| aa b5 <| aa b5 <| aa b5 <| aa b5 <| aa b5 <| aa b6 <| aa b6 <| aa b6 <| aa b6 <| aa b7 <| aa b7 <| aa b7 <| aa b7 <| aa b7 <| aa b7 <| aa b8 <| aa b8 <| aa b8 <| aa (ca c2) <| aa b8 <| aa b8 <| aa b9 <| aa b9 <| aa b9 <| aa b9 <| aa b9 <| aa b10 <| aa b10 <| aa b10 <| aa b10 <| aa b10 <| aa (show true = true from rfl) <| tt) (w15J2_w G E h hl hr K1 KR)
              · obtain ⟨y2, c3, h⟩ := bind_some h
                rcases ite_some h with ⟨b11, h⟩ | ⟨b11, h⟩
                · exact sg G [.reg [], .br true, .reg [], .reg [(3, .bit false), (9, .bit false), (10, .bit false), (14, .bit false), (15, .bit false), (21, .bit false), (22, .bit false), (25, .res ⟨[.bool], (y1, ())⟩), (27, .bit false), (28, .bit false), (33, .bit false), (34, .bit false), (37, .res ⟨[.bool], (y2, ())⟩), (39, .bit false)], .br true, .auto, .weak [.keep [] []]] (aa b4 <| aa c1 <| aa b5 <| aa b5 <| aa b5 <| aa b5 <| aa b5 <| aa b5 <| aa b6 <| aa b6 <| aa b6 <| aa b6 <| aa b7 <| aa b7 <| aa b7 <| aa b7 <| aa b7 <| aa b7 <| aa b8 <| aa b8 <| aa b8 <| aa (ca c2) <| aa b8 <| aa b8 <| aa b9 <| aa b9 <| aa b9 <| aa b9 <| aa b9 <| aa b10 <| aa b10 <| aa b10 <| aa (ca c3) <| aa b10 <| aa b10 <| aa b11 <| tt) (w15J2_w G E h hl hr K1 KR)
                · exact sg G [.reg [], .br true, .reg [], .reg [(3, .bit false), (9, .bit false), (10, .bit false), (14, .bit false), (15, .bit false), (21, .bit false), (22, .bit false), (25, .res ⟨[.bool], (y1, ())⟩), (27, .bit false), (28, .bit false), (33, .bit false), (34, .bit false), (37, .res ⟨[.bool], (y2, ())⟩), (39, .bit false)], .br false, .reg [], .enter, .weak [.keep [1, 18, 19, 20] [1]]] (aa b4 <| aa c1 <| aa b5 <| aa b5 <| aa b5 <| aa b5 <| aa b5 <| aa b5 <| aa b6 <| aa b6 <| aa b6 <| aa b6 <| aa b7 <| aa b7 <| aa b7 <| aa b7 <| aa b7 <| aa b7 <| aa b8 <| aa b8 <| aa b8 <| aa (ca c2) <| aa b8 <| aa b8 <| aa b9 <| aa b9 <| aa b9 <| aa b9 <| aa b9 <| aa b10 <| aa b10 <| aa b10 <| aa (ca c3) <| aa b10 <| aa b10 <| aa b11 <| tt) (hl _ (si h))
  · exact sg G [.reg [], .br false, .auto, .weak [.keep [] []]] (aa b4 <| tt) (K1 _ (hr _ (si h)).symm)
theorem w15_w (G : Good w15V P) {y : Int} {a0} (E : Ends w15V C F Try.f15.results.toList [] [(.int .i64)] (y, ())) (h : libGrid a0 = some y) : Goes w15V P C F w15P0 (w15S a0) := by
  unfold libGrid at h
  rcases ite_some h with ⟨b1, h⟩ | ⟨b1, h⟩
  · have e := sj h; subst e
    exact se G E [.reg [], .reg [], .br true, .reg [], .auto] (aa b1 <| tt)
  · rcases ite_some h with ⟨b2, h⟩ | ⟨b2, h⟩
    · exact sg G [.reg [], .reg [], .br false, .reg [(3, .bit true), (7, .bit true)], .br true, .auto, .weak [.keep [] []]] (aa b1 <| aa b2 <| aa b2 <| aa b2 <| aa b2 <| aa (show true = true from rfl) <| tt) (w15J1_w G E h)
    · rcases ite_some h with ⟨b3, h⟩ | ⟨b3, h⟩
      · exact sg G [.reg [], .reg [], .br false, .reg [(3, .bit false), (7, .bit false)], .br true, .auto, .weak [.keep [] []]] (aa b1 <| aa b2 <| aa b2 <| aa b2 <| aa b2 <| aa b3 <| tt) (w15J1_w G E h)
      · obtain ⟨r, hi, h⟩ := bind_some h
        have K1 : ∀ r1, r = (.inl r1) → Goes w15V P C F w15P4 (⟨65, [], []⟩ : Ab.St yaE) := by
          rintro r1 rfl
          have e := sj h; subst e
          exact se G E [.reg [], .auto] tt
        have KR : ∀ r2, r = (.inr r2) → r2 = y := by
          rintro r2 rfl
          exact Option.some.inj h
        exact sg G [.reg [], .reg [], .br false, .reg [(3, .bit false), (7, .bit false)], .br false, .reg [], .enter, .weak [.keep [1, 18, 19, 20] [1]]] (aa b1 <| aa b2 <| aa b2 <| aa b2 <| aa b2 <| aa b3 <| tt) (loop_goes (V := w15V) (F := F) (k := w15P2) (S := fun v => w15L1S a0 v) (fun v o h hl hr => w15L1_w G E h hl hr K1 KR) _ hi)
noncomputable def w15FS : FS yaE := ⟨[(.nm 2)], [(.int .i64)], [], [], fun x => Option.map (fun r => (r, ())) (libGrid x.1)⟩
theorem w15Meets : MT 15 w15FS := show Meets w15V _ _ _ from mt (fn := Try.f15) (S := fun x => w15S x.1) (GB ⟨w42Meets, trivial⟩ trivial) fun G _ _ _ _ E h => w15_w G E h
noncomputable abbrev w16V : Env := EV [] [] false
noncomputable def w16P0 : List Item := [.code (Try.f16.body.getD .skip)]
noncomputable def w16P1 : List Item := ctl [.reg, .reg, .reg, .enter] w16P0
noncomputable def w16P2 : List Item := ctl [.reg, .br false, .auto] w16P1
noncomputable def w16P3 : List Item := ctl [.reg, .enter] w16P2
noncomputable def w16P4 : List Item := ctl [.reg, .br true, .reg, .enter] w16P3
noncomputable def w16P5 : List Item := ctl [.reg, .br false, .auto] w16P4
noncomputable def w16P6 : List Item := ctl [.reg, .br false, .auto] w16P3
noncomputable def w16L1S (a0 : ApiGrid) (v1 : Int) (v2 : Int) (v3 : (List Int)) : Ab.St yaE := ⟨56, [(1, ol (.ptr 1 0)), (3, ol (.ar 10 0)), (12, oi v1), (13, oi v2)], [(1, .cells [.int .i64 a0.Nodes, .sl (.nm 1) false a0.Arms]), (10, .arr 3 (.int .i64) v3 0 false)]⟩
noncomputable def w16L3S (a0 : ApiGrid) (v5 : Int) (v7 : Int) (v8 : (List Int)) : Ab.St yaE := ⟨56, [(1, ol (.ptr 1 0)), (3, ol (.ar 10 0)), (22, oi a0.Nodes), (23, oi v5), (26, ol (.sl (.nm 1) false a0.Arms)), (27, oi ((a0.Arms.length : Nat) : Int)), (28, oi v7)], [(1, .cells [.int .i64 a0.Nodes, .sl (.nm 1) false a0.Arms]), (10, .arr 3 (.int .i64) v8 0 false)]⟩
noncomputable def w16L2S (a0 : ApiGrid) (v5 : Int) (v6 : (List Int)) : Ab.St yaE := ⟨56, [(1, ol (.ptr 1 0)), (3, ol (.ar 10 0)), (22, oi a0.Nodes), (23, oi v5)], [(1, .cells [.int .i64 a0.Nodes, .sl (.nm 1) false a0.Arms]), (10, .arr 3 (.int .i64) v6 0 false)]⟩
noncomputable def w16S (a0 : ApiGrid) : Ab.St yaE := ⟨56, [(0, og (yaToApiGrid a0))], []⟩
theorem w16L1_w (G : Good w16V P) {y : (List Int)} {o} {r} {a0} {v1} {v2} {v3} (E : Ends w16V C F Try.f16.results.toList [] [(.sl (.int .i64))] (y, ())) (h : libJoinedL1 a0 v1 v2 v3 = some o)
    (hl : ∀ v', o = .inl v' → Goes w16V P C F w16P1 (w16L1S a0 v'.1 v'.2.1 v'.2.2)) (hr : ∀ r', o = .inr r' → r' = r)
    (K1 : ∀ r1, r = r1 → Goes w16V P C F w16P2 (⟨56, [(1, ol (.ptr 1 0)), (3, ol (.ar 10 0))], [(1, .cells [.int .i64 a0.Nodes, .sl (.nm 1) false a0.Arms]), (10, .arr 3 (.int .i64) r1 0 false)]⟩ : Ab.St yaE)) : Goes w16V P C F w16P1 (w16L1S a0 v1 v2 v3) := by
  unfold libJoinedL1 at h
  rcases ite_some h with ⟨b1, h⟩ | ⟨b1, h⟩
  · obtain ⟨c4, h⟩ := need_some h
    exact sg G [.reg [], .br true, .reg [], .reg [], .reg [], .enter, .weak [.keep [1, 3, 12, 13] [1, 10]]] (aa b1 <| aa c4 <| tt) (hl _ (si h))
  · exact sg G [.reg [], .br false, .auto, .weak [.keep [1, 3] [1, 10]]] (aa b1 <| tt) (K1 _ (hr _ (si h)).symm)
theorem w16L3_w (G : Good w16V P) {y : (List Int)} {o} {r} {a0} {v5} {v7} {v8} (E : Ends w16V C F Try.f16.results.toList [] [(.sl (.int .i64))] (y, ())) (h : libJoinedL3 a0 v5 v7 v8 = some o)
    (hl : ∀ v', o = .inl v' → Goes w16V P C F w16P4 (w16L3S a0 v5 v'.1 v'.2)) (hr : ∀ r', o = .inr r' → r' = r)
    (K1 : ∀ r2, r = r2 → Goes w16V P C F w16P5 (⟨56, [(1, ol (.ptr 1 0)), (3, ol (.ar 10 0)), (22, oi a0.Nodes), (23, oi v5)], [(1, .cells [.int .i64 a0.Nodes, .sl (.nm 1) false a0.Arms]), (10, .arr 3 (.int .i64) r2 0 false)]⟩ : Ab.St yaE)) : Goes w16V P C F w16P4 (w16L3S a0 v5 v7 v8) := by
  unfold libJoinedL3 at h
  rcases ite_some h with ⟨b3, h⟩ | ⟨b3, h⟩
  · obtain ⟨c5, h⟩ := need_some h
    obtain ⟨c6, h⟩ := need_some h
    obtain ⟨c7, h⟩ := need_some h
    obtain ⟨c8, h⟩ := need_some h
    obtain ⟨c9, h⟩ := need_some h
    exact sg G [.reg [], .br true, .reg [], .reg [], .reg [], .reg [], .enter, .weak [.keep [1, 3, 22, 23, 26, 27, 28] [1, 10]]] (aa b3 <| aa c5 <| aa c6 <| aa c7 <| aa c8 <| aa c9 <| tt) (hl _ (si h))
  · exact sg G [.reg [], .br false, .auto, .weak [.keep [1, 3, 22, 23] [1, 10]]] (aa b3 <| tt) (K1 _ (hr _ (si h)).symm)
theorem w16L2_w (G : Good w16V P) {y : (List Int)} {o} {r} {a0} {v5} {v6} (E : Ends w16V C F Try.f16.results.toList [] [(.sl (.int .i64))] (y, ())) (h : libJoinedL2 a0 v5 v6 = some o)
    (hl : ∀ v', o = .inl v' → Goes w16V P C F w16P3 (w16L2S a0 v'.1 v'.2)) (hr : ∀ r', o = .inr r' → r' = r)
    (K1 : ∀ r3, r = r3 → Goes w16V P C F w16P6 (⟨56, [(3, ol (.ar 10 0))], [(10, .arr 3 (.int .i64) r3 0 false)]⟩ : Ab.St yaE)) : Goes w16V P C F w16P3 (w16L2S a0 v5 v6) := by
  unfold libJoinedL2 at h
  rcases ite_some h with ⟨b2, h⟩ | ⟨b2, h⟩
  · obtain ⟨r2, hi, h⟩ := bind_some h
    have K1 : ∀ q, r2 = q → Goes w16V P C F w16P5 (⟨56, [(1, ol (.ptr 1 0)), (3, ol (.ar 10 0)), (22, oi a0.Nodes), (23, oi v5)], [(1, .cells [.int .i64 a0.Nodes, .sl (.nm 1) false a0.Arms]), (10, .arr 3 (.int .i64) q 0 false)]⟩ : Ab.St yaE) := by
      rintro q rfl
      exact sg G [.reg [], .enter, .weak [.keep [1, 3, 22, 23] [1, 10]]] tt (hl _ (si h))
    exact sg G [.reg [], .br true, .reg [], .enter, .weak [.keep [1, 3, 22, 23, 26, 27, 28] [1, 10]]] (aa b2 <| tt) (loop_goes (V := w16V) (F := F) (k := w16P4) (S := fun v => w16L3S a0 v5 v.1 v.2) (fun v o h hl hr => w16L3_w G E h hl hr K1) _ hi)
  · exact sg G [.reg [], .br false, .auto, .weak [.keep [3] [10]]] (aa b2 <| tt) (K1 _ (hr _ (si h)).symm)
theorem w16_w (G : Good w16V P) {y : (List Int)} {a0} (E : Ends w16V C F Try.f16.results.toList [] [(.sl (.int .i64))] (y, ())) (h : libJoined a0 = some y) : Goes w16V P C F w16P0 (w16S a0) := by
  unfold libJoined at h
  obtain ⟨c1, h⟩ := need_some h
  obtain ⟨c2, h⟩ := need_some h
  obtain ⟨c3, h⟩ := need_some h
  obtain ⟨r1, hi, h⟩ := bind_some h
  have K1 : ∀ q, r1 = q → Goes w16V P C F w16P2 (⟨56, [(1, ol (.ptr 1 0)), (3, ol (.ar 10 0))], [(1, .cells [.int .i64 a0.Nodes, .sl (.nm 1) false a0.Arms]), (10, .arr 3 (.int .i64) q 0 false)]⟩ : Ab.St yaE) := by
    rintro q rfl
    obtain ⟨r3, hi, h⟩ := bind_some h
    have K1 : ∀ q, r3 = q → Goes w16V P C F w16P6 (⟨56, [(3, ol (.ar 10 0))], [(10, .arr 3 (.int .i64) q 0 false)]⟩ : Ab.St yaE) := by
      rintro q rfl
      have e := sj h; subst e
      exact se G E [.reg [], .auto, .weak [.fix (.slot 2)]] tt
    exact sg G [.reg [], .enter, .weak [.keep [1, 3, 22, 23] [1, 10]]] tt (loop_goes (V := w16V) (F := F) (k := w16P3) (S := fun v => w16L2S a0 v.1 v.2) (fun v o h hl hr => w16L2_w G E h hl hr K1) _ hi)
  exact sg G [.reg [], .reg [], .reg [], .enter, .weak [.keep [1, 3, 12, 13] [1, 10]]] (aa c1 <| aa c2 <| aa c3 <| tt) (loop_goes (V := w16V) (F := F) (k := w16P1) (S := fun v => w16L1S a0 v.1 v.2.1 v.2.2) (fun v o h hl hr => w16L1_w G E h hl hr K1) _ hi)
noncomputable def w16FS : FS yaE := ⟨[(.nm 2)], [(.sl (.int .i64))], [], [], fun x => Option.map (fun r => (r, ())) (libJoined x.1)⟩
theorem w16Meets : MT 16 w16FS := show Meets w16V _ _ _ from mt (fn := Try.f16) (S := fun x => w16S x.1) (GB trivial trivial) fun G _ _ _ _ E h => w16_w G E h
noncomputable abbrev w43V : Env := EV [] [] false
noncomputable def w43P0 : List Item := [.code (Try.f43.body.getD .skip)]
noncomputable def w43S (a0 : Int) : Ab.St yaE := ⟨5, [(0, oi a0)], []⟩
theorem w43_w (G : Good w43V P) {y : NumZ} {a0} (E : Ends w43V C F Try.f43.results.toList [] [(.nm 3)] (y, ())) (h : numI a0 = some y) : Goes w43V P C F w43P0 (w43S a0) := by
  unfold numI at h
  have e := sj h; subst e
  exact se G E [.reg [], .reg [], .auto] tt
noncomputable def w43FS : FS yaE := ⟨[(.int .i64)], [(.nm 3)], [], [], fun x => Option.map (fun r => (r, ())) (numI x.1)⟩
theorem w43Meets : MT 43 w43FS := show Meets w43V _ _ _ from mt (fn := Try.f43) (S := fun x => w43S x.1) (GB trivial trivial) fun G _ _ _ _ E h => w43_w G E h
noncomputable abbrev w17V : Env := EV [(43, w43FS)] [] false
noncomputable def w17P0 : List Item := [.code (Try.f17.body.getD .skip)]
noncomputable def w17S (a0 : Int) : Ab.St yaE := ⟨7, [(0, oi a0)], []⟩
theorem w17_w (G : Good w17V P) {y : NumQ} {a0} (E : Ends w17V C F Try.f17.results.toList [] [(.nm 4)] (y, ())) (h : numInt a0 = some y) : Goes w17V P C F w17P0 (w17S a0) := by
  unfold numInt at h
  obtain ⟨y1, c1, h⟩ := bind_some h
  obtain ⟨y2, c2, h⟩ := bind_some h
  have e := sj h; subst e
  exact se G E [.reg [], .reg [(1, .res ⟨[(.nm 3)], (y1, ())⟩), (2, .res ⟨[(.nm 3)], (y2, ())⟩)], .auto] (aa (ca c1) <| aa (ca c2) <| tt)
noncomputable def w17FS : FS yaE := ⟨[(.int .i64)], [(.nm 4)], [], [], fun x => Option.map (fun r => (r, ())) (numInt x.1)⟩
theorem w17Meets : MT 17 w17FS := show Meets w17V _ _ _ from mt (fn := Try.f17) (S := fun x => w17S x.1) (GB ⟨w43Meets, trivial⟩ trivial) fun G _ _ _ _ E h => w17_w G E h
noncomputable abbrev w61V : Env := EV [] [] false
noncomputable def w61P0 : List Item := [.code (Try.f61.body.getD .skip)]
noncomputable def w61P1 : List Item := ctl [.reg, .reg, .br true, .auto] w61P0
noncomputable def w61P2 : List Item := ctl [.reg, .reg, .br false, .auto] w61P0
noncomputable def w61P3 : List Item := ctl [.reg, .br false, .auto] w61P2
noncomputable def w61J1S : Ab.St yaE := ⟨30, [], []⟩
noncomputable def w61J3S : Ab.St yaE := ⟨30, [], []⟩
noncomputable def w61J2S (a0 : NumZ) : Ab.St yaE := ⟨30, [(1, ol (.ptr 1 0))], [(1, .cells [.int .i64 a0.v, .sl (.int .u32) true a0.m, .bool a0.neg])]⟩
noncomputable def w61S (a0 : NumZ) : Ab.St yaE := ⟨30, [(0, og (yaToNumZ a0))], []⟩
theorem w61J1_w (G : Good w61V P) {y : Int} (E : Ends w61V C F Try.f61.results.toList [] [(.int .i64)] (y, ())) (h : numZSignJ1 = some y) : Goes w61V P C F w61P1 (w61J1S) := by
  unfold numZSignJ1 at h
  have e := sj h; subst e
  exact se G E [.reg [], .auto] tt
theorem w61J3_w (G : Good w61V P) {y : Int} (E : Ends w61V C F Try.f61.results.toList [] [(.int .i64)] (y, ())) (h : numZSignJ3 = some y) : Goes w61V P C F w61P3 (w61J3S) := by
  unfold numZSignJ3 at h
  have e := sj h; subst e
  exact se G E [.reg [], .auto] tt
theorem w61J2_w (G : Good w61V P) {y : Int} {a0} (E : Ends w61V C F Try.f61.results.toList [] [(.int .i64)] (y, ())) (h : numZSignJ2 a0 = some y) : Goes w61V P C F w61P2 (w61J2S a0) := by
  unfold numZSignJ2 at h
  rcases ite_some h with ⟨b7, h⟩ | ⟨b7, h⟩
  · rcases ite_some h with ⟨b8, h⟩ | ⟨b8, h⟩
    · have e := sj h; subst e
      exact se G E [.reg [(3, .bit true), (7, .bit true)], .br true, .reg [], .auto] (aa b7 <| aa b7 <| aa b7 <| aa b7 <| aa b8 <| tt)
    · exact sg G [.reg [(3, .bit true), (7, .bit true)], .br false, .auto, .weak [.keep [] []]] (aa b7 <| aa b7 <| aa b7 <| aa b7 <| aa b8 <| tt) (w61J3_w G E h)
  · exact sg G [.reg [(3, .bit false), (7, .bit false)], .br false, .auto, .weak [.keep [] []]] (aa b7 <| aa b7 <| aa b7 <| aa b7 <| aa (show false = false from rfl) <| tt) (w61J3_w G E h)
theorem w61_w (G : Good w61V P) {y : Int} {a0} (E : Ends w61V C F Try.f61.results.toList [] [(.int .i64)] (y, ())) (h : numZSign a0 = some y) : Goes w61V P C F w61P0 (w61S a0) := by
  unfold numZSign at h
  rcases ite_some h with ⟨b1, h⟩ | ⟨b1, h⟩
  · rcases ite_some h with ⟨b2, h⟩ | ⟨b2, h⟩
    · exact sg G [.reg [], .reg [(3, .bit true), (6, .bit true), (7, .bit true), (16, .bit true)], .br true, .auto, .weak [.keep [] []]] (aa b1 <| aa b1 <| aa b1 <| aa b2 <| aa b2 <| aa b2 <| aa b2 <| aa b2 <| aa b2 <| aa (show true = true from rfl) <| tt) (w61J1_w G E h)
    · rcases ite_some h with ⟨b3, h⟩ | ⟨b3, h⟩
      · rcases ite_some h with ⟨b4, h⟩ | ⟨b4, h⟩
        · exact sg G [.reg [], .reg [(3, .bit true), (6, .bit true), (7, .bit false), (11, .bit true), (15, .bit true), (16, .bit false)], .br true, .auto, .weak [.keep [] []]] (aa b1 <| aa b1 <| aa b1 <| aa b2 <| aa b2 <| aa b2 <| aa b2 <| aa b3 <| aa b3 <| aa b3 <| aa b2 <| aa b3 <| aa b2 <| aa b4 <| tt) (w61J1_w G E h)
        · exact sg G [.reg [], .reg [(3, .bit true), (6, .bit true), (7, .bit false), (11, .bit true), (15, .bit true), (16, .bit false)], .br false, .auto, .weak [.keep [1] [1]]] (aa b1 <| aa b1 <| aa b1 <| aa b2 <| aa b2 <| aa b2 <| aa b2 <| aa b3 <| aa b3 <| aa b3 <| aa b2 <| aa b3 <| aa b2 <| aa b4 <| tt) (w61J2_w G E h)
      · exact sg G [.reg [], .reg [(3, .bit true), (6, .bit true), (7, .bit false), (11, .bit false), (15, .bit false), (16, .bit false)], .br false, .auto, .weak [.keep [1] [1]]] (aa b1 <| aa b1 <| aa b1 <| aa b2 <| aa b2 <| aa b2 <| aa b2 <| aa b3 <| aa b3 <| aa b3 <| aa b2 <| aa b3 <| aa b2 <| aa (show false = false from rfl) <| tt) (w61J2_w G E h)
  · rcases ite_some h with ⟨b5, h⟩ | ⟨b5, h⟩
    · rcases ite_some h with ⟨b6, h⟩ | ⟨b6, h⟩
      · exact sg G [.reg [], .reg [(3, .bit false), (6, .bit false), (7, .bit false), (11, .bit true), (15, .bit true), (16, .bit false)], .br true, .auto, .weak [.keep [] []]] (aa b1 <| aa b1 <| aa b1 <| aa (show false = false from rfl) <| aa (show false = false from rfl) <| aa (show false = false from rfl) <| aa (show false = false from rfl) <| aa b5 <| aa b5 <| aa b5 <| aa (show false = false from rfl) <| aa b5 <| aa (show false = false from rfl) <| aa b6 <| tt) (w61J1_w G E h)
      · exact sg G [.reg [], .reg [(3, .bit false), (6, .bit false), (7, .bit false), (11, .bit true), (15, .bit true), (16, .bit false)], .br false, .auto, .weak [.keep [1] [1]]] (aa b1 <| aa b1 <| aa b1 <| aa (show false = false from rfl) <| aa (show false = false from rfl) <| aa (show false = false from rfl) <| aa (show false = false from rfl) <| aa b5 <| aa b5 <| aa b5 <| aa (show false = false from rfl) <| aa b5 <| aa (show false = false from rfl) <| aa b6 <| tt) (w61J2_w G E h)
    · exact sg G [.reg [], .reg [(3, .bit false), (6, .bit false), (7, .bit false), (11, .bit false), (15, .bit false), (16, .bit false)], .br false, .auto, .weak [.keep [1] [1]]] (aa b1 <| aa b1 <| aa b1 <| aa (show false = false from rfl) <| aa (show false = false from rfl) <| aa (show false = false from rfl) <| aa (show false = false from rfl) <| aa b5 <| aa b5 <| aa b5 <| aa (show false = false from rfl) <| aa b5 <| aa (show false = false from rfl) <| aa (show false = false from rfl) <| tt) (w61J2_w G E h)
noncomputable def w61FS : FS yaE := ⟨[(.nm 3)], [(.int .i64)], [], [], fun x => Option.map (fun r => (r, ())) (numZSign x.1)⟩
theorem w61Meets : MT 61 w61FS := show Meets w61V _ _ _ from mt (fn := Try.f61) (S := fun x => w61S x.1) (GB trivial trivial) fun G _ _ _ _ E h => w61_w G E h
noncomputable abbrev w68V : Env := EV [] [] false
noncomputable def w68P0 : List Item := [.code (Try.f68.body.getD .skip)]
noncomputable def w68P1 : List Item := ctl [.reg, .reg, .br false, .reg, .reg, .br true, .reg, .auto] w68P0
noncomputable def w68J1S (a0 : NumZ) (v1 : Int) : Ab.St yaE := ⟨42, [(1, ol (.ptr 1 0)), (4, ol (.int .u64 v1))], [(1, .cells [.int .i64 a0.v, .sl (.int .u32) true a0.m, .bool a0.neg])]⟩
noncomputable def w68S (a0 : NumZ) : Ab.St yaE := ⟨42, [(0, og (yaToNumZ a0))], []⟩
theorem w68J1_w (G : Good w68V P) {y : ((List Int) × Bool)} {a0} {v1} (E : Ends w68V C F Try.f68.results.toList [] [(.sl (.int .u32)), .bool] (y.1, y.2, ())) (h : numZWordsJ1 a0 v1 = some y) : Goes w68V P C F w68P1 (w68J1S a0 v1) := by
  unfold numZWordsJ1 at h
  rcases ite_some h with ⟨b3, h⟩ | ⟨b3, h⟩
  · have e := sj h; subst e
    exact se G E [.reg [], .br true, .reg [], .auto] (aa b3 <| tt)
  · obtain ⟨c1, h⟩ := need_some h
    rcases ite_some h with ⟨b4, h⟩ | ⟨b4, h⟩
    · have e := sj h; subst e
      exact se G E [.reg [], .br false, .reg [], .br true, .reg [], .auto] (aa b3 <| aa c1 <| aa b4 <| tt)
    · obtain ⟨c2, h⟩ := need_some h
      have e := sj h; subst e
      exact se G E [.reg [], .br false, .reg [], .br false, .reg [], .auto] (aa b3 <| aa c1 <| aa b4 <| aa c2 <| tt)
theorem w68_w (G : Good w68V P) {y : ((List Int) × Bool)} {a0} (E : Ends w68V C F Try.f68.results.toList [] [(.sl (.int .u32)), .bool] (y.1, y.2, ())) (h : numZWords a0 = some y) : Goes w68V P C F w68P0 (w68S a0) := by
  unfold numZWords at h
  rcases ite_some h with ⟨b1, h⟩ | ⟨b1, h⟩
  · have e := sj h; subst e
    exact se G E [.reg [], .reg [], .br true, .reg [], .auto] (aa b1 <| tt)
  · rcases ite_some h with ⟨b2, h⟩ | ⟨b2, h⟩
    · exact sg G [.reg [], .reg [], .br false, .reg [], .reg [], .br true, .reg [], .auto, .weak [.keep [1, 4] [1]]] (aa b1 <| aa b2 <| tt) (w68J1_w G E h)
    · exact sg G [.reg [], .reg [], .br false, .reg [], .reg [], .br false, .auto, .weak [.keep [1, 4] [1]]] (aa b1 <| aa b2 <| tt) (w68J1_w G E h)
noncomputable def w68FS : FS yaE := ⟨[(.nm 3)], [(.sl (.int .u32)), .bool], [], [], fun x => Option.map (fun r => (r.1, r.2, ())) (numZWords x.1)⟩
theorem w68Meets : MT 68 w68FS := show Meets w68V _ _ _ from mt (fn := Try.f68) (S := fun x => w68S x.1) (GB trivial trivial) fun G _ _ _ _ E h => w68_w G E h
noncomputable abbrev w69V : Env := EV [] [] false
noncomputable def w69P0 : List Item := [.code (Try.f69.body.getD .skip)]
noncomputable def w69P1 : List Item := ctl [.reg, .enter] w69P0
noncomputable def w69P2 : List Item := ctl [.reg, .br false, .auto] w69P1
noncomputable def w69P3 : List Item := ctl [.reg, .br true, .reg, .reg, .enter] w69P2
noncomputable def w69P4 : List Item := ctl [.reg, .br false, .auto] w69P3
noncomputable def w69P5 : List Item := ctl [.reg, .br false, .auto] w69P4
noncomputable def w69L1S (a1 : Bool) (v1 : (List Int)) : Ab.St yaE := ⟨55, [(0, ol (.sl (.int .u32) false v1)), (1, ol (.bool a1)), (4, ol (.ptr 4 0))], [(4, .cells [.int .i64 (0 : Int), .sl (.int .u32) true [], .bool false])]⟩
noncomputable def w69L2S (a1 : Bool) (r1 : (List Int)) (v3 : Int) (v4 : Int) : Ab.St yaE := ⟨55, [(0, ol (.sl (.int .u32) false r1)), (1, ol (.bool a1)), (4, ol (.ptr 4 0)), (5, ol (.int .u64 v3)), (6, oi v4)], [(4, .cells [.int .i64 (0 : Int), .sl (.int .u32) true [], .bool false])]⟩
noncomputable def w69J1S (a1 : Bool) (r1 : (List Int)) : Ab.St yaE := ⟨55, [(0, ol (.sl (.int .u32) false r1)), (1, ol (.bool a1)), (4, ol (.ptr 4 0))], [(4, .cells [.int .i64 (0 : Int), .sl (.int .u32) true [], .bool false])]⟩
noncomputable def w69S (a0 : (List Int)) (a1 : Bool) : Ab.St yaE := ⟨55, [(0, ol (.sl (.int .u32) false a0)), (1, ol (.bool a1))], []⟩
theorem w69L1_w (G : Good w69V P) {y : NumZ} {o} {r} {a1} {v1} (E : Ends w69V C F Try.f69.results.toList [] [(.nm 3)] (y, ())) (h : numMadeL1 a1 v1 = some o)
    (hl : ∀ v', o = .inl v' → Goes w69V P C F w69P1 (w69L1S a1 v')) (hr : ∀ r', o = .inr r' → r' = r)
    (K1 : ∀ r1, r = r1 → Goes w69V P C F w69P2 (⟨55, [(0, ol (.sl (.int .u32) false r1)), (1, ol (.bool a1)), (4, ol (.ptr 4 0))], [(4, .cells [.int .i64 (0 : Int), .sl (.int .u32) true [], .bool false])]⟩ : Ab.St yaE)) : Goes w69V P C F w69P1 (w69L1S a1 v1) := by
  unfold numMadeL1 at h
  rcases ite_some h with ⟨b1, h⟩ | ⟨b1, h⟩
  · obtain ⟨c1, h⟩ := need_some h
    rcases ite_some h with ⟨b2, h⟩ | ⟨b2, h⟩
    · obtain ⟨c2, h⟩ := need_some h
      obtain ⟨c3, h⟩ := need_some h
      obtain ⟨c4, h⟩ := need_some h
      exact sg G [.reg [(3, .bit true), (11, .bit true)], .br true, .reg [], .enter, .weak [.keep [0, 1, 4] [4]]] (aa b1 <| aa b1 <| aa b1 <| aa b1 <| aa b1 <| aa c1 <| aa b1 <| aa b1 <| aa b1 <| aa b2 <| aa c2 <| aa c3 <| aa c4 <| tt) (hl _ (si h))
    · exact sg G [.reg [(3, .bit true), (11, .bit true)], .br false, .auto, .weak [.keep [0, 1, 4] [4]]] (aa b1 <| aa b1 <| aa b1 <| aa b1 <| aa b1 <| aa c1 <| aa b1 <| aa b1 <| aa b1 <| aa b2 <| tt) (K1 _ (hr _ (si h)).symm)
  · exact sg G [.reg [(3, .bit false), (11, .bit false)], .br false, .auto, .weak [.keep [0, 1, 4] [4]]] (aa b1 <| aa b1 <| aa b1 <| aa b1 <| aa b1 <| aa b1 <| aa b1 <| aa b1 <| aa (show false = false from rfl) <| tt) (K1 _ (hr _ (si h)).symm)
theorem w69L2_w (G : Good w69V P) {y : NumZ} {o} {r} {a1} {r1} {v3} {v4} (E : Ends w69V C F Try.f69.results.toList [] [(.nm 3)] (y, ())) (h : numMadeL2 a1 r1 v3 v4 = some o)
    (hl : ∀ v', o = .inl v' → Goes w69V P C F w69P3 (w69L2S a1 r1 v'.1 v'.2)) (hr : ∀ r', o = .inr r' → r' = r)
    (K1 : ∀ r2, r = r2 → Goes w69V P C F w69P4 (⟨55, [(0, ol (.sl (.int .u32) false r1)), (1, ol (.bool a1)), (4, ol (.ptr 4 0)), (5, ol (.int .u64 r2))], [(4, .cells [.int .i64 (0 : Int), .sl (.int .u32) true [], .bool false])]⟩ : Ab.St yaE)) : Goes w69V P C F w69P3 (w69L2S a1 r1 v3 v4) := by
  unfold numMadeL2 at h
  rcases ite_some h with ⟨b4, h⟩ | ⟨b4, h⟩
  · obtain ⟨c5, h⟩ := need_some h
    obtain ⟨c6, h⟩ := need_some h
    exact sg G [.reg [], .br true, .reg [], .reg [], .enter, .weak [.keep [0, 1, 4, 5, 6] [4]]] (aa b4 <| aa c5 <| aa c6 <| tt) (hl _ (si h))
  · exact sg G [.reg [], .br false, .auto, .weak [.keep [0, 1, 4, 5] [4]]] (aa b4 <| tt) (K1 _ (hr _ (si h)).symm)
theorem w69J1_w (G : Good w69V P) {y : NumZ} {a1} {r1} (E : Ends w69V C F Try.f69.results.toList [] [(.nm 3)] (y, ())) (h : numMadeJ1 a1 r1 = some y) : Goes w69V P C F w69P5 (w69J1S a1 r1) := by
  unfold numMadeJ1 at h
  obtain ⟨c7, h⟩ := need_some h
  have e := sj h; subst e
  exact se G E [.reg [], .auto, .weak [.ne (.cell 4) 1]] (aa c7 <| tt)
theorem w69_w (G : Good w69V P) {y : NumZ} {a0} {a1} (E : Ends w69V C F Try.f69.results.toList [] [(.nm 3)] (y, ())) (h : numMade a0 a1 = some y) : Goes w69V P C F w69P0 (w69S a0 a1) := by
  unfold numMade at h
  obtain ⟨r1, hi, h⟩ := bind_some h
  have K1 : ∀ q, r1 = q → Goes w69V P C F w69P2 (⟨55, [(0, ol (.sl (.int .u32) false q)), (1, ol (.bool a1)), (4, ol (.ptr 4 0))], [(4, .cells [.int .i64 (0 : Int), .sl (.int .u32) true [], .bool false])]⟩ : Ab.St yaE) := by
    rintro q rfl
    rcases ite_some h with ⟨b3, h⟩ | ⟨b3, h⟩
    · obtain ⟨r2, hi, h⟩ := bind_some h
      have K1 : ∀ q, r2 = q → Goes w69V P C F w69P4 (⟨55, [(0, ol (.sl (.int .u32) false r1)), (1, ol (.bool a1)), (4, ol (.ptr 4 0)), (5, ol (.int .u64 q))], [(4, .cells [.int .i64 (0 : Int), .sl (.int .u32) true [], .bool false])]⟩ : Ab.St yaE) := by
        rintro q rfl
        rcases ite_some h with ⟨b5, h⟩ | ⟨b5, h⟩
        · rcases ite_some h with ⟨b6, h⟩ | ⟨b6, h⟩
          · have e := sj h; subst e
            exact se G E [.reg [], .br true, .reg [], .br true, .reg [], .auto] (aa b5 <| aa b6 <| tt)
          · have e := sj h; subst e
            exact se G E [.reg [], .br true, .reg [], .br false, .reg [], .auto] (aa b5 <| aa b6 <| tt)
        · exact sg G [.reg [], .br false, .auto, .weak [.keep [0, 1, 4] [4]]] (aa b5 <| tt) (w69J1_w G E h)
      exact sg G [.reg [], .br true, .reg [], .reg [], .enter, .weak [.keep [0, 1, 4, 5, 6] [4]]] (aa b3 <| tt) (loop_goes (V := w69V) (F := F) (k := w69P3) (S := fun v => w69L2S a1 r1 v.1 v.2) (fun v o h hl hr => w69L2_w G E h hl hr K1) _ hi)
    · exact sg G [.reg [], .br false, .auto, .weak [.keep [0, 1, 4] [4]]] (aa b3 <| tt) (w69J1_w G E h)
  exact sg G [.reg [], .enter, .weak [.keep [0, 1, 4] [4]]] tt (loop_goes (V := w69V) (F := F) (k := w69P1) (S := fun v => w69L1S a1 v) (fun v o h hl hr => w69L1_w G E h hl hr K1) _ hi)
noncomputable def w69FS : FS yaE := ⟨[(.sl (.int .u32)), .bool], [(.nm 3)], [], [], fun x => Option.map (fun r => (r, ())) (numMade x.1 x.2.1)⟩
theorem w69Meets : MT 69 w69FS := show Meets w69V _ _ _ from mt (fn := Try.f69) (S := fun x => w69S x.1 x.2.1) (GB trivial trivial) fun G _ _ _ _ E h => w69_w G E h
noncomputable abbrev w70V : Env := EV [] [] false
noncomputable def w70P0 : List Item := [.code (Try.f70.body.getD .skip)]
noncomputable def w70P1 : List Item := ctl [.reg, .reg, .br true, .reg, .auto] w70P0
noncomputable def w70P2 : List Item := ctl [.reg, .reg, .reg, .enter] w70P1
noncomputable def w70P3 : List Item := ctl [.reg, .br true, .reg, .reg, .reg, .br true, .reg, .auto] w70P2
noncomputable def w70P4 : List Item := ctl [.reg, .br false, .auto] w70P2
noncomputable def w70J2S (v1 : (List Int)) (v2 : (List Int)) (v4 : Int) (v5 : (List Int)) (v6 : Int) : Ab.St yaE := ⟨56, [(0, ol (.sl (.int .u32) false v1)), (1, ol (.sl (.int .u32) false v2)), (5, ol (.ar 19 0)), (8, ol (.int .u64 v6)), (21, oi ((v1.length : Nat) : Int)), (22, oi v4)], [(19, .arr 115 (.int .u32) v5 0 false)]⟩
noncomputable def w70L1S (v1 : (List Int)) (v2 : (List Int)) (v3 : Int) (v4 : Int) (v5 : (List Int)) : Ab.St yaE := ⟨56, [(0, ol (.sl (.int .u32) false v1)), (1, ol (.sl (.int .u32) false v2)), (5, ol (.ar 19 0)), (6, ol (.int .u64 v3)), (21, oi ((v1.length : Nat) : Int)), (22, oi v4)], [(19, .arr 115 (.int .u32) v5 0 false)]⟩
noncomputable def w70J1S (v1 : (List Int)) (v2 : (List Int)) : Ab.St yaE := ⟨56, [(0, ol (.sl (.int .u32) false v1)), (1, ol (.sl (.int .u32) false v2))], []⟩
noncomputable def w70S (a0 : (List Int)) (a1 : (List Int)) : Ab.St yaE := ⟨56, [(0, ol (.sl (.int .u32) false a0)), (1, ol (.sl (.int .u32) false a1))], []⟩
theorem w70J2_w (G : Good w70V P) {y : (List Int)} {o} {r} {v1} {v2} {v4} {v5} {v6} (E : Ends w70V C F Try.f70.results.toList [] [(.sl (.int .u32))] (y, ())) (h : numAddWordsJ2 v1 v2 v4 v5 v6 = some o)
    (hl : ∀ v', o = .inl v' → Goes w70V P C F w70P2 (w70L1S v1 v2 v'.1 v'.2.1 v'.2.2)) (hr : ∀ r', o = .inr r' → r' = r)
    (K1 : ∀ r1, r = r1 → Goes w70V P C F w70P4 (⟨56, [(5, ol (.ar 19 0)), (6, ol (.int .u64 r1.1))], [(19, .arr 115 (.int .u32) r1.2 0 false)]⟩ : Ab.St yaE)) : Goes w70V P C F w70P3 (w70J2S v1 v2 v4 v5 v6) := by
  unfold numAddWordsJ2 at h
  obtain ⟨c6, h⟩ := need_some h
  obtain ⟨c7, h⟩ := need_some h
  exact sg G [.reg [], .reg [], .reg [], .enter, .weak [.re 19 19 0, .keep [0, 1, 5, 6, 21, 22] [19]]] (aa c6 <| aa c7 <| tt) (hl _ (si h))
theorem w70L1_w (G : Good w70V P) {y : (List Int)} {o} {r} {v1} {v2} {v3} {v4} {v5} (E : Ends w70V C F Try.f70.results.toList [] [(.sl (.int .u32))] (y, ())) (h : numAddWordsL1 v1 v2 v3 v4 v5 = some o)
    (hl : ∀ v', o = .inl v' → Goes w70V P C F w70P2 (w70L1S v1 v2 v'.1 v'.2.1 v'.2.2)) (hr : ∀ r', o = .inr r' → r' = r)
    (K1 : ∀ r1, r = r1 → Goes w70V P C F w70P4 (⟨56, [(5, ol (.ar 19 0)), (6, ol (.int .u64 r1.1))], [(19, .arr 115 (.int .u32) r1.2 0 false)]⟩ : Ab.St yaE)) : Goes w70V P C F w70P2 (w70L1S v1 v2 v3 v4 v5) := by
  unfold numAddWordsL1 at h
  rcases ite_some h with ⟨b2, h⟩ | ⟨b2, h⟩
  · obtain ⟨c4, h⟩ := need_some h
    rcases ite_some h with ⟨b3, h⟩ | ⟨b3, h⟩
    · obtain ⟨c5, h⟩ := need_some h
      exact sg G [.reg [], .br true, .reg [], .reg [], .reg [], .br true, .reg [], .auto, .weak [.keep [0, 1, 5, 8, 21, 22] [19]]] (aa b2 <| aa c4 <| aa b3 <| aa c5 <| tt) (w70J2_w G E h hl hr K1)
    · exact sg G [.reg [], .br true, .reg [], .reg [], .reg [], .br false, .auto, .weak [.keep [0, 1, 5, 8, 21, 22] [19]]] (aa b2 <| aa c4 <| aa b3 <| tt) (w70J2_w G E h hl hr K1)
  · exact sg G [.reg [], .br false, .auto, .weak [.keep [5, 6] [19]]] (aa b2 <| tt) (K1 _ (hr _ (si h)).symm)
theorem w70J1_w (G : Good w70V P) {y : (List Int)} {v1} {v2} (E : Ends w70V C F Try.f70.results.toList [] [(.sl (.int .u32))] (y, ())) (h : numAddWordsJ1 v1 v2 = some y) : Goes w70V P C F w70P1 (w70J1S v1 v2) := by
  unfold numAddWordsJ1 at h
  obtain ⟨c1, h⟩ := need_some h
  obtain ⟨c2, h⟩ := need_some h
  obtain ⟨c3, h⟩ := need_some h
  obtain ⟨r1, hi, h⟩ := bind_some h
  have K1 : ∀ q, r1 = q → Goes w70V P C F w70P4 (⟨56, [(5, ol (.ar 19 0)), (6, ol (.int .u64 q.1))], [(19, .arr 115 (.int .u32) q.2 0 false)]⟩ : Ab.St yaE) := by
    rintro q rfl
    obtain ⟨c8, h⟩ := need_some h
    have e := sj h; subst e
    exact se G E [.reg [], .auto, .weak [.fix (.slot 4)]] (aa c8 <| tt)
  exact sg G [.reg [], .reg [], .reg [], .enter, .weak [.keep [0, 1, 5, 6, 21, 22] [19]]] (aa c1 <| aa c2 <| aa c3 <| tt) (loop_goes (V := w70V) (F := F) (k := w70P2) (S := fun v => w70L1S v1 v2 v.1 v.2.1 v.2.2) (fun v o h hl hr => w70L1_w G E h hl hr K1) _ hi)
theorem w70_w (G : Good w70V P) {y : (List Int)} {a0} {a1} (E : Ends w70V C F Try.f70.results.toList [] [(.sl (.int .u32))] (y, ())) (h : numAddWords a0 a1 = some y) : Goes w70V P C F w70P0 (w70S a0 a1) := by
  unfold numAddWords at h
  rcases ite_some h with ⟨b1, h⟩ | ⟨b1, h⟩
  · exact sg G [.reg [], .reg [], .br true, .reg [], .auto, .weak [.keep [0, 1] []]] (aa b1 <| tt) (w70J1_w G E h)
  · exact sg G [.reg [], .reg [], .br false, .auto, .weak [.keep [0, 1] []]] (aa b1 <| tt) (w70J1_w G E h)
noncomputable def w70FS : FS yaE := ⟨[(.sl (.int .u32)), (.sl (.int .u32))], [(.sl (.int .u32))], [], [], fun x => Option.map (fun r => (r, ())) (numAddWords x.1 x.2.1)⟩
theorem w70Meets : MT 70 w70FS := show Meets w70V _ _ _ from mt (fn := Try.f70) (S := fun x => w70S x.1 x.2.1) (GB trivial trivial) fun G _ _ _ _ E h => w70_w G E h
noncomputable abbrev w71V : Env := EV [] [] false
noncomputable def w71P0 : List Item := [.code (Try.f71.body.getD .skip)]
noncomputable def w71P1 : List Item := ctl [.reg, .reg, .br false, .reg, .enter] w71P0
noncomputable def w71P2 : List Item := ctl [.reg, .br false, .auto] w71P1
noncomputable def w71L1S (a0 : (List Int)) (a1 : (List Int)) (v1 : Int) : Ab.St yaE := ⟨41, [(0, ol (.sl (.int .u32) false a0)), (1, ol (.sl (.int .u32) false a1)), (5, oi v1)], []⟩
noncomputable def w71S (a0 : (List Int)) (a1 : (List Int)) : Ab.St yaE := ⟨41, [(0, ol (.sl (.int .u32) false a0)), (1, ol (.sl (.int .u32) false a1))], []⟩
theorem w71L1_w (G : Good w71V P) {y : Int} {o} {r} {a0} {a1} {v1} (E : Ends w71V C F Try.f71.results.toList [] [(.int .i64)] (y, ())) (h : numCmpWordsL1 a0 a1 v1 = some o)
    (hl : ∀ v', o = .inl v' → Goes w71V P C F w71P1 (w71L1S a0 a1 v')) (hr : ∀ r', o = .inr r' → r' = r)
    (K1 : ∀ r1, r = (.inl r1) → Goes w71V P C F w71P2 (⟨41, [], []⟩ : Ab.St yaE))
    (KR : ∀ r', r = (.inr r') → r' = y) : Goes w71V P C F w71P1 (w71L1S a0 a1 v1) := by
  unfold numCmpWordsL1 at h
  rcases ite_some h with ⟨b3, h⟩ | ⟨b3, h⟩
  · obtain ⟨c1, h⟩ := need_some h
    obtain ⟨c2, h⟩ := need_some h
    rcases ite_some h with ⟨b4, h⟩ | ⟨b4, h⟩
    · obtain ⟨c3, h⟩ := need_some h
      obtain ⟨c4, h⟩ := need_some h
      rcases ite_some h with ⟨b5, h⟩ | ⟨b5, h⟩
      · have e := KR _ (hr _ (si h)).symm; subst e
        exact se G E [.reg [], .br true, .reg [], .br true, .reg [], .br true, .reg [], .auto] (aa b3 <| aa c1 <| aa c2 <| aa b4 <| aa c3 <| aa c4 <| aa b5 <| tt)
      · have e := KR _ (hr _ (si h)).symm; subst e
        exact se G E [.reg [], .br true, .reg [], .br true, .reg [], .br false, .reg [], .auto] (aa b3 <| aa c1 <| aa c2 <| aa b4 <| aa c3 <| aa c4 <| aa b5 <| tt)
    · exact sg G [.reg [], .br true, .reg [], .br false, .reg [], .enter, .weak [.keep [0, 1, 5] []]] (aa b3 <| aa c1 <| aa c2 <| aa b4 <| tt) (hl _ (si h))
  · exact sg G [.reg [], .br false, .auto, .weak [.keep [] []]] (aa b3 <| tt) (K1 _ (hr _ (si h)).symm)
theorem w71_w (G : Good w71V P) {y : Int} {a0} {a1} (E : Ends w71V C F Try.f71.results.toList [] [(.int .i64)] (y, ())) (h : numCmpWords a0 a1 = some y) : Goes w71V P C F w71P0 (w71S a0 a1) := by
  unfold numCmpWords at h
  rcases ite_some h with ⟨b1, h⟩ | ⟨b1, h⟩
  · rcases ite_some h with ⟨b2, h⟩ | ⟨b2, h⟩
    · have e := sj h; subst e
      exact se G E [.reg [], .reg [], .br true, .reg [], .br true, .reg [], .auto] (aa b1 <| aa b2 <| tt)
    · have e := sj h; subst e
      exact se G E [.reg [], .reg [], .br true, .reg [], .br false, .reg [], .auto] (aa b1 <| aa b2 <| tt)
  · obtain ⟨r, hi, h⟩ := bind_some h
    have K1 : ∀ r1, r = (.inl r1) → Goes w71V P C F w71P2 (⟨41, [], []⟩ : Ab.St yaE) := by
      rintro r1 rfl
      have e := sj h; subst e
      exact se G E [.reg [], .auto] tt
    have KR : ∀ r2, r = (.inr r2) → r2 = y := by
      rintro r2 rfl
      exact Option.some.inj h
    exact sg G [.reg [], .reg [], .br false, .reg [], .enter, .weak [.keep [0, 1, 5] []]] (aa b1 <| tt) (loop_goes (V := w71V) (F := F) (k := w71P1) (S := fun v => w71L1S a0 a1 v) (fun v o h hl hr => w71L1_w G E h hl hr K1 KR) _ hi)
noncomputable def w71FS : FS yaE := ⟨[(.sl (.int .u32)), (.sl (.int .u32))], [(.int .i64)], [], [], fun x => Option.map (fun r => (r, ())) (numCmpWords x.1 x.2.1)⟩
theorem w71Meets : MT 71 w71FS := show Meets w71V _ _ _ from mt (fn := Try.f71) (S := fun x => w71S x.1 x.2.1) (GB trivial trivial) fun G _ _ _ _ E h => w71_w G E h
noncomputable abbrev w72V : Env := EV [] [] false
noncomputable def w72P0 : List Item := [.code (Try.f72.body.getD .skip)]
noncomputable def w72P1 : List Item := ctl [.reg, .reg, .reg, .reg, .enter] w72P0
noncomputable def w72P2 : List Item := ctl [.reg, .br true, .reg, .reg, .reg, .br true, .reg, .auto] w72P1
noncomputable def w72P3 : List Item := ctl [.reg, .reg, .br true, .reg, .auto] w72P2
noncomputable def w72P4 : List Item := ctl [.reg, .br false, .auto] w72P1
noncomputable def w72J2S (a0 : (List Int)) (a1 : (List Int)) (v2 : Int) (v3 : (List Int)) (v5 : Int) (v6 : Int) : Ab.St yaE := ⟨46, [(0, ol (.sl (.int .u32) false a0)), (1, ol (.sl (.int .u32) false a1)), (5, ol (.ar 11 0)), (6, oi v5), (8, oi v6), (13, oi ((a0.length : Nat) : Int)), (14, oi v2)], [(11, .arr 115 (.int .u32) v3 0 false)]⟩
noncomputable def w72J1S (a0 : (List Int)) (a1 : (List Int)) (v2 : Int) (v3 : (List Int)) (v4 : Int) : Ab.St yaE := ⟨46, [(0, ol (.sl (.int .u32) false a0)), (1, ol (.sl (.int .u32) false a1)), (5, ol (.ar 11 0)), (8, oi v4), (13, oi ((a0.length : Nat) : Int)), (14, oi v2)], [(11, .arr 115 (.int .u32) v3 0 false)]⟩
noncomputable def w72L1S (a0 : (List Int)) (a1 : (List Int)) (v1 : Int) (v2 : Int) (v3 : (List Int)) : Ab.St yaE := ⟨46, [(0, ol (.sl (.int .u32) false a0)), (1, ol (.sl (.int .u32) false a1)), (5, ol (.ar 11 0)), (6, oi v1), (13, oi ((a0.length : Nat) : Int)), (14, oi v2)], [(11, .arr 115 (.int .u32) v3 0 false)]⟩
noncomputable def w72S (a0 : (List Int)) (a1 : (List Int)) : Ab.St yaE := ⟨46, [(0, ol (.sl (.int .u32) false a0)), (1, ol (.sl (.int .u32) false a1))], []⟩
theorem w72J2_w (G : Good w72V P) {y : (List Int)} {o} {r} {a0} {a1} {v2} {v3} {v5} {v6} (E : Ends w72V C F Try.f72.results.toList [] [(.sl (.int .u32))] (y, ())) (h : numSubWordsJ2 a0 a1 v2 v3 v5 v6 = some o)
    (hl : ∀ v', o = .inl v' → Goes w72V P C F w72P1 (w72L1S a0 a1 v'.1 v'.2.1 v'.2.2)) (hr : ∀ r', o = .inr r' → r' = r)
    (K1 : ∀ r1, r = r1 → Goes w72V P C F w72P4 (⟨46, [(5, ol (.ar 11 0))], [(11, .arr 115 (.int .u32) r1 0 false)]⟩ : Ab.St yaE)) : Goes w72V P C F w72P3 (w72J2S a0 a1 v2 v3 v5 v6) := by
  unfold numSubWordsJ2 at h
  obtain ⟨c6, h⟩ := need_some h
  exact sg G [.reg [], .reg [], .enter, .weak [.re 11 11 0, .keep [0, 1, 5, 6, 13, 14] [11]]] (aa c6 <| tt) (hl _ (si h))
theorem w72J1_w (G : Good w72V P) {y : (List Int)} {o} {r} {a0} {a1} {v2} {v3} {v4} (E : Ends w72V C F Try.f72.results.toList [] [(.sl (.int .u32))] (y, ())) (h : numSubWordsJ1 a0 a1 v2 v3 v4 = some o)
    (hl : ∀ v', o = .inl v' → Goes w72V P C F w72P1 (w72L1S a0 a1 v'.1 v'.2.1 v'.2.2)) (hr : ∀ r', o = .inr r' → r' = r)
    (K1 : ∀ r1, r = r1 → Goes w72V P C F w72P4 (⟨46, [(5, ol (.ar 11 0))], [(11, .arr 115 (.int .u32) r1 0 false)]⟩ : Ab.St yaE)) : Goes w72V P C F w72P2 (w72J1S a0 a1 v2 v3 v4) := by
  unfold numSubWordsJ1 at h
  rcases ite_some h with ⟨b3, h⟩ | ⟨b3, h⟩
  · exact sg G [.reg [], .reg [], .br true, .reg [], .auto, .weak [.keep [0, 1, 5, 6, 8, 13, 14] [11]]] (aa b3 <| tt) (w72J2_w G E h hl hr K1)
  · exact sg G [.reg [], .reg [], .br false, .auto, .weak [.keep [0, 1, 5, 6, 8, 13, 14] [11]]] (aa b3 <| tt) (w72J2_w G E h hl hr K1)
theorem w72L1_w (G : Good w72V P) {y : (List Int)} {o} {r} {a0} {a1} {v1} {v2} {v3} (E : Ends w72V C F Try.f72.results.toList [] [(.sl (.int .u32))] (y, ())) (h : numSubWordsL1 a0 a1 v1 v2 v3 = some o)
    (hl : ∀ v', o = .inl v' → Goes w72V P C F w72P1 (w72L1S a0 a1 v'.1 v'.2.1 v'.2.2)) (hr : ∀ r', o = .inr r' → r' = r)
    (K1 : ∀ r1, r = r1 → Goes w72V P C F w72P4 (⟨46, [(5, ol (.ar 11 0))], [(11, .arr 115 (.int .u32) r1 0 false)]⟩ : Ab.St yaE)) : Goes w72V P C F w72P1 (w72L1S a0 a1 v1 v2 v3) := by
  unfold numSubWordsL1 at h
  rcases ite_some h with ⟨b1, h⟩ | ⟨b1, h⟩
  · obtain ⟨c4, h⟩ := need_some h
    rcases ite_some h with ⟨b2, h⟩ | ⟨b2, h⟩
    · obtain ⟨c5, h⟩ := need_some h
      exact sg G [.reg [], .br true, .reg [], .reg [], .reg [], .br true, .reg [], .auto, .weak [.keep [0, 1, 5, 8, 13, 14] [11]]] (aa b1 <| aa c4 <| aa b2 <| aa c5 <| tt) (w72J1_w G E h hl hr K1)
    · exact sg G [.reg [], .br true, .reg [], .reg [], .reg [], .br false, .auto, .weak [.keep [0, 1, 5, 8, 13, 14] [11]]] (aa b1 <| aa c4 <| aa b2 <| tt) (w72J1_w G E h hl hr K1)
  · exact sg G [.reg [], .br false, .auto, .weak [.keep [5] [11]]] (aa b1 <| tt) (K1 _ (hr _ (si h)).symm)
theorem w72_w (G : Good w72V P) {y : (List Int)} {a0} {a1} (E : Ends w72V C F Try.f72.results.toList [] [(.sl (.int .u32))] (y, ())) (h : numSubWords a0 a1 = some y) : Goes w72V P C F w72P0 (w72S a0 a1) := by
  unfold numSubWords at h
  obtain ⟨c1, h⟩ := need_some h
  obtain ⟨c2, h⟩ := need_some h
  obtain ⟨c3, h⟩ := need_some h
  obtain ⟨r1, hi, h⟩ := bind_some h
  have K1 : ∀ q, r1 = q → Goes w72V P C F w72P4 (⟨46, [(5, ol (.ar 11 0))], [(11, .arr 115 (.int .u32) q 0 false)]⟩ : Ab.St yaE) := by
    rintro q rfl
    have e := sj h; subst e
    exact se G E [.reg [], .auto, .weak [.fix (.slot 4)]] tt
  exact sg G [.reg [], .reg [], .reg [], .reg [], .enter, .weak [.keep [0, 1, 5, 6, 13, 14] [11]]] (aa c1 <| aa c2 <| aa c3 <| tt) (loop_goes (V := w72V) (F := F) (k := w72P1) (S := fun v => w72L1S a0 a1 v.1 v.2.1 v.2.2) (fun v o h hl hr => w72L1_w G E h hl hr K1) _ hi)
noncomputable def w72FS : FS yaE := ⟨[(.sl (.int .u32)), (.sl (.int .u32))], [(.sl (.int .u32))], [], [], fun x => Option.map (fun r => (r, ())) (numSubWords x.1 x.2.1)⟩
theorem w72Meets : MT 72 w72FS := show Meets w72V _ _ _ from mt (fn := Try.f72) (S := fun x => w72S x.1 x.2.1) (GB trivial trivial) fun G _ _ _ _ E h => w72_w G E h
noncomputable abbrev w45V : Env := EV [(68, w68FS), (69, w69FS), (70, w70FS), (71, w71FS), (72, w72FS)] [] false
noncomputable def w45P0 : List Item := [.code (Try.f45.body.getD .skip)]
noncomputable def w45P1 : List Item := ctl [.reg, .reg, .br true, .reg, .reg, .br false, .auto] w45P0
noncomputable def w45J1S (a0 : NumZ) (a1 : NumZ) : Ab.St yaE := ⟨65, [(2, ol (.ptr 2 0)), (3, ol (.ptr 3 0)), (4, ol (.ptr 4 0))], [(2, .cells [.int .i64 a0.v, .sl (.int .u32) true a0.m, .bool a0.neg]), (3, .cells [.int .i64 a1.v, .sl (.int .u32) true a1.m, .bool a1.neg]), (4, .cells [.int .i64 (0 : Int), .sl (.int .u32) true [], .bool false])]⟩
noncomputable def w45S (a0 : NumZ) (a1 : NumZ) : Ab.St yaE := ⟨65, [(0, og (yaToNumZ a0)), (1, og (yaToNumZ a1))], []⟩
theorem w45J1_w (G : Good w45V P) {y : NumZ} {a0} {a1} (E : Ends w45V C F Try.f45.results.toList [] [(.nm 3)] (y, ())) (h : numZAddJ1 a0 a1 = some y) : Goes w45V P C F w45P1 (w45J1S a0 a1) := by
  unfold numZAddJ1 at h
  obtain ⟨y1, c1, h⟩ := bind_some h
  obtain ⟨y2, c2, h⟩ := bind_some h
  rcases ite_some h with ⟨b4, h⟩ | ⟨b4, h⟩
  · obtain ⟨y3, c3, h⟩ := bind_some h
    obtain ⟨y4, c4, h⟩ := bind_some h
    have e := sj h; subst e
    exact se G E [.reg [(1, .res ⟨[(.sl (.int .u32)), .bool], (y1.1, y1.2, ())⟩)], .reg [(1, .res ⟨[(.sl (.int .u32)), .bool], (y2.1, y2.2, ())⟩)], .reg [], .br true, .reg [(2, .res ⟨[(.sl (.int .u32))], (y3, ())⟩), (4, .res ⟨[(.nm 3)], (y4, ())⟩)], .auto] (aa (cb c1) <| aa (cb c2) <| aa b4 <| aa (ca c3) <| aa (ca c4) <| tt)
  · obtain ⟨y5, c5, h⟩ := bind_some h
    rcases ite_some h with ⟨b5, h⟩ | ⟨b5, h⟩
    · obtain ⟨y6, c6, h⟩ := bind_some h
      obtain ⟨y7, c7, h⟩ := bind_some h
      have e := sj h; subst e
      exact se G E [.reg [(1, .res ⟨[(.sl (.int .u32)), .bool], (y1.1, y1.2, ())⟩)], .reg [(1, .res ⟨[(.sl (.int .u32)), .bool], (y2.1, y2.2, ())⟩)], .reg [], .br false, .reg [(2, .res ⟨[(.int .i64)], (y5, ())⟩)], .br true, .reg [(2, .res ⟨[(.sl (.int .u32))], (y6, ())⟩), (4, .res ⟨[(.nm 3)], (y7, ())⟩)], .auto] (aa (cb c1) <| aa (cb c2) <| aa b4 <| aa (ca c5) <| aa b5 <| aa (ca c6) <| aa (ca c7) <| tt)
    · obtain ⟨y8, c8, h⟩ := bind_some h
      obtain ⟨y9, c9, h⟩ := bind_some h
      have e := sj h; subst e
      exact se G E [.reg [(1, .res ⟨[(.sl (.int .u32)), .bool], (y1.1, y1.2, ())⟩)], .reg [(1, .res ⟨[(.sl (.int .u32)), .bool], (y2.1, y2.2, ())⟩)], .reg [], .br false, .reg [(2, .res ⟨[(.int .i64)], (y5, ())⟩)], .br false, .reg [(2, .res ⟨[(.sl (.int .u32))], (y8, ())⟩), (4, .res ⟨[(.nm 3)], (y9, ())⟩)], .auto] (aa (cb c1) <| aa (cb c2) <| aa b4 <| aa (ca c5) <| aa b5 <| aa (ca c8) <| aa (ca c9) <| tt)
theorem w45_w (G : Good w45V P) {y : NumZ} {a0} {a1} (E : Ends w45V C F Try.f45.results.toList [] [(.nm 3)] (y, ())) (h : numZAdd a0 a1 = some y) : Goes w45V P C F w45P0 (w45S a0 a1) := by
  unfold numZAdd at h
  rcases ite_some h with ⟨b1, h⟩ | ⟨b1, h⟩
  · rcases ite_some h with ⟨b2, h⟩ | ⟨b2, h⟩
    · rcases ite_some h with ⟨b3, h⟩ | ⟨b3, h⟩
      · have e := sj h; subst e
        exact se G E [.reg [], .reg [(3, .bit true), (7, .bit true)], .br true, .reg [], .reg [], .br true, .reg [], .auto] (aa b1 <| aa b1 <| aa b1 <| aa b1 <| aa b2 <| aa b3 <| tt)
      · exact sg G [.reg [], .reg [(3, .bit true), (7, .bit true)], .br true, .reg [], .reg [], .br false, .auto, .weak [.keep [2, 3, 4] [2, 3, 4]]] (aa b1 <| aa b1 <| aa b1 <| aa b1 <| aa b2 <| aa b3 <| tt) (w45J1_w G E h)
    · exact sg G [.reg [], .reg [(3, .bit true), (7, .bit true)], .br false, .auto, .weak [.keep [2, 3, 4] [2, 3, 4]]] (aa b1 <| aa b1 <| aa b1 <| aa b1 <| aa b2 <| tt) (w45J1_w G E h)
  · exact sg G [.reg [], .reg [(3, .bit false), (7, .bit false)], .br false, .auto, .weak [.keep [2, 3, 4] [2, 3, 4]]] (aa b1 <| aa b1 <| aa b1 <| aa b1 <| aa (show false = false from rfl) <| tt) (w45J1_w G E h)
noncomputable def w45FS : FS yaE := ⟨[(.nm 3), (.nm 3)], [(.nm 3)], [], [], fun x => Option.map (fun r => (r, ())) (numZAdd x.1 x.2.1)⟩
theorem w45Meets : MT 45 w45FS := show Meets w45V _ _ _ from mt (fn := Try.f45) (S := fun x => w45S x.1 x.2.1) (GB ⟨w68Meets, w69Meets, w70Meets, w71Meets, w72Meets, trivial⟩ trivial) fun G _ _ _ _ E h => w45_w G E h
noncomputable abbrev w73V : Env := EV [(68, w68FS), (69, w69FS)] [] false
noncomputable def w73P0 : List Item := [.code (Try.f73.body.getD .skip)]
noncomputable def w73P1 : List Item := ctl [.reg, .reg, .br false, .auto] w73P0
noncomputable def w73J1S (a0 : NumZ) : Ab.St yaE := ⟨26, [(1, ol (.ptr 1 0)), (2, ol (.ptr 2 0))], [(1, .cells [.int .i64 a0.v, .sl (.int .u32) true a0.m, .bool a0.neg]), (2, .cells [.int .i64 (0 : Int), .sl (.int .u32) true [], .bool false])]⟩
noncomputable def w73S (a0 : NumZ) : Ab.St yaE := ⟨26, [(0, og (yaToNumZ a0))], []⟩
theorem w73J1_w (G : Good w73V P) {y : NumZ} {a0} (E : Ends w73V C F Try.f73.results.toList [] [(.nm 3)] (y, ())) (h : numZNegJ1 a0 = some y) : Goes w73V P C F w73P1 (w73J1S a0) := by
  unfold numZNegJ1 at h
  obtain ⟨y1, c1, h⟩ := bind_some h
  obtain ⟨y2, c2, h⟩ := bind_some h
  have e := sj h; subst e
  exact se G E [.reg [(1, .res ⟨[(.sl (.int .u32)), .bool], (y1.1, y1.2, ())⟩)], .reg [(3, .res ⟨[(.nm 3)], (y2, ())⟩)], .auto] (aa (cb c1) <| aa (ca c2) <| tt)
theorem w73_w (G : Good w73V P) {y : NumZ} {a0} (E : Ends w73V C F Try.f73.results.toList [] [(.nm 3)] (y, ())) (h : numZNeg a0 = some y) : Goes w73V P C F w73P0 (w73S a0) := by
  unfold numZNeg at h
  rcases ite_some h with ⟨b1, h⟩ | ⟨b1, h⟩
  · rcases ite_some h with ⟨b2, h⟩ | ⟨b2, h⟩
    · have e := sj h; subst e
      exact se G E [.reg [], .reg [(3, .bit true), (7, .bit true)], .br true, .reg [], .auto] (aa b1 <| aa b1 <| aa b1 <| aa b1 <| aa b2 <| tt)
    · exact sg G [.reg [], .reg [(3, .bit true), (7, .bit true)], .br false, .auto, .weak [.keep [1, 2] [1, 2]]] (aa b1 <| aa b1 <| aa b1 <| aa b1 <| aa b2 <| tt) (w73J1_w G E h)
  · exact sg G [.reg [], .reg [(3, .bit false), (7, .bit false)], .br false, .auto, .weak [.keep [1, 2] [1, 2]]] (aa b1 <| aa b1 <| aa b1 <| aa b1 <| aa (show false = false from rfl) <| tt) (w73J1_w G E h)
noncomputable def w73FS : FS yaE := ⟨[(.nm 3)], [(.nm 3)], [], [], fun x => Option.map (fun r => (r, ())) (numZNeg x.1)⟩
theorem w73Meets : MT 73 w73FS := show Meets w73V _ _ _ from mt (fn := Try.f73) (S := fun x => w73S x.1) (GB ⟨w68Meets, w69Meets, trivial⟩ trivial) fun G _ _ _ _ E h => w73_w G E h
noncomputable abbrev w92V : Env := EV [(45, w45FS), (73, w73FS)] [] false
noncomputable def w92P0 : List Item := [.code (Try.f92.body.getD .skip)]
noncomputable def w92S (a0 : NumZ) (a1 : NumZ) : Ab.St yaE := ⟨9, [(0, og (yaToNumZ a0)), (1, og (yaToNumZ a1))], []⟩
theorem w92_w (G : Good w92V P) {y : NumZ} {a0} {a1} (E : Ends w92V C F Try.f92.results.toList [] [(.nm 3)] (y, ())) (h : numZSub a0 a1 = some y) : Goes w92V P C F w92P0 (w92S a0 a1) := by
  unfold numZSub at h
  obtain ⟨y1, c1, h⟩ := bind_some h
  obtain ⟨y2, c2, h⟩ := bind_some h
  have e := sj h; subst e
  exact se G E [.reg [], .reg [(2, .res ⟨[(.nm 3)], (y1, ())⟩), (3, .res ⟨[(.nm 3)], (y2, ())⟩)], .auto] (aa (ca c1) <| aa (ca c2) <| tt)
noncomputable def w92FS : FS yaE := ⟨[(.nm 3), (.nm 3)], [(.nm 3)], [], [], fun x => Option.map (fun r => (r, ())) (numZSub x.1 x.2.1)⟩
theorem w92Meets : MT 92 w92FS := show Meets w92V _ _ _ from mt (fn := Try.f92) (S := fun x => w92S x.1 x.2.1) (GB ⟨w45Meets, w73Meets, trivial⟩ trivial) fun G _ _ _ _ E h => w92_w G E h
noncomputable abbrev w67V : Env := EV [(61, w61FS), (92, w92FS)] [] false
noncomputable def w67P0 : List Item := [.code (Try.f67.body.getD .skip)]
noncomputable def w67P1 : List Item := ctl [.reg, .reg, .br false, .auto] w67P0
noncomputable def w67J1S (a0 : NumZ) (a1 : NumZ) : Ab.St yaE := ⟨29, [(2, ol (.ptr 2 0)), (3, ol (.ptr 3 0))], [(2, .cells [.int .i64 a0.v, .sl (.int .u32) true a0.m, .bool a0.neg]), (3, .cells [.int .i64 a1.v, .sl (.int .u32) true a1.m, .bool a1.neg])]⟩
noncomputable def w67S (a0 : NumZ) (a1 : NumZ) : Ab.St yaE := ⟨29, [(0, og (yaToNumZ a0)), (1, og (yaToNumZ a1))], []⟩
theorem w67J1_w (G : Good w67V P) {y : Int} {a0} {a1} (E : Ends w67V C F Try.f67.results.toList [] [(.int .i64)] (y, ())) (h : numZCmpJ1 a0 a1 = some y) : Goes w67V P C F w67P1 (w67J1S a0 a1) := by
  unfold numZCmpJ1 at h
  obtain ⟨y1, c1, h⟩ := bind_some h
  obtain ⟨y2, c2, h⟩ := bind_some h
  have e := sj h; subst e
  exact se G E [.reg [(2, .res ⟨[(.nm 3)], (y1, ())⟩), (3, .res ⟨[(.int .i64)], (y2, ())⟩)], .auto] (aa (ca c1) <| aa (ca c2) <| tt)
theorem w67_w (G : Good w67V P) {y : Int} {a0} {a1} (E : Ends w67V C F Try.f67.results.toList [] [(.int .i64)] (y, ())) (h : numZCmp a0 a1 = some y) : Goes w67V P C F w67P0 (w67S a0 a1) := by
  unfold numZCmp at h
  rcases ite_some h with ⟨b1, h⟩ | ⟨b1, h⟩
  · rcases ite_some h with ⟨b2, h⟩ | ⟨b2, h⟩
    · rcases ite_some h with ⟨b3, h⟩ | ⟨b3, h⟩
      · have e := sj h; subst e
        exact se G E [.reg [], .reg [(3, .bit true), (7, .bit true)], .br true, .reg [], .br true, .reg [], .auto] (aa b1 <| aa b1 <| aa b1 <| aa b1 <| aa b2 <| aa b3 <| tt)
      · rcases ite_some h with ⟨b4, h⟩ | ⟨b4, h⟩
        · have e := sj h; subst e
          exact se G E [.reg [], .reg [(3, .bit true), (7, .bit true)], .br true, .reg [], .br false, .reg [], .br true, .reg [], .auto] (aa b1 <| aa b1 <| aa b1 <| aa b1 <| aa b2 <| aa b3 <| aa b4 <| tt)
        · have e := sj h; subst e
          exact se G E [.reg [], .reg [(3, .bit true), (7, .bit true)], .br true, .reg [], .br false, .reg [], .br false, .reg [], .auto] (aa b1 <| aa b1 <| aa b1 <| aa b1 <| aa b2 <| aa b3 <| aa b4 <| tt)
    · exact sg G [.reg [], .reg [(3, .bit true), (7, .bit true)], .br false, .auto, .weak [.keep [2, 3] [2, 3]]] (aa b1 <| aa b1 <| aa b1 <| aa b1 <| aa b2 <| tt) (w67J1_w G E h)
  · exact sg G [.reg [], .reg [(3, .bit false), (7, .bit false)], .br false, .auto, .weak [.keep [2, 3] [2, 3]]] (aa b1 <| aa b1 <| aa b1 <| aa b1 <| aa (show false = false from rfl) <| tt) (w67J1_w G E h)
noncomputable def w67FS : FS yaE := ⟨[(.nm 3), (.nm 3)], [(.int .i64)], [], [], fun x => Option.map (fun r => (r, ())) (numZCmp x.1 x.2.1)⟩
theorem w67Meets : MT 67 w67FS := show Meets w67V _ _ _ from mt (fn := Try.f67) (S := fun x => w67S x.1 x.2.1) (GB ⟨w61Meets, w92Meets, trivial⟩ trivial) fun G _ _ _ _ E h => w67_w G E h
noncomputable abbrev w44V : Env := EV [(43, w43FS), (67, w67FS)] [] false
noncomputable def w44P0 : List Item := [.code (Try.f44.body.getD .skip)]
noncomputable def w44S (a0 : NumQ) : Ab.St yaE := ⟨8, [(0, og (yaToNumQ a0))], []⟩
theorem w44_w (G : Good w44V P) {y : Bool} {a0} (E : Ends w44V C F Try.f44.results.toList [] [.bool] (y, ())) (h : numQIsInt a0 = some y) : Goes w44V P C F w44P0 (w44S a0) := by
  unfold numQIsInt at h
  obtain ⟨y1, c1, h⟩ := bind_some h
  obtain ⟨y2, c2, h⟩ := bind_some h
  have e := sj h; subst e
  exact se G E [.reg [], .reg [(2, .res ⟨[(.nm 3)], (y1, ())⟩), (3, .res ⟨[(.int .i64)], (y2, ())⟩)], .auto] (aa (ca c1) <| aa (ca c2) <| tt)
noncomputable def w44FS : FS yaE := ⟨[(.nm 4)], [.bool], [], [], fun x => Option.map (fun r => (r, ())) (numQIsInt x.1)⟩
theorem w44Meets : MT 44 w44FS := show Meets w44V _ _ _ from mt (fn := Try.f44) (S := fun x => w44S x.1) (GB ⟨w43Meets, w67Meets, trivial⟩ trivial) fun G _ _ _ _ E h => w44_w G E h
noncomputable abbrev w98V : Env := EV [] [] false
noncomputable def w98P0 : List Item := [.code (Try.f98.body.getD .skip)]
noncomputable def w98P1 : List Item := ctl [.reg, .reg, .br true, .reg, .reg, .auto] w98P0
noncomputable def w98P2 : List Item := ctl [.reg, .br true, .reg, .reg, .auto] w98P1
noncomputable def w98J2S (v3 : Int) (v4 : Int) : Ab.St yaE := ⟨19, [(0, ol (.int .u32 v3)), (2, oi v4)], []⟩
noncomputable def w98J1S (v1 : Int) (v2 : Int) : Ab.St yaE := ⟨19, [(0, ol (.int .u32 v1)), (2, oi v2)], []⟩
noncomputable def w98S (a0 : Int) : Ab.St yaE := ⟨19, [(0, ol (.int .u32 a0))], []⟩
theorem w98J2_w (G : Good w98V P) {y : Int} {v3} {v4} (E : Ends w98V C F Try.f98.results.toList [] [(.int .i64)] (y, ())) (h : bitsLen32J2 v3 v4 = some y) : Goes w98V P C F w98P2 (w98J2S v3 v4) := by
  unfold bitsLen32J2 at h
  obtain ⟨c3, h⟩ := need_some h
  have e := sj h; subst e
  exact se G E [.reg [], .auto] (aa c3 <| tt)
theorem w98J1_w (G : Good w98V P) {y : Int} {v1} {v2} (E : Ends w98V C F Try.f98.results.toList [] [(.int .i64)] (y, ())) (h : bitsLen32J1 v1 v2 = some y) : Goes w98V P C F w98P1 (w98J1S v1 v2) := by
  unfold bitsLen32J1 at h
  rcases ite_some h with ⟨b2, h⟩ | ⟨b2, h⟩
  · obtain ⟨c2, h⟩ := need_some h
    exact sg G [.reg [], .br true, .reg [], .reg [], .auto, .weak [.keep [0, 2] []]] (aa b2 <| aa c2 <| tt) (w98J2_w G E h)
  · exact sg G [.reg [], .br false, .auto, .weak [.keep [0, 2] []]] (aa b2 <| tt) (w98J2_w G E h)
theorem w98_w (G : Good w98V P) {y : Int} {a0} (E : Ends w98V C F Try.f98.results.toList [] [(.int .i64)] (y, ())) (h : bitsLen32 a0 = some y) : Goes w98V P C F w98P0 (w98S a0) := by
  unfold bitsLen32 at h
  rcases ite_some h with ⟨b1, h⟩ | ⟨b1, h⟩
  · obtain ⟨c1, h⟩ := need_some h
    exact sg G [.reg [], .reg [], .br true, .reg [], .reg [], .auto, .weak [.keep [0, 2] []]] (aa b1 <| aa c1 <| tt) (w98J1_w G E h)
  · exact sg G [.reg [], .reg [], .br false, .auto, .weak [.keep [0, 2] []]] (aa b1 <| tt) (w98J1_w G E h)
noncomputable def w98FS : FS yaE := ⟨[(.int .u32)], [(.int .i64)], [], [], fun x => Option.map (fun r => (r, ())) (bitsLen32 x.1)⟩
theorem w98Meets : MT 98 w98FS := show Meets w98V _ _ _ from mt (fn := Try.f98) (S := fun x => w98S x.1) (GB trivial trivial) fun G _ _ _ _ E h => w98_w G E h
end
end Go.Ab
