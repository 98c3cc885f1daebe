/- The functions compute what the plain functions tell. What a plain function gives; searching loops; simple names. Simple names are told alike by both. Modifiers put over others, as a list: what the package scope does. Modifiers put over others: the list that the package scope makes. Copies of expressions and modifiers are the same; expressions equal themselves. Conditions: none beyond those that each theorem names. -/
import Derived.Test.YtgngflkahbpecaaGreatDoorU18
import Derived.Test.YtgngflkahbpecaaGreatDoorU15
namespace Go.Ab
open Go Go.Proofs
set_option linter.unusedVariables false
section
variable {P : Program} {C : Ctx} {F : Act → World → Prop}
noncomputable abbrev w59V : Env := EV [] [] false
noncomputable def w59P0 := c0 Tryz.f59
noncomputable def w59FS : FS ydE := f1 [(.sl (.nm 2)), .str] (.int .i64) fun x => isoclineref09AtPath x.1 x.2.1
noncomputable def w59P1 := ct [0, 0, 1] w59P0
noncomputable def w59P2 := ct [0, 2, 4] w59P1
abbrev w59E (C : Ctx) (F : FT) (y : Int) : Prop := En w59V C F Tryz.f59 w59FS (y, ())
def w59L1X1 (r1 : Unit) : ST := ⟨20, [], []⟩
def w59L1S (a0 : (List ApiMod)) (a1 : (List UInt8)) (v : Int) : ST := ⟨20, [os 0 (.nm 2) a0, ol 1 (.str a1), oi 5 v], []⟩
def w59S (a0 : (List ApiMod)) (a1 : (List UInt8)) : ST := ⟨20, [os 0 (.nm 2) a0, ol 1 (.str a1)], []⟩
theorem w59L1_w (G : Good w59V P) {y a0 a1} (E : w59E C F y) (v : Int) o (h : isoclineref09AtPathL1 a0 a1 v = some o) (L : LP w59V P C F w59P1 (w59L1S a0 a1) (Sum.elim (GX w59V P C F w59P2 w59L1X1) (RX y)) o) : Goes w59V P C F w59P1 (w59L1S a0 a1 v) := by
  unfold isoclineref09AtPathL1 at h
  rcases ite_some h with ⟨b1, h⟩ | ⟨b1, h⟩
  · obtain ⟨c1, h⟩ := need_some h
    rcases ite_some h with ⟨b2, h⟩ | ⟨b2, h⟩
    · have e : _ = y := L.2 _ (si h); subst e
      exact se G E [r0, bt, r0, bt, r0, au] (e3 b1 c1 b2)
    · exact sg G [r0, bt, r0, bf, r0, en] (e3 b1 c1 b2) (L.1 _ (si h))
  · exact sg G [r0, bf, au] (e1 b1) (L.2 _ (si h))
theorem w59_w (G : Good w59V P) {y a0 a1} (E : w59E C F y) (h : isoclineref09AtPath a0 a1 = some y) : Goes w59V P C F w59P0 (w59S a0 a1) := by
  unfold isoclineref09AtPath at h
  obtain ⟨r, hi, h⟩ := bind_some h
  refine sg G [r0, r0, en] tt (lg (w59L1_w G E) hi ?_)
  rcases r with r1 | r2
  · have e := sj h; subst e
    exact se G E [r0, au] tt
  · exact sj h
theorem w59Meets : MT 59 w59FS := show Meets w59V _ _ _ from mt (fn := Tryz.f59) (S := fun x => w59S x.1 x.2.1) (GB trivial trivial) fun G _ _ _ _ => w59_w G
noncomputable abbrev w60V : Env := EV [(59, w59FS)] [] false
noncomputable def w60P0 := c0 Tryz.f60
noncomputable def w60FS : FS ydE := f1 [(.sl (.nm 2)), (.sl (.nm 2))] (.sl (.nm 2)) fun x => isoclineref09Over x.1 x.2.1
noncomputable def w60P1 := ct [0, 0, 0, 1] w60P0
noncomputable def w60P2 := ct [0, 3, 0, 0, 0, 3, 0, 4] w60P1
noncomputable def w60P3 := ct [0, 2, 4] w60P1
abbrev w60E (C : Ctx) (F : FT) (y : (List ApiMod)) : Prop := En w60V C F Tryz.f60 w60FS (y, ())
def w60L1X1 (r1 : (List ApiMod)) : ST := ⟨34, [ol 5 (.ar 9 0)], [ba 9 75 (.nm 2) r1]⟩
def w60J1S (a0 : (List ApiMod)) (a1 : (List ApiMod)) (v1 : Int) (v3 : (List ApiMod)) : ST := ⟨34, [os 1 (.nm 2) a1, ol 5 (.ar 9 0), os 12 (.nm 2) a0, oi 13 (a0.length : Int), oi 14 v1], [ba 9 75 (.nm 2) v3]⟩
def w60L1S (a0 : (List ApiMod)) (a1 : (List ApiMod)) (v : Int × (List ApiMod)) : ST := ⟨34, [os 1 (.nm 2) a1, ol 5 (.ar 9 0), os 12 (.nm 2) a0, oi 13 (a0.length : Int), oi 14 v.1], [ba 9 75 (.nm 2) v.2]⟩
def w60S (a0 : (List ApiMod)) (a1 : (List ApiMod)) : ST := ⟨34, [os 0 (.nm 2) a0, os 1 (.nm 2) a1], []⟩
theorem w60J1_w (G : Good w60V P) {y o a0 a1 v1 v3} (E : w60E C F y) (h : isoclineref09OverJ1 a0 a1 v1 v3 = some o) (L : LP w60V P C F w60P1 (w60L1S a0 a1) (GX w60V P C F w60P3 w60L1X1) o) : Goes w60V P C F w60P2 (w60J1S a0 a1 v1 v3) := by
  unfold isoclineref09OverJ1 at h
  exact sg G [r0, en] tt (L.1 _ (si h))
theorem w60L1_w (G : Good w60V P) {y a0 a1} (E : w60E C F y) (v : Int × (List ApiMod)) o (h : isoclineref09OverL1 a0 a1 v.1 v.2 = some o) (L : LP w60V P C F w60P1 (w60L1S a0 a1) (GX w60V P C F w60P3 w60L1X1) o) : Goes w60V P C F w60P1 (w60L1S a0 a1 v) := by
  unfold isoclineref09OverL1 at h
  rcases ite_some h with ⟨b1, h⟩ | ⟨b1, h⟩
  · obtain ⟨c2, h⟩ := need_some h
    obtain ⟨y1, c3, h⟩ := bind_some h
    rcases ite_some h with ⟨b2, h⟩ | ⟨b2, h⟩
    · obtain ⟨c4, h⟩ := need_some h
      exact sg G [r0, bt, r0, rc 3 (rs (.int .i64) y1), r0, bt, r0, au] (e5 b1 c2 (ca c3) b2 c4) (w60J1_w G E h L)
    · obtain ⟨c5, h⟩ := need_some h
      exact sg G [r0, bt, r0, rc 3 (rs (.int .i64) y1), r0, bf, r0, au, .weak [.re 9 9 0]] (e5 b1 c2 (ca c3) b2 c5) (w60J1_w G E h L)
  · exact sg G [r0, bf, au] (e1 b1) (L.2 _ (si h))
theorem w60_w (G : Good w60V P) {y a0 a1} (E : w60E C F y) (h : isoclineref09Over a0 a1 = some y) : Goes w60V P C F w60P0 (w60S a0 a1) := by
  unfold isoclineref09Over at h
  obtain ⟨c1, h⟩ := need_some h
  obtain ⟨r1, hi, h⟩ := bind_some h
  refine sg G [r0, rc 0 .lit, r0, en, .weak [.re 9 9 0]] (e1 c1) (lg (w60L1_w G E) hi ?_)
  have e := sj h; subst e
  exact se G E [r0, au, .weak [.fix (.slot 4)]] tt
theorem w60Meets : MT 60 w60FS := show Meets w60V _ _ _ from mt (fn := Tryz.f60) (S := fun x => w60S x.1 x.2.1) (GB ⟨w59Meets, trivial⟩ trivial) fun G _ _ _ _ => w60_w G
noncomputable abbrev w30V : Env := EV [(58, w58FS), (59, w59FS), (60, w60FS)] [] false
noncomputable def w30P0 := c0 Tryz.f30
noncomputable def w30FS : FS ydE := f2 [(.sl (.nm 2)), (.sl (.nm 2))] (.sl (.nm 2)) (.int .i64) fun x => isoclineref09Merge x.1 x.2.1
noncomputable def w30P1 := ct [0, 0, 3, 4] w30P0
noncomputable def w30P2 := ct [0, 0, 2, 0, 1] w30P0
noncomputable def w30P3 := ct [0, 3, 0, 0, 1] w30P2
noncomputable def w30P4 := ct [0, 2, 4] w30P3
noncomputable def w30P5 := ct [0, 2, 4] w30P2
noncomputable def w30P6 := ct [0, 1] w30P5
noncomputable def w30P7 := ct [0, 3, 0, 0, 1] w30P6
noncomputable def w30P8 := ct [0, 2, 4] w30P7
noncomputable def w30P9 := ct [0, 2, 4] w30P6
abbrev w30E (C : Ctx) (F : FT) (y : ((List ApiMod) × Int)) : Prop := En w30V C F Tryz.f30 w30FS (y.1, y.2, ())
def w30L2X1 (a0 : (List ApiMod)) (a1 : (List ApiMod)) (v1 : Int) (r1 : Unit) : ST := ⟨74, [os 0 (.nm 2) a0, os 1 (.nm 2) a1, os 24 (.sl (.nm 2)) [a0, a1], oi 25 ([a0, a1].length : Int), oi 26 v1], []⟩
def w30L1X1 (a0 : (List ApiMod)) (a1 : (List ApiMod)) (r3 : Unit) : ST := ⟨74, [os 0 (.nm 2) a0, os 1 (.nm 2) a1], []⟩
def w30L4X1 (a0 : (List ApiMod)) (a1 : (List ApiMod)) (v4 : Int) (r4 : Unit) : ST := ⟨74, [os 0 (.nm 2) a0, os 1 (.nm 2) a1, os 44 (.sl (.nm 2)) [a0, a1], oi 45 ([a0, a1].length : Int), oi 46 v4], []⟩
def w30L3X1 (a0 : (List ApiMod)) (a1 : (List ApiMod)) (r6 : Unit) : ST := ⟨74, [os 0 (.nm 2) a0, os 1 (.nm 2) a1], []⟩
def w30J1S : ST := ⟨74, [], []⟩
def w30L2S (a0 : (List ApiMod)) (a1 : (List ApiMod)) (v1 : Int) (v : Int × Int) : ST := ⟨74, [os 0 (.nm 2) a0, os 1 (.nm 2) a1, os 24 (.sl (.nm 2)) [a0, a1], oi 25 ([a0, a1].length : Int), oi 26 v1, os 30 (.nm 2) (List.getD [a0, a1] (v1).toNat ([] : (List ApiMod))), oi 31 v.1, oi 32 v.2], []⟩
def w30L1S (a0 : (List ApiMod)) (a1 : (List ApiMod)) (v : Int) : ST := ⟨74, [os 0 (.nm 2) a0, os 1 (.nm 2) a1, os 24 (.sl (.nm 2)) [a0, a1], oi 25 ([a0, a1].length : Int), oi 26 v], []⟩
def w30L4S (a0 : (List ApiMod)) (a1 : (List ApiMod)) (v4 : Int) (v : Int) : ST := ⟨74, [os 0 (.nm 2) a0, os 1 (.nm 2) a1, os 11 (.nm 2) (List.getD [a0, a1] (v4).toNat ([] : (List ApiMod))), oi 12 v, os 44 (.sl (.nm 2)) [a0, a1], oi 45 ([a0, a1].length : Int), oi 46 v4], []⟩
def w30L3S (a0 : (List ApiMod)) (a1 : (List ApiMod)) (v : Int) : ST := ⟨74, [os 0 (.nm 2) a0, os 1 (.nm 2) a1, os 44 (.sl (.nm 2)) [a0, a1], oi 45 ([a0, a1].length : Int), oi 46 v], []⟩
def w30S (a0 : (List ApiMod)) (a1 : (List ApiMod)) : ST := ⟨74, [os 0 (.nm 2) a0, os 1 (.nm 2) a1], []⟩
theorem w30J1_w (G : Good w30V P) {y} (E : w30E C F y) (h : isoclineref09MergeJ1 = some y) : Goes w30V P C F w30P1 (w30J1S) := by
  unfold isoclineref09MergeJ1 at h
  have e := sj h; subst e
  exact se G E [r0, au] tt
theorem w30L2_w (G : Good w30V P) {y a0 a1 v1} (E : w30E C F y) (v : Int × Int) o (h : isoclineref09MergeL2 a0 a1 v1 v.1 v.2 = some o) (L : LP w30V P C F w30P3 (w30L2S a0 a1 v1) (Sum.elim (GX w30V P C F w30P4 (w30L2X1 a0 a1 v1)) (RX y)) o) : Goes w30V P C F w30P3 (w30L2S a0 a1 v1 v) := by
  unfold isoclineref09MergeL2 at h
  rcases ite_some h with ⟨b4, h⟩ | ⟨b4, h⟩
  · obtain ⟨c2, h⟩ := need_some h
    obtain ⟨y1, c3, h⟩ := bind_some h
    rcases ite_some h with ⟨b5, h⟩ | ⟨b5, h⟩
    · have e : _ = y := L.2 _ (si h); subst e
      exact se G E [r0, bt, r0, rc 2 (rs .bool y1), bt, r0, au] (e4 b4 c2 (ca c3) b5)
    · exact sg G [r0, bt, r0, rc 2 (rs .bool y1), bf, r0, en] (e4 b4 c2 (ca c3) b5) (L.1 _ (si h))
  · exact sg G [r0, bf, au] (e1 b4) (L.2 _ (si h))
theorem w30L1_w (G : Good w30V P) {y a0 a1} (E : w30E C F y) (v : Int) o (h : isoclineref09MergeL1 a0 a1 v = some o) (L : LP w30V P C F w30P2 (w30L1S a0 a1) (Sum.elim (GX w30V P C F w30P5 (w30L1X1 a0 a1)) (RX y)) o) : Goes w30V P C F w30P2 (w30L1S a0 a1 v) := by
  unfold isoclineref09MergeL1 at h
  rcases ite_some h with ⟨b3, h⟩ | ⟨b3, h⟩
  · obtain ⟨c1, h⟩ := need_some h
    obtain ⟨r, hi, h⟩ := bind_some h
    refine sg G [r0, bt, r0, r0, en] (e2 b3 c1) (lg (w30L2_w G E) hi ?_)
    rcases r with r1 | r2
    · exact sg G [r0, en] tt (L.1 _ (si h))
    · exact L.2 _ (si h)
  · exact sg G [r0, bf, au] (e1 b3) (L.2 _ (si h))
theorem w30L4_w (G : Good w30V P) {y a0 a1 v4} (E : w30E C F y) (v : Int) o (h : isoclineref09MergeL4 a0 a1 v4 v = some o) (L : LP w30V P C F w30P7 (w30L4S a0 a1 v4) (Sum.elim (GX w30V P C F w30P8 (w30L4X1 a0 a1 v4)) (RX y)) o) : Goes w30V P C F w30P7 (w30L4S a0 a1 v4 v) := by
  unfold isoclineref09MergeL4 at h
  rcases ite_some h with ⟨b7, h⟩ | ⟨b7, h⟩
  · obtain ⟨c5, c6, c7, c8, h⟩ := ns4 h
    obtain ⟨y2, c9, h⟩ := bind_some h
    rcases ite_some h with ⟨b8, h⟩ | ⟨b8, h⟩
    · have e : _ = y := L.2 _ (si h); subst e
      exact se G E [r0, bt, rc 8 (rs (.int .i64) y2), bt, r0, au] (q6 b7 c5 c6 c7 c8 (ca c9) <| e1 b8)
    · exact sg G [r0, bt, rc 8 (rs (.int .i64) y2), bf, r0, en] (q6 b7 c5 c6 c7 c8 (ca c9) <| e1 b8) (L.1 _ (si h))
  · exact sg G [r0, bf, au] (e1 b7) (L.2 _ (si h))
theorem w30L3_w (G : Good w30V P) {y a0 a1} (E : w30E C F y) (v : Int) o (h : isoclineref09MergeL3 a0 a1 v = some o) (L : LP w30V P C F w30P6 (w30L3S a0 a1) (Sum.elim (GX w30V P C F w30P9 (w30L3X1 a0 a1)) (RX y)) o) : Goes w30V P C F w30P6 (w30L3S a0 a1 v) := by
  unfold isoclineref09MergeL3 at h
  rcases ite_some h with ⟨b6, h⟩ | ⟨b6, h⟩
  · obtain ⟨c4, h⟩ := need_some h
    obtain ⟨r, hi, h⟩ := bind_some h
    refine sg G [r0, bt, r0, r0, en] (e2 b6 c4) (lg (w30L4_w G E) hi ?_)
    rcases r with r4 | r5
    · exact sg G [r0, en] tt (L.1 _ (si h))
    · exact L.2 _ (si h)
  · exact sg G [r0, bf, au] (e1 b6) (L.2 _ (si h))
theorem w30_w (G : Good w30V P) {y a0 a1} (E : w30E C F y) (h : isoclineref09Merge a0 a1 = some y) : Goes w30V P C F w30P0 (w30S a0 a1) := by
  unfold isoclineref09Merge at h
  rcases ite_some h with ⟨b1, h⟩ | ⟨b1, h⟩
  · exact sg G [r0, ru [3, 7], bt, au] (ar 4 b1 <| e1 rT) (w30J1_w G E h)
  · rcases ite_some h with ⟨b2, h⟩ | ⟨b2, h⟩
    · exact sg G [r0, rf [3, 7], bt, au] (ar 4 b1 <| e1 b2) (w30J1_w G E h)
    · obtain ⟨r, hi, h⟩ := bind_some h
      refine sg G [r0, rf [3, 7], bf, r0, en] (ar 4 b1 <| e1 b2) (lg (w30L1_w G E) hi ?_)
      rcases r with r3 | r8
      · obtain ⟨r, hi, h⟩ := bind_some h
        refine sg G [r0, en] tt (lg (w30L3_w G E) hi ?_)
        rcases r with r6 | r7
        · obtain ⟨y3, c10, h⟩ := bind_some h
          rcases ite_some h with ⟨b9, h⟩ | ⟨b9, h⟩
          · have e := sj h; subst e
            exact se G E [rc 2 (rs (.sl (.nm 2)) y3), r0, bt, r0, au] (e2 (ca c10) b9)
          · have e := sj h; subst e
            exact se G E [rc 2 (rs (.sl (.nm 2)) y3), r0, bf, r0, au] (e2 (ca c10) b9)
        · exact sj h
      · exact sj h
theorem w30Meets : MT 30 w30FS := show Meets w30V _ _ _ from mt (fn := Tryz.f30) (S := fun x => w30S x.1 x.2.1) (GB ⟨w58Meets, w59Meets, w60Meets, trivial⟩ trivial) fun G _ _ _ _ => w30_w G
noncomputable def w61FS (R : ApiExpr → ApiExpr → Option Bool) : FS ydE := f1 [(.nm 1), (.nm 1)] .bool fun x => R x.1 x.2.1
noncomputable abbrev w61V (R : ApiExpr → ApiExpr → Option Bool) : Env := EV [(61, (w61FS R))] [] false
noncomputable def w61P0 := c0 Tryz.f61
noncomputable def w61P1 := ct [0, 0, 3, 4] w61P0
noncomputable def w61P2 := ct [0, 0, 2, 0, 1] w61P0
noncomputable def w61P3 := ct [0, 2, 4] w61P2
abbrev w61E (R : ApiExpr → ApiExpr → Option Bool) (C : Ctx) (F : FT) (y : Bool) : Prop := En (w61V R) C F Tryz.f61 (w61FS R) (y, ())
def w61L1X1 (r1 : Unit) : ST := ⟨53, [], []⟩
def w61J1S : ST := ⟨53, [], []⟩
def w61L1S (a0 : ApiExpr) (a1 : ApiExpr) (v : Int) : ST := ⟨53, [op 2, op 3, oi 5 v], [bc 2 (ydToApiExpr a0), bc 3 (ydToApiExpr a1)]⟩
def w61S (a0 : ApiExpr) (a1 : ApiExpr) : ST := ⟨53, [og 0 (ydToApiExpr a0), og 1 (ydToApiExpr a1)], []⟩
theorem w61J1_w {R : ApiExpr → ApiExpr → Option Bool} (G : Good (w61V R) P) {y} (E : w61E R C F y) (h : isoclineref07EqualBJ1 R = some y) : Goes (w61V R) P C F w61P1 (w61J1S) := by
  unfold isoclineref07EqualBJ1 at h
  have e := sj h; subst e
  exact se G E [r0, au] tt
theorem w61L1_w {R : ApiExpr → ApiExpr → Option Bool} (G : Good (w61V R) P) {y a0 a1} (E : w61E R C F y) (v : Int) o (h : isoclineref07EqualBL1 R a0 a1 v = some o) (L : LP (w61V R) P C F w61P2 (w61L1S a0 a1) (Sum.elim (GX (w61V R) P C F w61P3 w61L1X1) (RX y)) o) : Goes (w61V R) P C F w61P2 (w61L1S a0 a1 v) := by
  unfold isoclineref07EqualBL1 at h
  rcases ite_some h with ⟨b5, h⟩ | ⟨b5, h⟩
  · obtain ⟨c1, c2, h⟩ := ns2 h
    obtain ⟨y1, c3, h⟩ := bind_some h
    rcases ite_some h with ⟨b6, h⟩ | ⟨b6, h⟩
    · have e : _ = y := L.2 _ (si h); subst e
      exact se G E [r0, bt, rc 10 (rs .bool y1), bt, r0, au] (e5 b5 c1 c2 (ca c3) b6)
    · exact sg G [r0, bt, rc 10 (rs .bool y1), bf, r0, en] (e5 b5 c1 c2 (ca c3) b6) (L.1 _ (si h))
  · exact sg G [r0, bf, au] (e1 b5) (L.2 _ (si h))
theorem w61_w {R : ApiExpr → ApiExpr → Option Bool} (G : Good (w61V R) P) {y a0 a1} (E : w61E R C F y) (h : isoclineref07EqualB R a0 a1 = some y) : Goes (w61V R) P C F w61P0 (w61S a0 a1) := by
  unfold isoclineref07EqualB at h
  rcases ite_some h with ⟨b1, h⟩ | ⟨b1, h⟩
  · exact sg G [r0, ru [5, 11, 12, 18, 19, 27], bt, au] (ar 6 b1 <| ar 15 rT <| tt) (w61J1_w G E h)
  · rcases ite_some h with ⟨b2, h⟩ | ⟨b2, h⟩
    · exact sg G [r0, rb [5, 11] [12, 18, 19, 27], bt, au] (ar 6 b1 <| ar 6 b2 <| ar 9 rT <| tt) (w61J1_w G E h)
    · rcases ite_some h with ⟨b3, h⟩ | ⟨b3, h⟩
      · exact sg G [r0, rb [5, 11, 12, 18] [19, 27], bt, au] (ar 6 b1 <| ar 6 b2 <| ar 8 b3 <| e1 rT) (w61J1_w G E h)
      · rcases ite_some h with ⟨b4, h⟩ | ⟨b4, h⟩
        · exact sg G [r0, rf [5, 11, 12, 18, 19, 27], bt, au] (ar 6 b1 <| ar 6 b2 <| ar 8 b3 <| e1 b4) (w61J1_w G E h)
        · obtain ⟨r, hi, h⟩ := bind_some h
          refine sg G [r0, rf [5, 11, 12, 18, 19, 27], bf, r0, en] (ar 6 b1 <| ar 6 b2 <| ar 8 b3 <| e1 b4) (lg (w61L1_w G E) hi ?_)
          rcases r with r1 | r2
          · have e := sj h; subst e
            exact se G E [r0, au] tt
          · exact sj h
theorem w61Meets (R : ApiExpr → ApiExpr → Option Bool) (hR : MT 61 (w61FS R)) : MT 61 (w61FS (isoclineref07EqualB R)) := show Meets (w61V R) _ _ _ from mt (fn := Tryz.f61) (S := fun x => w61S x.1 x.2.1) (GB ⟨hR, trivial⟩ trivial) fun G _ _ _ _ => w61_w G
theorem isoclineref07EqualAll : ∀ k, MT 61 (w61FS (isoclineref07EqualIt k))
  | 0 => m0 (fn := Tryz.f61) fun _ => rfl
  | k + 1 => w61Meets _ (isoclineref07EqualAll k)
noncomputable def isoclineref07EqualFS : FS ydE := w61FS isoclineref07Equal
theorem isoclineref07EqualMeets : MT 61 isoclineref07EqualFS := ⟨(isoclineref07EqualAll 0).1, fun x y h => (isoclineref07EqualAll ((fun (a0 : ApiExpr) (a1 : ApiExpr) => SizeOf.sizeOf a0 + 1) x.1 x.2.1)).2 x y (Eq.trans (by kernel_rfl) h)⟩
noncomputable abbrev w31V : Env := EV [(61, isoclineref07EqualFS)] [] false
noncomputable def w31P0 := c0 Tryz.f31
noncomputable def w31FS : FS ydE := f1 [(.sl (.nm 2)), (.sl (.nm 2))] .bool fun x => isoclineref09SameMods x.1 x.2.1
noncomputable def w31P1 := ct [0, 0, 2, 0, 1] w31P0
noncomputable def w31P2 := ct [0, 3, 0, 3, 4] w31P1
noncomputable def w31P3 := ct [0, 2, 4] w31P1
abbrev w31E (C : Ctx) (F : FT) (y : Bool) : Prop := En w31V C F Tryz.f31 w31FS (y, ())
def w31L1X1 (r1 : Unit) : ST := ⟨55, [], []⟩
def w31J1S : ST := ⟨55, [], []⟩
def w31L1S (a0 : (List ApiMod)) (a1 : (List ApiMod)) (v : Int) : ST := ⟨55, [os 0 (.nm 2) a0, os 1 (.nm 2) a1, oi 5 v], []⟩
def w31S (a0 : (List ApiMod)) (a1 : (List ApiMod)) : ST := ⟨55, [os 0 (.nm 2) a0, os 1 (.nm 2) a1], []⟩
theorem w31J1_w (G : Good w31V P) {y a0 a1 o} (E : w31E C F y) (h : isoclineref09SameModsJ1 = some o) (L : LP w31V P C F w31P1 (w31L1S a0 a1) (Sum.elim (GX w31V P C F w31P3 w31L1X1) (RX y)) o) : Goes w31V P C F w31P2 (w31J1S) := by
  unfold isoclineref09SameModsJ1 at h
  have e : _ = y := L.2 _ (si h); subst e
  exact se G E [r0, au] tt
theorem w31L1_w (G : Good w31V P) {y a0 a1} (E : w31E C F y) (v : Int) o (h : isoclineref09SameModsL1 a0 a1 v = some o) (L : LP w31V P C F w31P1 (w31L1S a0 a1) (Sum.elim (GX w31V P C F w31P3 w31L1X1) (RX y)) o) : Goes w31V P C F w31P1 (w31L1S a0 a1 v) := by
  unfold isoclineref09SameModsL1 at h
  rcases ite_some h with ⟨b2, h⟩ | ⟨b2, h⟩
  · obtain ⟨c1, c2, h⟩ := ns2 h
    rcases ite_some h with ⟨b3, h⟩ | ⟨b3, h⟩
    · exact sg G [r0, bt, ru [11, 23, 24, 37], bt, au] (q3 b2 c1 c2 <| ar 12 b3 <| ar 14 rT <| tt) (w31J1_w G E h L)
    · obtain ⟨c3, c4, h⟩ := ns2 h
      rcases ite_some h with ⟨b4, h⟩ | ⟨b4, h⟩
      · exact sg G [r0, bt, rb [11, 23] [24, 37], bt, au] (q3 b2 c1 c2 <| ar 3 b3 <| q1 c3 <| ar 5 b3 <| q1 c4 <| ar 4 b3 <| ar 13 b4 <| e1 rT) (w31J1_w G E h L)
      · obtain ⟨c5, c6, h⟩ := ns2 h
        obtain ⟨y1, c7, h⟩ := bind_some h
        rcases ite_some h with ⟨b5, h⟩ | ⟨b5, h⟩
        · exact sg G [r0, bt, rg [11, 23, 24, 37] [] [(35, rs .bool y1)], bt, au] (q3 b2 c1 c2 <| ar 3 b3 <| q1 c3 <| ar 5 b3 <| q1 c4 <| ar 4 b3 <| ar 3 b4 <| q1 c5 <| ar 5 b4 <| q1 c6 <| ar 3 b4 <| e4 (ca c7) b4 b4 b5) (w31J1_w G E h L)
        · exact sg G [r0, bt, rg [11, 23, 24, 37] [] [(35, rs .bool y1)], bf, r0, en] (q3 b2 c1 c2 <| ar 3 b3 <| q1 c3 <| ar 5 b3 <| q1 c4 <| ar 4 b3 <| ar 3 b4 <| q1 c5 <| ar 5 b4 <| q1 c6 <| ar 3 b4 <| e4 (ca c7) b4 b4 b5) (L.1 _ (si h))
  · exact sg G [r0, bf, au] (e1 b2) (L.2 _ (si h))
theorem w31_w (G : Good w31V P) {y a0 a1} (E : w31E C F y) (h : isoclineref09SameMods a0 a1 = some y) : Goes w31V P C F w31P0 (w31S a0 a1) := by
  unfold isoclineref09SameMods at h
  rcases ite_some h with ⟨b1, h⟩ | ⟨b1, h⟩
  · have e := sj h; subst e
    exact se G E [r0, r0, bt, r0, au] (e1 b1)
  · obtain ⟨r, hi, h⟩ := bind_some h
    refine sg G [r0, r0, bf, r0, en] (e1 b1) (lg (w31L1_w G E) hi ?_)
    rcases r with r1 | r2
    · have e := sj h; subst e
      exact se G E [r0, au] tt
    · exact sj h
theorem w31Meets : MT 31 w31FS := show Meets w31V _ _ _ from mt (fn := Tryz.f31) (S := fun x => w31S x.1 x.2.1) (GB ⟨isoclineref07EqualMeets, trivial⟩ trivial) fun G _ _ _ _ => w31_w G
noncomputable abbrev w8V : Env := EV [(13, w13FS), (29, w29FS), (30, w30FS), (31, w31FS)] [] false
noncomputable def w8P0 := c0 Tryz.f8
noncomputable def w8FS : FS ydE := f1 [(.sl (.nm 2)), (.sl (.nm 2))] .bool fun x => isoclinelaw09ScopeMerges x.1 x.2.1
abbrev w8E (C : Ctx) (F : FT) (y : Bool) : Prop := En w8V C F Tryz.f8 w8FS (y, ())
def w8S (a0 : (List ApiMod)) (a1 : (List ApiMod)) : ST := ⟨32, [os 0 (.nm 2) a0, os 1 (.nm 2) a1], []⟩
theorem w8_w (G : Good w8V P) {y a0 a1} (E : w8E C F y) (h : isoclinelaw09ScopeMerges a0 a1 = some y) : Goes w8V P C F w8P0 (w8S a0 a1) := by
  unfold isoclinelaw09ScopeMerges at h
  obtain ⟨y1, c1, h⟩ := bind_some h
  obtain ⟨y2, c2, h⟩ := bind_some h
  obtain ⟨y3, c3, h⟩ := bind_some h
  rcases ite_some h with ⟨b1, h⟩ | ⟨b1, h⟩
  · rcases ite_some h with ⟨b2, h⟩ | ⟨b2, h⟩
    · obtain ⟨y4, c4, h⟩ := bind_some h
      have e := sj h; subst e
      exact se G E [r0, rc 2 (rt (.sl (.nm 2)) (.int .i64) y1), rc 2 (rt (.sl (.nm 2)) (.int .i64) y2), rg [] [3, 7, 8, 10] [(2, rs .bool y3), (9, rs .bool y4)], au] (q3 (cb c1) (cb c2) (ca c3) <| ar 4 b1 <| e3 b2 (ca c4) b2)
    · have e := sj h; subst e
      exact se G E [r0, rc 2 (rt (.sl (.nm 2)) (.int .i64) y1), rc 2 (rt (.sl (.nm 2)) (.int .i64) y2), rg [8, 10] [3, 7] [(2, rs .bool y3)], au] (q3 (cb c1) (cb c2) (ca c3) <| ar 4 b1 <| e2 b2 b2)
  · have e := sj h; subst e
    exact se G E [r0, rc 2 (rt (.sl (.nm 2)) (.int .i64) y1), rc 2 (rt (.sl (.nm 2)) (.int .i64) y2), rg [3, 7, 8, 10] [] [(2, rs .bool y3)], au] (q3 (cb c1) (cb c2) (ca c3) <| ar 4 b1 <| e2 rF rF)
theorem w8Meets : MT 8 w8FS := show Meets w8V _ _ _ from mt (fn := Tryz.f8) (S := fun x => w8S x.1 x.2.1) (GB ⟨w13Meets, w29Meets, w30Meets, w31Meets, trivial⟩ trivial) fun G _ _ _ _ => w8_w G
end
end Go.Ab
namespace Go.Ab
open Go
set_option linter.unusedVariables false
def Gives {α : Type} (o : Option α) (Q : α → Prop) : Prop := ∃ r, o = some r ∧ Q r
section
variable {α β σ ρ : Type}
theorem gives_some {a : α} {Q : α → Prop} : Gives (some a) Q ↔ Q a := by
  constructor
  · rintro ⟨r, h, k⟩; cases h; exact k
  · intro h; exact ⟨a, rfl, h⟩
theorem gives_bind {o : Option α} {f : α → Option β} {Q : β → Prop} : Gives (Option.bind o f) Q ↔ Gives o fun r => Gives (f r) Q := by
  constructor
  · rintro ⟨r, h, k⟩; obtain ⟨z, h1, h2⟩ := bind_some h; exact ⟨z, h1, r, h2, k⟩
  · rintro ⟨z, h1, r, h2, k⟩; exact ⟨r, by rw [h1]; exact h2, k⟩
theorem Gives.mono {o : Option α} {R Q : α → Prop} (h : Gives o R) (k : ∀ r, R r → Q r) : Gives o Q := by
  obtain ⟨r, h1, h2⟩ := h; exact ⟨r, h1, k r h2⟩
theorem Gives.bind {o : Option α} {f : α → Option β} {R : α → Prop} {Q : β → Prop} (h : Gives o R) (k : ∀ r, R r → Gives (f r) Q) : Gives (Option.bind o f) Q :=
  gives_bind.2 (h.mono k)
theorem Gives.and {o : Option α} {R Q : α → Prop} (h : Gives o R) (k : Gives o Q) : Gives o fun r => R r ∧ Q r := by
  obtain ⟨r, h1, h2⟩ := h; obtain ⟨r', h3, h4⟩ := k; rw [h1] at h3; cases h3; exact ⟨r, h1, h2, h4⟩
def Round (I : σ → Prop) (μ : σ → Nat) (s : σ) (Q : ρ → Prop) : σ ⊕ ρ → Prop
  | .inl s' => I s' ∧ μ s' < μ s
  | .inr r => Q r
@[simp] theorem round_inl {I : σ → Prop} {μ : σ → Nat} {s s' : σ} {Q : ρ → Prop} : Round I μ s Q (.inl s') ↔ I s' ∧ μ s' < μ s := Iff.rfl
@[simp] theorem round_inr {I : σ → Prop} {μ : σ → Nat} {s : σ} {Q : ρ → Prop} {r : ρ} : Round I μ s Q (.inr r) ↔ Q r := Iff.rfl
theorem gives_iter {f : σ → Option (σ ⊕ ρ)} (I : σ → Prop) (μ : σ → Nat) {Q : ρ → Prop} {s : σ} (hs : I s) (h : ∀ s, I s → Gives (f s) (Round I μ s Q)) : Gives (iter f s) Q := by
  refine iter_spec I μ Q (fun s hI => ?_) s hs
  obtain ⟨o, h1, h2⟩ := h s hI
  cases o with
  | inl s' => exact .inl ⟨s', h1, h2.1, h2.2⟩
  | inr r => exact .inr ⟨r, h1, h2⟩
end
theorem wi64 {x : Int} (h1 : -9223372036854775808 ≤ x) (h2 : x < 9223372036854775808) : IntKind.wrap .i64 x = x := by
  rw [IntKind.wrap_i64]; omega
def fst (p : Nat → Bool) : Nat → Nat → Option Nat
  | _, 0 => none
  | i, n + 1 => if p i then some i else fst p (i + 1) n
theorem fst_some {p : Nat → Bool} : ∀ {n i j : Nat}, fst p i n = some j → i ≤ j ∧ j < i + n ∧ p j = true ∧ ∀ k, i ≤ k → k < j → p k = false
  | 0, _, _, h => by cases h
  | n + 1, i, j, h => by
    unfold fst at h
    split at h
    · rename_i hp; cases h; exact ⟨Nat.le_refl _, by omega, hp, fun k h1 h2 => by omega⟩
    · rename_i hp
      obtain ⟨h1, h2, h3, h4⟩ := fst_some h
      refine ⟨by omega, by omega, h3, fun k h5 h6 => ?_⟩
      rcases Nat.lt_or_ge i k with h7 | h7
      · exact h4 k h7 h6
      · have : k = i := by omega
        subst this; simpa using hp
theorem fst_none {p : Nat → Bool} : ∀ {n i : Nat}, fst p i n = none → ∀ k, i ≤ k → k < i + n → p k = false
  | 0, _, _, k, h1, h2 => by omega
  | n + 1, i, h, k, h1, h2 => by
    unfold fst at h
    split at h
    · cases h
    · rename_i hp
      rcases Nat.lt_or_ge i k with h7 | h7
      · exact fst_none h k h7 (by omega)
      · have : k = i := by omega
        subst this; simpa using hp
theorem iter_search {ρ : Type} {f : Int → Option (Int ⊕ (Unit ⊕ ρ))} {p : Nat → Bool} {q : Nat → ρ} : ∀ (n i : Nat), (∀ k, i ≤ k → k < i + n → f (k : Int) = some (if p k then .inr (.inr (q k)) else .inl ((k : Int) + 1))) → f ((i + n : Nat) : Int) = some (.inr (.inl ())) →
    iter f (i : Int) = some (match fst p i n with | some k => .inr (q k) | none => .inl ())
  | 0, i, h, he => by rw [iter_eq]; simp only [Nat.add_zero] at he; rw [he]; rfl
  | n + 1, i, h, he => by
    rw [iter_eq, h i (Nat.le_refl _) (by omega)]
    unfold fst
    cases hp : p i with
    | true => rfl
    | false =>
      have := iter_search n (i + 1) (fun k h1 h2 => h k (by omega) (by omega)) (by rw [show i + 1 + n = i + (n + 1) by omega]; exact he)
      simp only [Bool.false_eq_true, if_false, Option.bind_some]
      rw [show ((i : Int) + 1) = ((i + 1 : Nat) : Int) by omega, this]
theorem iter_inv {σ ρ : Type} {f : Int × σ → Option ((Int × σ) ⊕ ρ)} (I : Nat → σ → Prop) {Q : ρ → Prop} {n : Nat} (h : ∀ k s, k < n → I k s → ∃ s', f ((k : Int), s) = some (.inl ((k : Int) + 1, s')) ∧ I (k + 1) s') (he : ∀ s, I n s → ∃ r, f ((n : Int), s) = some (.inr r) ∧ Q r) :
    ∀ (m i : Nat) (s : σ), i + m = n → I i s → Gives (iter f ((i : Int), s)) Q
  | 0, i, s, hm, hI => by
    obtain rfl : i = n := by omega
    obtain ⟨r, h1, h2⟩ := he s hI
    exact ⟨r, by rw [iter_eq, h1]; rfl, h2⟩
  | m + 1, i, s, hm, hI => by
    obtain ⟨s', h1, h2⟩ := h i s (by omega) hI
    rw [iter_eq, h1]
    have := iter_inv I h he m (i + 1) s' (by omega) h2
    simp only [Option.bind_some]
    rw [show ((i : Int) + 1) = ((i + 1 : Nat) : Int) by omega]
    exact this
def bLetter (c : UInt8) : Bool := (decide ((97 : Int) ≤ c.toNat) && decide ((c.toNat : Int) ≤ 122)) || (decide ((65 : Int) ≤ c.toNat) && decide ((c.toNat : Int) ≤ 90))
def bDigit (c : UInt8) : Bool := decide ((48 : Int) ≤ c.toNat) && decide ((c.toNat : Int) ≤ 57)
theorem isLetter_is (c : UInt8) : modelIsLetter (c.toNat : Int) = some (bLetter c) := by
  unfold modelIsLetter bLetter
  by_cases h1 : (97 : Int) ≤ c.toNat <;> by_cases h2 : (c.toNat : Int) ≤ 122 <;> by_cases h3 : (65 : Int) ≤ c.toNat <;> simp [h1, h2, h3]
theorem isDigit_is (c : UInt8) : modelIsDigit (c.toNat : Int) = some (bDigit c) := by
  unfold modelIsDigit bDigit
  by_cases h1 : (48 : Int) ≤ c.toNat <;> simp [h1]
def words : List (List UInt8) := [([109, 111, 100, 101, 108] : List UInt8), ([112, 111, 114, 116] : List UInt8), ([112, 97, 114, 116, 105, 97, 108] : List UInt8), ([101, 120, 116, 101, 110, 100, 115] : List UInt8), ([105, 110, 110, 101, 114] : List UInt8), ([111, 117, 116, 101, 114] : List UInt8), ([114, 101, 112, 108, 97, 99, 101, 97, 98, 108, 101] : List UInt8), ([102, 108, 111, 119] : List UInt8), ([112, 97, 114, 97, 109, 101, 116, 101, 114] : List UInt8), ([100, 105, 115, 99, 114, 101, 116, 101] : List UInt8), ([101, 113, 117, 97, 116, 105, 111, 110] : List UInt8), ([105, 110, 105, 116, 105, 97, 108] : List UInt8), ([99, 111, 110, 110, 101, 99, 116] : List UInt8), ([119, 104, 101, 110] : List UInt8), ([115, 101, 116] : List UInt8), ([101, 110, 100] : List UInt8), ([105, 110] : List UInt8), ([105, 115] : List UInt8), ([82, 101, 97, 108] : List UInt8), ([116, 105, 109, 101] : List UInt8), ([99, 108, 97, 115, 115] : List UInt8), ([99, 111, 110, 110, 101, 99, 116, 111, 114] : List UInt8), ([97, 98, 115, 116, 114, 97, 99, 116] : List UInt8), ([98, 97, 115, 101] : List UInt8), ([112, 97, 114, 97, 109] : List UInt8), ([115, 116, 97, 116, 101] : List UInt8), ([110, 117, 109, 98, 101, 114] : List UInt8), ([101, 113] : List UInt8), ([115, 116, 97, 114, 116] : List UInt8), ([119, 105, 114, 101] : List UInt8), ([111, 110] : List UInt8), ([112, 117, 116] : List UInt8), ([105, 102] : List UInt8), ([116, 104, 101, 110] : List UInt8), ([101, 108, 115, 101] : List UInt8), ([111, 114] : List UInt8), ([97, 110, 100] : List UInt8), ([110, 111, 116] : List UInt8), ([100, 101, 114] : List UInt8), ([112, 114, 101] : List UInt8), ([97, 98, 115] : List UInt8), ([109, 105, 110] : List UInt8), ([109, 97, 120] : List UInt8)]
def oneOf (a : List UInt8) : List (List UInt8) → Option Bool
  | [] => some false
  | x :: r => if decide (a = x) then some true else oneOf a r
theorem oneOf_is (a : List UInt8) : ∀ l, oneOf a l = some (l.contains a)
  | [] => rfl
  | x :: r => by
    unfold oneOf
    by_cases h : a = x
    · subst h; simp
    · rw [if_neg (by simpa using h), oneOf_is a r]
      simp [h]
theorem isReserved_is (a : List UInt8) : modelIsReserved a = some (words.contains a) := (show modelIsReserved a = oneOf a words from rfl).trans (oneOf_is a words)
theorem words_len : words.length = 43 := rfl
theorem getD_contains (l : List (List UInt8)) (a : List UInt8) : (match fst (fun k => decide (l.getD k [] = a)) 0 l.length with | some _ => true | none => false) = l.contains a := by
  split
  · rename_i k h
    obtain ⟨_, h2, h3, _⟩ := fst_some h
    have h3 : l.getD k [] = a := by simpa using h3
    rw [List.getD_eq_getElem?_getD, List.getElem?_eq_getElem (by omega)] at h3
    have : a ∈ l := by rw [← h3]; exact List.getElem_mem _
    simpa using this
  · rename_i h
    have h := fst_none h
    symm
    simp only [List.contains_eq_mem, decide_eq_false_iff_not]
    intro hm
    obtain ⟨k, hk, e⟩ := List.getElem_of_mem hm
    have := h k (Nat.zero_le _) (by omega)
    simp [List.getD_eq_getElem?_getD, List.getElem?_eq_getElem hk, e] at this
theorem isWord_is (a : List UInt8) : isoclineref08IsWord a = some (words.contains a) := by
  show isoclineref08IsWordJ1 a words = _
  unfold isoclineref08IsWordJ1
  have := iter_search (f := fun v => isoclineref08IsWordL1 a words v) (p := fun k => decide (words.getD k [] = a)) (q := fun _ => true) 43 0 (fun k _ h2 => by
    have hk : (k : Int) < (words.length : Int) := by rw [words_len]; omega
    unfold isoclineref08IsWordL1
    rw [if_pos (by simpa using hk), need_of (by unfold inRange; omega)]
    simp only [Int.toNat_natCast]
    by_cases h : words.getD k [] = a
    · rw [if_pos (by simpa using h), if_pos (by simpa using h)]
    · rw [if_neg (by simpa using h), if_neg (by simpa using h), wi64 (by omega) (by omega)]) (by unfold isoclineref08IsWordL1; rw [if_neg (by simp [words_len])])
  have hg := getD_contains words a
  rw [words_len] at hg
  rw [show ((0 : Int)) = ((0 : Nat) : Int) from rfl, this, ← hg]
  cases fst (fun k => decide (words.getD k [] = a)) 0 43 <;> rfl
end Go.Ab
namespace Go.Ab
open Go
set_option linter.unusedVariables false
theorem fst_congr {p q : Nat → Bool} : ∀ {n i : Nat}, (∀ k, i ≤ k → k < i + n → p k = q k) → fst p i n = fst q i n
  | 0, _, _ => rfl
  | n + 1, i, h => by
    unfold fst
    rw [h i (Nat.le_refl _) (by omega), fst_congr (n := n) (i := i + 1) fun k h1 h2 => h k (by omega) (by omega)]
theorem tf (b : Bool) : b = true ∨ b = false := by cases b <;> simp
def bPart (c : UInt8) : Bool := bLetter c || bDigit c || decide ((c.toNat : Int) = 95)
def bSimple (s : List UInt8) : Bool := decide (1 ≤ s.length) && decide (s.length ≤ 16) && bLetter (s.getD 0 0) && !words.contains s && (fst (fun k => !bPart (s.getD k 0)) 0 s.length).isNone
theorem modelIsSimple_is (s : List UInt8) : modelIsSimple s = some (bSimple s) := by
  unfold modelIsSimple modelIsSimpleJ1 bSimple
  by_cases h1 : (s.length : Int) < 1
  · rw [if_pos (by simpa using h1), decide_eq_false (by omega : ¬ 1 ≤ s.length)]; rfl
  rw [if_neg (by simpa using h1), decide_eq_true (by omega : 1 ≤ s.length)]
  by_cases h2 : 16 < (s.length : Int)
  · rw [if_pos (by simpa using h2), decide_eq_false (by omega : ¬ s.length ≤ 16)]; rfl
  rw [if_neg (by simpa using h2), decide_eq_true (by omega : s.length ≤ 16), need_of (by unfold inRange; omega)]
  simp only [Int.toNat_zero, isLetter_is, Option.bind_some, Bool.true_and]
  cases hl : bLetter (s.getD 0 0) with
  | false => rfl
  | true =>
    simp only [Bool.not_true, Bool.false_eq_true, if_false, isReserved_is, Option.bind_some, Bool.true_and]
    cases hw : words.contains s with
    | true => rfl
    | false =>
      simp only [Bool.false_eq_true, if_false, Bool.not_false, Bool.true_and]
      have := iter_search (f := fun v => modelIsSimpleL1 s v) (p := fun k => !bPart (s.getD k 0)) (q := fun _ => false) s.length 0 (fun k _ h3 => by
        unfold modelIsSimpleL1 modelIsSimpleJ2
        rw [if_pos (by simpa using (by omega : k < s.length)), need_of (by unfold inRange; omega)]
        simp only [Int.toNat_natCast, isLetter_is, isDigit_is, Option.bind_some, bPart]
        rw [need_of (by unfold inRange; omega), need_of (by unfold inRange; omega), wi64 (by omega) (by omega)]
        rcases tf (bLetter (s.getD k 0)) with e1 | e1 <;> rcases tf (bDigit (s.getD k 0)) with e2 | e2 <;> by_cases h95 : ((s.getD k 0).toNat : Int) = 95 <;> simp only [e1, e2, h95] <;> rfl) (by unfold modelIsSimpleL1; rw [if_neg (by simp)])
      rw [show ((0 : Int)) = ((0 : Nat) : Int) from rfl, this]
      cases fst (fun k => !bPart (s.getD k 0)) 0 s.length <;> rfl
theorem refIsSimple_is (s : List UInt8) : isoclineref08IsSimple s = some (bSimple s) := by
  unfold isoclineref08IsSimple isoclineref08IsSimpleJ1 bSimple
  by_cases h1 : (s.length : Int) < 1
  · rw [if_pos (by simpa using h1), decide_eq_false (by omega : ¬ 1 ≤ s.length)]; rfl
  rw [if_neg (by simpa using h1), decide_eq_true (by omega : 1 ≤ s.length)]
  by_cases h2 : 16 < (s.length : Int)
  · rw [if_pos (by simpa using h2), decide_eq_false (by omega : ¬ s.length ≤ 16)]; rfl
  rw [if_neg (by simpa using h2), decide_eq_true (by omega : s.length ≤ 16)]
  simp only [isWord_is, Option.bind_some, Bool.true_and]
  cases hw : words.contains s with
  | true => simp
  | false =>
    simp only [Bool.false_eq_true, if_false, Bool.not_false, Bool.and_true]
    have := iter_search (f := fun v => isoclineref08IsSimpleL1 s v) (p := fun k => !bLetter (s.getD k 0) && (decide (k = 0) || !bPart (s.getD k 0))) (q := fun _ => false) s.length 0 (fun k _ h3 => by
      unfold isoclineref08IsSimpleL1 isoclineref08IsSimpleJ2 isoclineref08IsSimpleJ3 isoclineref08IsSimpleJ4
      rw [if_pos (by simpa using (by omega : k < s.length)), need_of (by unfold inRange; omega)]
      simp only [Int.toNat_natCast]
      rw [wi64 (by omega) (by omega)]
      simp only [bPart, bLetter, bDigit]
      obtain ⟨c, hc⟩ : ∃ c : Int, ((s.getD k 0).toNat : Int) = c := ⟨_, rfl⟩
      simp only [hc]
      have hk0 : ((k : Int) = 0) ↔ k = 0 := by omega
      by_cases a1 : (97 : Int) ≤ c <;> by_cases a2 : c ≤ 122 <;> by_cases a3 : (65 : Int) ≤ c <;> by_cases a4 : c ≤ 90 <;> by_cases a0 : k = 0 <;> by_cases a5 : c = 95 <;> by_cases a6 : c < 48 <;> by_cases a7 : 57 < c <;> first | omega | simp [a1, a2, a3, a4, a0, a5, a6, a7, hk0, (by omega : (48 ≤ c) ↔ ¬ c < 48), (by omega : (c ≤ 57) ↔ ¬ 57 < c)]) (by unfold isoclineref08IsSimpleL1; rw [if_neg (by simp)])
    rw [show ((0 : Int)) = ((0 : Nat) : Int) from rfl, this]
    have hn : s.length = s.length - 1 + 1 := by omega
    cases hl : bLetter (s.getD 0 0) with
    | false =>
      have : fst (fun k => !bLetter (s.getD k 0) && (decide (k = 0) || !bPart (s.getD k 0))) 0 s.length = some 0 := by
        rw [hn]; unfold fst; rw [if_pos (by show (!bLetter (s.getD 0 0) && (decide (0 = 0) || !bPart (s.getD 0 0))) = true; rw [hl]; rfl)]
      rw [this]; rfl
    | true =>
      rw [fst_congr (q := fun k => !bPart (s.getD k 0)) fun k _ _ => by
        by_cases h0 : k = 0
        · subst h0; simp only [bPart, hl]; rfl
        · simp only [h0, bPart]; cases bLetter (s.getD k 0) <;> simp]
      cases fst (fun k => !bPart (s.getD k 0)) 0 s.length <;> rfl
end Go.Ab
namespace Go.Ab
open Go
set_option linter.unusedVariables false
theorem iter_searchE {σ ρ : Type} {f : σ → Option (σ ⊕ (Unit ⊕ ρ))} {e : Nat → σ} {p : Nat → Bool} {q : Nat → ρ} : ∀ (n i : Nat), (∀ k, i ≤ k → k < i + n → f (e k) = some (if p k then .inr (.inr (q k)) else .inl (e (k + 1)))) → f (e (i + n)) = some (.inr (.inl ())) →
    iter f (e i) = some (match fst p i n with | some k => .inr (q k) | none => .inl ())
  | 0, i, h, he => by rw [iter_eq]; simp only [Nat.add_zero] at he; rw [he]; rfl
  | n + 1, i, h, he => by
    rw [iter_eq, h i (Nat.le_refl _) (by omega)]
    unfold fst
    cases hp : p i with
    | true => rfl
    | false => exact iter_searchE n (i + 1) (fun k h1 h2 => h k (by omega) (by omega)) (by rw [show i + 1 + n = i + (n + 1) by omega]; exact he)
def pieces : List UInt8 → List UInt8 → List (List UInt8)
  | acc, [] => [acc]
  | acc, c :: r => if c == 46 then acc :: pieces [] r else pieces (acc ++ [c]) r
theorem allDot_pieces (g : List UInt8 → Bool) : ∀ s acc, allDot g acc s = (pieces acc s).all g
  | [], acc => by simp [allDot, pieces]
  | c :: r, acc => by
    unfold allDot pieces
    split
    · rw [List.all_cons, allDot_pieces g r]
    · exact allDot_pieces g r _
def bPath (s : List UInt8) : Bool := (pieces [] s).all bSimple
theorem scopeIsPath_is (s : List UInt8) (h : s.length ≤ maxLen) : scopeIsPath s = some (bPath s) := by
  unfold scopeIsPath
  rw [if_pos ⟨fun x _ => by rw [modelIsSimple_is]; rfl, h⟩, allDot_pieces]
  congr 2
  funext x; rw [modelIsSimple_is]; rfl
theorem mget_cons {β : Type} (x y : List UInt8) (w : β) (r : List (List UInt8 × β)) : mget kqS x ((y, w) :: r) = if x = y then some w else mget kqS x r := by
  rw [mget]
  by_cases h : x = y
  · rw [if_pos h, if_pos (by simp [kqS, h])]
  · rw [if_neg h, if_neg (by simp [kqS, h])]
theorem mget_mput {β : Type} (p q : List UInt8) (b : β) : ∀ l : List (List UInt8 × β), mget kqS p (mput kqS q b l) = if p = q then some b else mget kqS p l
  | [] => by rw [mput, mget_cons]
  | (y, w) :: r => by
    rw [mput]
    by_cases h : q = y
    · subst h
      rw [if_pos (by simp [kqS]), mget_cons, mget_cons]
      by_cases h2 : p = q
      · rw [if_pos h2, if_pos h2]
      · rw [if_neg h2, if_neg h2, if_neg h2]
    · rw [if_neg (by simp [kqS, h]), mget_cons, mget_mput p q b r, mget_cons]
      by_cases h2 : p = y
      · subst h2; rw [if_pos rfl, if_neg fun e => h e.symm, if_pos rfl]
      · rw [if_neg h2, if_neg h2]
abbrev ps (l : List ApiMod) : List (List UInt8) := l.map (·.Path)
theorem getD_at {α : Type} (l : List α) (k : Nat) (z : α) (h : k < l.length) : l.getD k z = l[k] := by rw [List.getD_eq_getElem?_getD, List.getElem?_eq_getElem h]; rfl
theorem take_succ' {α : Type} (l : List α) (k : Nat) (z : α) (h : k < l.length) : l.take (k + 1) = l.take k ++ [l.getD k z] := by
  rw [getD_at l k z h, List.take_add_one, List.getElem?_eq_getElem h]; rfl
theorem isClean_gives (l : List ApiMod) (hl : l.length < 9223372036854775807) : Gives (scopeIsClean l) fun r => r = decide (ps l).Nodup := by
  unfold scopeIsClean
  refine (gives_iter (f := fun v : Int × List (List UInt8 × Bool) => scopeIsCleanL1 l v.1 v.2) (Q := fun r => r = if (ps l).Nodup then Sum.inl () else Sum.inr false)
    (fun v => ∃ k : Nat, k ≤ l.length ∧ v.1 = k ∧ (ps (l.take k)).Nodup ∧ ∀ p, (mget kqS p v.2).getD false = decide (p ∈ ps (l.take k))) (fun v => l.length - v.1.toNat)
    ⟨0, Nat.zero_le _, rfl, by simp [ps], fun p => by simp [mget, ps]⟩ ?_).bind ?_
  · rintro ⟨v1, v2⟩ ⟨k, hk, h1, hn, hp⟩
    simp only at h1 hp
    subst h1
    unfold scopeIsCleanL1
    by_cases hlt : k < l.length
    · rw [if_pos (by simpa using hlt), need_of (by unfold inRange; omega)]
      simp only [Int.toNat_natCast, hp]
      have ht := take_succ' l k ApiModZ hlt
      by_cases hm : (l.getD k ApiModZ).Path ∈ ps (l.take k)
      · rw [if_pos (by simpa using hm)]
        refine gives_some.2 ?_
        rw [round_inr, if_neg]
        intro hnd
        have : (ps (l.take (k + 1))).Nodup := by
          have hs : (ps (l.take (k + 1))).Sublist (ps l) := (List.take_sublist _ _).map _
          exact hnd.sublist hs
        rw [ht] at this
        simp only [ps, List.map_append, List.map_cons, List.map_nil, List.nodup_append] at this
        exact this.2.2 _ hm _ (List.mem_singleton.2 rfl) rfl
      · rw [if_neg (by simpa using hm)]
        refine gives_some.2 ?_
        rw [round_inl, wi64 (by omega) (by omega)]
        refine ⟨⟨k + 1, hlt, by simp, ?_, fun p => ?_⟩, by simp only [Int.toNat_natCast]; omega⟩
        · rw [ht]
          simp only [ps, List.map_append, List.map_cons, List.map_nil, List.nodup_append]
          refine ⟨hn, by simp, fun a ha b hb => ?_⟩
          rw [List.mem_singleton] at hb
          subst hb
          exact fun e => hm (e ▸ ha)
        · rw [mget_mput, ht]
          by_cases e : p = (l.getD k ApiModZ).Path
          · rw [if_pos e, e]; simp only [ps, List.map_append, List.map_cons, List.map_nil]; simp
          · rw [if_neg e, hp]; simp only [ps, List.map_append, List.map_cons, List.map_nil, List.mem_append, List.mem_singleton, e, or_false]
    · rw [if_neg (by simpa using hlt)]
      refine gives_some.2 ?_
      rw [round_inr]
      have : k = l.length := by omega
      subst this
      rw [List.take_length] at hn
      rw [if_pos hn]
  · intro r hr
    subst hr
    by_cases h : (ps l).Nodup
    · rw [if_pos h]; exact gives_some.2 (by simp [h])
    · rw [if_neg h]; exact gives_some.2 (by simp [h])
end Go.Ab
namespace Go.Ab
open Go
set_option linter.unusedVariables false
def isAt (p : List UInt8) (l : List ApiMod) (k : Nat) : Bool := decide ((l.getD k ApiModZ).Path = p)
def atP (l : List ApiMod) (p : List UInt8) : Option Nat := fst (isAt p l) 0 l.length
theorem atP_some {l : List ApiMod} {p : List UInt8} {k : Nat} (h : atP l p = some k) : k < l.length ∧ (l.getD k ApiModZ).Path = p ∧ p ∈ ps l := by
  obtain ⟨_, h2, h3, _⟩ := fst_some h
  have h2 : k < l.length := by omega
  have h3 : (l.getD k ApiModZ).Path = p := by simpa [isAt] using h3
  refine ⟨h2, h3, ?_⟩
  rw [← h3, getD_at l k _ h2]
  exact List.mem_map_of_mem (List.getElem_mem _)
theorem atP_none {l : List ApiMod} {p : List UInt8} (h : atP l p = none) : p ∉ ps l := by
  intro hm
  obtain ⟨m, hm', rfl⟩ := List.mem_map.1 hm
  obtain ⟨k, hk, e⟩ := List.getElem_of_mem hm'
  subst e
  have := fst_none h k (Nat.zero_le _) (by omega)
  rw [isAt, getD_at l k _ hk] at this
  simp at this
theorem atP_iff {l : List ApiMod} {p : List UInt8} : (atP l p).isSome = true ↔ p ∈ ps l := by
  cases h : atP l p with
  | none => simp [atP_none h]
  | some k => simp [(atP_some h).2.2]
def pick (o : List ApiMod) (m : ApiMod) : ApiMod := match atP o m.Path with
  | some k => o.getD k ApiModZ
  | none => m
theorem pick_some {o : List ApiMod} {m : ApiMod} {k : Nat} (h : atP o m.Path = some k) : pick o m = o.getD k ApiModZ := by unfold pick; rw [h]
theorem pick_none {o : List ApiMod} {m : ApiMod} (h : atP o m.Path = none) : pick o m = m := by unfold pick; rw [h]
def mrg (o i : List ApiMod) : List ApiMod := i.map (pick o) ++ o.filter fun x => !decide (x.Path ∈ ps i)
theorem modOf_eq (x : ApiMod) : (⟨x.Path, x.Type_, ⟨x.Value.Op, x.Value.Name, ⟨x.Value.N.N, x.Value.N.D⟩, x.Value.Kids⟩⟩ : ApiMod) = x := by rcases x with ⟨a, b, ⟨c, d, ⟨e, f⟩, g⟩⟩; rfl
theorem index_is (z : ApiMod) (l : List ApiMod) (hl : l.length < 9223372036854775807) : apiMod_ z l = some (match atP l z.Path with | some k => (k : Int) | none => -1) := by
  unfold apiMod_
  have := iter_searchE (f := fun v => apiMod_L1 l z v) (e := fun k => (k : Int)) (p := isAt z.Path l) (q := fun k => (k : Int)) l.length 0 (fun k _ h3 => by
    unfold apiMod_L1 scopeMerge_1
    rw [if_pos (by simpa using (by omega : k < l.length)), need_of (by unfold inRange; omega)]
    simp only [Option.bind_some, ApiModEta_eq, Int.toNat_natCast]
    rw [wi64 (by omega) (by omega)]
    unfold isAt
    by_cases h : (l.getD k ApiModZ).Path = z.Path
    · rw [if_pos (by simpa using h), if_pos (by simpa using h)]
    · rw [if_neg (by simpa using h), if_neg (by simpa using h)]; simp) (by unfold apiMod_L1; rw [if_neg (by simp)])
  rw [show ((0 : Int)) = ((0 : Nat) : Int) from rfl, this]
  unfold atP
  cases fst (isAt z.Path l) 0 l.length <;> rfl
theorem mergeIn_gives (o i : List ApiMod) (ho : o.length ≤ 8) (hi : i.length ≤ 8) : Gives (scopeMergeIn o i) fun r => r = mrg o i := by
  have hmb : maxBytes = 140737488355328 := rfl
  unfold scopeMergeIn
  refine Gives.bind (R := fun r => r.2 = i.map (pick o) ∧ ∀ p, (mget kqS p r.1).getD false = (decide (p ∈ ps i) && decide (p ∈ ps o))) ?_ ?_
  · refine iter_inv (f := fun v : Int × List (List UInt8 × Bool) × List ApiMod => scopeMergeInL1 o i v.1 v.2.1 v.2.2)
      (fun k v => v.2 = (i.take k).map (pick o) ∧ ∀ p, (mget kqS p v.1).getD false = (decide (p ∈ ps (i.take k)) && decide (p ∈ ps o))) (n := i.length) ?_ ?_ i.length 0 _ (by omega) ⟨by simp, fun p => by simp [mget, ps]⟩
    · rintro k ⟨u, out⟩ hk ⟨h1, h2⟩
      simp only at h1 h2
      subst h1
      have ht := take_succ' i k ApiModZ hk
      unfold scopeMergeInL1
      rw [if_pos (by simpa using hk), need_of (by unfold inRange; omega)]
      simp only [Int.toNat_natCast, ApiModEta_eq]
      rw [index_is _ _ (by omega)]
      simp only [Option.bind_some]
      have hlen : ((i.take k).map (pick o)).length ≤ 8 := by simp; omega
      cases ha : atP o (i.getD k ApiModZ).Path with
      | some y =>
        have hpk := pick_some ha
        obtain ⟨hy1, hy2, hy3⟩ := atP_some ha
        rw [if_pos (by simp), need_of (show inRange (y : Int) o.length from ⟨by omega, by omega⟩)]
        unfold scopeMergeInJ1
        simp only [modOf_eq, Int.toNat_natCast]
        rw [need_of (by rw [hmb]; simp only [List.length_singleton]; omega), wi64 (by omega) (by omega)]
        refine ⟨_, rfl, ?_, fun p => ?_⟩
        · rw [ht, List.map_append, List.map_singleton, hpk]
        · rw [mget_mput, hy2, ht]
          by_cases e : p = (i.getD k ApiModZ).Path
          · rw [if_pos e]; simp only [ps, List.map_append, List.map_cons, List.map_nil, List.mem_append, List.mem_singleton, e, or_true, decide_true, Bool.true_and]
            symm; exact decide_eq_true hy3
          · rw [if_neg e, h2]; simp only [ps, List.map_append, List.map_cons, List.map_nil, List.mem_append, List.mem_singleton, e, or_false]
      | none =>
        have hpk := pick_none ha
        have hno := atP_none ha
        rw [if_neg (by simp)]
        unfold scopeMergeInJ1
        simp only [modOf_eq]
        rw [need_of (by rw [hmb]; simp only [List.length_singleton]; omega), wi64 (by omega) (by omega)]
        refine ⟨_, rfl, ?_, fun p => ?_⟩
        · rw [ht, List.map_append, List.map_singleton, hpk]
        · rw [h2, ht]
          by_cases e : p = (i.getD k ApiModZ).Path
          · subst e
            rw [decide_eq_false hno, Bool.and_false, Bool.and_false]
          · simp only [ps, List.map_append, List.map_cons, List.map_nil, List.mem_append, List.mem_singleton, e, or_false]
    · rintro ⟨u, out⟩ ⟨h1, h2⟩
      rw [List.take_length] at h1 h2
      unfold scopeMergeInL1
      rw [if_neg (by simp)]
      exact ⟨_, rfl, h1, h2⟩
  · rintro ⟨u, out⟩ ⟨h1, h2⟩
    simp only at h1 h2
    subst h1
    refine Gives.bind (R := fun r => r = mrg o i) ?_ fun r hr => gives_some.2 hr
    refine iter_inv (f := fun v : Int × List ApiMod => scopeMergeInL2 o (u, i.map (pick o)) v.1 v.2)
      (fun k v => v = i.map (pick o) ++ (o.take k).filter fun x => !decide (x.Path ∈ ps i)) (n := o.length) ?_ ?_ o.length 0 _ (by omega) (by simp)
    · intro k out hk h1
      subst h1
      have ht := take_succ' o k ApiModZ hk
      have hmem : (o.getD k ApiModZ).Path ∈ ps o := by rw [getD_at o k _ hk]; exact List.mem_map_of_mem (List.getElem_mem _)
      have hlen : (i.map (pick o) ++ (o.take k).filter fun x => !decide (x.Path ∈ ps i)).length ≤ 16 := by
        have := List.length_filter_le (fun x : ApiMod => !decide (x.Path ∈ ps i)) (o.take k)
        simp only [List.length_append, List.length_map, List.length_take] at this ⊢
        omega
      unfold scopeMergeInL2 scopeMergeInJ2
      rw [if_pos (by simpa using hk), need_of (by unfold inRange; omega)]
      simp only [Int.toNat_natCast, ApiModEta_eq, h2, decide_eq_true hmem, Bool.and_true]
      by_cases e : (o.getD k ApiModZ).Path ∈ ps i
      · rw [if_neg (by rw [decide_eq_true e]; simp), wi64 (by omega) (by omega)]
        refine ⟨_, rfl, ?_⟩
        rw [ht, List.filter_append]
        simp only [List.filter_cons, List.filter_nil, e, decide_true, Bool.not_true, Bool.false_eq_true, if_false, List.append_nil]
      · rw [if_pos (by rw [decide_eq_false e]; rfl), need_of (by rw [hmb]; simp only [List.length_singleton]; omega), wi64 (by omega) (by omega)]
        refine ⟨_, rfl, ?_⟩
        rw [ht, List.filter_append]
        simp only [List.filter_cons, List.filter_nil, e, decide_false, Bool.not_false, if_true, List.append_assoc]
    · intro out h1
      rw [List.take_length] at h1
      unfold scopeMergeInL2
      rw [if_neg (by simp)]
      exact ⟨_, rfl, h1⟩
end Go.Ab
namespace Go.Ab
open Go
set_option linter.unusedVariables false
inductive OkE : ApiExpr → Prop where
  | mk (e : ApiExpr) : e.Kids.length * 64 ≤ 140737488351232 → (∀ k ∈ e.Kids, OkE k) → OkE e
theorem size_kid {e k : ApiExpr} (h : k ∈ e.Kids) : SizeOf.sizeOf k < SizeOf.sizeOf e := by
  rcases e with ⟨a, b, c, d⟩
  have := List.sizeOf_lt_of_mem h
  simp only [ApiExpr.mk.sizeOf_spec]
  simp only at this
  omega
theorem exprMapIt_is : ∀ (n : Nat) (e : ApiExpr), SizeOf.sizeOf e < n → OkE e → exprMapIt n e = some e
  | 0, _, h, _ => by omega
  | n + 1, e, h, ⟨_, hl, hk⟩ => by
    have hmb : maxBytes = 140737488355328 := rfl
    show exprMapB (exprMapIt n) e = some e
    unfold exprMapB exprClone_1
    by_cases h0 : e.Kids.length = 0
    · rw [if_pos (by simpa using h0)]
      simp only [ApiExprEta_eq, Option.bind_some]
      rcases e with ⟨a, b, c, d⟩
      have : d = [] := List.length_eq_zero_iff.1 h0
      subst this; rfl
    · rw [if_neg (by simpa using h0)]
      obtain ⟨r, h1, h2⟩ : Gives (iter (fun v : Int × List ApiExpr => exprMapBL1 (exprMapIt n) e v.1 v.2) ((0 : Int), [])) fun r => r = e.Kids := by
        refine iter_inv (f := fun v : Int × List ApiExpr => exprMapBL1 (exprMapIt n) e v.1 v.2) (fun k v => v = e.Kids.take k) (n := e.Kids.length) ?_ ?_ e.Kids.length 0 _ (by omega) (by simp)
        · intro k v hk' hv
          subst hv
          have hm : e.Kids.getD k ApiExprZ ∈ e.Kids := by rw [getD_at _ k _ hk']; exact List.getElem_mem _
          have hs := size_kid hm
          unfold exprMapBL1
          rw [if_pos (by simpa using hk'), need_of (by unfold inRange; omega)]
          simp only [Int.toNat_natCast, ApiExprEta_eq]
          rw [exprMapIt_is n _ (by omega) (hk _ hm)]
          simp only [Option.bind_some]
          rw [need_of (by rw [hmb]; simp only [List.length_singleton, List.length_take]; omega), wi64 (by omega) (by omega)]
          exact ⟨_, rfl, (take_succ' _ k ApiExprZ hk').symm⟩
        · intro v hv
          rw [List.take_length] at hv
          subst hv
          unfold exprMapBL1
          rw [if_neg (by simp)]
          exact ⟨_, rfl, rfl⟩
      rw [h1, h2]; exact congrArg some (ApiExprEta_eq e)
theorem exprClone_is (e : ApiExpr) (h : OkE e) : exprClone e = some e := by
  unfold exprClone exprMap
  simp only [ApiExprEta_eq]
  rw [exprMapIt_is _ e (by omega) h]
  simp only [Option.bind_some, ApiExprEta_eq]
def OkM (m : ApiMod) : Prop := OkE m.Value ∧ m.Path.length ≤ maxLen
theorem cloneMods_is (l : List ApiMod) (hl : l.length ≤ 16) (h : ∀ m ∈ l, OkM m) : scopeCloneMods l = some l := by
  have hmb : maxBytes = 140737488355328 := rfl
  unfold scopeCloneMods
  rw [need_of (by omega), need_of (by omega), need_of (by rw [hmb]; omega), need_of (by simp)]
  obtain ⟨r, h1, h2⟩ : Gives (iter (fun v : Int × List ApiMod => scopeCloneModsL1 l v.1 v.2) ((0 : Int), l)) fun r => r = l := by
    refine iter_inv (f := fun v : Int × List ApiMod => scopeCloneModsL1 l v.1 v.2) (fun k v => v = l) (n := l.length) ?_ ?_ l.length 0 _ (by omega) rfl
    · intro k v hk hv
      subst hv
      have hm : v.getD k ApiModZ ∈ v := by rw [getD_at _ k _ hk]; exact List.getElem_mem _
      have hr : inRange (k : Int) v.length := ⟨by omega, by omega⟩
      unfold scopeCloneModsL1
      rw [if_pos (by simpa using hk), need_of hr]
      simp only [Int.toNat_natCast, ApiExprEta_eq]
      rw [exprClone_is _ (h _ hm).1]
      simp only [Option.bind_some]
      rw [need_of hr, wi64 (by omega) (by omega)]
      refine ⟨_, rfl, ?_⟩
      have : (⟨(v.getD k ApiModZ).Path, (v.getD k ApiModZ).Type_, (v.getD k ApiModZ).Value⟩ : ApiMod) = v.getD k ApiModZ := rfl
      rw [this, getD_at _ k _ hk, List.set_getElem_self]
    · intro v hv
      subst hv
      unfold scopeCloneModsL1
      rw [if_neg (by simp)]
      exact ⟨_, rfl, rfl⟩
  rw [h1, h2]; rfl
theorem fst_never {n i : Nat} : ∀ {p : Nat → Bool}, (∀ k, i ≤ k → k < i + n → p k = false) → fst p i n = none := by
  induction n generalizing i with
  | zero => intro p _; rfl
  | succ n ih => intro p h; unfold fst; rw [if_neg (by rw [h i (Nat.le_refl _) (by omega)]; simp), ih fun k h1 h2 => h k (by omega) (by omega)]
theorem equalIt_refl : ∀ (n : Nat) (e : ApiExpr), SizeOf.sizeOf e < n → OkE e → isoclineref07EqualIt n e e = some true
  | 0, _, h, _ => by omega
  | n + 1, e, h, ⟨_, hl, hk⟩ => by
    show isoclineref07EqualB (isoclineref07EqualIt n) e e = some true
    unfold isoclineref07EqualB
    rw [if_neg (by simp), if_neg (by simp), if_neg (by simp), if_neg (by simp)]
    have := iter_searchE (f := fun v => isoclineref07EqualBL1 (isoclineref07EqualIt n) e e v) (e := fun k => (k : Int)) (p := fun _ => false) (q := fun _ => false) e.Kids.length 0 (fun k _ h3 => by
      have hk' : k < e.Kids.length := by omega
      have hm : e.Kids.getD k ApiExprZ ∈ e.Kids := by rw [getD_at _ k _ hk']; exact List.getElem_mem _
      have hs := size_kid hm
      unfold isoclineref07EqualBL1
      rw [if_pos (by simpa using hk'), need_of (by unfold inRange; omega), need_of (by unfold inRange; omega)]
      simp only [Int.toNat_natCast, ApiExprEta_eq]
      rw [equalIt_refl n _ (by omega) (hk _ hm)]
      simp only [Option.bind_some]
      rw [if_neg (by simp), if_neg (by simp), wi64 (by omega) (by omega)]; simp) (by unfold isoclineref07EqualBL1; rw [if_neg (by simp)])
    rw [show ((0 : Int)) = ((0 : Nat) : Int) from rfl, this, fst_never fun _ _ _ => rfl]
    rfl
theorem equal_refl (e : ApiExpr) (h : OkE e) : isoclineref07Equal e e = some true := equalIt_refl _ e (by omega) h
theorem sameMods_refl (l : List ApiMod) (hl : l.length ≤ 16) (h : ∀ m ∈ l, OkM m) : isoclineref09SameMods l l = some true := by
  unfold isoclineref09SameMods
  rw [if_neg (by simp)]
  have := iter_searchE (f := fun v => isoclineref09SameModsL1 l l v) (e := fun k => (k : Int)) (p := fun _ => false) (q := fun _ => false) l.length 0 (fun k _ h3 => by
    have hk' : k < l.length := by omega
    have hm : l.getD k ApiModZ ∈ l := by rw [getD_at _ k _ hk']; exact List.getElem_mem _
    have hr : inRange (k : Int) l.length := ⟨by omega, by omega⟩
    unfold isoclineref09SameModsL1
    rw [if_pos (by simpa using hk')]
    simp only [need_of hr, Int.toNat_natCast, ApiExprEta_eq]
    rw [if_neg (by simp), if_neg (by simp), equal_refl _ (h _ hm).1]
    simp only [Option.bind_some]
    rw [if_neg (by simp), if_neg (by simp), wi64 (by omega) (by omega)]; simp) (by unfold isoclineref09SameModsL1; rw [if_neg (by simp)])
  rw [show ((0 : Int)) = ((0 : Nat) : Int) from rfl, this, fst_never fun _ _ _ => rfl]
  rfl
end Go.Ab
