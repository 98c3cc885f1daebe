/- The functions compute what the plain functions tell. Conditions: none beyond those that each theorem names. -/
import Derived.Test.YtjdgmcngpiookaaGreatS16
namespace Go.Ab
open Go Go.Proofs
set_option linter.unusedVariables false
section
variable {P : Program} {C : Ctx} {F : Act -> World -> Prop}
noncomputable abbrev Aei : Env := EV [(26, Te), (27, Aa7), (35, Aam), (47, Ahc)] [] false
noncomputable def A5b := c0 Tryz.f20
noncomputable def Amo : FS yzE := f1 [(.nm 2), (.sl (.nm 6))] (.sl (.nm 6)) λ x => Cv x.1 x.2.1
noncomputable def Ap2 := ct [0, 0, 0, 1] A5b
noncomputable def Bih := ct [0, 2, 4] Ap2
abbrev Bc2 (C : Ctx) (F : FT) (y : List Aa) : Prop := En Aei C F Tryz.f20 Amo (y, ())
def A20 (r1 : List Aa) : ST := ⟨43, [ol 5 (.ar 41 0)], [ba 41 63 (.nm 6) r1]⟩
def Avu (a0 : An) (a1 : List Aa) (v : Int × (List Aa)) : ST := ⟨43, [os 1 (.nm 6) a1, op 2, ol 5 (.ar 41 0), oi 6 v.1], [bc 2 (A1 a0), ba 41 63 (.nm 6) v.2]⟩
def Bea (a0 : An) (a1 : List Aa) : ST := ⟨43, [og 0 (A1 a0), os 1 (.nm 6) a1], []⟩
theorem A0q (G : Ay Aei P) {y a0 a1} (E : Bc2 C F y) (v : Int × (List Aa)) o (h : Fh a0 a1 v.1 v.2 = some o) (L : LP Aei P C F Ap2 (Avu a0 a1) (GX Aei P C F Bih A20) o) : Ax Aei P C F Ap2 (Avu a0 a1 v) := by
 unfold Fh at h
 rcases Ag h with ⟨b1, h⟩ | ⟨b1, h⟩
 · obtain ⟨c1, h⟩ := Am h
   obtain ⟨c2, c3, h⟩ := ns2 h
   obtain ⟨y1, c4, h⟩ := bind_some h
   obtain ⟨y2, c5, h⟩ := bind_some h
   obtain ⟨y3, c6, h⟩ := bind_some h
   obtain ⟨y4, c7, h⟩ := bind_some h
   obtain ⟨y5, c8, h⟩ := bind_some h
   obtain ⟨c9, h⟩ := Am h
   exact sg G [r0, bt, r0, .reg [(11, rs (.nm 6) y1), (14, rs (.nm 6) y2), (15, rs (.nm 6) y3), (18, rs (.nm 6) y4), (19, rs (.nm 6) y5)], r0, en, .weak [.re 41 41 0]] (q6 b1 c1 c2 c3 (ca c4) (ca c5) <| e4 (ca c6) (ca c7) (ca c8) c9) (L.1 _ (si h))
 · exact sg G [r0, bf, au] (e1 b1) (L.2 _ (si h))
theorem Bfl (G : Ay Aei P) {y a0 a1} (E : Bc2 C F y) (h : Cv a0 a1 = some y) : Ax Aei P C F A5b (Bea a0 a1) := by
 unfold Cv at h
 obtain ⟨r1, hi, h⟩ := bind_some h
 refine sg G [r0, r0, r0, en, .weak [.own (.slot 5) 0 41 63 0]] tt (lg (A0q G E) hi ?_)
 have e := sj h; subst e
 exact se G E [r0, au, .weak [.fix (.slot 4)]] tt
theorem Aea : MT 20 Amo := show Be Aei _ _ _ from mt (fn := Tryz.f20) (S := λ x => Bea x.1 x.2.1) (GB ⟨L5, Uf, Tl, Xf, trivial⟩ trivial) λ G _ _ _ _ => Bfl G
noncomputable abbrev w5V : Env := EV [(17, Abd), (18, Afe), (19, Arb), (20, Amo)] [] false
noncomputable def Bjn := c0 Tryz.f5
noncomputable def A7i : FS yzE := ⟨[(.nm 2)], [(.sl (.nm 0)), (.sl (.nm 0)), (.int .i64)], [], [], λ x => Option.map (λ r => (r.1, r.2.1, r.2.2, ())) (B4 x.1)⟩
noncomputable def Bkk := ct [0, 0, 0, 2, 0, 0, 0, 0, 3, 4] Bjn
abbrev w5E (C : Ctx) (F : FT) (y : ((List Au) × (List Au) × Int)) : Prop := En w5V C F Tryz.f5 A7i (y.1, y.2.1, y.2.2, ())
def Bap : ST := ⟨41, [], []⟩
def w5S (a0 : An) : ST := ⟨41, [og 0 (A1 a0)], []⟩
theorem Aov (G : Ay w5V P) {y} (E : w5E C F y) (h : C9 = some y) : Ax w5V P C F Bkk Bap := by
 unfold C9 at h
 have e := sj h; subst e
 exact se G E [r0, au] tt
theorem Bj7 (G : Ay w5V P) {y a0} (E : w5E C F y) (h : B4 a0 = some y) : Ax w5V P C F Bjn (w5S a0) := by
 unfold B4 at h
 obtain ⟨y1, c1, h⟩ := bind_some h
 rcases Ag h with ⟨b1, h⟩ | ⟨b1, h⟩
 · have e := sj h; subst e
   exact se G E [r0, rc 1 (rs (.int .i64) y1), r0, bt, r0, au] (e2 (ca c1) b1)
 · obtain ⟨c2, c3, c4, h⟩ := ns3 h
   obtain ⟨y2, c5, h⟩ := bind_some h
   obtain ⟨y3, c6, h⟩ := bind_some h
   obtain ⟨y4, c7, h⟩ := bind_some h
   obtain ⟨y5, c8, h⟩ := bind_some h
   rcases Ag h with ⟨b2, h⟩ | ⟨b2, h⟩
   · exact sg G [r0, rc 1 (rs (.int .i64) y1), r0, bf, rc 4 (rs (.sl (.nm 6)) y2), rc 1 (rt (.sl (.nm 0)) .bool y3), .reg [(2, rs (.sl (.nm 6)) y4), (3, rt (.sl (.nm 0)) .bool y5)], ru [2, 5], bt, au] (q6 (ca c1) b1 c2 c3 c4 (ca c5) <| q3 (cb c6) (ca c7) (cb c8) <| ar 3 b2 <| e1 rT) (Aov G E h)
   · rcases Ag h with ⟨b3, h⟩ | ⟨b3, h⟩
     · exact sg G [r0, rc 1 (rs (.int .i64) y1), r0, bf, rc 4 (rs (.sl (.nm 6)) y2), rc 1 (rt (.sl (.nm 0)) .bool y3), .reg [(2, rs (.sl (.nm 6)) y4), (3, rt (.sl (.nm 0)) .bool y5)], rf [2, 5], bt, au] (q6 (ca c1) b1 c2 c3 c4 (ca c5) <| q3 (cb c6) (ca c7) (cb c8) <| ar 3 b2 <| e1 b3) (Aov G E h)
     · have e := sj h; subst e
       exact se G E [r0, rc 1 (rs (.int .i64) y1), r0, bf, rc 4 (rs (.sl (.nm 6)) y2), rc 1 (rt (.sl (.nm 0)) .bool y3), .reg [(2, rs (.sl (.nm 6)) y4), (3, rt (.sl (.nm 0)) .bool y5)], rf [2, 5], bf, r0, au] (q6 (ca c1) b1 c2 c3 c4 (ca c5) <| q3 (cb c6) (ca c7) (cb c8) <| ar 3 b2 <| e1 b3)
theorem A08 : MT 5 A7i := show Be w5V _ _ _ from mt (fn := Tryz.f5) (S := λ x => w5S x.1) (GB ⟨Ud, Ys, Asu, Aea, trivial⟩ trivial) λ G _ _ _ _ => Bj7 G
noncomputable abbrev w6V : Env := EV [] [] false
noncomputable def Bcc := c0 Tryz.f6
noncomputable def Aww : FS yzE := f1 [(.sl (.nm 0)), (.sl (.nm 0))] .bool λ x => Da x.1 x.2.1
noncomputable def A7p := ct [0, 0, 1] Bcc
noncomputable def Bkf := ct [0, 2, 4] A7p
abbrev w6E (C : Ctx) (F : FT) (y : Bool) : Prop := En w6V C F Tryz.f6 Aww (y, ())
def A9i (a0 : List Au) (a1 : List Au) (r1 : Unit) : ST := ⟨32, [os 0 (.nm 0) a0, os 1 (.nm 0) a1], []⟩
def A4r (a0 : List Au) (a1 : List Au) (v : Int) : ST := ⟨32, [os 0 (.nm 0) a0, os 1 (.nm 0) a1, oi 5 v], []⟩
def w6S (a0 : List Au) (a1 : List Au) : ST := ⟨32, [os 0 (.nm 0) a0, os 1 (.nm 0) a1], []⟩
theorem A9z (G : Ay w6V P) {y a0 a1} (E : w6E C F y) (v : Int) o (h : G5 a0 a1 v = some o) (L : LP w6V P C F A7p (A4r a0 a1) (Sum.elim (GX w6V P C F Bkf (A9i a0 a1)) (RX y)) o) : Ax w6V P C F A7p (A4r a0 a1 v) := by
 unfold G5 at h
 rcases Ag h with ⟨b1, h⟩ | ⟨b1, h⟩
 · rcases Ag h with ⟨b2, h⟩ | ⟨b2, h⟩
   · obtain ⟨c1, c2, h⟩ := ns2 h
     rcases Ag h with ⟨b3, h⟩ | ⟨b3, h⟩
     · have e : _ = y := L.2 _ (si h); subst e
       exact se G E [ru [4, 9], bt, r0, bt, r0, au] (ar 5 b1 <| e4 b2 c1 c2 b3)
     · exact sg G [ru [4, 9], bt, r0, bf, r0, en] (ar 5 b1 <| e4 b2 c1 c2 b3) (L.1 _ (si h))
   · exact sg G [ru [4, 9], bf, au] (ar 5 b1 <| e1 b2) (L.2 _ (si h))
 · exact sg G [rf [4, 9], bf, au] (ar 5 b1 <| e1 rF) (L.2 _ (si h))
theorem Bkq (G : Ay w6V P) {y a0 a1} (E : w6E C F y) (h : Da a0 a1 = some y) : Ax w6V P C F Bcc (w6S a0 a1) := by
 unfold Da at h
 obtain ⟨r, hi, h⟩ := bind_some h
 refine sg G [r0, r0, en] tt (lg (A9z G E) hi ?_)
 rcases r with r1 | r2
 · have e := sj h; subst e
   exact se G E [r0, au] tt
 · exact sj h
theorem Amy : MT 6 Aww := show Be w6V _ _ _ from mt (fn := Tryz.f6) (S := λ x => w6S x.1 x.2.1) (GB trivial trivial) λ G _ _ _ _ => Bkq G
noncomputable abbrev Aye : Env := EV [(43, Al4)] [] false
noncomputable def Bit := c0 Tryz.f25
noncomputable def Agv : FS yzE := f2 [(.nm 4)] (.nm 0) (.int .i64) λ x => Hx x.1
abbrev Bkd (C : Ctx) (F : FT) (y : (Au × Int)) : Prop := En Aye C F Tryz.f25 Agv (y.1, y.2, ())
def Bfn (a0 : Al) : ST := ⟨15, [og 0 (B5 a0)], []⟩
theorem Bfo (G : Ay Aye P) {y a0} (E : Bkd C F y) (h : Hx a0 = some y) : Ax Aye P C F Bit (Bfn a0) := by
 unfold Hx at h
 obtain ⟨y1, c1, h⟩ := bind_some h
 rcases Ag h with ⟨b1, h⟩ | ⟨b1, h⟩
 · have e := sj h; subst e
   exact se G E [r0, rc 1 (rt (.nm 0) .bool y1), r0, bt, r0, au] (e2 (cb c1) b1)
 · have e := sj h; subst e
   exact se G E [r0, rc 1 (rt (.nm 0) .bool y1), r0, bf, r0, au] (e2 (cb c1) b1)
theorem Zt : MT 25 Agv := show Be Aye _ _ _ from mt (fn := Tryz.f25) (S := λ x => Bfn x.1) (GB ⟨Ahd, trivial⟩ trivial) λ G _ _ _ _ => Bfo G
noncomputable abbrev w7V : Env := EV [(14, Aa3), (15, Ak2), (21, Pw), (22, Yj), (23, Ag5), (24, Af0), (25, Agv)] [] false
noncomputable def Beg := c0 Tryz.f7
noncomputable def A6s : FS yzE := ⟨[(.nm 2)], [(.nm 0), (.nm 0), (.int .i64)], [], [], λ x => Option.map (λ r => (r.1, r.2.1, r.2.2, ())) (Mw x.1)⟩
noncomputable def A75 := ct [0, 0, 0, 2, 0, 0, 0, 1] Beg
noncomputable def Be8 := ct [0, 2, 4] A75
noncomputable def Bkl := ct [0, 0, 0, 3, 4] Be8
abbrev w7E (C : Ctx) (F : FT) (y : (Au × Au × Int)) : Prop := En w7V C F Tryz.f7 A6s (y.1, y.2.1, y.2.2, ())
def A8s (r1 : (Int × (List Int) × Bool × Int × (List Int) × Bool × Int × (List Int) × Bool × Int × (List Int) × Bool)) : ST := ⟨84, [op 2, op 3, op 8, op 9], [bc 2 [.int .i64 (0 : Int), .int .i64 (0 : Int)], bc 3 [.int .i64 (0 : Int), .int .i64 (0 : Int)], bc 8 [.int .i64 r1.1, .sl (.int .u32) true r1.2.1, .bool r1.2.2.1, .int .i64 r1.2.2.2.1, .sl (.int .u32) true r1.2.2.2.2.1, .bool r1.2.2.2.2.2.1], bc 9 [.int .i64 r1.2.2.2.2.2.2.1, .sl (.int .u32) true r1.2.2.2.2.2.2.2.1, .bool r1.2.2.2.2.2.2.2.2.1, .int .i64 r1.2.2.2.2.2.2.2.2.2.1, .sl (.int .u32) true r1.2.2.2.2.2.2.2.2.2.2.1, .bool r1.2.2.2.2.2.2.2.2.2.2.2]]⟩
def A5d (a0 : An) (y2 : ((List Al) × (List Al))) (v : Int × Int × (List Int) × Bool × Int × (List Int) × Bool × Int × (List Int) × Bool × Int × (List Int) × Bool) : ST := ⟨84, [op 2, op 3, os 7 (.nm 4) y2.2, op 8, op 9, os 31 (.nm 1) a0.Arms, oi 32 (a0.Arms.length : Int), oi 33 v.1], [bc 2 [.int .i64 (0 : Int), .int .i64 (0 : Int)], bc 3 [.int .i64 (0 : Int), .int .i64 (0 : Int)], bc 8 [.int .i64 v.2.1, .sl (.int .u32) true v.2.2.1, .bool v.2.2.2.1, .int .i64 v.2.2.2.2.1, .sl (.int .u32) true v.2.2.2.2.2.1, .bool v.2.2.2.2.2.2.1], bc 9 [.int .i64 v.2.2.2.2.2.2.2.1, .sl (.int .u32) true v.2.2.2.2.2.2.2.2.1, .bool v.2.2.2.2.2.2.2.2.2.1, .int .i64 v.2.2.2.2.2.2.2.2.2.2.1, .sl (.int .u32) true v.2.2.2.2.2.2.2.2.2.2.2.1, .bool v.2.2.2.2.2.2.2.2.2.2.2.2]]⟩
def Ba6 : ST := ⟨84, [op 2, op 3], [bc 2 [.int .i64 (0 : Int), .int .i64 (0 : Int)], bc 3 [.int .i64 (0 : Int), .int .i64 (0 : Int)]]⟩
def w7S (a0 : An) : ST := ⟨84, [og 0 (A1 a0)], []⟩
theorem A6x (G : Ay w7V P) {y a0 y2} (E : w7E C F y) (v : Int × Int × (List Int) × Bool × Int × (List Int) × Bool × Int × (List Int) × Bool × Int × (List Int) × Bool) o (h : Q7 a0 y2 v.1 v.2.1 v.2.2.1 v.2.2.2.1 v.2.2.2.2.1 v.2.2.2.2.2.1 v.2.2.2.2.2.2.1 v.2.2.2.2.2.2.2.1 v.2.2.2.2.2.2.2.2.1 v.2.2.2.2.2.2.2.2.2.1 v.2.2.2.2.2.2.2.2.2.2.1 v.2.2.2.2.2.2.2.2.2.2.2.1 v.2.2.2.2.2.2.2.2.2.2.2.2 = some o) (L : LP w7V P C F A75 (A5d a0 y2) (GX w7V P C F Be8 A8s) o) : Ax w7V P C F A75 (A5d a0 y2 v) := by
 unfold Q7 at h
 rcases Ag h with ⟨b2, h⟩ | ⟨b2, h⟩
 · obtain ⟨c5, h⟩ := Am h
   obtain ⟨c6, c7, h⟩ := ns2 h
   obtain ⟨y5, c8, h⟩ := bind_some h
   obtain ⟨y6, c9, h⟩ := bind_some h
   obtain ⟨y7, c10, h⟩ := bind_some h
   obtain ⟨y8, c11, h⟩ := bind_some h
   obtain ⟨c12, h⟩ := Am h
   obtain ⟨y9, c13, h⟩ := bind_some h
   obtain ⟨y10, c14, h⟩ := bind_some h
   obtain ⟨y11, c15, h⟩ := bind_some h
   exact sg G [r0, bt, r0, .reg [(9, rs (.nm 4) y5), (12, rs (.nm 4) y6), (13, rs (.nm 4) y7), (14, rs (.nm 4) y8)], .reg [(7, rs (.nm 4) y9), (8, rs (.nm 4) y10), (9, rs (.nm 4) y11)], r0, en] (q6 b2 c5 c6 c7 (ca c8) (ca c9) <| e6 (ca c10) (ca c11) c12 (ca c13) (ca c14) (ca c15)) (L.1 _ (si h))
 · exact sg G [r0, bf, au] (e1 b2) (L.2 _ (si h))
theorem Arg (G : Ay w7V P) {y} (E : w7E C F y) (h : N3 = some y) : Ax w7V P C F Bkl Ba6 := by
 unfold N3 at h
 have e := sj h; subst e
 exact se G E [r0, au] tt
theorem Bkh (G : Ay w7V P) {y a0} (E : w7E C F y) (h : Mw a0 = some y) : Ax w7V P C F Beg (w7S a0) := by
 unfold Mw at h
 obtain ⟨y1, c1, h⟩ := bind_some h
 rcases Ag h with ⟨b1, h⟩ | ⟨b1, h⟩
 · have e := sj h; subst e
   exact se G E [r0, rc 1 (rs (.int .i64) y1), r0, bt, r0, au] (e2 (ca c1) b1)
 · obtain ⟨y2, c2, h⟩ := bind_some h
   obtain ⟨y3, c3, h⟩ := bind_some h
   obtain ⟨y4, c4, h⟩ := bind_some h
   obtain ⟨r1, hi, h⟩ := bind_some h
   refine sg G [r0, rc 1 (rs (.int .i64) y1), r0, bf, rc 1 (rt (.sl (.nm 4)) (.sl (.nm 4)) y2), .reg [(0, rs (.nm 4) y3), (1, rs (.nm 4) y4)], r0, en] (e5 (ca c1) b1 (cb c2) (ca c3) (ca c4)) (lg (A6x G E) hi ?_)
   obtain ⟨y12, c16, h⟩ := bind_some h
   obtain ⟨y13, c17, h⟩ := bind_some h
   rcases Ag h with ⟨b3, h⟩ | ⟨b3, h⟩
   · exact sg G [rc 1 (rt (.nm 0) (.int .i64) y12), rc 1 (rt (.nm 0) (.int .i64) y13), ru [2, 5], bt, au] (q2 (cb c16) (cb c17) <| ar 3 b3 <| e1 rT) (Arg G E h)
   · rcases Ag h with ⟨b4, h⟩ | ⟨b4, h⟩
     · exact sg G [rc 1 (rt (.nm 0) (.int .i64) y12), rc 1 (rt (.nm 0) (.int .i64) y13), rf [2, 5], bt, au] (q2 (cb c16) (cb c17) <| ar 3 b3 <| e1 b4) (Arg G E h)
     · have e := sj h; subst e
       exact se G E [rc 1 (rt (.nm 0) (.int .i64) y12), rc 1 (rt (.nm 0) (.int .i64) y13), rf [2, 5], bf, r0, au] (q2 (cb c16) (cb c17) <| ar 3 b3 <| e1 b4)
theorem A2z : MT 7 A6s := show Be w7V _ _ _ from mt (fn := Tryz.f7) (S := λ x => w7S x.1) (GB ⟨Tu, Ad4, Iz, P5, Ze, Xd, Zt, trivial⟩ trivial) λ G _ _ _ _ => Bkh G
noncomputable abbrev A1m : Env := EV [(46, Ajs)] [] false
noncomputable def Bha := c0 Tryz.f29
noncomputable def Ae4 : FS yzE := f2 [(.nm 6)] (.nm 0) (.int .i64) λ x => Cg x.1
abbrev Bkw (C : Ctx) (F : FT) (y : (Au × Int)) : Prop := En A1m C F Tryz.f29 Ae4 (y.1, y.2, ())
def Bde (a0 : Aa) : ST := ⟨15, [og 0 (A9 a0)], []⟩
theorem Ber (G : Ay A1m P) {y a0} (E : Bkw C F y) (h : Cg a0 = some y) : Ax A1m P C F Bha (Bde a0) := by
 unfold Cg at h
 obtain ⟨y1, c1, h⟩ := bind_some h
 rcases Ag h with ⟨b1, h⟩ | ⟨b1, h⟩
 · have e := sj h; subst e
   exact se G E [r0, rc 1 (rt (.nm 0) .bool y1), r0, bt, r0, au] (e2 (cb c1) b1)
 · have e := sj h; subst e
   exact se G E [r0, rc 1 (rt (.nm 0) .bool y1), r0, bf, r0, au] (e2 (cb c1) b1)
theorem Ye : MT 29 Ae4 := show Be A1m _ _ _ from mt (fn := Tryz.f29) (S := λ x => Bde x.1) (GB ⟨Afb, trivial⟩ trivial) λ G _ _ _ _ => Ber G
noncomputable abbrev w8V : Env := EV [(17, Abd), (18, Afe), (20, Amo), (26, Te), (27, Aa7), (28, Aa9), (29, Ae4)] [] false
noncomputable def Bjs := c0 Tryz.f8
noncomputable def A8o : FS yzE := ⟨[(.nm 2)], [(.nm 0), (.nm 0), (.int .i64)], [], [], λ x => Option.map (λ r => (r.1, r.2.1, r.2.2, ())) (Dd x.1)⟩
noncomputable def A7d := ct [0, 0, 0, 2, 0, 0, 0, 1] Bjs
noncomputable def Bc9 := ct [0, 2, 4] A7d
noncomputable def Bj8 := ct [0, 0, 0, 3, 4] Bc9
abbrev w8E (C : Ctx) (F : FT) (y : (Au × Au × Int)) : Prop := En w8V C F Tryz.f8 A8o (y.1, y.2.1, y.2.2, ())
def A8u (r1 : ((List Int) × Bool × (List Int) × Bool × (List Int) × Bool × (List Int) × Bool)) : ST := ⟨89, [op 2, op 3, op 7, op 8], [bc 2 [.int .i64 (0 : Int), .int .i64 (0 : Int)], bc 3 [.int .i64 (0 : Int), .int .i64 (0 : Int)], bc 7 [.sl (.int .u32) false r1.1, .bool r1.2.1, .sl (.int .u32) false r1.2.2.1, .bool r1.2.2.2.1], bc 8 [.sl (.int .u32) false r1.2.2.2.2.1, .bool r1.2.2.2.2.2.1, .sl (.int .u32) false r1.2.2.2.2.2.2.1, .bool r1.2.2.2.2.2.2.2]]⟩
def A3j (a0 : An) (y3 : List Aa) (v : Int × (List Int) × Bool × (List Int) × Bool × (List Int) × Bool × (List Int) × Bool) : ST := ⟨89, [op 1, op 2, op 3, os 6 (.nm 6) y3, op 7, op 8, oi 9 v.1], [bc 1 (A1 a0), bc 2 [.int .i64 (0 : Int), .int .i64 (0 : Int)], bc 3 [.int .i64 (0 : Int), .int .i64 (0 : Int)], bc 7 [.sl (.int .u32) false v.2.1, .bool v.2.2.1, .sl (.int .u32) false v.2.2.2.1, .bool v.2.2.2.2.1], bc 8 [.sl (.int .u32) false v.2.2.2.2.2.1, .bool v.2.2.2.2.2.2.1, .sl (.int .u32) false v.2.2.2.2.2.2.2.1, .bool v.2.2.2.2.2.2.2.2]]⟩
def Bhp : ST := ⟨89, [op 2, op 3], [bc 2 [.int .i64 (0 : Int), .int .i64 (0 : Int)], bc 3 [.int .i64 (0 : Int), .int .i64 (0 : Int)]]⟩
def w8S (a0 : An) : ST := ⟨89, [og 0 (A1 a0)], []⟩
theorem A7e (G : Ay w8V P) {y a0 y3} (E : w8E C F y) (v : Int × (List Int) × Bool × (List Int) × Bool × (List Int) × Bool × (List Int) × Bool) o (h : Gy a0 y3 v.1 v.2.1 v.2.2.1 v.2.2.2.1 v.2.2.2.2.1 v.2.2.2.2.2.1 v.2.2.2.2.2.2.1 v.2.2.2.2.2.2.2.1 v.2.2.2.2.2.2.2.2 = some o) (L : LP w8V P C F A7d (A3j a0 y3) (GX w8V P C F Bc9 A8u) o) : Ax w8V P C F A7d (A3j a0 y3 v) := by
 unfold Gy at h
 rcases Ag h with ⟨b2, h⟩ | ⟨b2, h⟩
 · obtain ⟨c7, h⟩ := Am h
   obtain ⟨y4, c8, h⟩ := bind_some h
   obtain ⟨c9, h⟩ := Am h
   obtain ⟨y5, c10, h⟩ := bind_some h
   obtain ⟨c11, h⟩ := Am h
   obtain ⟨y6, c12, h⟩ := bind_some h
   obtain ⟨y7, c13, h⟩ := bind_some h
   obtain ⟨c14, h⟩ := Am h
   obtain ⟨y8, c15, h⟩ := bind_some h
   obtain ⟨c16, h⟩ := Am h
   obtain ⟨y9, c17, h⟩ := bind_some h
   obtain ⟨y10, c18, h⟩ := bind_some h
   exact sg G [r0, bt, .reg [(7, rs (.nm 6) y4), (12, rs (.nm 6) y5), (17, rs (.nm 6) y6), (18, rs (.nm 6) y7)], .reg [(7, rs (.nm 6) y8), (12, rs (.nm 6) y9), (13, rs (.nm 6) y10)], r0, en] (q6 b2 c7 (ca c8) c9 (ca c10) c11 <| q6 (ca c12) (ca c13) c14 (ca c15) c16 (ca c17) <| e1 (ca c18)) (L.1 _ (si h))
 · exact sg G [r0, bf, au] (e1 b2) (L.2 _ (si h))
theorem Aot (G : Ay w8V P) {y} (E : w8E C F y) (h : Fp = some y) : Ax w8V P C F Bj8 Bhp := by
 unfold Fp at h
 have e := sj h; subst e
 exact se G E [r0, au] tt
theorem Bky (G : Ay w8V P) {y a0} (E : w8E C F y) (h : Dd a0 = some y) : Ax w8V P C F Bjs (w8S a0) := by
 unfold Dd at h
 obtain ⟨y1, c1, h⟩ := bind_some h
 rcases Ag h with ⟨b1, h⟩ | ⟨b1, h⟩
 · have e := sj h; subst e
   exact se G E [r0, rc 1 (rs (.int .i64) y1), r0, bt, r0, au] (e2 (ca c1) b1)
 · obtain ⟨c2, c3, c4, h⟩ := ns3 h
   obtain ⟨y2, c5, h⟩ := bind_some h
   obtain ⟨y3, c6, h⟩ := bind_some h
   obtain ⟨r1, hi, h⟩ := bind_some h
   refine sg G [r0, rc 1 (rs (.int .i64) y1), r0, bf, .reg [(5, rs (.sl (.nm 6)) y2), (6, rs (.sl (.nm 6)) y3)], r0, r0, en, .weak [.st (.cell 7), .st (.cell 8)]] (q6 (ca c1) b1 c2 c3 c4 (ca c5) <| e1 (ca c6)) (lg (A7e G E) hi ?_)
   obtain ⟨y11, c19, h⟩ := bind_some h
   obtain ⟨y12, c20, h⟩ := bind_some h
   rcases Ag h with ⟨b3, h⟩ | ⟨b3, h⟩
   · exact sg G [rc 1 (rt (.nm 0) (.int .i64) y11), rc 1 (rt (.nm 0) (.int .i64) y12), ru [2, 5], bt, au] (q2 (cb c19) (cb c20) <| ar 3 b3 <| e1 rT) (Aot G E h)
   · rcases Ag h with ⟨b4, h⟩ | ⟨b4, h⟩
     · exact sg G [rc 1 (rt (.nm 0) (.int .i64) y11), rc 1 (rt (.nm 0) (.int .i64) y12), rf [2, 5], bt, au] (q2 (cb c19) (cb c20) <| ar 3 b3 <| e1 b4) (Aot G E h)
     · have e := sj h; subst e
       exact se G E [rc 1 (rt (.nm 0) (.int .i64) y11), rc 1 (rt (.nm 0) (.int .i64) y12), rf [2, 5], bf, r0, au] (q2 (cb c19) (cb c20) <| ar 3 b3 <| e1 b4)
theorem A16 : MT 8 A8o := show Be w8V _ _ _ from mt (fn := Tryz.f8) (S := λ x => w8S x.1) (GB ⟨Ud, Ys, Aea, L5, Uf, Uq, Ye, trivial⟩ trivial) λ G _ _ _ _ => Bky G
noncomputable abbrev w9V : Env := EV [(14, Aa3), (21, Pw), (22, Yj), (25, Agv), (30, Al0), (31, Abi), (32, Alo)] [] false
noncomputable def A7o := c0 Tryz.f9
noncomputable def Ax4 : FS yzE := f2 [(.nm 2), (.int .i64), (.int .i64)] (.nm 0) (.int .i64) λ x => Hg x.1 x.2.1 x.2.2.1
noncomputable def Bkm := ct [0, 0, 0, 2, 0, 3, 4] A7o
noncomputable def A8h := ct [0, 0, 0, 2, 0, 2, 0, 0, 2, 0, 0, 1] A7o
noncomputable def Bj5 := ct [0, 2, 4] A8h
abbrev w9E (C : Ctx) (F : FT) (y : (Au × Int)) : Prop := En w9V C F Tryz.f9 Ax4 (y.1, y.2, ())
def A8j (a0 : An) (a1 : Int) (a2 : Int) (r1 : List Al) : ST := ⟨96, [oi 1 a1, oi 2 a2, op 3, op 6, ol 10 (.ar 52 0)], [bc 3 (A1 a0), bc 6 [.int .i64 (0 : Int), .int .i64 (0 : Int)], ba 52 53 (.nm 4) r1]⟩
def Bb7 : ST := ⟨96, [op 6], [bc 6 [.int .i64 (0 : Int), .int .i64 (0 : Int)]]⟩
def A3h (a0 : An) (a1 : Int) (a2 : Int) (v : Int × Int × (List Al)) : ST := ⟨96, [oi 1 a1, oi 2 a2, op 3, op 6, ol 10 (.ar 52 0), oi 54 v.1, oi 55 v.2.1], [bc 3 (A1 a0), bc 6 [.int .i64 (0 : Int), .int .i64 (0 : Int)], ba 52 53 (.nm 4) v.2.2]⟩
def w9S (a0 : An) (a1 : Int) (a2 : Int) : ST := ⟨96, [og 0 (A1 a0), oi 1 a1, oi 2 a2], []⟩
theorem Adg (G : Ay w9V P) {y} (E : w9E C F y) (h : Hi = some y) : Ax w9V P C F Bkm Bb7 := by
 unfold Hi at h
 have e := sj h; subst e
 exact se G E [r0, au] tt
theorem A67 (G : Ay w9V P) {y a0 a1 a2} (E : w9E C F y) (v : Int × Int × (List Al)) o (h : Il a0 a1 a2 v.1 v.2.1 v.2.2 = some o) (L : LP w9V P C F A8h (A3h a0 a1 a2) (GX w9V P C F Bj5 (A8j a0 a1 a2)) o) : Ax w9V P C F A8h (A3h a0 a1 a2 v) := by
 unfold Il at h
 rcases Ag h with ⟨b7, h⟩ | ⟨b7, h⟩
 · obtain ⟨y3, c8, h⟩ := bind_some h
   obtain ⟨c9, h⟩ := Am h
   exact sg G [r0, bt, r0, rc 2 (rs (.nm 4) y3), r0, en] (e3 b7 (ca c8) c9) (L.1 _ (si h))
 · exact sg G [r0, bf, au] (e1 b7) (L.2 _ (si h))
theorem Bj4 (G : Ay w9V P) {y a0 a1 a2} (E : w9E C F y) (h : Hg a0 a1 a2 = some y) : Ax w9V P C F A7o (w9S a0 a1 a2) := by
 unfold Hg at h
 obtain ⟨y1, c1, h⟩ := bind_some h
 rcases Ag h with ⟨b1, h⟩ | ⟨b1, h⟩
 · have e := sj h; subst e
   exact se G E [r0, rc 1 (rs (.int .i64) y1), r0, bt, r0, au] (e2 (ca c1) b1)
 · rcases Ag h with ⟨b2, h⟩ | ⟨b2, h⟩
   · exact sg G [r0, rc 1 (rs (.int .i64) y1), r0, bf, ru [2, 7, 8, 11, 12, 17], bt, au] (q2 (ca c1) b1 <| ar 5 b2 <| ar 9 rT <| tt) (Adg G E h)
   · rcases Ag h with ⟨b3, h⟩ | ⟨b3, h⟩
     · exact sg G [r0, rc 1 (rs (.int .i64) y1), r0, bf, rb [2, 7] [8, 11, 12, 17], bt, au] (q2 (ca c1) b1 <| ar 5 b2 <| ar 3 b3 <| ar 6 rT <| tt) (Adg G E h)
     · rcases Ag h with ⟨b4, h⟩ | ⟨b4, h⟩
       · exact sg G [r0, rc 1 (rs (.int .i64) y1), r0, bf, rb [2, 7, 8, 11] [12, 17], bt, au] (q2 (ca c1) b1 <| ar 5 b2 <| ar 3 b3 <| ar 5 b4 <| e1 rT) (Adg G E h)
       · rcases Ag h with ⟨b5, h⟩ | ⟨b5, h⟩
         · exact sg G [r0, rc 1 (rs (.int .i64) y1), r0, bf, rf [2, 7, 8, 11, 12, 17], bt, au] (q2 (ca c1) b1 <| ar 5 b2 <| ar 3 b3 <| ar 5 b4 <| e1 b5) (Adg G E h)
         · obtain ⟨y2, c2, h⟩ := bind_some h
           obtain ⟨c3, c4, h⟩ := ns2 h
           rcases Ag h with ⟨b6, h⟩ | ⟨b6, h⟩
           · have e := sj h; subst e
             exact se G E [r0, rc 1 (rs (.int .i64) y1), r0, bf, rf [2, 7, 8, 11, 12, 17], bf, rc 1 (rs (.sl (.int .i64)) y2), r0, bt, r0, au] (q2 (ca c1) b1 <| ar 5 b2 <| ar 3 b3 <| ar 5 b4 <| e5 b5 (ca c2) c3 c4 b6)
           · obtain ⟨c5, c6, c7, h⟩ := ns3 h
             obtain ⟨r1, hi, h⟩ := bind_some h
             refine sg G [r0, rc 1 (rs (.int .i64) y1), r0, bf, rf [2, 7, 8, 11, 12, 17], bf, rc 1 (rs (.sl (.int .i64)) y2), r0, bf, r0, r0, en] (q2 (ca c1) b1 <| ar 5 b2 <| ar 3 b3 <| ar 5 b4 <| q6 b5 (ca c2) c3 c4 b6 c5 <| e2 c6 c7) (lg (A67 G E) hi ?_)
             obtain ⟨c10, h⟩ := Am h
             obtain ⟨y4, c11, h⟩ := bind_some h
             obtain ⟨y5, c12, h⟩ := bind_some h
             obtain ⟨c13, h⟩ := Am h
             obtain ⟨c14, h⟩ := Am h
             obtain ⟨y6, c15, h⟩ := bind_some h
             obtain ⟨y7, c16, h⟩ := bind_some h
             obtain ⟨c17, h⟩ := Am h
             obtain ⟨y8, c18, h⟩ := bind_some h
             obtain ⟨c19, c20, h⟩ := ns2 h
             obtain ⟨y9, c21, h⟩ := bind_some h
             obtain ⟨y10, c22, h⟩ := bind_some h
             have e := sj h; subst e
             exact se G E [.reg [(6, rs (.nm 4) y4), (7, rs (.nm 4) y5)], .reg [(6, rs (.nm 4) y6), (7, rs (.nm 4) y7)], rc 2 (rs (.sl (.nm 4)) y8), .reg [(8, rs (.nm 4) y9), (9, rt (.nm 0) (.int .i64) y10)], au] (q6 c10 (ca c11) (ca c12) c13 c14 (ca c15) <| q6 (ca c16) c17 (ca c18) c19 c20 (ca c21) <| e1 (cb c22))
theorem Ajk : MT 9 Ax4 := show Be w9V _ _ _ from mt (fn := Tryz.f9) (S := λ x => w9S x.1 x.2.1 x.2.2.1) (GB ⟨Tu, Iz, P5, Zt, Afh, Tg, Agf, trivial⟩ trivial) λ G _ _ _ _ => Bj4 G
noncomputable abbrev Anc : Env := EV [(17, Abd), (18, Afe), (26, Te), (29, Ae4), (33, Akb), (34, Yi), (35, Aam)] [] false
noncomputable def A5f := c0 Tryz.f10
noncomputable def Avn : FS yzE := f2 [(.nm 2), (.int .i64), (.int .i64)] (.nm 0) (.int .i64) λ x => Ck x.1 x.2.1 x.2.2.1
noncomputable def Bbf := ct [0, 0, 0, 2, 0, 3, 4] A5f
abbrev Bge (C : Ctx) (F : FT) (y : (Au × Int)) : Prop := En Anc C F Tryz.f10 Avn (y.1, y.2, ())
def A6m : ST := ⟨85, [op 6], [bc 6 [.int .i64 (0 : Int), .int .i64 (0 : Int)]]⟩
def Bas (a0 : An) (a1 : Int) (a2 : Int) : ST := ⟨85, [og 0 (A1 a0), oi 1 a1, oi 2 a2], []⟩
theorem Wy (G : Ay Anc P) {y} (E : Bge C F y) (h : Cn = some y) : Ax Anc P C F Bbf A6m := by
 unfold Cn at h
 have e := sj h; subst e
 exact se G E [r0, au] tt
theorem Bbs (G : Ay Anc P) {y a0 a1 a2} (E : Bge C F y) (h : Ck a0 a1 a2 = some y) : Ax Anc P C F A5f (Bas a0 a1 a2) := by
 unfold Ck at h
 obtain ⟨y1, c1, h⟩ := bind_some h
 rcases Ag h with ⟨b1, h⟩ | ⟨b1, h⟩
 · have e := sj h; subst e
   exact se G E [r0, rc 1 (rs (.int .i64) y1), r0, bt, r0, au] (e2 (ca c1) b1)
 · rcases Ag h with ⟨b2, h⟩ | ⟨b2, h⟩
   · exact sg G [r0, rc 1 (rs (.int .i64) y1), r0, bf, ru [2, 7, 8, 11, 12, 17], bt, au] (q2 (ca c1) b1 <| ar 5 b2 <| ar 9 rT <| tt) (Wy G E h)
   · rcases Ag h with ⟨b3, h⟩ | ⟨b3, h⟩
     · exact sg G [r0, rc 1 (rs (.int .i64) y1), r0, bf, rb [2, 7] [8, 11, 12, 17], bt, au] (q2 (ca c1) b1 <| ar 5 b2 <| ar 3 b3 <| ar 6 rT <| tt) (Wy G E h)
     · rcases Ag h with ⟨b4, h⟩ | ⟨b4, h⟩
       · exact sg G [r0, rc 1 (rs (.int .i64) y1), r0, bf, rb [2, 7, 8, 11] [12, 17], bt, au] (q2 (ca c1) b1 <| ar 5 b2 <| ar 3 b3 <| ar 5 b4 <| e1 rT) (Wy G E h)
       · rcases Ag h with ⟨b5, h⟩ | ⟨b5, h⟩
         · exact sg G [r0, rc 1 (rs (.int .i64) y1), r0, bf, rf [2, 7, 8, 11, 12, 17], bt, au] (q2 (ca c1) b1 <| ar 5 b2 <| ar 3 b3 <| ar 5 b4 <| e1 b5) (Wy G E h)
         · obtain ⟨y2, c2, h⟩ := bind_some h
           obtain ⟨c3, c4, h⟩ := ns2 h
           rcases Ag h with ⟨b6, h⟩ | ⟨b6, h⟩
           · have e := sj h; subst e
             exact se G E [r0, rc 1 (rs (.int .i64) y1), r0, bf, rf [2, 7, 8, 11, 12, 17], bf, rc 1 (rs (.sl (.int .i64)) y2), r0, bt, r0, au] (q2 (ca c1) b1 <| ar 5 b2 <| ar 3 b3 <| ar 5 b4 <| e5 b5 (ca c2) c3 c4 b6)
           · obtain ⟨c5, c6, c7, h⟩ := ns3 h
             obtain ⟨c8, h⟩ := Am h
             obtain ⟨y3, c9, h⟩ := bind_some h
             obtain ⟨y4, c10, h⟩ := bind_some h
             obtain ⟨c11, h⟩ := Am h
             obtain ⟨c12, h⟩ := Am h
             obtain ⟨y5, c13, h⟩ := bind_some h
             obtain ⟨y6, c14, h⟩ := bind_some h
             obtain ⟨c15, h⟩ := Am h
             obtain ⟨y7, c16, h⟩ := bind_some h
             obtain ⟨c17, c18, h⟩ := ns2 h
             obtain ⟨y8, c19, h⟩ := bind_some h
             obtain ⟨y9, c20, h⟩ := bind_some h
             have e := sj h; subst e
             exact se G E [r0, rc 1 (rs (.int .i64) y1), r0, bf, rf [2, 7, 8, 11, 12, 17], bf, rc 1 (rs (.sl (.int .i64)) y2), r0, bf, r0, .reg [(6, rs (.nm 6) y3), (7, rs (.nm 6) y4)], .reg [(6, rs (.nm 6) y5), (7, rs (.nm 6) y6)], rc 2 (rs (.sl (.nm 6)) y7), .reg [(8, rs (.nm 6) y8), (9, rt (.nm 0) (.int .i64) y9)], au] (q2 (ca c1) b1 <| ar 5 b2 <| ar 3 b3 <| ar 5 b4 <| q6 b5 (ca c2) c3 c4 b6 c5 <| q6 c6 c7 c8 (ca c9) (ca c10) c11 <| q6 c12 (ca c13) (ca c14) c15 (ca c16) c17 <| e3 c18 (ca c19) (cb c20))
theorem Ao4 : MT 10 Avn := show Be Anc _ _ _ from mt (fn := Tryz.f10) (S := λ x => Bas x.1 x.2.1 x.2.2.1) (GB ⟨Ud, Ys, L5, Ye, Aec, P9, Tl, trivial⟩ trivial) λ G _ _ _ _ => Bbs G
noncomputable abbrev A2w : Env := EV [(21, Pw), (64, Ama)] [] false
noncomputable def Bc1 := c0 Tryz.f37
noncomputable def Apf : FS yzE := f1 [(.nm 7)] (.nm 4) λ x => Vg x.1
abbrev Bk5 (C : Ctx) (F : FT) (y : Al) : Prop := En A2w C F Tryz.f37 Apf (y, ())
def Bia (a0 : QmM) : ST := ⟨22, [og 0 (Cr a0)], []⟩
theorem Bhz (G : Ay A2w P) {y a0} (E : Bk5 C F y) (h : Vg a0 = some y) : Ax A2w P C F Bc1 (Bia a0) := by
 unfold Vg at h
 obtain ⟨y1, c1, h⟩ := bind_some h
 rcases Ag h with ⟨b1, h⟩ | ⟨b1, h⟩
 · obtain ⟨y2, c2, h⟩ := bind_some h
   have e := sj h; subst e
   exact se G E [r0, rc 3 (.res ⟨[(.nm 7), (.sl (.int .i64)), (.nm 4)], (y1.1, y1.2.1, y1.2.2, ())⟩), r0, bt, rc 0 (rs (.nm 4) y2), au] (e3 (congrArg (Option.map (λ r => (r.1, r.2.1, r.2.2, ()))) c1) b1 (ca c2))
 · have e := sj h; subst e
   exact se G E [r0, rc 3 (.res ⟨[(.nm 7), (.sl (.int .i64)), (.nm 4)], (y1.1, y1.2.1, y1.2.2, ())⟩), r0, bf, r0, au] (e2 (congrArg (Option.map (λ r => (r.1, r.2.1, r.2.2, ()))) c1) b1)
theorem Ap7 : MT 37 Apf := show Be A2w _ _ _ from mt (fn := Tryz.f37) (S := λ x => Bia x.1) (GB ⟨Iz, Ag2, trivial⟩ trivial) λ G _ _ _ _ => Bhz G
noncomputable abbrev Aeh : Env := EV [(14, Aa3), (25, Agv), (36, Amd), (37, Apf)] [] false
noncomputable def A3q := c0 Tryz.f11
noncomputable def Ajh : FS yzE := f2 [(.nm 2)] (.nm 0) (.int .i64) λ x => Iv x.1
noncomputable def Asb := ct [0, 0, 0, 2, 0, 0, 0, 1] A3q
noncomputable def Bg8 := ct [0, 2, 4] Asb
abbrev Bhd (C : Ctx) (F : FT) (y : (Au × Int)) : Prop := En Aeh C F Tryz.f11 Ajh (y.1, y.2, ())
def A0n (a0 : An) (r1 : (List (List Al))) : ST := ⟨42, [op 2, op 6], [bc 2 [.int .i64 (0 : Int), .int .i64 (0 : Int)], bc 6 [.int .i64 (IntKind.wrap .i64 (a0.Nodes - (1 : Int))), .ar 34 0], ba 34 40 (.sl (.nm 4)) r1]⟩
def Awa (a0 : An) (v : (List (List Al)) × Int × Int × (List (List Al))) : ST := ⟨42, [op 2, op 6, os 23 (.sl (.nm 4)) v.1, oi 24 v.2.1, oi 25 v.2.2.1], [bc 2 [.int .i64 (0 : Int), .int .i64 (0 : Int)], bc 6 [.int .i64 (IntKind.wrap .i64 (a0.Nodes - (1 : Int))), .ar 34 0], ba 34 40 (.sl (.nm 4)) v.2.2.2]⟩
def Bhc (a0 : An) : ST := ⟨42, [og 0 (A1 a0)], []⟩
theorem A2o (G : Ay Aeh P) {y a0} (E : Bhd C F y) (v : (List (List Al)) × Int × Int × (List (List Al))) o (h : Pa a0 v.1 v.2.1 v.2.2.1 v.2.2.2 = some o) (L : LP Aeh P C F Asb (Awa a0) (GX Aeh P C F Bg8 (A0n a0)) o) : Ax Aeh P C F Asb (Awa a0 v) := by
 unfold Pa at h
 rcases Ag h with ⟨b2, h⟩ | ⟨b2, h⟩
 · obtain ⟨c6, h⟩ := Am h
   obtain ⟨c7, c8, c9, c10, h⟩ := ns4 h
   exact sg G [r0, bt, r0, r0, r0, en, .weak [.re 34 34 0]] (e6 b2 c6 c7 c8 c9 c10) (L.1 _ (si h))
 · exact sg G [r0, bf, au] (e1 b2) (L.2 _ (si h))
theorem Bh5 (G : Ay Aeh P) {y a0} (E : Bhd C F y) (h : Iv a0 = some y) : Ax Aeh P C F A3q (Bhc a0) := by
 unfold Iv at h
 obtain ⟨y1, c1, h⟩ := bind_some h
 rcases Ag h with ⟨b1, h⟩ | ⟨b1, h⟩
 · have e := sj h; subst e
   exact se G E [r0, rc 1 (rs (.int .i64) y1), r0, bt, r0, au] (e2 (ca c1) b1)
 · obtain ⟨y2, c2, h⟩ := bind_some h
   obtain ⟨c3, c4, c5, h⟩ := ns3 h
   obtain ⟨r1, hi, h⟩ := bind_some h
   refine sg G [r0, rc 1 (rs (.int .i64) y1), r0, bf, rc 1 (rs (.nm 7) y2), r0, .weak [.fix (.slot 16)], .weak [.fix (.cell 5)], r0, en, .weak [.own (.cell 6) 1 34 40 0]] (e6 (ca c1) b1 (ca c2) c3 c4 c5) (lg (A2o G E) hi ?_)
   obtain ⟨y3, c11, h⟩ := bind_some h
   obtain ⟨y4, c12, h⟩ := bind_some h
   have e := sj h; subst e
   exact se G E [.reg [(1, rs (.nm 4) y3), (2, rt (.nm 0) (.int .i64) y4)], au] (e2 (ca c11) (cb c12))
theorem Ago : MT 11 Ajh := show Be Aeh _ _ _ from mt (fn := Tryz.f11) (S := λ x => Bhc x.1) (GB ⟨Tu, Zt, Ads, Ap7, trivial⟩ trivial) λ G _ _ _ _ => Bh5 G
noncomputable def Aae (R : (List (List Aa)) -> Option Aa) : FS yzE := f1 [(.sl (.sl (.nm 6)))] (.nm 6) λ x => R x.1
noncomputable abbrev N5 (R : (List (List Aa)) -> Option Aa) : Env := EV [(39, (Aae R)), (26, Te), (28, Aa9), (34, Yi), (47, Ahc), (65, Ae9)] [] false
noncomputable def A50 := c0 Tryz.f39
noncomputable def Arh := ct [0, 0, 0, 2, 0, 0, 1] A50
noncomputable def A49 := ct [0, 2, 4] Arh
noncomputable def Akq := ct [0, 2, 0, 0, 1] A49
noncomputable def Aex := ct [0, 3, 0, 0, 1] Akq
noncomputable def Bi9 := ct [0, 3, 0, 3, 0, 4] Aex
noncomputable def A54 := ct [0, 2, 4] Aex
noncomputable def Bcv := ct [0, 2, 4] Akq
abbrev Ass (R : (List (List Aa)) -> Option Aa) (C : Ctx) (F : FT) (y : Aa) : Prop := En (N5 R) C F Tryz.f39 (Aae R) (y, ())
def Ayd (a0 : (List (List Aa))) (r1 : ((List Int) × Bool × (List Int) × Bool)) : ST := ⟨93, [os 0 (.sl (.nm 6)) a0, op 2, oi 3 (IntKind.wrap .i64 ((a0.length : Int) - (1 : Int))), op 4], [bc 2 [.sl (.int .u32) true [], .bool false, .sl (.int .u32) true [], .bool false], bc 4 [.sl (.int .u32) false r1.1, .bool r1.2.1, .sl (.int .u32) false r1.2.2.1, .bool r1.2.2.2]]⟩
def Ajg (a0 : (List (List Aa))) (v10 : Int) (r1 : ((List Int) × Bool × (List Int) × Bool)) (r2 : (List (List Aa))) : ST := ⟨93, [os 0 (.sl (.nm 6)) a0, op 2, oi 3 (IntKind.wrap .i64 ((a0.length : Int) - (1 : Int))), op 4, ol 6 (.ar 34 0), oi 7 v10], [bc 2 [.sl (.int .u32) true [], .bool false, .sl (.int .u32) true [], .bool false], bc 4 [.sl (.int .u32) false r1.1, .bool r1.2.1, .sl (.int .u32) false r1.2.2.1, .bool r1.2.2.2], bw 34 45 63 (.nm 6) r2]⟩
def Azh (r1 : ((List Int) × Bool × (List Int) × Bool)) (r3 : (List (List Aa))) : ST := ⟨93, [op 2, op 4, ol 6 (.ar 34 0)], [bc 2 [.sl (.int .u32) true [], .bool false, .sl (.int .u32) true [], .bool false], bc 4 [.sl (.int .u32) false r1.1, .bool r1.2.1, .sl (.int .u32) false r1.2.2.1, .bool r1.2.2.2], bw 34 45 63 (.nm 6) r3]⟩
def Asi (a0 : (List (List Aa))) (v : Int × (List Int) × Bool × (List Int) × Bool) : ST := ⟨93, [os 0 (.sl (.nm 6)) a0, op 2, oi 3 (IntKind.wrap .i64 ((a0.length : Int) - (1 : Int))), op 4, oi 5 v.1], [bc 2 [.sl (.int .u32) true [], .bool false, .sl (.int .u32) true [], .bool false], bc 4 [.sl (.int .u32) false v.2.1, .bool v.2.2.1, .sl (.int .u32) false v.2.2.2.1, .bool v.2.2.2.2]]⟩
def A60 (a0 : (List (List Aa))) (v10 : Int) (v12 : Int) (v14 : (List (List Aa))) (r1 : ((List Int) × Bool × (List Int) × Bool)) : ST := ⟨93, [os 0 (.sl (.nm 6)) a0, op 2, oi 3 (IntKind.wrap .i64 ((a0.length : Int) - (1 : Int))), op 4, ol 6 (.ar 34 0), oi 7 v10, oi 8 v12], [bc 2 [.sl (.int .u32) true [], .bool false, .sl (.int .u32) true [], .bool false], bc 4 [.sl (.int .u32) false r1.1, .bool r1.2.1, .sl (.int .u32) false r1.2.2.1, .bool r1.2.2.2], bw 34 45 63 (.nm 6) v14]⟩
def Ahp (a0 : (List (List Aa))) (v10 : Int) (r1 : ((List Int) × Bool × (List Int) × Bool)) (v : Int × (List (List Aa))) : ST := ⟨93, [os 0 (.sl (.nm 6)) a0, op 2, oi 3 (IntKind.wrap .i64 ((a0.length : Int) - (1 : Int))), op 4, ol 6 (.ar 34 0), oi 7 v10, oi 8 v.1], [bc 2 [.sl (.int .u32) true [], .bool false, .sl (.int .u32) true [], .bool false], bc 4 [.sl (.int .u32) false r1.1, .bool r1.2.1, .sl (.int .u32) false r1.2.2.1, .bool r1.2.2.2], bw 34 45 63 (.nm 6) v.2]⟩
def Ar9 (a0 : (List (List Aa))) (r1 : ((List Int) × Bool × (List Int) × Bool)) (v : Int × (List (List Aa))) : ST := ⟨93, [os 0 (.sl (.nm 6)) a0, op 2, oi 3 (IntKind.wrap .i64 ((a0.length : Int) - (1 : Int))), op 4, ol 6 (.ar 34 0), oi 7 v.1], [bc 2 [.sl (.int .u32) true [], .bool false, .sl (.int .u32) true [], .bool false], bc 4 [.sl (.int .u32) false r1.1, .bool r1.2.1, .sl (.int .u32) false r1.2.2.1, .bool r1.2.2.2], bw 34 45 63 (.nm 6) v.2]⟩
def Bh0 (a0 : (List (List Aa))) : ST := ⟨93, [os 0 (.sl (.nm 6)) a0], []⟩
theorem Azy {R : (List (List Aa)) -> Option Aa} (G : Ay (N5 R) P) {y a0} (E : Ass R C F y) (v : Int × (List Int) × Bool × (List Int) × Bool) o (h : Dw R a0 v.1 v.2.1 v.2.2.1 v.2.2.2.1 v.2.2.2.2 = some o) (L : LP (N5 R) P C F Arh (Asi a0) (GX (N5 R) P C F A49 (Ayd a0)) o) : Ax (N5 R) P C F Arh (Asi a0 v) := by
 unfold Dw at h
 rcases Ag h with ⟨b2, h⟩ | ⟨b2, h⟩
 · obtain ⟨c2, c3, h⟩ := ns2 h
   obtain ⟨y2, c4, h⟩ := bind_some h
   exact sg G [r0, bt, rc 8 (rs (.nm 6) y2), r0, en] (e4 b2 c2 c3 (ca c4)) (L.1 _ (si h))
 · exact sg G [r0, bf, au] (e1 b2) (L.2 _ (si h))
theorem Ald {R : (List (List Aa)) -> Option Aa} (G : Ay (N5 R) P) {y o a0 v10 v12 v14 r1} (E : Ass R C F y) (h : Dz R a0 v10 v12 v14 r1 = some o) (L : LP (N5 R) P C F Aex (Ahp a0 v10 r1) (GX (N5 R) P C F A54 (Ajg a0 v10 r1)) o) : Ax (N5 R) P C F Bi9 (A60 a0 v10 v12 v14 r1) := by
 unfold Dz at h
 exact sg G [r0, en] tt (L.1 _ (si h))
theorem Ays {R : (List (List Aa)) -> Option Aa} (G : Ay (N5 R) P) {y a0 v10 r1} (E : Ass R C F y) (v : Int × (List (List Aa))) o (h : Fj R a0 v10 r1 v.1 v.2 = some o) (L : LP (N5 R) P C F Aex (Ahp a0 v10 r1) (GX (N5 R) P C F A54 (Ajg a0 v10 r1)) o) : Ax (N5 R) P C F Aex (Ahp a0 v10 r1 v) := by
 unfold Fj at h
 rcases Ag h with ⟨b5, h⟩ | ⟨b5, h⟩
 · rcases Ag h with ⟨b6, h⟩ | ⟨b6, h⟩
   · obtain ⟨c15, c16, c17, c18, h⟩ := ns4 h
     obtain ⟨c19, c20, c21, h⟩ := ns3 h
     obtain ⟨y4, c22, h⟩ := bind_some h
     obtain ⟨y5, c23, h⟩ := bind_some h
     obtain ⟨y6, c24, h⟩ := bind_some h
     obtain ⟨c25, h⟩ := Am h
     exact sg G [r0, bt, r0, bt, .reg [(26, rs (.nm 6) y4), (28, rs (.nm 6) y5), (29, rs (.nm 6) y6)], au] (q6 b5 b6 c15 c16 c17 c18 <| q6 c19 c20 c21 (ca c22) (ca c23) (ca c24) <| e1 c25) (Ald G E h L)
   · exact sg G [r0, bt, r0, bf, au] (e2 b5 b6) (Ald G E h L)
 · exact sg G [r0, bf, au] (e1 b5) (L.2 _ (si h))
theorem A0v {R : (List (List Aa)) -> Option Aa} (G : Ay (N5 R) P) {y a0 r1} (E : Ass R C F y) (v : Int × (List (List Aa))) o (h : D0 R a0 r1 v.1 v.2 = some o) (L : LP (N5 R) P C F Akq (Ar9 a0 r1) (GX (N5 R) P C F Bcv (Azh r1)) o) : Ax (N5 R) P C F Akq (Ar9 a0 r1 v) := by
 unfold D0 at h
 rcases Ag h with ⟨b4, h⟩ | ⟨b4, h⟩
 · obtain ⟨c9, c10, c11, c12, h⟩ := ns4 h
   obtain ⟨c13, c14, h⟩ := ns2 h
   obtain ⟨r2, hi, h⟩ := bind_some h
   refine sg G [r0, bt, r0, r0, en, .weak [.re 34 34 0]] (q6 b4 c9 c10 c11 c12 c13 <| e1 c14) (lg (Ays G E) hi ?_)
   exact sg G [r0, en] tt (L.1 _ (si h))
 · exact sg G [r0, bf, au] (e1 b4) (L.2 _ (si h))
theorem Bjm {R : (List (List Aa)) -> Option Aa} (G : Ay (N5 R) P) {y a0} (E : Ass R C F y) (h : Ce R a0 = some y) : Ax (N5 R) P C F A50 (Bh0 a0) := by
 unfold Ce at h
 rcases Ag h with ⟨b1, h⟩ | ⟨b1, h⟩
 · obtain ⟨y1, c1, h⟩ := bind_some h
   have e := sj h; subst e
   exact se G E [r0, r0, r0, bt, rc 0 (rs (.nm 6) y1), au] (e2 b1 (ca c1))
 · obtain ⟨r1, hi, h⟩ := bind_some h
   refine sg G [r0, r0, r0, bf, r0, r0, en, .weak [.st (.cell 4)]] (e1 b1) (lg (Azy G E) hi ?_)
   obtain ⟨y3, c5, h⟩ := bind_some h
   rcases Ag h with ⟨b3, h⟩ | ⟨b3, h⟩
   · have e := sj h; subst e
     exact se G E [rc 1 (rs .bool y3), bt, r0, au] (e2 (ca c5) b3)
   · obtain ⟨c6, c7, c8, h⟩ := ns3 h
     obtain ⟨r3, hi, h⟩ := bind_some h
     refine sg G [rc 1 (rs .bool y3), bf, rc 1 .own, r0, en] (e5 (ca c5) b3 c6 c7 c8) (lg (A0v G E) hi ?_)
     obtain ⟨y7, c26, h⟩ := bind_some h
     obtain ⟨y8, c27, h⟩ := bind_some h
     have e := sj h; subst e
     exact se G E [.reg [(2, rs (.nm 6) y7), (3, rs (.nm 6) y8)], au] (e2 (ca c26) (ca c27))
theorem Av4 (R : (List (List Aa)) -> Option Aa) (hR : MT 39 (Aae R)) : MT 39 (Aae (Ce R)) := show Be (N5 R) _ _ _ from mt (fn := Tryz.f39) (S := λ x => Bh0 x.1) (GB ⟨hR, L5, Uq, P9, Xf, Zc, trivial⟩ trivial) λ G _ _ _ _ => Bjm G
theorem Jw : ∀ k, MT 39 (Aae (C4 k))
 | 0 => m0 (fn := Tryz.f39) λ _ => rfl
 | k + 1 => Av4 _ (Jw k)
noncomputable def Kc : FS yzE := Aae K7
theorem Ms : MT 39 Kc := Jw 20
noncomputable abbrev Rw : Env := EV [(17, Abd), (26, Te), (27, Aa7), (29, Ae4), (38, Agl), (39, Kc)] [] false
noncomputable def A4n := c0 Tryz.f12
noncomputable def Asj : FS yzE := f2 [(.nm 2)] (.nm 0) (.int .i64) λ x => Cx x.1
noncomputable def Apd := ct [0, 0, 0, 2, 0, 0, 0, 1] A4n
noncomputable def A5m := ct [0, 2, 4] Apd
noncomputable def Adt := ct [0, 1] A5m
noncomputable def Bei := ct [0, 3, 0, 0, 3, 0, 0, 4] Adt
noncomputable def A5z := ct [0, 2, 4] Adt
abbrev A2h (C : Ctx) (F : FT) (y : (Au × Int)) : Prop := En Rw C F Tryz.f12 Asj (y.1, y.2, ())
def Aws (a0 : An) (r1 : (List (List Aa))) : ST := ⟨95, [op 1, op 2, ol 6 (.ar 20 0)], [bc 1 (A1 a0), bc 2 [.int .i64 (0 : Int), .int .i64 (0 : Int)], bw 20 45 63 (.nm 6) r1]⟩
def Ajq (r2 : (List (List Aa))) : ST := ⟨95, [op 2, ol 6 (.ar 20 0)], [bc 2 [.int .i64 (0 : Int), .int .i64 (0 : Int)], bw 20 45 63 (.nm 6) r2]⟩
def Aoq (a0 : An) (v : Int × (List (List Aa))) : ST := ⟨95, [op 1, op 2, oi 5 a0.Nodes, ol 6 (.ar 20 0), oi 7 v.1], [bc 1 (A1 a0), bc 2 [.int .i64 (0 : Int), .int .i64 (0 : Int)], bw 20 45 63 (.nm 6) v.2]⟩
def A6c (a0 : An) (v4 : Int) (v6 : (List (List Aa))) : ST := ⟨95, [op 1, op 2, ol 6 (.ar 20 0), oi 8 v4], [bc 1 (A1 a0), bc 2 [.int .i64 (0 : Int), .int .i64 (0 : Int)], bw 20 45 63 (.nm 6) v6]⟩
def Aik (a0 : An) (v : Int × (List (List Aa))) : ST := ⟨95, [op 1, op 2, ol 6 (.ar 20 0), oi 8 v.1], [bc 1 (A1 a0), bc 2 [.int .i64 (0 : Int), .int .i64 (0 : Int)], bw 20 45 63 (.nm 6) v.2]⟩
def Bby (a0 : An) : ST := ⟨95, [og 0 (A1 a0)], []⟩
theorem A2c (G : Ay Rw P) {y a0} (E : A2h C F y) (v : Int × (List (List Aa))) o (h : Gq a0 v.1 v.2 = some o) (L : LP Rw P C F Apd (Aoq a0) (GX Rw P C F A5m (Aws a0)) o) : Ax Rw P C F Apd (Aoq a0 v) := by
 unfold Gq at h
 rcases Ag h with ⟨b2, h⟩ | ⟨b2, h⟩
 · obtain ⟨c5, c6, c7, c8, h⟩ := ns4 h
   exact sg G [r0, bt, r0, r0, en, .weak [.re 20 20 0]] (e5 b2 c5 c6 c7 c8) (L.1 _ (si h))
 · exact sg G [r0, bf, au] (e1 b2) (L.2 _ (si h))
theorem Amb (G : Ay Rw P) {y o a0 v4 v6} (E : A2h C F y) (h : Fd a0 v4 v6 = some o) (L : LP Rw P C F Adt (Aik a0) (GX Rw P C F A5z Ajq) o) : Ax Rw P C F Bei (A6c a0 v4 v6) := by
 unfold Fd at h
 exact sg G [r0, en] tt (L.1 _ (si h))
theorem Azl (G : Ay Rw P) {y a0} (E : A2h C F y) (v : Int × (List (List Aa))) o (h : Gl a0 v.1 v.2 = some o) (L : LP Rw P C F Adt (Aik a0) (GX Rw P C F A5z Ajq) o) : Ax Rw P C F Adt (Aik a0 v) := by
 unfold Gl at h
 rcases Ag h with ⟨b3, h⟩ | ⟨b3, h⟩
 · obtain ⟨c9, h⟩ := Am h
   rcases Ag h with ⟨b4, h⟩ | ⟨b4, h⟩
   · obtain ⟨y2, c10, h⟩ := bind_some h
     obtain ⟨y3, c11, h⟩ := bind_some h
     obtain ⟨c12, c13, c14, c15, h⟩ := ns4 h
     obtain ⟨y4, c16, h⟩ := bind_some h
     obtain ⟨c17, c18, h⟩ := ns2 h
     obtain ⟨y5, c19, h⟩ := bind_some h
     obtain ⟨c20, c21, h⟩ := ns2 h
     exact sg G [r0, bt, r0, r0, bt, .reg [(2, rs (.nm 6) y2), (3, rs (.nm 6) y3)], .reg [(24, rs (.nm 6) y4), (35, rs (.nm 6) y5)], au] (q6 b3 c9 b4 (ca c10) (ca c11) c12 <| q6 c13 c14 c15 (ca c16) c17 c18 <| e3 (ca c19) c20 c21) (Amb G E h L)
   · exact sg G [r0, bt, r0, r0, bf, au] (e3 b3 c9 b4) (Amb G E h L)
 · exact sg G [r0, bf, au] (e1 b3) (L.2 _ (si h))
theorem Bcj (G : Ay Rw P) {y a0} (E : A2h C F y) (h : Cx a0 = some y) : Ax Rw P C F A4n (Bby a0) := by
 unfold Cx at h
 obtain ⟨y1, c1, h⟩ := bind_some h
 rcases Ag h with ⟨b1, h⟩ | ⟨b1, h⟩
 · have e := sj h; subst e
   exact se G E [r0, rc 1 (rs (.int .i64) y1), r0, bt, r0, au] (e2 (ca c1) b1)
 · obtain ⟨c2, c3, c4, h⟩ := ns3 h
   obtain ⟨r1, hi, h⟩ := bind_some h
   refine sg G [r0, rc 1 (rs (.int .i64) y1), r0, bf, r0, rc 1 .own, r0, en] (e5 (ca c1) b1 c2 c3 c4) (lg (A2c G E) hi ?_)
   obtain ⟨r2, hi, h⟩ := bind_some h
   refine sg G [r0, en] tt (lg (Azl G E) hi ?_)
   obtain ⟨y6, c22, h⟩ := bind_some h
   obtain ⟨y7, c23, h⟩ := bind_some h
   have e := sj h; subst e
   exact se G E [.reg [(1, rs (.nm 6) y6), (2, rt (.nm 0) (.int .i64) y7)], au] (e2 (ca c22) (cb c23))
theorem Au0 : MT 12 Asj := show Be Rw _ _ _ from mt (fn := Tryz.f12) (S := λ x => Bby x.1) (GB ⟨Ud, L5, Uf, Ye, Xj, Ms, trivial⟩ trivial) λ G _ _ _ _ => Bcj G
noncomputable abbrev A2g : Env := EV [] [] false
noncomputable def Bh1 := c0 Tryz.f40
noncomputable def Ao3 : FS yzE := f1 [(.int .i64)] (.nm 0) λ x => Bn x.1
abbrev Bks (C : Ctx) (F : FT) (y : Au) : Prop := En A2g C F Tryz.f40 Ao3 (y, ())
def Bfz (a0 : Int) : ST := ⟨5, [oi 0 a0], []⟩
theorem Bch (G : Ay A2g P) {y a0} (E : Bks C F y) (h : Bn a0 = some y) : Ax A2g P C F Bh1 (Bfz a0) := by
 unfold Bn at h
 have e := sj h; subst e
 exact se G E [r0, r0, au] tt
theorem Atb : MT 40 Ao3 := show Be A2g _ _ _ from mt (fn := Tryz.f40) (S := λ x => Bfz x.1) (GB trivial trivial) λ G _ _ _ _ => Bch G
noncomputable abbrev Ayq : Env := EV [(4, Ay9), (6, Aww), (9, Ax4), (11, Ajh), (40, Ao3)] [] false
noncomputable def Bbg := c0 Tryz.f13
noncomputable def Asy : FS yzE := f1 [] .bool λ _ => E1
abbrev Blb (C : Ctx) (F : FT) (y : Bool) : Prop := En Ayq C F Tryz.f13 Asy (y, ())
def Bbu : ST := ⟨75, [], []⟩
theorem Bem (G : Ay Ayq P) {y} (E : Blb C F y) (h : E1 = some y) : Ax Ayq P C F Bbg Bbu := by
 unfold E1 at h
 obtain ⟨y1, c1, h⟩ := bind_some h
 obtain ⟨y2, c2, h⟩ := bind_some h
 obtain ⟨y3, c3, h⟩ := bind_some h
 obtain ⟨y4, c4, h⟩ := bind_some h
 obtain ⟨y5, c5, h⟩ := bind_some h
 obtain ⟨y6, c6, h⟩ := bind_some h
 obtain ⟨y7, c7, h⟩ := bind_some h
 obtain ⟨y8, c8, h⟩ := bind_some h
 obtain ⟨y9, c9, h⟩ := bind_some h
 obtain ⟨y10, c10, h⟩ := bind_some h
 obtain ⟨y11, c11, h⟩ := bind_some h
 obtain ⟨y12, c12, h⟩ := bind_some h
 obtain ⟨y13, c13, h⟩ := bind_some h
 rcases Ag h with ⟨b1, h⟩ | ⟨b1, h⟩
 · rcases Ag h with ⟨b2, h⟩ | ⟨b2, h⟩
   · obtain ⟨y14, c14, h⟩ := bind_some h
     rcases Ag h with ⟨b3, h⟩ | ⟨b3, h⟩
     · rcases Ag h with ⟨b4, h⟩ | ⟨b4, h⟩
       · rcases Ag h with ⟨b5, h⟩ | ⟨b5, h⟩
         · have e := sj h; subst e
           exact se G E [r0, r0, .reg [(1, rs (.nm 0) y1), (3, rs (.nm 0) y2), (6, rs (.nm 0) y3), (8, rs (.nm 0) y4), (11, rs (.nm 0) y5), (13, rs (.nm 0) y6)], rc 1 (.res ⟨[(.sl (.nm 0)), (.sl (.nm 0)), (.int .i64)], (y7.1, y7.2.1, y7.2.2, ())⟩), rc 1 (rt (.nm 0) (.int .i64) y8), rc 1 (rt (.nm 0) (.int .i64) y9), rg [] [9, 12, 13, 18, 19, 22, 23, 27, 28, 31] [(2, rs (.nm 0) y10), (4, rs (.nm 0) y11), (6, rs (.nm 0) y12), (8, rs .bool y13), (16, rs (.nm 0) y14)], au] (q6 (ca c1) (ca c2) (ca c3) (ca c4) (ca c5) (ca c6) <| q6 (congrArg (Option.map (λ r => (r.1, r.2.1, r.2.2, ()))) c7) (cb c8) (cb c9) (ca c10) (ca c11) (ca c12) <| q1 (ca c13) <| ar 3 b1 <| ar 3 b2 <| q3 (ca c14) b2 b2 <| ar 3 b3 <| ar 4 b4 <| ar 3 b5 <| tt)
         · have e := sj h; subst e
           exact se G E [r0, r0, .reg [(1, rs (.nm 0) y1), (3, rs (.nm 0) y2), (6, rs (.nm 0) y3), (8, rs (.nm 0) y4), (11, rs (.nm 0) y5), (13, rs (.nm 0) y6)], rc 1 (.res ⟨[(.sl (.nm 0)), (.sl (.nm 0)), (.int .i64)], (y7.1, y7.2.1, y7.2.2, ())⟩), rc 1 (rt (.nm 0) (.int .i64) y8), rc 1 (rt (.nm 0) (.int .i64) y9), rg [28, 31] [9, 12, 13, 18, 19, 22, 23, 27] [(2, rs (.nm 0) y10), (4, rs (.nm 0) y11), (6, rs (.nm 0) y12), (8, rs .bool y13), (16, rs (.nm 0) y14)], au] (q6 (ca c1) (ca c2) (ca c3) (ca c4) (ca c5) (ca c6) <| q6 (congrArg (Option.map (λ r => (r.1, r.2.1, r.2.2, ()))) c7) (cb c8) (cb c9) (ca c10) (ca c11) (ca c12) <| q1 (ca c13) <| ar 3 b1 <| ar 3 b2 <| q3 (ca c14) b2 b2 <| ar 3 b3 <| ar 4 b4 <| ar 3 b5 <| tt)
       · have e := sj h; subst e
         exact se G E [r0, r0, .reg [(1, rs (.nm 0) y1), (3, rs (.nm 0) y2), (6, rs (.nm 0) y3), (8, rs (.nm 0) y4), (11, rs (.nm 0) y5), (13, rs (.nm 0) y6)], rc 1 (.res ⟨[(.sl (.nm 0)), (.sl (.nm 0)), (.int .i64)], (y7.1, y7.2.1, y7.2.2, ())⟩), rc 1 (rt (.nm 0) (.int .i64) y8), rc 1 (rt (.nm 0) (.int .i64) y9), rg [23, 27, 28, 31] [9, 12, 13, 18, 19, 22] [(2, rs (.nm 0) y10), (4, rs (.nm 0) y11), (6, rs (.nm 0) y12), (8, rs .bool y13), (16, rs (.nm 0) y14)], au] (q6 (ca c1) (ca c2) (ca c3) (ca c4) (ca c5) (ca c6) <| q6 (congrArg (Option.map (λ r => (r.1, r.2.1, r.2.2, ()))) c7) (cb c8) (cb c9) (ca c10) (ca c11) (ca c12) <| q1 (ca c13) <| ar 3 b1 <| ar 3 b2 <| q3 (ca c14) b2 b2 <| ar 3 b3 <| ar 4 b4 <| ar 3 rF <| tt)
     · have e := sj h; subst e
       exact se G E [r0, r0, .reg [(1, rs (.nm 0) y1), (3, rs (.nm 0) y2), (6, rs (.nm 0) y3), (8, rs (.nm 0) y4), (11, rs (.nm 0) y5), (13, rs (.nm 0) y6)], rc 1 (.res ⟨[(.sl (.nm 0)), (.sl (.nm 0)), (.int .i64)], (y7.1, y7.2.1, y7.2.2, ())⟩), rc 1 (rt (.nm 0) (.int .i64) y8), rc 1 (rt (.nm 0) (.int .i64) y9), rg [19, 22, 23, 27, 28, 31] [9, 12, 13, 18] [(2, rs (.nm 0) y10), (4, rs (.nm 0) y11), (6, rs (.nm 0) y12), (8, rs .bool y13), (16, rs (.nm 0) y14)], au] (q6 (ca c1) (ca c2) (ca c3) (ca c4) (ca c5) (ca c6) <| q6 (congrArg (Option.map (λ r => (r.1, r.2.1, r.2.2, ()))) c7) (cb c8) (cb c9) (ca c10) (ca c11) (ca c12) <| q1 (ca c13) <| ar 3 b1 <| ar 3 b2 <| q3 (ca c14) b2 b2 <| ar 3 b3 <| ar 7 rF <| tt)
   · have e := sj h; subst e
     exact se G E [r0, r0, .reg [(1, rs (.nm 0) y1), (3, rs (.nm 0) y2), (6, rs (.nm 0) y3), (8, rs (.nm 0) y4), (11, rs (.nm 0) y5), (13, rs (.nm 0) y6)], rc 1 (.res ⟨[(.sl (.nm 0)), (.sl (.nm 0)), (.int .i64)], (y7.1, y7.2.1, y7.2.2, ())⟩), rc 1 (rt (.nm 0) (.int .i64) y8), rc 1 (rt (.nm 0) (.int .i64) y9), rg [13, 18, 19, 22, 23, 27, 28, 31] [9, 12] [(2, rs (.nm 0) y10), (4, rs (.nm 0) y11), (6, rs (.nm 0) y12), (8, rs .bool y13)], au] (q6 (ca c1) (ca c2) (ca c3) (ca c4) (ca c5) (ca c6) <| q6 (congrArg (Option.map (λ r => (r.1, r.2.1, r.2.2, ()))) c7) (cb c8) (cb c9) (ca c10) (ca c11) (ca c12) <| q1 (ca c13) <| ar 3 b1 <| ar 5 b2 <| ar 10 rF <| tt)
 · have e := sj h; subst e
   exact se G E [r0, r0, .reg [(1, rs (.nm 0) y1), (3, rs (.nm 0) y2), (6, rs (.nm 0) y3), (8, rs (.nm 0) y4), (11, rs (.nm 0) y5), (13, rs (.nm 0) y6)], rc 1 (.res ⟨[(.sl (.nm 0)), (.sl (.nm 0)), (.int .i64)], (y7.1, y7.2.1, y7.2.2, ())⟩), rc 1 (rt (.nm 0) (.int .i64) y8), rc 1 (rt (.nm 0) (.int .i64) y9), rg [9, 12, 13, 18, 19, 22, 23, 27, 28, 31] [] [(2, rs (.nm 0) y10), (4, rs (.nm 0) y11), (6, rs (.nm 0) y12), (8, rs .bool y13)], au] (q6 (ca c1) (ca c2) (ca c3) (ca c4) (ca c5) (ca c6) <| q6 (congrArg (Option.map (λ r => (r.1, r.2.1, r.2.2, ()))) c7) (cb c8) (cb c9) (ca c10) (ca c11) (ca c12) <| q1 (ca c13) <| ar 3 b1 <| ar 15 rF <| tt)
theorem Apa : MT 13 Asy := show Be Ayq _ _ _ from mt (fn := Tryz.f13) (S := λ _ => Bbu) (GB ⟨Al7, Amy, Ajk, Ago, Atb, trivial⟩ trivial) λ G _ _ _ _ => Bem G
noncomputable abbrev w3V : Env := EV [(4, Ay9), (5, A7i), (6, Aww), (7, A6s), (8, A8o), (9, Ax4), (10, Avn), (11, Ajh), (12, Asj), (13, Asy)] [] false
noncomputable def Ay2 := c0 Tryz.f3
noncomputable def Bdm : FS yzE := f1 [(.nm 2), (.int .i64), (.int .i64)] .bool λ x => Dx x.1 x.2.1 x.2.2.1
noncomputable def Bkb := ct [0, 0, 0, 0, 3, 4] Ay2
noncomputable def Bka := ct [0, 0, 0, 0, 2, 0, 0, 0, 3, 4] Ay2
noncomputable def Bib := ct [0, 0, 0, 0, 2, 0, 0, 0, 2, 4] Ay2
noncomputable def Bk6 := ct [0, 0, 0, 3, 4] Bib
abbrev w3E (C : Ctx) (F : FT) (y : Bool) : Prop := En w3V C F Tryz.f3 Bdm (y, ())
def Bbo : ST := ⟨121, [], []⟩
def Bdu : ST := ⟨121, [], []⟩
def Bh8 : ST := ⟨121, [], []⟩
def Bh3 (a0 : An) (a1 : Int) (a2 : Int) (y5 : (Au × Au × Int)) (y6 : (Au × Au × Int)) : ST := ⟨121, [oi 1 a1, oi 2 a2, op 3, op 13, op 15], [bc 3 (A1 a0), bc 13 (Gv y5.1), bc 15 (Gv y6.1)]⟩
def w3S (a0 : An) (a1 : Int) (a2 : Int) : ST := ⟨121, [og 0 (A1 a0), oi 1 a1, oi 2 a2], []⟩
theorem Ahq (G : Ay w3V P) {y} (E : w3E C F y) (h : Eb = some y) : Ax w3V P C F Bkb Bbo := by
 unfold Eb at h
 have e := sj h; subst e
 exact se G E [r0, au] tt
theorem Abz (G : Ay w3V P) {y} (E : w3E C F y) (h : C7 = some y) : Ax w3V P C F Bka Bdu := by
 unfold C7 at h
 have e := sj h; subst e
 exact se G E [r0, au] tt
theorem Apt (G : Ay w3V P) {y} (E : w3E C F y) (h : F0 = some y) : Ax w3V P C F Bk6 Bh8 := by
 unfold F0 at h
 have e := sj h; subst e
 exact se G E [r0, au] tt
theorem At0 (G : Ay w3V P) {y a0 a1 a2 y5 y6} (E : w3E C F y) (h : C3 a0 a1 a2 y5 y6 = some y) : Ax w3V P C F Bib (Bh3 a0 a1 a2 y5 y6) := by
 unfold C3 at h
 obtain ⟨y7, c7, h⟩ := bind_some h
 obtain ⟨y8, c8, h⟩ := bind_some h
 rcases Ag h with ⟨b9, h⟩ | ⟨b9, h⟩
 · exact sg G [rc 3 (rt (.nm 0) (.int .i64) y7), rc 3 (rt (.nm 0) (.int .i64) y8), ru [3, 7], bt, au] (q2 (cb c7) (cb c8) <| ar 4 b9 <| e1 rT) (Apt G E h)
 · rcases Ag h with ⟨b10, h⟩ | ⟨b10, h⟩
   · exact sg G [rc 3 (rt (.nm 0) (.int .i64) y7), rc 3 (rt (.nm 0) (.int .i64) y8), rf [3, 7], bt, au] (q2 (cb c7) (cb c8) <| ar 4 b9 <| e1 b10) (Apt G E h)
   · obtain ⟨y9, c9, h⟩ := bind_some h
     obtain ⟨y10, c10, h⟩ := bind_some h
     rcases Ag h with ⟨b11, h⟩ | ⟨b11, h⟩
     · rcases Ag h with ⟨b12, h⟩ | ⟨b12, h⟩
       · obtain ⟨y11, c11, h⟩ := bind_some h
         have e := sj h; subst e
         exact se G E [rc 3 (rt (.nm 0) (.int .i64) y7), rc 3 (rt (.nm 0) (.int .i64) y8), rf [3, 7], bf, rc 1 (rt (.nm 0) (.int .i64) y9), rc 1 (rt (.nm 0) (.int .i64) y10), rg [] [3, 7, 8, 10] [(9, rs .bool y11)], au] (q2 (cb c7) (cb c8) <| ar 4 b9 <| q3 b10 (cb c9) (cb c10) <| ar 4 b11 <| e3 b12 (ca c11) b12)
       · have e := sj h; subst e
         exact se G E [rc 3 (rt (.nm 0) (.int .i64) y7), rc 3 (rt (.nm 0) (.int .i64) y8), rf [3, 7], bf, rc 1 (rt (.nm 0) (.int .i64) y9), rc 1 (rt (.nm 0) (.int .i64) y10), rb [8, 10] [3, 7], au] (q2 (cb c7) (cb c8) <| ar 4 b9 <| q3 b10 (cb c9) (cb c10) <| ar 4 b11 <| e2 b12 b12)
     · have e := sj h; subst e
       exact se G E [rc 3 (rt (.nm 0) (.int .i64) y7), rc 3 (rt (.nm 0) (.int .i64) y8), rf [3, 7], bf, rc 1 (rt (.nm 0) (.int .i64) y9), rc 1 (rt (.nm 0) (.int .i64) y10), rf [3, 7, 8, 10], au] (q2 (cb c7) (cb c8) <| ar 4 b9 <| q3 b10 (cb c9) (cb c10) <| ar 4 b11 <| e2 rF rF)
theorem Bj6 (G : Ay w3V P) {y a0 a1 a2} (E : w3E C F y) (h : Dx a0 a1 a2 = some y) : Ax w3V P C F Ay2 (w3S a0 a1 a2) := by
 unfold Dx at h
 obtain ⟨y1, c1, h⟩ := bind_some h
 obtain ⟨y2, c2, h⟩ := bind_some h
 rcases Ag h with ⟨b1, h⟩ | ⟨b1, h⟩
 · exact sg G [r0, rc 1 (.res ⟨[(.sl (.nm 0)), (.sl (.nm 0)), (.int .i64)], (y1.1, y1.2.1, y1.2.2, ())⟩), rc 1 (.res ⟨[(.sl (.nm 0)), (.sl (.nm 0)), (.int .i64)], (y2.1, y2.2.1, y2.2.2, ())⟩), ru [3, 8, 9, 14], bt, au] (q2 (congrArg (Option.map (λ r => (r.1, r.2.1, r.2.2, ()))) c1) (congrArg (Option.map (λ r => (r.1, r.2.1, r.2.2, ()))) c2) <| ar 5 b1 <| ar 6 rT <| tt) (Ahq G E h)
 · obtain ⟨y3, c3, h⟩ := bind_some h
   rcases Ag h with ⟨b2, h⟩ | ⟨b2, h⟩
   · exact sg G [r0, rc 1 (.res ⟨[(.sl (.nm 0)), (.sl (.nm 0)), (.int .i64)], (y1.1, y1.2.1, y1.2.2, ())⟩), rc 1 (.res ⟨[(.sl (.nm 0)), (.sl (.nm 0)), (.int .i64)], (y2.1, y2.2.1, y2.2.2, ())⟩), rg [3, 8] [9, 14] [(6, rs .bool y3)], bt, au] (q2 (congrArg (Option.map (λ r => (r.1, r.2.1, r.2.2, ()))) c1) (congrArg (Option.map (λ r => (r.1, r.2.1, r.2.2, ()))) c2) <| ar 3 b1 <| q3 (ca c3) b1 b1 <| ar 5 b2 <| e1 rT) (Ahq G E h)
   · obtain ⟨y4, c4, h⟩ := bind_some h
     rcases Ag h with ⟨b3, h⟩ | ⟨b3, h⟩
     · exact sg G [r0, rc 1 (.res ⟨[(.sl (.nm 0)), (.sl (.nm 0)), (.int .i64)], (y1.1, y1.2.1, y1.2.2, ())⟩), rc 1 (.res ⟨[(.sl (.nm 0)), (.sl (.nm 0)), (.int .i64)], (y2.1, y2.2.1, y2.2.2, ())⟩), rg [3, 8, 9, 14] [] [(6, rs .bool y3), (12, rs .bool y4)], bt, au] (q2 (congrArg (Option.map (λ r => (r.1, r.2.1, r.2.2, ()))) c1) (congrArg (Option.map (λ r => (r.1, r.2.1, r.2.2, ()))) c2) <| ar 3 b1 <| q3 (ca c3) b1 b1 <| ar 3 b2 <| e4 (ca c4) b2 b2 b3) (Ahq G E h)
     · obtain ⟨y5, c5, h⟩ := bind_some h
       obtain ⟨y6, c6, h⟩ := bind_some h
       rcases Ag h with ⟨b4, h⟩ | ⟨b4, h⟩
       · exact sg G [r0, rc 1 (.res ⟨[(.sl (.nm 0)), (.sl (.nm 0)), (.int .i64)], (y1.1, y1.2.1, y1.2.2, ())⟩), rc 1 (.res ⟨[(.sl (.nm 0)), (.sl (.nm 0)), (.int .i64)], (y2.1, y2.2.1, y2.2.2, ())⟩), rg [3, 8, 9, 14] [] [(6, rs .bool y3), (12, rs .bool y4)], bf, rc 1 (.res ⟨[(.nm 0), (.nm 0), (.int .i64)], (y5.1, y5.2.1, y5.2.2, ())⟩), rc 1 (.res ⟨[(.nm 0), (.nm 0), (.int .i64)], (y6.1, y6.2.1, y6.2.2, ())⟩), ru [3, 7, 8, 12, 13, 21], bt, au] (q2 (congrArg (Option.map (λ r => (r.1, r.2.1, r.2.2, ()))) c1) (congrArg (Option.map (λ r => (r.1, r.2.1, r.2.2, ()))) c2) <| ar 3 b1 <| q3 (ca c3) b1 b1 <| ar 3 b2 <| q6 (ca c4) b2 b2 b3 (congrArg (Option.map (λ r => (r.1, r.2.1, r.2.2, ()))) c5) (congrArg (Option.map (λ r => (r.1, r.2.1, r.2.2, ()))) c6) <| ar 4 b4 <| ar 10 rT <| tt) (Abz G E h)
       · rcases Ag h with ⟨b5, h⟩ | ⟨b5, h⟩
         · exact sg G [r0, rc 1 (.res ⟨[(.sl (.nm 0)), (.sl (.nm 0)), (.int .i64)], (y1.1, y1.2.1, y1.2.2, ())⟩), rc 1 (.res ⟨[(.sl (.nm 0)), (.sl (.nm 0)), (.int .i64)], (y2.1, y2.2.1, y2.2.2, ())⟩), rg [3, 8, 9, 14] [] [(6, rs .bool y3), (12, rs .bool y4)], bf, rc 1 (.res ⟨[(.nm 0), (.nm 0), (.int .i64)], (y5.1, y5.2.1, y5.2.2, ())⟩), rc 1 (.res ⟨[(.nm 0), (.nm 0), (.int .i64)], (y6.1, y6.2.1, y6.2.2, ())⟩), rb [3, 7] [8, 12, 13, 21], bt, au] (q2 (congrArg (Option.map (λ r => (r.1, r.2.1, r.2.2, ()))) c1) (congrArg (Option.map (λ r => (r.1, r.2.1, r.2.2, ()))) c2) <| ar 3 b1 <| q3 (ca c3) b1 b1 <| ar 3 b2 <| q6 (ca c4) b2 b2 b3 (congrArg (Option.map (λ r => (r.1, r.2.1, r.2.2, ()))) c5) (congrArg (Option.map (λ r => (r.1, r.2.1, r.2.2, ()))) c6) <| ar 4 b4 <| ar 4 b5 <| ar 6 rT <| tt) (Abz G E h)
         · rcases Ag h with ⟨b6, h⟩ | ⟨b6, h⟩
           · exact sg G [r0, rc 1 (.res ⟨[(.sl (.nm 0)), (.sl (.nm 0)), (.int .i64)], (y1.1, y1.2.1, y1.2.2, ())⟩), rc 1 (.res ⟨[(.sl (.nm 0)), (.sl (.nm 0)), (.int .i64)], (y2.1, y2.2.1, y2.2.2, ())⟩), rg [3, 8, 9, 14] [] [(6, rs .bool y3), (12, rs .bool y4)], bf, rc 1 (.res ⟨[(.nm 0), (.nm 0), (.int .i64)], (y5.1, y5.2.1, y5.2.2, ())⟩), rc 1 (.res ⟨[(.nm 0), (.nm 0), (.int .i64)], (y6.1, y6.2.1, y6.2.2, ())⟩), rb [3, 7, 8, 12] [13, 21], bt, au] (q2 (congrArg (Option.map (λ r => (r.1, r.2.1, r.2.2, ()))) c1) (congrArg (Option.map (λ r => (r.1, r.2.1, r.2.2, ()))) c2) <| ar 3 b1 <| q3 (ca c3) b1 b1 <| ar 3 b2 <| q6 (ca c4) b2 b2 b3 (congrArg (Option.map (λ r => (r.1, r.2.1, r.2.2, ()))) c5) (congrArg (Option.map (λ r => (r.1, r.2.1, r.2.2, ()))) c6) <| ar 4 b4 <| ar 4 b5 <| ar 5 b6 <| e1 rT) (Abz G E h)
           · rcases Ag h with ⟨b7, h⟩ | ⟨b7, h⟩
             · rcases Ag h with ⟨b8, h⟩ | ⟨b8, h⟩
               · exact sg G [r0, rc 1 (.res ⟨[(.sl (.nm 0)), (.sl (.nm 0)), (.int .i64)], (y1.1, y1.2.1, y1.2.2, ())⟩), rc 1 (.res ⟨[(.sl (.nm 0)), (.sl (.nm 0)), (.int .i64)], (y2.1, y2.2.1, y2.2.2, ())⟩), rg [3, 8, 9, 14] [] [(6, rs .bool y3), (12, rs .bool y4)], bf, rc 1 (.res ⟨[(.nm 0), (.nm 0), (.int .i64)], (y5.1, y5.2.1, y5.2.2, ())⟩), rc 1 (.res ⟨[(.nm 0), (.nm 0), (.int .i64)], (y6.1, y6.2.1, y6.2.2, ())⟩), rb [3, 7, 8, 12, 13, 21] [16, 20], bt, au] (q2 (congrArg (Option.map (λ r => (r.1, r.2.1, r.2.2, ()))) c1) (congrArg (Option.map (λ r => (r.1, r.2.1, r.2.2, ()))) c2) <| ar 3 b1 <| q3 (ca c3) b1 b1 <| ar 3 b2 <| q6 (ca c4) b2 b2 b3 (congrArg (Option.map (λ r => (r.1, r.2.1, r.2.2, ()))) c5) (congrArg (Option.map (λ r => (r.1, r.2.1, r.2.2, ()))) c6) <| ar 4 b4 <| ar 4 b5 <| ar 3 b6 <| ar 3 b7 <| e4 b6 b7 b6 b8) (Abz G E h)
               · exact sg G [r0, rc 1 (.res ⟨[(.sl (.nm 0)), (.sl (.nm 0)), (.int .i64)], (y1.1, y1.2.1, y1.2.2, ())⟩), rc 1 (.res ⟨[(.sl (.nm 0)), (.sl (.nm 0)), (.int .i64)], (y2.1, y2.2.1, y2.2.2, ())⟩), rg [3, 8, 9, 14] [] [(6, rs .bool y3), (12, rs .bool y4)], bf, rc 1 (.res ⟨[(.nm 0), (.nm 0), (.int .i64)], (y5.1, y5.2.1, y5.2.2, ())⟩), rc 1 (.res ⟨[(.nm 0), (.nm 0), (.int .i64)], (y6.1, y6.2.1, y6.2.2, ())⟩), rb [3, 7, 8, 12, 13, 21] [16, 20], bf, au] (q2 (congrArg (Option.map (λ r => (r.1, r.2.1, r.2.2, ()))) c1) (congrArg (Option.map (λ r => (r.1, r.2.1, r.2.2, ()))) c2) <| ar 3 b1 <| q3 (ca c3) b1 b1 <| ar 3 b2 <| q6 (ca c4) b2 b2 b3 (congrArg (Option.map (λ r => (r.1, r.2.1, r.2.2, ()))) c5) (congrArg (Option.map (λ r => (r.1, r.2.1, r.2.2, ()))) c6) <| ar 4 b4 <| ar 4 b5 <| ar 3 b6 <| ar 3 b7 <| e4 b6 b7 b6 b8) (At0 G E h)
             · exact sg G [r0, rc 1 (.res ⟨[(.sl (.nm 0)), (.sl (.nm 0)), (.int .i64)], (y1.1, y1.2.1, y1.2.2, ())⟩), rc 1 (.res ⟨[(.sl (.nm 0)), (.sl (.nm 0)), (.int .i64)], (y2.1, y2.2.1, y2.2.2, ())⟩), rg [3, 8, 9, 14] [] [(6, rs .bool y3), (12, rs .bool y4)], bf, rc 1 (.res ⟨[(.nm 0), (.nm 0), (.int .i64)], (y5.1, y5.2.1, y5.2.2, ())⟩), rc 1 (.res ⟨[(.nm 0), (.nm 0), (.int .i64)], (y6.1, y6.2.1, y6.2.2, ())⟩), rf [3, 7, 8, 12, 13, 16, 20, 21], bf, au] (q2 (congrArg (Option.map (λ r => (r.1, r.2.1, r.2.2, ()))) c1) (congrArg (Option.map (λ r => (r.1, r.2.1, r.2.2, ()))) c2) <| ar 3 b1 <| q3 (ca c3) b1 b1 <| ar 3 b2 <| q6 (ca c4) b2 b2 b3 (congrArg (Option.map (λ r => (r.1, r.2.1, r.2.2, ()))) c5) (congrArg (Option.map (λ r => (r.1, r.2.1, r.2.2, ()))) c6) <| ar 4 b4 <| ar 4 b5 <| ar 3 b6 <| ar 3 b7 <| e4 b6 b7 b6 rF) (At0 G E h)
theorem Ayf : MT 3 Bdm := show Be w3V _ _ _ from mt (fn := Tryz.f3) (S := λ x => w3S x.1 x.2.1 x.2.2.1) (GB ⟨Al7, A08, Amy, A2z, A16, Ajk, Ao4, Ago, Au0, Apa, trivial⟩ trivial) λ G _ _ _ _ => Bj6 G
end
end Go.Ab
