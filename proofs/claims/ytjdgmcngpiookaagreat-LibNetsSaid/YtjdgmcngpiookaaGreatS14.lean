/- The functions compute what the plain functions tell. Conditions: none beyond those that each theorem names. -/
import Derived.Test.YtjdgmcngpiookaaGreatS13
namespace Go.Ab
open Go Go.Proofs
set_option linter.unusedVariables false
section
variable {P : Program} {C : Ctx} {F : Act -> World -> Prop}
noncomputable abbrev Z0 : Env := EV [(77, Zi), (78, Aa6), (79, Arm), (80, All)] [] false
noncomputable def A3y := c0 Tryz.f51
noncomputable def Ae0 : FS yzE := f1 [(.nm 3), (.nm 3)] (.nm 4) λ x => Lf x.1 x.2.1
noncomputable def A5v := ct [0, 0, 3, 0, 4] A3y
noncomputable def A35 := ct [0, 0, 3, 4] A5v
noncomputable def Bgm := ct [0, 0, 4] A35
abbrev Ax7 (C : Ctx) (F : FT) (y : Al) : Prop := En Z0 C F Tryz.f51 Ae0 (y, ())
def A9v (v7 : Int) (v8 : List Int) (v9 : Bool) (v10 : Int) (v11 : List Int) (v12 : Bool) : ST := ⟨39, [op 2, op 3, op 4], [bc 2 [.int .i64 v7, .sl (.int .u32) true v8, .bool v9], bc 3 [.int .i64 v10, .sl (.int .u32) true v11, .bool v12], bc 4 [.int .i64 (0 : Int), .sl (.int .u32) true [], .bool false, .int .i64 (0 : Int), .sl (.int .u32) true [], .bool false]]⟩
def A8r (v1 : Int) (v2 : List Int) (v3 : Bool) (v4 : Int) (v5 : List Int) (v6 : Bool) (y4 : A8) : ST := ⟨39, [op 2, op 3, op 4, op 5], [bc 2 [.int .i64 v1, .sl (.int .u32) true v2, .bool v3], bc 3 [.int .i64 v4, .sl (.int .u32) true v5, .bool v6], bc 4 [.int .i64 (0 : Int), .sl (.int .u32) true [], .bool false, .int .i64 (0 : Int), .sl (.int .u32) true [], .bool false], bc 5 (Bv y4)]⟩
def A6g (v1 : Int) (v2 : List Int) (v3 : Bool) (v4 : Int) (v5 : List Int) (v6 : Bool) : ST := ⟨39, [op 2, op 3, op 4], [bc 2 [.int .i64 v1, .sl (.int .u32) true v2, .bool v3], bc 3 [.int .i64 v4, .sl (.int .u32) true v5, .bool v6], bc 4 [.int .i64 (0 : Int), .sl (.int .u32) true [], .bool false, .int .i64 (0 : Int), .sl (.int .u32) true [], .bool false]]⟩
def Bbw (a0 : A8) (a1 : A8) : ST := ⟨39, [og 0 (Bv a0), og 1 (Bv a1)], []⟩
theorem Amz (G : Ay Z0 P) {y v7 v8 v9 v10 v11 v12} (E : Ax7 C F y) (h : Lu v7 v8 v9 v10 v11 v12 = some y) : Ax Z0 P C F Bgm (A9v v7 v8 v9 v10 v11 v12) := by
 unfold Lu at h
 have e := sj h; subst e
 exact se G E [r0, au] tt
theorem Al9 (G : Ay Z0 P) {y v1 v2 v3 v4 v5 v6 y4} (E : Ax7 C F y) (h : Lo v1 v2 v3 v4 v5 v6 y4 = some y) : Ax Z0 P C F A35 (A8r v1 v2 v3 v4 v5 v6 y4) := by
 unfold Lo at h
 obtain ⟨y5, c5, h⟩ := bind_some h
 obtain ⟨y6, c6, h⟩ := bind_some h
 exact sg G [rc 2 (rt (.nm 3) (.nm 3) y5), rc 2 (rt (.nm 3) (.nm 3) y6), au] (e2 (cb c5) (cb c6)) (Amz G E h)
theorem Ajo (G : Ay Z0 P) {y v1 v2 v3 v4 v5 v6} (E : Ax7 C F y) (h : L0 v1 v2 v3 v4 v5 v6 = some y) : Ax Z0 P C F A5v (A6g v1 v2 v3 v4 v5 v6) := by
 unfold L0 at h
 obtain ⟨y4, c4, h⟩ := bind_some h
 rcases Ag h with ⟨b2, h⟩ | ⟨b2, h⟩
 · exact sg G [rc 2 (rs (.nm 3) y4), ru [3, 7], bt, au] (q1 (ca c4) <| ar 4 b2 <| e1 rT) (Al9 G E h)
 · rcases Ag h with ⟨b3, h⟩ | ⟨b3, h⟩
   · exact sg G [rc 2 (rs (.nm 3) y4), rf [3, 7], bt, au] (q1 (ca c4) <| ar 4 b2 <| e1 b3) (Al9 G E h)
   · exact sg G [rc 2 (rs (.nm 3) y4), rf [3, 7], bf, au] (q1 (ca c4) <| ar 4 b2 <| e1 b3) (Amz G E h)
theorem Bix (G : Ay Z0 P) {y a0 a1} (E : Ax7 C F y) (h : Lf a0 a1 = some y) : Ax Z0 P C F A3y (Bbw a0 a1) := by
 unfold Lf at h
 obtain ⟨y1, c1, h⟩ := bind_some h
 rcases Ag h with ⟨b1, h⟩ | ⟨b1, h⟩
 · obtain ⟨y2, c2, h⟩ := bind_some h
   obtain ⟨y3, c3, h⟩ := bind_some h
   exact sg G [r0, rc 1 (rs (.int .i64) y1), bt, .reg [(1, rs (.nm 3) y2), (3, rs (.nm 3) y3)], au] (e4 (ca c1) b1 (ca c2) (ca c3)) (Ajo G E h)
 · exact sg G [r0, rc 1 (rs (.int .i64) y1), bf, au] (e2 (ca c1) b1) (Ajo G E h)
theorem Zl : MT 51 Ae0 := show Be Z0 _ _ _ from mt (fn := Tryz.f51) (S := λ x => Bbw x.1 x.2.1) (GB ⟨Qr, Tj, Ao0, Adu, trivial⟩ trivial) λ G _ _ _ _ => Bix G
noncomputable abbrev A0d : Env := EV [] [] false
noncomputable def Bjg := c0 Tryz.f81
noncomputable def As9 : FS yzE := f2 [(.int .u64), (.int .u64)] (.int .u64) (.int .u64) λ x => Lw x.1 x.2.1
abbrev Bla (C : Ctx) (F : FT) (y : (Int × Int)) : Prop := En A0d C F Tryz.f81 As9 (y.1, y.2, ())
def Bjc (a0 : Int) (a1 : Int) : ST := ⟨51, [ol 0 (.int .u64 a0), ol 1 (.int .u64 a1)], []⟩
theorem Bao (G : Ay A0d P) {y a0 a1} (E : Bla C F y) (h : Lw a0 a1 = some y) : Ax A0d P C F Bjg (Bjc a0 a1) := by
 unfold Lw at h
 obtain ⟨c1, h⟩ := Am h
 obtain ⟨c2, h⟩ := Am h
 obtain ⟨c3, h⟩ := Am h
 obtain ⟨c4, h⟩ := Am h
 obtain ⟨c5, h⟩ := Am h
 have e := sj h; subst e
 exact se G E [r0, r0, r0, r0, r0, r0, r0, r0, r0, r0, r0, r0, au] (e5 c1 c2 c3 c4 c5)
theorem Aup : MT 81 As9 := show Be A0d _ _ _ from mt (fn := Tryz.f81) (S := λ x => Bjc x.1 x.2.1) (GB trivial trivial) λ G _ _ _ _ => Bao G
noncomputable abbrev Py : Env := EV [(72, Aan), (73, Abc), (81, As9)] [] false
noncomputable def A6b := c0 Tryz.f52
noncomputable def Afa : FS yzE := f1 [(.nm 3), (.nm 3)] (.nm 3) λ x => Hk x.1 x.2.1
noncomputable def A4t := ct [0, 0, 3, 0, 0, 3, 0, 4] A6b
noncomputable def A4m := ct [0, 3, 0, 4] A4t
noncomputable def A4h := ct [0, 0, 2, 4] A4m
noncomputable def Ajz := ct [0, 0, 0, 0, 1] A4h
noncomputable def Atg := ct [0, 3, 0, 0, 0, 1] Ajz
noncomputable def Bd0 := ct [0, 2, 4] Atg
noncomputable def Bah := ct [0, 2, 4] Ajz
abbrev An1 (C : Ctx) (F : FT) (y : A8) : Prop := En Py C F Tryz.f52 Afa (y, ())
def Az3 (v3 : Int) (y2 : ((List Int) × Bool)) (y3 : ((List Int) × Bool)) (r1 : (Int × (List Int))) : ST := ⟨139, [op 4, os 9 (.int .u32) y2.1, ol 10 (.bool y2.2), os 11 (.int .u32) y3.1, ol 12 (.bool y3.2), ol 13 (.ar 83 0), oi 14 v3, ol 15 (.int .u64 r1.1), oi 85 (y2.1.length : Int), oi 86 v3], [bc 4 [.int .i64 (0 : Int), .sl (.int .u32) true [], .bool false], ba 83 120 (.int .u32) r1.2]⟩
def Azm (y2 : ((List Int) × Bool)) (y3 : ((List Int) × Bool)) (r2 : List Int) : ST := ⟨139, [op 4, ol 10 (.bool y2.2), ol 12 (.bool y3.2), ol 13 (.ar 83 0)], [bc 4 [.int .i64 (0 : Int), .sl (.int .u32) true [], .bool false], ba 83 120 (.int .u32) r2]⟩
def Aqy (v3 : Int) (y2 : ((List Int) × Bool)) (y3 : ((List Int) × Bool)) (v : Int × Int × (List Int)) : ST := ⟨139, [op 4, os 9 (.int .u32) y2.1, ol 10 (.bool y2.2), os 11 (.int .u32) y3.1, ol 12 (.bool y3.2), ol 13 (.ar 83 0), oi 14 v3, ol 15 (.int .u64 v.1), oi 85 (y2.1.length : Int), oi 86 v3, oi 90 (y3.1.length : Int), oi 91 v.2.1], [bc 4 [.int .i64 (0 : Int), .sl (.int .u32) true [], .bool false], ba 83 120 (.int .u32) v.2.2]⟩
def Avt (y2 : ((List Int) × Bool)) (y3 : ((List Int) × Bool)) (v : Int × (List Int)) : ST := ⟨139, [op 4, os 9 (.int .u32) y2.1, ol 10 (.bool y2.2), os 11 (.int .u32) y3.1, ol 12 (.bool y3.2), ol 13 (.ar 83 0), oi 85 (y2.1.length : Int), oi 86 v.1], [bc 4 [.int .i64 (0 : Int), .sl (.int .u32) true [], .bool false], ba 83 120 (.int .u32) v.2]⟩
def A9k (a0 : A8) (a1 : A8) : ST := ⟨139, [op 2, op 3, op 4], [bc 2 (Bv a0), bc 3 (Bv a1), bc 4 [.int .i64 (0 : Int), .sl (.int .u32) true [], .bool false]]⟩
def A8p (a0 : A8) (a1 : A8) (v1 : Int) (v2 : Int) : ST := ⟨139, [op 2, op 3, op 4, ol 5 (.int .u64 v1), ol 6 (.int .u64 v2)], [bc 2 (Bv a0), bc 3 (Bv a1), bc 4 [.int .i64 (0 : Int), .sl (.int .u32) true [], .bool false]]⟩
def A7j (a0 : A8) (a1 : A8) (v1 : Int) : ST := ⟨139, [op 2, op 3, op 4, ol 5 (.int .u64 v1), ol 6 (.int .u64 (IntKind.wrap .u64 a1.v))], [bc 2 (Bv a0), bc 3 (Bv a1), bc 4 [.int .i64 (0 : Int), .sl (.int .u32) true [], .bool false]]⟩
def Bf2 (a0 : A8) (a1 : A8) : ST := ⟨139, [og 0 (Bv a0), og 1 (Bv a1)], []⟩
theorem Az0 (G : Ay Py P) {y v3 y2 y3} (E : An1 C F y) (v : Int × Int × (List Int)) o (h : Nz v3 y2 y3 v.1 v.2.1 v.2.2 = some o) (L : LP Py P C F Atg (Aqy v3 y2 y3) (GX Py P C F Bd0 (Az3 v3 y2 y3)) o) : Ax Py P C F Atg (Aqy v3 y2 y3 v) := by
 unfold Nz at h
 rcases Ag h with ⟨b9, h⟩ | ⟨b9, h⟩
 · obtain ⟨c7, c8, c9, h⟩ := ns3 h
   obtain ⟨c10, h⟩ := Am h
   obtain ⟨c11, h⟩ := Am h
   exact sg G [r0, bt, r0, r0, r0, r0, r0, en] (e6 b9 c7 c8 c9 c10 c11) (L.1 _ (si h))
 · exact sg G [r0, bf, au] (e1 b9) (L.2 _ (si h))
theorem A07 (G : Ay Py P) {y y2 y3} (E : An1 C F y) (v : Int × (List Int)) o (h : Od y2 y3 v.1 v.2 = some o) (L : LP Py P C F Ajz (Avt y2 y3) (GX Py P C F Bah (Azm y2 y3)) o) : Ax Py P C F Ajz (Avt y2 y3 v) := by
 unfold Od at h
 rcases Ag h with ⟨b8, h⟩ | ⟨b8, h⟩
 · obtain ⟨r1, hi, h⟩ := bind_some h
   refine sg G [r0, bt, r0, r0, r0, en] (e1 b8) (lg (Az0 G E) hi ?_)
   obtain ⟨c12, h⟩ := Am h
   exact sg G [r0, r0, en] (e1 c12) (L.1 _ (si h))
 · exact sg G [r0, bf, au] (e1 b8) (L.2 _ (si h))
theorem Wv (G : Ay Py P) {y a0 a1} (E : An1 C F y) (h : J5 a0 a1 = some y) : Ax Py P C F A4h (A9k a0 a1) := by
 unfold J5 at h
 obtain ⟨y2, c2, h⟩ := bind_some h
 obtain ⟨y3, c3, h⟩ := bind_some h
 obtain ⟨c4, c5, c6, h⟩ := ns3 h
 obtain ⟨r2, hi, h⟩ := bind_some h
 refine sg G [rc 1 (rt (.sl (.int .u32)) .bool y2), rc 1 (rt (.sl (.int .u32)) .bool y3), r0, r0, en] (e5 (cb c2) (cb c3) c4 c5 c6) (lg (A07 G E) hi ?_)
 obtain ⟨y4, c13, h⟩ := bind_some h
 have e := sj h; subst e
 exact se G E [rc 4 (rs (.nm 3) y4), au] (e1 (ca c13))
theorem Ajm (G : Ay Py P) {y a0 a1 v1 v2} (E : An1 C F y) (h : Ll a0 a1 v1 v2 = some y) : Ax Py P C F A4m (A8p a0 a1 v1 v2) := by
 unfold Ll at h
 obtain ⟨y1, c1, h⟩ := bind_some h
 rcases Ag h with ⟨b5, h⟩ | ⟨b5, h⟩
 · rcases Ag h with ⟨b6, h⟩ | ⟨b6, h⟩
   · rcases Ag h with ⟨b7, h⟩ | ⟨b7, h⟩
     · have e := sj h; subst e
       exact se G E [rc 2 (rt (.int .u64) (.int .u64) y1), ru [2, 5], bt, r0, bt, r0, au] (q1 (cb c1) <| ar 3 b5 <| e2 b6 b7)
     · have e := sj h; subst e
       exact se G E [rc 2 (rt (.int .u64) (.int .u64) y1), ru [2, 5], bt, r0, bf, r0, au] (q1 (cb c1) <| ar 3 b5 <| e2 b6 b7)
   · exact sg G [rc 2 (rt (.int .u64) (.int .u64) y1), ru [2, 5], bf, au] (q1 (cb c1) <| ar 3 b5 <| e1 b6) (Wv G E h)
 · exact sg G [rc 2 (rt (.int .u64) (.int .u64) y1), rf [2, 5], bf, au] (q1 (cb c1) <| ar 3 b5 <| e1 rF) (Wv G E h)
theorem Akz (G : Ay Py P) {y a0 a1 v1} (E : An1 C F y) (h : Oa a0 a1 v1 = some y) : Ax Py P C F A4t (A7j a0 a1 v1) := by
 unfold Oa at h
 rcases Ag h with ⟨b4, h⟩ | ⟨b4, h⟩
 · exact sg G [r0, bt, r0, au] (e1 b4) (Ajm G E h)
 · exact sg G [r0, bf, au] (e1 b4) (Ajm G E h)
theorem Bg7 (G : Ay Py P) {y a0 a1} (E : An1 C F y) (h : Hk a0 a1 = some y) : Ax Py P C F A6b (Bf2 a0 a1) := by
 unfold Hk at h
 rcases Ag h with ⟨b1, h⟩ | ⟨b1, h⟩
 · rcases Ag h with ⟨b2, h⟩ | ⟨b2, h⟩
   · rcases Ag h with ⟨b3, h⟩ | ⟨b3, h⟩
     · exact sg G [r0, ru [3, 7], bt, r0, r0, bt, r0, au] (ar 4 b1 <| e2 b2 b3) (Akz G E h)
     · exact sg G [r0, ru [3, 7], bt, r0, r0, bf, au] (ar 4 b1 <| e2 b2 b3) (Akz G E h)
   · exact sg G [r0, ru [3, 7], bf, au] (ar 4 b1 <| e1 b2) (Wv G E h)
 · exact sg G [r0, rf [3, 7], bf, au] (ar 4 b1 <| e1 rF) (Wv G E h)
theorem Yq : MT 52 Afa := show Be Py _ _ _ from mt (fn := Tryz.f52) (S := λ x => Bf2 x.1 x.2.1) (GB ⟨Ts, Tc, Aup, trivial⟩ trivial) λ G _ _ _ _ => Bg7 G
noncomputable abbrev An2 : Env := EV [(49, Alk), (50, Amf), (51, Ae0), (52, Afa)] [] false
noncomputable def A33 := c0 Tryz.f22
noncomputable def Yj : FS yzE := f1 [(.nm 4), (.nm 4)] (.nm 4) λ x => Im x.1 x.2.1
noncomputable def Be5 := ct [0, 0, 2, 4] A33
abbrev Bjr (C : Ctx) (F : FT) (y : Al) : Prop := En An2 C F Tryz.f22 Yj (y, ())
def A84 (a0 : Al) (a1 : Al) : ST := ⟨36, [op 2, op 3, op 4], [bc 2 (B5 a0), bc 3 (B5 a1), bc 4 [.int .i64 (0 : Int), .sl (.int .u32) true [], .bool false, .int .i64 (0 : Int), .sl (.int .u32) true [], .bool false]]⟩
def Bes (a0 : Al) (a1 : Al) : ST := ⟨36, [og 0 (B5 a0), og 1 (B5 a1)], []⟩
theorem Am1 (G : Ay An2 P) {y a0 a1} (E : Bjr C F y) (h : Ly a0 a1 = some y) : Ax An2 P C F Be5 (A84 a0 a1) := by
 unfold Ly at h
 obtain ⟨y4, c4, h⟩ := bind_some h
 obtain ⟨y5, c5, h⟩ := bind_some h
 obtain ⟨y6, c6, h⟩ := bind_some h
 obtain ⟨y7, c7, h⟩ := bind_some h
 obtain ⟨y8, c8, h⟩ := bind_some h
 have e := sj h; subst e
 exact se G E [.reg [(4, rs (.nm 3) y4), (9, rs (.nm 3) y5), (10, rs (.nm 3) y6), (15, rs (.nm 3) y7), (16, rs (.nm 4) y8)], au] (e5 (ca c4) (ca c5) (ca c6) (ca c7) (ca c8))
theorem Bg4 (G : Ay An2 P) {y a0 a1} (E : Bjr C F y) (h : Im a0 a1 = some y) : Ax An2 P C F A33 (Bes a0 a1) := by
 unfold Im at h
 obtain ⟨y1, c1, h⟩ := bind_some h
 rcases Ag h with ⟨b1, h⟩ | ⟨b1, h⟩
 · obtain ⟨y2, c2, h⟩ := bind_some h
   rcases Ag h with ⟨b2, h⟩ | ⟨b2, h⟩
   · obtain ⟨y3, c3, h⟩ := bind_some h
     have e := sj h; subst e
     exact se G E [r0, rg [] [2, 5] [(1, rs .bool y1), (4, rs .bool y2)], bt, rc 4 (rs (.nm 3) y3), au] (q6 (ca c1) b1 b1 (ca c2) b1 b2 <| e1 (ca c3))
   · exact sg G [r0, rg [] [2, 5] [(1, rs .bool y1), (4, rs .bool y2)], bf, au] (e6 (ca c1) b1 b1 (ca c2) b1 b2) (Am1 G E h)
 · exact sg G [r0, rg [2, 5] [] [(1, rs .bool y1)], bf, au] (q1 (ca c1) <| ar 3 b1 <| e1 rF) (Am1 G E h)
theorem P5 : MT 22 Yj := show Be An2 _ _ _ from mt (fn := Tryz.f22) (S := λ x => Bes x.1 x.2.1) (GB ⟨Aeq, Ag4, Zl, Yq, trivial⟩ trivial) λ G _ _ _ _ => Bg4 G
noncomputable abbrev Ang : Env := EV [(49, Alk), (51, Ae0), (52, Afa)] [] false
noncomputable def A3k := c0 Tryz.f23
noncomputable def Ag5 : FS yzE := f1 [(.nm 4), (.nm 4)] (.nm 4) λ x => Ja x.1 x.2.1
noncomputable def Ba3 := ct [0, 0, 2, 4] A3k
abbrev Bhl (C : Ctx) (F : FT) (y : Al) : Prop := En Ang C F Tryz.f23 Ag5 (y, ())
def A9b (a0 : Al) (a1 : Al) : ST := ⟨30, [op 2, op 3, op 4], [bc 2 (B5 a0), bc 3 (B5 a1), bc 4 [.int .i64 (0 : Int), .sl (.int .u32) true [], .bool false, .int .i64 (0 : Int), .sl (.int .u32) true [], .bool false]]⟩
def Bb4 (a0 : Al) (a1 : Al) : ST := ⟨30, [og 0 (B5 a0), og 1 (B5 a1)], []⟩
theorem Aku (G : Ay Ang P) {y a0 a1} (E : Bhl C F y) (h : Rc a0 a1 = some y) : Ax Ang P C F Ba3 (A9b a0 a1) := by
 unfold Rc at h
 obtain ⟨y4, c4, h⟩ := bind_some h
 obtain ⟨y5, c5, h⟩ := bind_some h
 obtain ⟨y6, c6, h⟩ := bind_some h
 have e := sj h; subst e
 exact se G E [.reg [(4, rs (.nm 3) y4), (9, rs (.nm 3) y5), (10, rs (.nm 4) y6)], au] (e3 (ca c4) (ca c5) (ca c6))
theorem Bdr (G : Ay Ang P) {y a0 a1} (E : Bhl C F y) (h : Ja a0 a1 = some y) : Ax Ang P C F A3k (Bb4 a0 a1) := by
 unfold Ja at h
 obtain ⟨y1, c1, h⟩ := bind_some h
 rcases Ag h with ⟨b1, h⟩ | ⟨b1, h⟩
 · obtain ⟨y2, c2, h⟩ := bind_some h
   rcases Ag h with ⟨b2, h⟩ | ⟨b2, h⟩
   · obtain ⟨y3, c3, h⟩ := bind_some h
     have e := sj h; subst e
     exact se G E [r0, rg [] [2, 5] [(1, rs .bool y1), (4, rs .bool y2)], bt, rc 4 (rs (.nm 3) y3), au] (q6 (ca c1) b1 b1 (ca c2) b1 b2 <| e1 (ca c3))
   · exact sg G [r0, rg [] [2, 5] [(1, rs .bool y1), (4, rs .bool y2)], bf, au] (e6 (ca c1) b1 b1 (ca c2) b1 b2) (Aku G E h)
 · exact sg G [r0, rg [2, 5] [] [(1, rs .bool y1)], bf, au] (q1 (ca c1) <| ar 3 b1 <| e1 rF) (Aku G E h)
theorem Ze : MT 23 Ag5 := show Be Ang _ _ _ from mt (fn := Tryz.f23) (S := λ x => Bb4 x.1 x.2.1) (GB ⟨Aeq, Zl, Yq, trivial⟩ trivial) λ G _ _ _ _ => Bdr G
noncomputable abbrev Ay0 : Env := EV [(48, Aev)] [] false
noncomputable def Baa := c0 Tryz.f24
noncomputable def Af0 : FS yzE := f1 [(.nm 0)] (.nm 4) λ x => R0 x.1
abbrev Bk1 (C : Ctx) (F : FT) (y : Al) : Prop := En Ay0 C F Tryz.f24 Af0 (y, ())
def Bbi (a0 : Au) : ST := ⟨10, [og 0 (Gv a0)], []⟩
theorem Biu (G : Ay Ay0 P) {y a0} (E : Bk1 C F y) (h : R0 a0 = some y) : Ax Ay0 P C F Baa (Bbi a0) := by
 unfold R0 at h
 obtain ⟨y1, c1, h⟩ := bind_some h
 obtain ⟨y2, c2, h⟩ := bind_some h
 have e := sj h; subst e
 exact se G E [r0, .reg [(2, rs (.nm 3) y1), (5, rs (.nm 3) y2)], au] (e2 (ca c1) (ca c2))
theorem Xd : MT 24 Af0 := show Be Ay0 _ _ _ from mt (fn := Tryz.f24) (S := λ x => Bbi x.1) (GB ⟨Yk, trivial⟩ trivial) λ G _ _ _ _ => Biu G
noncomputable abbrev Ayg : Env := EV [(78, Aa6)] [] false
noncomputable def Bcr := c0 Tryz.f59
noncomputable def Adr : FS yzE := f1 [(.nm 4)] (.nm 4) λ x => Mx x.1
abbrev Bj2 (C : Ctx) (F : FT) (y : Al) : Prop := En Ayg C F Tryz.f59 Adr (y, ())
def Bh7 (a0 : Al) : ST := ⟨9, [og 0 (B5 a0)], []⟩
theorem Bbt (G : Ay Ayg P) {y a0} (E : Bj2 C F y) (h : Mx a0 = some y) : Ax Ayg P C F Bcr (Bh7 a0) := by
 unfold Mx at h
 obtain ⟨y1, c1, h⟩ := bind_some h
 have e := sj h; subst e
 exact se G E [r0, rc 2 (rs (.nm 3) y1), au] (e1 (ca c1))
theorem Xh : MT 59 Adr := show Be Ayg _ _ _ from mt (fn := Tryz.f59) (S := λ x => Bh7 x.1) (GB ⟨Tj, trivial⟩ trivial) λ G _ _ _ _ => Bbt G
noncomputable abbrev Awx : Env := EV [(22, Yj), (59, Adr)] [] false
noncomputable def Bdc := c0 Tryz.f31
noncomputable def Abi : FS yzE := f1 [(.nm 4), (.nm 4)] (.nm 4) λ x => I8 x.1 x.2.1
abbrev Bke (C : Ctx) (F : FT) (y : Al) : Prop := En Awx C F Tryz.f31 Abi (y, ())
def Bdx (a0 : Al) (a1 : Al) : ST := ⟨9, [og 0 (B5 a0), og 1 (B5 a1)], []⟩
theorem Bi4 (G : Ay Awx P) {y a0 a1} (E : Bke C F y) (h : I8 a0 a1 = some y) : Ax Awx P C F Bdc (Bdx a0 a1) := by
 unfold I8 at h
 obtain ⟨y1, c1, h⟩ := bind_some h
 obtain ⟨y2, c2, h⟩ := bind_some h
 have e := sj h; subst e
 exact se G E [r0, .reg [(2, rs (.nm 4) y1), (3, rs (.nm 4) y2)], au] (e2 (ca c1) (ca c2))
theorem Tg : MT 31 Abi := show Be Awx _ _ _ from mt (fn := Tryz.f31) (S := λ x => Bdx x.1 x.2.1) (GB ⟨P5, Xh, trivial⟩ trivial) λ G _ _ _ _ => Bi4 G
noncomputable abbrev Rq : Env := EV [] [] false
noncomputable def A26 := c0 Tryz.f30
noncomputable def Al0 : FS yzE := f1 [(.nm 2)] (.sl (.int .i64)) λ x => Km x.1
noncomputable def Ati := ct [0, 0, 0, 1] A26
noncomputable def A51 := ct [0, 2, 4] Ati
noncomputable def Ajp := ct [0, 1] A51
noncomputable def Ash := ct [0, 3, 0, 1] Ajp
noncomputable def Bdb := ct [0, 2, 4] Ash
noncomputable def Bjl := ct [0, 2, 4] Ajp
abbrev A1d (C : Ctx) (F : FT) (y : List Int) : Prop := En Rq C F Tryz.f30 Al0 (y, ())
def Az1 (a0 : An) (r1 : List Int) : ST := ⟨56, [op 1, ol 3 (.ar 10 0)], [bc 1 (A1 a0), ba 10 3 (.int .i64) r1]⟩
def Axe (a0 : An) (v5 : Int) (r2 : List Int) : ST := ⟨56, [op 1, ol 3 (.ar 10 0), oi 22 a0.Nodes, oi 23 v5], [bc 1 (A1 a0), ba 10 3 (.int .i64) r2]⟩
def A2b (r3 : List Int) : ST := ⟨56, [ol 3 (.ar 10 0)], [ba 10 3 (.int .i64) r3]⟩
def Avd (a0 : An) (v : Int × Int × (List Int)) : ST := ⟨56, [op 1, ol 3 (.ar 10 0), oi 12 v.1, oi 13 v.2.1], [bc 1 (A1 a0), ba 10 3 (.int .i64) v.2.2]⟩
def Aos (a0 : An) (v5 : Int) (v : Int × (List Int)) : ST := ⟨56, [op 1, ol 3 (.ar 10 0), oi 22 a0.Nodes, oi 23 v5, os 26 (.nm 1) a0.Arms, oi 27 (a0.Arms.length : Int), oi 28 v.1], [bc 1 (A1 a0), ba 10 3 (.int .i64) v.2]⟩
def Av7 (a0 : An) (v : Int × (List Int)) : ST := ⟨56, [op 1, ol 3 (.ar 10 0), oi 22 a0.Nodes, oi 23 v.1], [bc 1 (A1 a0), ba 10 3 (.int .i64) v.2]⟩
def Bbx (a0 : An) : ST := ⟨56, [og 0 (A1 a0)], []⟩
theorem Awq (G : Ay Rq P) {y a0} (E : A1d C F y) (v : Int × Int × (List Int)) o (h : Nh a0 v.1 v.2.1 v.2.2 = some o) (L : LP Rq P C F Ati (Avd a0) (GX Rq P C F A51 (Az1 a0)) o) : Ax Rq P C F Ati (Avd a0 v) := by
 unfold Nh at h
 rcases Ag h with ⟨b1, h⟩ | ⟨b1, h⟩
 · obtain ⟨c4, h⟩ := Am h
   exact sg G [r0, bt, r0, r0, r0, en] (e2 b1 c4) (L.1 _ (si h))
 · exact sg G [r0, bf, au] (e1 b1) (L.2 _ (si h))
theorem A1u (G : Ay Rq P) {y a0 v5} (E : A1d C F y) (v : Int × (List Int)) o (h : Kx a0 v5 v.1 v.2 = some o) (L : LP Rq P C F Ash (Aos a0 v5) (GX Rq P C F Bdb (Axe a0 v5)) o) : Ax Rq P C F Ash (Aos a0 v5 v) := by
 unfold Kx at h
 rcases Ag h with ⟨b3, h⟩ | ⟨b3, h⟩
 · obtain ⟨c5, h⟩ := Am h
   obtain ⟨c6, c7, h⟩ := ns2 h
   obtain ⟨c8, c9, h⟩ := ns2 h
   exact sg G [r0, bt, r0, r0, r0, r0, en] (e6 b3 c5 c6 c7 c8 c9) (L.1 _ (si h))
 · exact sg G [r0, bf, au] (e1 b3) (L.2 _ (si h))
theorem Awk (G : Ay Rq P) {y a0} (E : A1d C F y) (v : Int × (List Int)) o (h : Mz a0 v.1 v.2 = some o) (L : LP Rq P C F Ajp (Av7 a0) (GX Rq P C F Bjl A2b) o) : Ax Rq P C F Ajp (Av7 a0 v) := by
 unfold Mz at h
 rcases Ag h with ⟨b2, h⟩ | ⟨b2, h⟩
 · obtain ⟨r2, hi, h⟩ := bind_some h
   refine sg G [r0, bt, r0, en] (e1 b2) (lg (A1u G E) hi ?_)
   exact sg G [r0, en] tt (L.1 _ (si h))
 · exact sg G [r0, bf, au] (e1 b2) (L.2 _ (si h))
theorem Bab (G : Ay Rq P) {y a0} (E : A1d C F y) (h : Km a0 = some y) : Ax Rq P C F A26 (Bbx a0) := by
 unfold Km at h
 obtain ⟨c1, c2, c3, h⟩ := ns3 h
 obtain ⟨r1, hi, h⟩ := bind_some h
 refine sg G [r0, r0, r0, en] (e3 c1 c2 c3) (lg (Awq G E) hi ?_)
 obtain ⟨r3, hi, h⟩ := bind_some h
 refine sg G [r0, en] tt (lg (Awk G E) hi ?_)
 have e := sj h; subst e
 exact se G E [r0, au, .weak [.fix (.slot 2)]] tt
theorem Afh : MT 30 Al0 := show Be Rq _ _ _ from mt (fn := Tryz.f30) (S := λ x => Bbx x.1) (GB trivial trivial) λ G _ _ _ _ => Bab G
noncomputable abbrev Ay1 : Env := EV [(51, Ae0), (52, Afa)] [] false
noncomputable def Bf7 := c0 Tryz.f66
noncomputable def Aks : FS yzE := f1 [(.nm 4), (.nm 4)] (.nm 4) λ x => Po x.1 x.2.1
abbrev Bkc (C : Ctx) (F : FT) (y : Al) : Prop := En Ay1 C F Tryz.f66 Aks (y, ())
def Bgh (a0 : Al) (a1 : Al) : ST := ⟨16, [og 0 (B5 a0), og 1 (B5 a1)], []⟩
theorem Be2 (G : Ay Ay1 P) {y a0 a1} (E : Bkc C F y) (h : Po a0 a1 = some y) : Ax Ay1 P C F Bf7 (Bgh a0 a1) := by
 unfold Po at h
 obtain ⟨y1, c1, h⟩ := bind_some h
 obtain ⟨y2, c2, h⟩ := bind_some h
 obtain ⟨y3, c3, h⟩ := bind_some h
 have e := sj h; subst e
 exact se G E [r0, .reg [(4, rs (.nm 3) y1), (9, rs (.nm 3) y2), (10, rs (.nm 4) y3)], au] (e3 (ca c1) (ca c2) (ca c3))
theorem Ahe : MT 66 Aks := show Be Ay1 _ _ _ from mt (fn := Tryz.f66) (S := λ x => Bgh x.1 x.2.1) (GB ⟨Zl, Yq, trivial⟩ trivial) λ G _ _ _ _ => Be2 G
noncomputable abbrev Awj : Env := EV [(21, Pw), (24, Af0), (66, Aks)] [] false
noncomputable def A97 := c0 Tryz.f42
noncomputable def Alw : FS yzE := f1 [(.nm 1)] (.nm 4) λ x => K5 x.1
abbrev Bk3 (C : Ctx) (F : FT) (y : Al) : Prop := En Awj C F Tryz.f42 Alw (y, ())
def Bjt (a0 : D4) : ST := ⟨8, [og 0 (Mb a0)], []⟩
theorem Bhw (G : Ay Awj P) {y a0} (E : Bk3 C F y) (h : K5 a0 = some y) : Ax Awj P C F A97 (Bjt a0) := by
 unfold K5 at h
 obtain ⟨y1, c1, h⟩ := bind_some h
 obtain ⟨y2, c2, h⟩ := bind_some h
 obtain ⟨y3, c3, h⟩ := bind_some h
 have e := sj h; subst e
 exact se G E [r0, .reg [(0, rs (.nm 4) y1), (3, rs (.nm 4) y2), (4, rs (.nm 4) y3)], au] (e3 (ca c1) (ca c2) (ca c3))
theorem Adx : MT 42 Alw := show Be Awj _ _ _ from mt (fn := Tryz.f42) (S := λ x => Bjt x.1) (GB ⟨Iz, Xd, Ahe, trivial⟩ trivial) λ G _ _ _ _ => Bhw G
noncomputable abbrev Wd : Env := EV [(21, Pw)] [] false
noncomputable def A4w := c0 Tryz.f60
noncomputable def Aji : FS yzE := ⟨[(.int .i64), (.int .i64)], [(.nm 7)], [], [[(0, 0), (40, 53)]], λ x => Option.map (λ r => (r, ())) (W3 x.1 x.2.1)⟩
noncomputable def Ake := ct [0, 0, 0, 1] A4w
noncomputable def Ao1 := ct [0, 3, 0, 0, 0, 1] Ake
noncomputable def Bi6 := ct [0, 2, 4] Ao1
noncomputable def Bat := ct [0, 2, 4] Ake
abbrev A6i (C : Ctx) (F : FT) (y : QmM) : Prop := En Wd C F Tryz.f60 Aji (y, ())
def Ay4 (a1 : Int) (v1 : Int) (v2 : Int) (r1 : (List (List Al))) : ST := ⟨44, [oi 1 a1, op 4, op 5, oi 14 v1, oi 15 v2], [bc 4 [.int .i64 (0 : Int), .sl (.sl (.nm 4)) true []], bc 5 [.int .i64 a1, .ar 10 0], bw 10 40 53 (.nm 4) r1]⟩
def Axt (a1 : Int) (r2 : (List (List Al))) : ST := ⟨44, [op 4, op 5], [bc 4 [.int .i64 (0 : Int), .sl (.sl (.nm 4)) true []], bc 5 [.int .i64 a1, .ar 10 0], bw 10 40 53 (.nm 4) r2]⟩
def At1 (a1 : Int) (v1 : Int) (v2 : Int) (v : Int × Int × (List (List Al))) : ST := ⟨44, [oi 1 a1, op 4, op 5, oi 6 v2, oi 14 v1, oi 15 v2, oi 29 v.1, oi 30 v.2.1], [bc 4 [.int .i64 (0 : Int), .sl (.sl (.nm 4)) true []], bc 5 [.int .i64 a1, .ar 10 0], bw 10 40 53 (.nm 4) v.2.2]⟩
def Arx (a1 : Int) (v : Int × Int × (List (List Al))) : ST := ⟨44, [oi 1 a1, op 4, op 5, oi 14 v.1, oi 15 v.2.1], [bc 4 [.int .i64 (0 : Int), .sl (.sl (.nm 4)) true []], bc 5 [.int .i64 a1, .ar 10 0], bw 10 40 53 (.nm 4) v.2.2]⟩
def Bgf (a0 : Int) (a1 : Int) : ST := ⟨44, [oi 0 a0, oi 1 a1], []⟩
theorem A01 (G : Ay Wd P) {y a1 v1 v2} (E : A6i C F y) (v : Int × Int × (List (List Al))) o (h : Uw a1 v1 v2 v.1 v.2.1 v.2.2 = some o) (L : LP Wd P C F Ao1 (At1 a1 v1 v2) (GX Wd P C F Bi6 (Ay4 a1 v1 v2)) o) : Ax Wd P C F Ao1 (At1 a1 v1 v2 v) := by
 unfold Uw at h
 rcases Ag h with ⟨b2, h⟩ | ⟨b2, h⟩
 · obtain ⟨c9, h⟩ := Am h
   obtain ⟨y1, c10, h⟩ := bind_some h
   obtain ⟨c11, h⟩ := Am h
   exact sg G [r0, bt, r0, rc 6 (rs (.nm 4) y1), r0, en] (e4 b2 c9 (ca c10) c11) (L.1 _ (si h))
 · exact sg G [r0, bf, au] (e1 b2) (L.2 _ (si h))
theorem A1h (G : Ay Wd P) {y a1} (E : A6i C F y) (v : Int × Int × (List (List Al))) o (h : Ws a1 v.1 v.2.1 v.2.2 = some o) (L : LP Wd P C F Ake (Arx a1) (GX Wd P C F Bat (Axt a1)) o) : Ax Wd P C F Ake (Arx a1 v) := by
 unfold Ws at h
 rcases Ag h with ⟨b1, h⟩ | ⟨b1, h⟩
 · obtain ⟨c4, c5, c6, c7, h⟩ := ns4 h
   obtain ⟨c8, h⟩ := Am h
   obtain ⟨r1, hi, h⟩ := bind_some h
   refine sg G [r0, bt, r0, r0, r0, en, .weak [.re 10 10 0]] (e6 b1 c4 c5 c6 c7 c8) (lg (A01 G E) hi ?_)
   exact sg G [r0, en] tt (L.1 _ (si h))
 · exact sg G [r0, bf, au] (e1 b1) (L.2 _ (si h))
theorem Ba1 (G : Ay Wd P) {y a0 a1} (E : A6i C F y) (h : W3 a0 a1 = some y) : Ax Wd P C F A4w (Bgf a0 a1) := by
 unfold W3 at h
 obtain ⟨c1, c2, c3, h⟩ := ns3 h
 obtain ⟨r2, hi, h⟩ := bind_some h
 refine sg G [r0, rc 2 .own, r0, en] (e3 c1 c2 c3) (lg (A1h G E) hi ?_)
 have e := sj h; subst e
 exact se G E [r0, au] tt
theorem Agi : MT 60 Aji := show Be Wd _ _ _ from mt (fn := Tryz.f60) (S := λ x => Bgf x.1 x.2.1) (GB ⟨Iz, trivial⟩ trivial) λ G _ _ _ _ => Ba1 G
noncomputable abbrev Aet : Env := EV [(22, Yj), (31, Abi), (42, Alw), (60, Aji)] [] false
noncomputable def A3o := c0 Tryz.f36
noncomputable def Amd : FS yzE := ⟨[(.nm 2)], [(.nm 7)], [], [[(0, 0), (40, 53)]], λ x => Option.map (λ r => (r, ())) (Jp x.1)⟩
noncomputable def Aou := ct [0, 0, 0, 1] A3o
noncomputable def Bdt := ct [0, 2, 4] Aou
abbrev Baj (C : Ctx) (F : FT) (y : QmM) : Prop := En Aet C F Tryz.f36 Amd (y, ())
def A0y (y1 : QmM) (r1 : (List (List Al))) : ST := ⟨112, [op 2, op 3], [bc 2 [.int .i64 (0 : Int), .sl (.sl (.nm 4)) true []], bc 3 [.int .i64 y1.C, .ar 1011 0], bw 1011 40 53 (.nm 4) r1]⟩
def Arz (a0 : An) (y1 : QmM) (v : Int × (List (List Al))) : ST := ⟨112, [op 2, op 3, os 13 (.nm 1) a0.Arms, oi 14 (a0.Arms.length : Int), oi 15 v.1], [bc 2 [.int .i64 (0 : Int), .sl (.sl (.nm 4)) true []], bc 3 [.int .i64 y1.C, .ar 1011 0], bw 1011 40 53 (.nm 4) v.2]⟩
def Bfs (a0 : An) : ST := ⟨112, [og 0 (A1 a0)], []⟩
theorem Azn (G : Ay Aet P) {y a0 y1} (E : Baj C F y) (v : Int × (List (List Al))) o (h : Le a0 y1 v.1 v.2 = some o) (L : LP Aet P C F Aou (Arz a0 y1) (GX Aet P C F Bdt (A0y y1)) o) : Ax Aet P C F Aou (Arz a0 y1 v) := by
 unfold Le at h
 rcases Ag h with ⟨b1, h⟩ | ⟨b1, h⟩
 · obtain ⟨c2, h⟩ := Am h
   rcases Ag h with ⟨b2, h⟩ | ⟨b2, h⟩
   · exact sg G [r0, bt, r0, r0, bt, r0, en] (e3 b1 c2 b2) (L.1 _ (si h))
   · obtain ⟨y2, c3, h⟩ := bind_some h
     obtain ⟨c4, c5, c6, h⟩ := ns3 h
     obtain ⟨y3, c7, h⟩ := bind_some h
     obtain ⟨c8, h⟩ := Am h
     obtain ⟨c9, c10, c11, h⟩ := ns3 h
     obtain ⟨y4, c12, h⟩ := bind_some h
     obtain ⟨c13, h⟩ := Am h
     obtain ⟨c14, c15, c16, h⟩ := ns3 h
     obtain ⟨y5, c17, h⟩ := bind_some h
     obtain ⟨c18, h⟩ := Am h
     obtain ⟨c19, c20, c21, h⟩ := ns3 h
     obtain ⟨y6, c22, h⟩ := bind_some h
     obtain ⟨c23, h⟩ := Am h
     exact sg G [r0, bt, r0, r0, bf, rc 1 (rs (.nm 4) y2), rc 19 (rs (.nm 4) y3), rc 19 (rs (.nm 4) y4), rc 19 (rs (.nm 4) y5), rc 19 (rs (.nm 4) y6), r0, en] (q6 b1 c2 b2 (ca c3) c4 c5 <| q6 c6 (ca c7) c8 c9 c10 c11 <| q6 (ca c12) c13 c14 c15 c16 (ca c17) <| e6 c18 c19 c20 c21 (ca c22) c23) (L.1 _ (si h))
 · exact sg G [r0, bf, au] (e1 b1) (L.2 _ (si h))
theorem Bhh (G : Ay Aet P) {y a0} (E : Baj C F y) (h : Jp a0 = some y) : Ax Aet P C F A3o (Bfs a0) := by
 unfold Jp at h
 obtain ⟨y1, c1, h⟩ := bind_some h
 obtain ⟨r1, hi, h⟩ := bind_some h
 refine sg G [r0, rc 4 (rs (.nm 7) y1), r0, en] (e1 (ca c1)) (lg (Azn G E) hi ?_)
 have e := sj h; subst e
 exact se G E [r0, au] tt
theorem Ads : MT 36 Amd := show Be Aet _ _ _ from mt (fn := Tryz.f36) (S := λ x => Bfs x.1) (GB ⟨P5, Tg, Adx, Agi, trivial⟩ trivial) λ G _ _ _ _ => Bhh G
noncomputable abbrev Azf : Env := EV [(77, Zi)] [] false
noncomputable def Bhi := c0 Tryz.f94
noncomputable def Alb : FS yzE := f1 [(.nm 4)] .bool λ x => Hm x.1
abbrev Bk0 (C : Ctx) (F : FT) (y : Bool) : Prop := En Azf C F Tryz.f94 Alb (y, ())
def Bc8 (a0 : Al) : ST := ⟨7, [og 0 (B5 a0)], []⟩
theorem Bip (G : Ay Azf P) {y a0} (E : Bk0 C F y) (h : Hm a0 = some y) : Ax Azf P C F Bhi (Bc8 a0) := by
 unfold Hm at h
 obtain ⟨y1, c1, h⟩ := bind_some h
 have e := sj h; subst e
 exact se G E [r0, rc 2 (rs (.int .i64) y1), au] (e1 (ca c1))
theorem Agg : MT 94 Alb := show Be Azf _ _ _ from mt (fn := Tryz.f94) (S := λ x => Bc8 x.1) (GB ⟨Qr, trivial⟩ trivial) λ G _ _ _ _ => Bip G
noncomputable abbrev Ae8 : Env := EV [] [] false
noncomputable def A40 := c0 Tryz.f96
noncomputable def Avv : FS yzE := ⟨[(.nm 7)], [(.nm 7)], [], [[(0, 0), (40, 53)]], λ x => Option.map (λ r => (r, ())) (Rm x.1)⟩
noncomputable def Ar0 := ct [0, 0, 0, 1] A40
noncomputable def Bjq := ct [0, 2, 4] Ar0
abbrev Bag (C : Ctx) (F : FT) (y : QmM) : Prop := En Ae8 C F Tryz.f96 Avv (y, ())
def Az6 (a0 : QmM) (r1 : (List (List Al))) : ST := ⟨25, [op 2, op 3], [bc 2 [.int .i64 (0 : Int), .ar 8000201 0], bc 3 [.int .i64 a0.C, .ar 8000301 0], bw 8000201 40 53 (.nm 4) [], bw 8000301 40 53 (.nm 4) r1]⟩
def Asl (a0 : QmM) (v : Int × (List (List Al))) : ST := ⟨25, [op 2, op 3, os 10 (.sl (.nm 4)) a0.V, oi 11 (a0.V.length : Int), oi 12 v.1], [bc 2 [.int .i64 (0 : Int), .ar 8000201 0], bc 3 [.int .i64 a0.C, .ar 8000301 0], bw 8000201 40 53 (.nm 4) [], bw 8000301 40 53 (.nm 4) v.2]⟩
def Bfm (a0 : QmM) : ST := ⟨25, [og 0 (Cr a0)], []⟩
theorem Ax5 (G : Ay Ae8 P) {y a0} (E : Bag C F y) (v : Int × (List (List Al))) o (h : Q5 a0 v.1 v.2 = some o) (L : LP Ae8 P C F Ar0 (Asl a0) (GX Ae8 P C F Bjq (Az6 a0)) o) : Ax Ae8 P C F Ar0 (Asl a0 v) := by
 unfold Q5 at h
 rcases Ag h with ⟨b1, h⟩ | ⟨b1, h⟩
 · obtain ⟨c1, h⟩ := Am h
   obtain ⟨c2, c3, h⟩ := ns2 h
   exact sg G [r0, bt, r0, rc 4 .own, r0, en, .weak [.re 8000301 8000301 0]] (e4 b1 c1 c2 c3) (L.1 _ (si h))
 · exact sg G [r0, bf, au] (e1 b1) (L.2 _ (si h))
theorem Bbz (G : Ay Ae8 P) {y a0} (E : Bag C F y) (h : Rm a0 = some y) : Ax Ae8 P C F A40 (Bfm a0) := by
 unfold Rm at h
 obtain ⟨r1, hi, h⟩ := bind_some h
 refine sg G [r0, .weak [.own (.cell 2) 1 8000201 40 53], r0, .weak [.own (.cell 3) 1 8000301 40 53], r0, en] tt (lg (Ax5 G E) hi ?_)
 have e := sj h; subst e
 exact se G E [r0, au] tt
theorem Aqr : MT 96 Avv := show Be Ae8 _ _ _ from mt (fn := Tryz.f96) (S := λ x => Bfm x.1) (GB trivial trivial) λ G _ _ _ _ => Bbz G
noncomputable abbrev H5 : Env := EV [(21, Pw), (23, Ag5), (31, Abi), (59, Adr), (66, Aks), (94, Alb), (96, Avv)] [] false
noncomputable def A48 := c0 Tryz.f64
noncomputable def Ama : FS yzE := ⟨[(.nm 7), (.int .i64)], [(.nm 7), (.sl (.int .i64)), (.nm 4)], [], [], λ x => Option.map (λ r => (r.1, r.2.1, r.2.2, ())) (Kp x.1 x.2.1)⟩
noncomputable def Ae2 := ct [0, 0, 0, 0, 0, 1] A48
noncomputable def Avo := ct [0, 3, 0, 0, 1] Ae2
noncomputable def A3u := ct [0, 2, 4] Avo
noncomputable def A4p := ct [0, 2, 0, 3, 0, 0, 4] A3u
noncomputable def Awb := ct [0, 0, 0, 1] A4p
noncomputable def A3g := ct [0, 2, 4] Awb
noncomputable def Abm := ct [0, 1] A3g
noncomputable def Ao5 := ct [0, 3, 0, 0, 0, 3, 4] Abm
noncomputable def Akp := ct [0, 3, 0, 0, 0, 2, 0, 1] Abm
noncomputable def A6w := ct [0, 3, 0, 0, 3, 0, 4] Akp
noncomputable def Art := ct [0, 2, 4] Abm
noncomputable def As6 := ct [0, 2, 4] Ae2
abbrev Ada (C : Ctx) (F : FT) (y : (QmM × (List Int) × Al)) : Prop := En H5 C F Tryz.f64 Ama (y.1, y.2.1, y.2.2, ())
def Ay6 (a1 : Int) (v1 : Int) (v2 : Int) (v3 : List Int) (v4 : Bool) (v5 : Int) (v6 : List Int) (v7 : Bool) (v8 : List Int) (v9 : (List (List Al))) (y1 : QmM) (r1 : (Int × Bool)) : ST := ⟨196, [oi 1 a1, op 4, op 6, op 7, ol 8 (.ar 192 0), op 9, oi 10 v1, oi 11 (v8.length : Int), oi 12 r1.1, ol 25 (.ar 192 0), oi 26 (v8.length : Int), ol 27 (.ptr 7 1), ol 28 (.ar 1019 0), oi 29 (v9.length : Int), ol 30 (.bool r1.2)], [bc 4 [.int .i64 (0 : Int), .sl (.sl (.nm 4)) true []], bc 6 [.int .i64 (0 : Int), .sl (.int .u32) true [], .bool false, .int .i64 (0 : Int), .sl (.int .u32) true [], .bool false], bc 7 [.int .i64 y1.C, .ar 1019 0], bc 9 [.int .i64 v2, .sl (.int .u32) true v3, .bool v4, .int .i64 v5, .sl (.int .u32) true v6, .bool v7], ba 192 3 (.int .i64) v8, bw 1019 40 53 (.nm 4) v9]⟩
def A2s (a1 : Int) (v1 : Int) (v8 : List Int) (v9 : (List (List Al))) (r1 : (Int × Bool)) (y1 : QmM) (y5 : Al) (r2 : (List (List Al))) : ST := ⟨196, [oi 1 a1, op 4, op 6, op 7, ol 8 (.ar 192 0), op 9, oi 10 v1, oi 11 (v8.length : Int), ol 25 (.ar 192 0), oi 26 (v8.length : Int), ol 27 (.ptr 7 1), ol 28 (.ar 1019 0), oi 29 (v9.length : Int), ol 30 (.bool r1.2)], [bc 4 [.int .i64 (0 : Int), .sl (.sl (.nm 4)) true []], bc 6 [.int .i64 (0 : Int), .sl (.int .u32) true [], .bool false, .int .i64 (0 : Int), .sl (.int .u32) true [], .bool false], bc 7 [.int .i64 y1.C, .ar 1019 0], bc 9 (B5 y5), ba 192 3 (.int .i64) v8, bw 1019 40 53 (.nm 4) r2]⟩
def Ale (a1 : Int) (v1 : Int) (v8 : List Int) (v9 : (List (List Al))) (r1 : (Int × Bool)) (y1 : QmM) (y5 : Al) (r4 : (List (List Al))) : ST := ⟨196, [oi 1 a1, op 4, op 6, op 7, ol 8 (.ar 192 0), op 9, oi 10 v1, ol 25 (.ar 192 0), oi 26 (v8.length : Int), ol 27 (.ptr 7 1), ol 28 (.ar 1019 0), oi 29 (v9.length : Int), ol 30 (.bool r1.2)], [bc 4 [.int .i64 (0 : Int), .sl (.sl (.nm 4)) true []], bc 6 [.int .i64 (0 : Int), .sl (.int .u32) true [], .bool false, .int .i64 (0 : Int), .sl (.int .u32) true [], .bool false], bc 7 [.int .i64 y1.C, .ar 1019 0], bc 9 (B5 y5), ba 192 3 (.int .i64) v8, bw 1019 40 53 (.nm 4) r4]⟩
def Amn (a1 : Int) (v1 : Int) (v8 : List Int) (v9 : (List (List Al))) (v31 : Int) (r1 : (Int × Bool)) (r2 : (List (List Al))) (y1 : QmM) (y5 : Al) (y7 : Bool) (r3 : (Al × (List (List Al)))) : ST := ⟨196, [oi 1 a1, op 4, op 6, op 7, ol 8 (.ar 192 0), op 9, oi 10 v1, oi 11 (v8.length : Int), ol 25 (.ar 192 0), oi 26 (v8.length : Int), ol 27 (.ptr 7 1), ol 28 (.ar 1019 0), oi 29 (v9.length : Int), ol 30 (.bool r1.2), oi 123 (r2.length : Int), oi 124 v31, og 139 (B5 r3.1), ol 140 (.bool y7)], [bc 4 [.int .i64 (0 : Int), .sl (.sl (.nm 4)) true []], bc 6 [.int .i64 (0 : Int), .sl (.int .u32) true [], .bool false, .int .i64 (0 : Int), .sl (.int .u32) true [], .bool false], bc 7 [.int .i64 y1.C, .ar 1019 0], bc 9 (B5 y5), ba 192 3 (.int .i64) v8, bw 1019 40 53 (.nm 4) r3.2]⟩
def Ak6 (y1 : QmM) (r5 : (Int × (List Int) × Bool × Int × (List Int) × Bool × (List Int) × (List (List Al)))) : ST := ⟨196, [op 4, op 6, op 7, ol 8 (.ar 192 0), op 9], [bc 4 [.int .i64 (0 : Int), .sl (.sl (.nm 4)) true []], bc 6 [.int .i64 (0 : Int), .sl (.int .u32) true [], .bool false, .int .i64 (0 : Int), .sl (.int .u32) true [], .bool false], bc 7 [.int .i64 y1.C, .ar 1019 0], bc 9 [.int .i64 r5.1, .sl (.int .u32) true r5.2.1, .bool r5.2.2.1, .int .i64 r5.2.2.2.1, .sl (.int .u32) true r5.2.2.2.2.1, .bool r5.2.2.2.2.2.1], ba 192 3 (.int .i64) r5.2.2.2.2.2.2.1, bw 1019 40 53 (.nm 4) r5.2.2.2.2.2.2.2]⟩
def At2 (a1 : Int) (v1 : Int) (v2 : Int) (v3 : List Int) (v4 : Bool) (v5 : Int) (v6 : List Int) (v7 : Bool) (v8 : List Int) (v9 : (List (List Al))) (y1 : QmM) (v : Int × Bool) : ST := ⟨196, [oi 1 a1, op 4, op 6, op 7, ol 8 (.ar 192 0), op 9, oi 10 v1, oi 11 (v8.length : Int), oi 12 v.1, ol 25 (.ar 192 0), oi 26 (v8.length : Int), ol 27 (.ptr 7 1), ol 28 (.ar 1019 0), oi 29 (v9.length : Int), ol 30 (.bool v.2)], [bc 4 [.int .i64 (0 : Int), .sl (.sl (.nm 4)) true []], bc 6 [.int .i64 (0 : Int), .sl (.int .u32) true [], .bool false, .int .i64 (0 : Int), .sl (.int .u32) true [], .bool false], bc 7 [.int .i64 y1.C, .ar 1019 0], bc 9 [.int .i64 v2, .sl (.int .u32) true v3, .bool v4, .int .i64 v5, .sl (.int .u32) true v6, .bool v7], ba 192 3 (.int .i64) v8, bw 1019 40 53 (.nm 4) v9]⟩
def Asv (a1 : Int) (v1 : Int) (v8 : List Int) (v9 : (List (List Al))) (r1 : (Int × Bool)) (y1 : QmM) (y5 : Al) (v : Int × Int × Int × (List Int) × Bool × Int × (List Int) × Bool × (List (List Al))) : ST := ⟨196, [oi 1 a1, op 4, op 6, op 7, ol 8 (.ar 192 0), op 9, oi 10 v1, oi 11 (v8.length : Int), op 13, ol 25 (.ar 192 0), oi 26 (v8.length : Int), ol 27 (.ptr 7 1), ol 28 (.ar 1019 0), oi 29 (v9.length : Int), ol 30 (.bool r1.2), oi 99 v.1, oi 100 v.2.1], [bc 4 [.int .i64 (0 : Int), .sl (.sl (.nm 4)) true []], bc 6 [.int .i64 (0 : Int), .sl (.int .u32) true [], .bool false, .int .i64 (0 : Int), .sl (.int .u32) true [], .bool false], bc 7 [.int .i64 y1.C, .ar 1019 0], bc 9 (B5 y5), bc 13 [.int .i64 v.2.2.1, .sl (.int .u32) true v.2.2.2.1, .bool v.2.2.2.2.1, .int .i64 v.2.2.2.2.2.1, .sl (.int .u32) true v.2.2.2.2.2.2.1, .bool v.2.2.2.2.2.2.2.1], ba 192 3 (.int .i64) v8, bw 1019 40 53 (.nm 4) v.2.2.2.2.2.2.2.2]⟩
def A6j (a1 : Int) (v1 : Int) (v8 : List Int) (v9 : (List (List Al))) (v31 : Int) (v32 : (List (List Al))) (r1 : (Int × Bool)) (r2 : (List (List Al))) (y1 : QmM) (y5 : Al) : ST := ⟨196, [oi 1 a1, op 4, op 6, op 7, ol 8 (.ar 192 0), op 9, oi 10 v1, oi 11 (v8.length : Int), ol 25 (.ar 192 0), oi 26 (v8.length : Int), ol 27 (.ptr 7 1), ol 28 (.ar 1019 0), oi 29 (v9.length : Int), ol 30 (.bool r1.2), oi 123 (r2.length : Int), oi 124 v31], [bc 4 [.int .i64 (0 : Int), .sl (.sl (.nm 4)) true []], bc 6 [.int .i64 (0 : Int), .sl (.int .u32) true [], .bool false, .int .i64 (0 : Int), .sl (.int .u32) true [], .bool false], bc 7 [.int .i64 y1.C, .ar 1019 0], bc 9 (B5 y5), ba 192 3 (.int .i64) v8, bw 1019 40 53 (.nm 4) v32]⟩
def A8y (a1 : Int) (v1 : Int) (v8 : List Int) (v9 : (List (List Al))) (v31 : Int) (v32 : (List (List Al))) (v33 : Al) (v34 : Int) (v35 : Int) (v36 : List Int) (v37 : Bool) (v38 : Int) (v39 : List Int) (v40 : Bool) (v42 : (List (List Al))) (r1 : (Int × Bool)) (r2 : (List (List Al))) (y1 : QmM) (y5 : Al) (y7 : Bool) : ST := ⟨196, [oi 1 a1, op 4, op 6, op 7, ol 8 (.ar 192 0), op 9, oi 10 v1, oi 11 (v8.length : Int), oi 15 v31, op 16, ol 25 (.ar 192 0), oi 26 (v8.length : Int), ol 27 (.ptr 7 1), ol 28 (.ar 1019 0), oi 29 (v9.length : Int), ol 30 (.bool r1.2), oi 123 (r2.length : Int), oi 124 v31, og 139 (B5 v33), ol 140 (.bool y7), oi 147 ((List.getD v32 v31.toNat []).length : Int), oi 148 v34], [bc 4 [.int .i64 (0 : Int), .sl (.sl (.nm 4)) true []], bc 6 [.int .i64 (0 : Int), .sl (.int .u32) true [], .bool false, .int .i64 (0 : Int), .sl (.int .u32) true [], .bool false], bc 7 [.int .i64 y1.C, .ar 1019 0], bc 9 (B5 y5), bc 16 [.int .i64 v35, .sl (.int .u32) true v36, .bool v37, .int .i64 v38, .sl (.int .u32) true v39, .bool v40], ba 192 3 (.int .i64) v8, bw 1019 40 53 (.nm 4) v42]⟩
def Ahj (a1 : Int) (v1 : Int) (v8 : List Int) (v9 : (List (List Al))) (v31 : Int) (v32 : (List (List Al))) (r1 : (Int × Bool)) (r2 : (List (List Al))) (y1 : QmM) (y5 : Al) (y7 : Bool) (v : Al × Int × Int × (List Int) × Bool × Int × (List Int) × Bool × (List (List Al))) : ST := ⟨196, [oi 1 a1, op 4, op 6, op 7, ol 8 (.ar 192 0), op 9, oi 10 v1, oi 11 (v8.length : Int), oi 15 v31, op 16, ol 25 (.ar 192 0), oi 26 (v8.length : Int), ol 27 (.ptr 7 1), ol 28 (.ar 1019 0), oi 29 (v9.length : Int), ol 30 (.bool r1.2), oi 123 (r2.length : Int), oi 124 v31, og 139 (B5 v.1), ol 140 (.bool y7), oi 147 ((List.getD v32 v31.toNat []).length : Int), oi 148 v.2.1], [bc 4 [.int .i64 (0 : Int), .sl (.sl (.nm 4)) true []], bc 6 [.int .i64 (0 : Int), .sl (.int .u32) true [], .bool false, .int .i64 (0 : Int), .sl (.int .u32) true [], .bool false], bc 7 [.int .i64 y1.C, .ar 1019 0], bc 9 (B5 y5), bc 16 [.int .i64 v.2.2.1, .sl (.int .u32) true v.2.2.2.1, .bool v.2.2.2.2.1, .int .i64 v.2.2.2.2.2.1, .sl (.int .u32) true v.2.2.2.2.2.2.1, .bool v.2.2.2.2.2.2.2.1], ba 192 3 (.int .i64) v8, bw 1019 40 53 (.nm 4) v.2.2.2.2.2.2.2.2]⟩
def Ah1 (a1 : Int) (v1 : Int) (v8 : List Int) (v9 : (List (List Al))) (r1 : (Int × Bool)) (r2 : (List (List Al))) (y1 : QmM) (y5 : Al) (v : Int × (List (List Al))) : ST := ⟨196, [oi 1 a1, op 4, op 6, op 7, ol 8 (.ar 192 0), op 9, oi 10 v1, oi 11 (v8.length : Int), ol 25 (.ar 192 0), oi 26 (v8.length : Int), ol 27 (.ptr 7 1), ol 28 (.ar 1019 0), oi 29 (v9.length : Int), ol 30 (.bool r1.2), oi 123 (r2.length : Int), oi 124 v.1], [bc 4 [.int .i64 (0 : Int), .sl (.sl (.nm 4)) true []], bc 6 [.int .i64 (0 : Int), .sl (.int .u32) true [], .bool false, .int .i64 (0 : Int), .sl (.int .u32) true [], .bool false], bc 7 [.int .i64 y1.C, .ar 1019 0], bc 9 (B5 y5), ba 192 3 (.int .i64) v8, bw 1019 40 53 (.nm 4) v.2]⟩
def A8e (a1 : Int) (v1 : Int) (v8 : List Int) (v9 : (List (List Al))) (v14 : Int) (v15 : List Int) (v16 : Bool) (v17 : Int) (v18 : List Int) (v19 : Bool) (v20 : (List (List Al))) (r1 : (Int × Bool)) (y1 : QmM) : ST := ⟨196, [oi 1 a1, op 4, op 6, op 7, ol 8 (.ar 192 0), op 9, oi 10 v1, oi 11 (v8.length : Int), ol 25 (.ar 192 0), oi 26 (v8.length : Int), ol 27 (.ptr 7 1), ol 28 (.ar 1019 0), oi 29 (v9.length : Int), ol 30 (.bool r1.2)], [bc 4 [.int .i64 (0 : Int), .sl (.sl (.nm 4)) true []], bc 6 [.int .i64 (0 : Int), .sl (.int .u32) true [], .bool false, .int .i64 (0 : Int), .sl (.int .u32) true [], .bool false], bc 7 [.int .i64 y1.C, .ar 1019 0], bc 9 [.int .i64 v14, .sl (.int .u32) true v15, .bool v16, .int .i64 v17, .sl (.int .u32) true v18, .bool v19], ba 192 3 (.int .i64) v8, bw 1019 40 53 (.nm 4) v20]⟩
def Aiz (a1 : Int) (y1 : QmM) (v : Int × Int × (List Int) × Bool × Int × (List Int) × Bool × (List Int) × (List (List Al))) : ST := ⟨196, [oi 1 a1, op 4, op 6, op 7, ol 8 (.ar 192 0), op 9, oi 10 v.1], [bc 4 [.int .i64 (0 : Int), .sl (.sl (.nm 4)) true []], bc 6 [.int .i64 (0 : Int), .sl (.int .u32) true [], .bool false, .int .i64 (0 : Int), .sl (.int .u32) true [], .bool false], bc 7 [.int .i64 y1.C, .ar 1019 0], bc 9 [.int .i64 v.2.1, .sl (.int .u32) true v.2.2.1, .bool v.2.2.2.1, .int .i64 v.2.2.2.2.1, .sl (.int .u32) true v.2.2.2.2.2.1, .bool v.2.2.2.2.2.2.1], ba 192 3 (.int .i64) v.2.2.2.2.2.2.2.1, bw 1019 40 53 (.nm 4) v.2.2.2.2.2.2.2.2]⟩
def Bh4 (a0 : QmM) (a1 : Int) : ST := ⟨196, [og 0 (Cr a0), oi 1 a1], []⟩
theorem A0x (G : Ay H5 P) {y a1 v1 v2 v3 v4 v5 v6 v7 v8 v9 y1} (E : Ada C F y) (v : Int × Bool) o (h : K1 a1 v1 v2 v3 v4 v5 v6 v7 v8 v9 y1 v.1 v.2 = some o) (L : LP H5 P C F Avo (At2 a1 v1 v2 v3 v4 v5 v6 v7 v8 v9 y1) (GX H5 P C F A3u (Ay6 a1 v1 v2 v3 v4 v5 v6 v7 v8 v9 y1)) o) : Ax H5 P C F Avo (At2 a1 v1 v2 v3 v4 v5 v6 v7 v8 v9 y1 v) := by
 unfold K1 at h
 rcases Ag h with ⟨b3, h⟩ | ⟨b3, h⟩
 · obtain ⟨c3, c4, h⟩ := ns2 h
   obtain ⟨y3, c5, h⟩ := bind_some h
   rcases Ag h with ⟨b4, h⟩ | ⟨b4, h⟩
   · exact sg G [rg [] [5, 15] [(14, rs .bool y3)], bt, r0, en] (ar 4 b3 <| q1 c3 <| ar 3 b3 <| e6 c4 b3 b3 (ca c5) b3 b4) (L.1 _ (si h))
   · exact sg G [rg [] [5, 15] [(14, rs .bool y3)], bf, au] (ar 4 b3 <| q1 c3 <| ar 3 b3 <| e6 c4 b3 b3 (ca c5) b3 b4) (L.2 _ (si h))
 · exact sg G [rf [5, 15], bf, au] (ar 10 b3 <| e1 rF) (L.2 _ (si h))
theorem Axa (G : Ay H5 P) {y a1 v1 v8 v9 r1 y1 y5} (E : Ada C F y) (v : Int × Int × Int × (List Int) × Bool × Int × (List Int) × Bool × (List (List Al))) o (h : K0 a1 v1 v8 v9 r1 y1 y5 v.1 v.2.1 v.2.2.1 v.2.2.2.1 v.2.2.2.2.1 v.2.2.2.2.2.1 v.2.2.2.2.2.2.1 v.2.2.2.2.2.2.2.1 v.2.2.2.2.2.2.2.2 = some o) (L : LP H5 P C F Awb (Asv a1 v1 v8 v9 r1 y1 y5) (GX H5 P C F A3g (A2s a1 v1 v8 v9 r1 y1 y5)) o) : Ax H5 P C F Awb (Asv a1 v1 v8 v9 r1 y1 y5 v) := by
 unfold K0 at h
 rcases Ag h with ⟨b7, h⟩ | ⟨b7, h⟩
 · obtain ⟨c17, c18, c19, h⟩ := ns3 h
   obtain ⟨y6, c20, h⟩ := bind_some h
   obtain ⟨c21, h⟩ := Am h
   exact sg G [r0, bt, r0, rc 15 (rs (.nm 4) y6), r0, en] (e6 b7 c17 c18 c19 (ca c20) c21) (L.1 _ (si h))
 · exact sg G [r0, bf, au] (e1 b7) (L.2 _ (si h))
theorem Amg (G : Ay H5 P) {y o a1 v1 v8 v9 v31 v32 r1 r2 y1 y5} (E : Ada C F y) (h : K2 a1 v1 v8 v9 v31 v32 r1 r2 y1 y5 = some o) (L : LP H5 P C F Abm (Ah1 a1 v1 v8 v9 r1 r2 y1 y5) (GX H5 P C F Art (Ale a1 v1 v8 v9 r1 y1 y5)) o) : Ax H5 P C F Ao5 (A6j a1 v1 v8 v9 v31 v32 r1 r2 y1 y5) := by
 unfold K2 at h
 exact sg G [r0, en] tt (L.1 _ (si h))
theorem Am7 (G : Ay H5 P) {y o a1 v1 v8 v9 v31 v32 v33 v34 v35 v36 v37 v38 v39 v40 v42 r1 r2 y1 y5 y7} (E : Ada C F y) (h : Js a1 v1 v8 v9 v31 v32 v33 v34 v35 v36 v37 v38 v39 v40 v42 r1 r2 y1 y5 y7 = some o) (L : LP H5 P C F Akp (Ahj a1 v1 v8 v9 v31 v32 r1 r2 y1 y5 y7) (GX H5 P C F Ao5 (Amn a1 v1 v8 v9 v31 r1 r2 y1 y5 y7)) o) : Ax H5 P C F A6w (A8y a1 v1 v8 v9 v31 v32 v33 v34 v35 v36 v37 v38 v39 v40 v42 r1 r2 y1 y5 y7) := by
 unfold Js at h
 exact sg G [r0, en] tt (L.1 _ (si h))
theorem Ayp (G : Ay H5 P) {y a1 v1 v8 v9 v31 v32 r1 r2 y1 y5 y7} (E : Ada C F y) (v : Al × Int × Int × (List Int) × Bool × Int × (List Int) × Bool × (List (List Al))) o (h : Kz a1 v1 v8 v9 v31 v32 r1 r2 y1 y5 y7 v.1 v.2.1 v.2.2.1 v.2.2.2.1 v.2.2.2.2.1 v.2.2.2.2.2.1 v.2.2.2.2.2.2.1 v.2.2.2.2.2.2.2.1 v.2.2.2.2.2.2.2.2 = some o) (L : LP H5 P C F Akp (Ahj a1 v1 v8 v9 v31 v32 r1 r2 y1 y5 y7) (GX H5 P C F Ao5 (Amn a1 v1 v8 v9 v31 r1 r2 y1 y5 y7)) o) : Ax H5 P C F Akp (Ahj a1 v1 v8 v9 v31 v32 r1 r2 y1 y5 y7 v) := by
 unfold Kz at h
 rcases Ag h with ⟨b11, h⟩ | ⟨b11, h⟩
 · obtain ⟨c26, c27, h⟩ := ns2 h
   obtain ⟨y8, c28, h⟩ := bind_some h
   rcases Ag h with ⟨b12, h⟩ | ⟨b12, h⟩
   · obtain ⟨c29, c30, c31, c32, h⟩ := ns4 h
     obtain ⟨c33, h⟩ := Am h
     obtain ⟨y9, c34, h⟩ := bind_some h
     obtain ⟨y10, c35, h⟩ := bind_some h
     obtain ⟨c36, h⟩ := Am h
     exact sg G [r0, bt, r0, rc 8 (rs .bool y8), bt, .reg [(23, rs (.nm 4) y9), (24, rs (.nm 4) y10)], au] (q6 b11 c26 c27 (ca c28) b12 c29 <| q6 c30 c31 c32 c33 (ca c34) (ca c35) <| e1 c36) (Am7 G E h L)
   · exact sg G [r0, bt, r0, rc 8 (rs .bool y8), bf, au] (e5 b11 c26 c27 (ca c28) b12) (Am7 G E h L)
 · exact sg G [r0, bf, au] (e1 b11) (L.2 _ (si h))
theorem Aw9 (G : Ay H5 P) {y a1 v1 v8 v9 r1 r2 y1 y5} (E : Ada C F y) (v : Int × (List (List Al))) o (h : K6 a1 v1 v8 v9 r1 r2 y1 y5 v.1 v.2 = some o) (L : LP H5 P C F Abm (Ah1 a1 v1 v8 v9 r1 r2 y1 y5) (GX H5 P C F Art (Ale a1 v1 v8 v9 r1 y1 y5)) o) : Ax H5 P C F Abm (Ah1 a1 v1 v8 v9 r1 r2 y1 y5 v) := by
 unfold K6 at h
 rcases Ag h with ⟨b8, h⟩ | ⟨b8, h⟩
 · obtain ⟨c22, c23, h⟩ := ns2 h
   rcases Ag h with ⟨b9, h⟩ | ⟨b9, h⟩
   · exact sg G [r0, bt, r0, r0, ru [3, 6], bt, au] (q3 b8 c22 c23 <| ar 3 b9 <| e1 rT) (Amg G E h L)
   · obtain ⟨y7, c24, h⟩ := bind_some h
     rcases Ag h with ⟨b10, h⟩ | ⟨b10, h⟩
     · exact sg G [r0, bt, r0, r0, rg [3, 6] [] [(5, rs .bool y7)], bt, au] (q6 b8 c22 c23 b9 b9 (ca c24) <| e2 b9 b10) (Amg G E h L)
     · obtain ⟨c25, h⟩ := Am h
       obtain ⟨r3, hi, h⟩ := bind_some h
       refine sg G [r0, bt, r0, r0, rg [3, 6] [] [(5, rs .bool y7)], bf, r0, en] (q6 b8 c22 c23 b9 b9 (ca c24) <| e3 b9 b10 c25) (lg (Ayp G E) hi ?_)
       exact sg G [r0, en] tt (L.1 _ (si h))
 · exact sg G [r0, bf, au] (e1 b8) (L.2 _ (si h))
theorem Ala (G : Ay H5 P) {y o a1 v1 v8 v9 v14 v15 v16 v17 v18 v19 v20 r1 y1} (E : Ada C F y) (h : Jv a1 v1 v8 v9 v14 v15 v16 v17 v18 v19 v20 r1 y1 = some o) (L : LP H5 P C F Ae2 (Aiz a1 y1) (GX H5 P C F As6 (Ak6 y1)) o) : Ax H5 P C F A4p (A8e a1 v1 v8 v9 v14 v15 v16 v17 v18 v19 v20 r1 y1) := by
 unfold Jv at h
 obtain ⟨c13, c14, h⟩ := ns2 h
 obtain ⟨y5, c15, h⟩ := bind_some h
 obtain ⟨c16, h⟩ := Am h
 obtain ⟨r2, hi, h⟩ := bind_some h
 refine sg G [r0, rc 2 (rs (.nm 4) y5), r0, en] (e4 c13 c14 (ca c15) c16) (lg (Axa G E) hi ?_)
 obtain ⟨r4, hi, h⟩ := bind_some h
 refine sg G [r0, en] tt (lg (Aw9 G E) hi ?_)
 obtain ⟨c37, h⟩ := Am h
 exact sg G [r0, r0, en, .weak [.re 192 192 0]] (e1 c37) (L.1 _ (si h))
theorem Axy (G : Ay H5 P) {y a1 y1} (E : Ada C F y) (v : Int × Int × (List Int) × Bool × Int × (List Int) × Bool × (List Int) × (List (List Al))) o (h : M5 a1 y1 v.1 v.2.1 v.2.2.1 v.2.2.2.1 v.2.2.2.2.1 v.2.2.2.2.2.1 v.2.2.2.2.2.2.1 v.2.2.2.2.2.2.2.1 v.2.2.2.2.2.2.2.2 = some o) (L : LP H5 P C F Ae2 (Aiz a1 y1) (GX H5 P C F As6 (Ak6 y1)) o) : Ax H5 P C F Ae2 (Aiz a1 y1 v) := by
 unfold M5 at h
 rcases Ag h with ⟨b1, h⟩ | ⟨b1, h⟩
 · rcases Ag h with ⟨b2, h⟩ | ⟨b2, h⟩
   · obtain ⟨r1, hi, h⟩ := bind_some h
     refine sg G [ru [3, 10], bt, r0, r0, en] (ar 7 b1 <| e1 b2) (lg (A0x G E) hi ?_)
     rcases Ag h with ⟨b5, h⟩ | ⟨b5, h⟩
     · exact sg G [r0, bt, r0, en] (e1 b5) (L.1 _ (si h))
     · rcases Ag h with ⟨b6, h⟩ | ⟨b6, h⟩
       · obtain ⟨c6, c7, c8, c9, h⟩ := ns4 h
         obtain ⟨c10, c11, h⟩ := ns2 h
         obtain ⟨y4, c12, h⟩ := bind_some h
         exact sg G [r0, bf, r0, bt, r0, rc 1 (rs (.nm 4) y4), au, .weak [.re 1019 1019 0]] (q6 b5 b6 c6 c7 c8 c9 <| e3 c10 c11 (ca c12)) (Ala G E h L)
       · exact sg G [r0, bf, r0, bf, au] (e2 b5 b6) (Ala G E h L)
   · exact sg G [ru [3, 10], bf, au] (ar 7 b1 <| e1 b2) (L.2 _ (si h))
 · exact sg G [rf [3, 10], bf, au] (ar 7 b1 <| e1 rF) (L.2 _ (si h))
theorem Bgn (G : Ay H5 P) {y a0 a1} (E : Ada C F y) (h : Kp a0 a1 = some y) : Ax H5 P C F A48 (Bh4 a0 a1) := by
 unfold Kp at h
 obtain ⟨y1, c1, h⟩ := bind_some h
 obtain ⟨y2, c2, h⟩ := bind_some h
 obtain ⟨r5, hi, h⟩ := bind_some h
 refine sg G [r0, rc 1 (rs (.nm 7) y1), r0, rc 0 (rs (.nm 4) y2), r0, en, .weak [.own (.slot 8) 0 192 3 0]] (e2 (ca c1) (ca c2)) (lg (Axy G E) hi ?_)
 have e := sj h; subst e
 exact se G E [r0, au, .weak [.fix (.cell 4), .fix (.slot 5)]] tt
theorem Ag2 : MT 64 Ama := show Be H5 _ _ _ from mt (fn := Tryz.f64) (S := λ x => Bh4 x.1 x.2.1) (GB ⟨Iz, Ze, Tg, Xh, Ahe, Agg, Aqr, trivial⟩ trivial) λ G _ _ _ _ => Bgn G
noncomputable abbrev Aee : Env := EV [] [] false
noncomputable def A45 := c0 Tryz.f92
noncomputable def Ar2 : FS yzE := ⟨[(.nm 7), (.nm 7)], [(.nm 7)], [], [[(0, 0), (40, 53)]], λ x => Option.map (λ r => (r, ())) (Lr x.1 x.2.1)⟩
noncomputable def Ape := ct [0, 0, 0, 1] A45
noncomputable def Bcm := ct [0, 2, 4] Ape
abbrev Bh9 (C : Ctx) (F : FT) (y : QmM) : Prop := En Aee C F Tryz.f92 Ar2 (y, ())
def Axu (a0 : QmM) (a1 : QmM) (r1 : (List (List Al))) : ST := ⟨38, [op 4, op 5], [bc 4 [.int .i64 (0 : Int), .ar 8000401 0], bc 5 [.int .i64 (IntKind.wrap .i64 (a0.C + a1.C)), .ar 8000501 0], bw 8000401 40 53 (.nm 4) [], bw 8000501 40 53 (.nm 4) r1]⟩
def Arn (a0 : QmM) (a1 : QmM) (v : Int × (List (List Al))) : ST := ⟨38, [op 2, op 3, op 4, op 5, oi 15 (a0.V.length : Int), oi 16 v.1], [bc 2 (Cr a0), bc 3 (Cr a1), bc 4 [.int .i64 (0 : Int), .ar 8000401 0], bc 5 [.int .i64 (IntKind.wrap .i64 (a0.C + a1.C)), .ar 8000501 0], bw 8000401 40 53 (.nm 4) [], bw 8000501 40 53 (.nm 4) v.2]⟩
def Bhm (a0 : QmM) (a1 : QmM) : ST := ⟨38, [og 0 (Cr a0), og 1 (Cr a1)], []⟩
theorem Axp (G : Ay Aee P) {y a0 a1} (E : Bh9 C F y) (v : Int × (List (List Al))) o (h : M9 a0 a1 v.1 v.2 = some o) (L : LP Aee P C F Ape (Arn a0 a1) (GX Aee P C F Bcm (Axu a0 a1)) o) : Ax Aee P C F Ape (Arn a0 a1 v) := by
 unfold M9 at h
 rcases Ag h with ⟨b1, h⟩ | ⟨b1, h⟩
 · obtain ⟨c1, c2, c3, c4, h⟩ := ns4 h
   obtain ⟨c5, h⟩ := Am h
   exact sg G [r0, bt, r0, rc 14 .own, r0, en, .weak [.re 8000501 8000501 0]] (e6 b1 c1 c2 c3 c4 c5) (L.1 _ (si h))
 · exact sg G [r0, bf, au] (e1 b1) (L.2 _ (si h))
theorem Bgu (G : Ay Aee P) {y a0 a1} (E : Bh9 C F y) (h : Lr a0 a1 = some y) : Ax Aee P C F A45 (Bhm a0 a1) := by
 unfold Lr at h
 obtain ⟨r1, hi, h⟩ := bind_some h
 refine sg G [r0, .weak [.own (.cell 4) 1 8000401 40 53], r0, .weak [.own (.cell 5) 1 8000501 40 53], r0, en] tt (lg (Axp G E) hi ?_)
 have e := sj h; subst e
 exact se G E [r0, au] tt
theorem Aro : MT 92 Ar2 := show Be Aee _ _ _ from mt (fn := Tryz.f92) (S := λ x => Bhm x.1 x.2.1) (GB trivial trivial) λ G _ _ _ _ => Bgu G
noncomputable abbrev Ael : Env := EV [] [] false
noncomputable def A5y := c0 Tryz.f93
noncomputable def Aui : FS yzE := f1 [(.sl (.nm 4))] (.nm 7) λ x => Oh x.1
noncomputable def Asp := ct [0, 0, 0, 1] A5y
noncomputable def Bf6 := ct [0, 2, 4] Asp
abbrev Ban (C : Ctx) (F : FT) (y : QmM) : Prop := En Ael C F Tryz.f93 Aui (y, ())
def Axw (r1 : (List (List Al))) : ST := ⟨22, [op 2, op 3], [bc 2 [.int .i64 (0 : Int), .sl (.sl (.nm 4)) true []], bc 3 [.int .i64 (1 : Int), .ar 18 0], ba 18 40 (.sl (.nm 4)) r1]⟩
def Auy (a0 : List Al) (v : Int × (List (List Al))) : ST := ⟨22, [op 2, op 3, os 7 (.nm 4) a0, oi 8 (a0.length : Int), oi 9 v.1], [bc 2 [.int .i64 (0 : Int), .sl (.sl (.nm 4)) true []], bc 3 [.int .i64 (1 : Int), .ar 18 0], ba 18 40 (.sl (.nm 4)) v.2]⟩
def Bbr (a0 : List Al) : ST := ⟨22, [os 0 (.nm 4) a0], []⟩
theorem Awz (G : Ay Ael P) {y a0} (E : Ban C F y) (v : Int × (List (List Al))) o (h : Ol a0 v.1 v.2 = some o) (L : LP Ael P C F Asp (Auy a0) (GX Ael P C F Bf6 Axw) o) : Ax Ael P C F Asp (Auy a0 v) := by
 unfold Ol at h
 rcases Ag h with ⟨b1, h⟩ | ⟨b1, h⟩
 · obtain ⟨c1, h⟩ := Am h
   obtain ⟨c2, h⟩ := Am h
   exact sg G [r0, bt, r0, r0, r0, en, .weak [.re 18 18 0]] (e3 b1 c1 c2) (L.1 _ (si h))
 · exact sg G [r0, bf, au] (e1 b1) (L.2 _ (si h))
theorem Bal (G : Ay Ael P) {y a0} (E : Ban C F y) (h : Oh a0 = some y) : Ax Ael P C F A5y (Bbr a0) := by
 unfold Oh at h
 obtain ⟨r1, hi, h⟩ := bind_some h
 refine sg G [r0, r0, r0, en, .weak [.own (.cell 3) 1 18 40 0]] tt (lg (Awz G E) hi ?_)
 have e := sj h; subst e
 exact se G E [r0, au, .weak [.fix (.cell 2)]] tt
theorem Av5 : MT 93 Aui := show Be Ael _ _ _ from mt (fn := Tryz.f93) (S := λ x => Bbr x.1) (GB trivial trivial) λ G _ _ _ _ => Bal G
noncomputable abbrev Ob : Env := EV [(21, Pw), (59, Adr)] [] false
noncomputable def A43 := c0 Tryz.f95
noncomputable def Avz : FS yzE := f1 [(.nm 7), (.sl (.int .i64)), (.int .i64)] (.sl (.sl (.nm 4))) λ x => N2 x.1 x.2.1 x.2.2.1
noncomputable def Aq6 := ct [0, 0, 0, 1] A43
noncomputable def A23 := ct [0, 2, 4] Aq6
noncomputable def Amk := ct [0, 0, 1] A23
noncomputable def Aqw := ct [0, 3, 0, 0, 2, 0, 0, 1] Amk
noncomputable def A56 := ct [0, 2, 4] Aqw
noncomputable def Au5 := ct [0, 0, 1] A56
noncomputable def Bhv := ct [0, 2, 4] Au5
noncomputable def Bep := ct [0, 2, 4] Amk
abbrev Aru (C : Ctx) (F : FT) (y : (List (List Al))) : Prop := En Ob C F Tryz.f95 Avz (y, ())
def Axj (a0 : QmM) (a1 : List Int) (a2 : Int) (r1 : List Bool) : ST := ⟨78, [os 1 (.int .i64) a1, oi 2 a2, op 3, ol 7 (.ar 17 0)], [bc 3 (Cr a0), ba 17 4 .bool r1]⟩
def Azv (a0 : QmM) (a1 : List Int) (a2 : Int) (v4 : Int) (v5 : (List (List Al))) (r1 : List Bool) (r2 : List Al) : ST := ⟨78, [os 1 (.int .i64) a1, oi 2 a2, op 3, ol 7 (.ar 17 0), ol 10 (.ar 7001000 0), oi 11 v4, ol 12 (.ar 37 0), oi 28 a2, oi 29 v4], [bc 3 (Cr a0), ba 17 4 .bool r1, ba 37 53 (.nm 4) r2, bw 7001000 40 53 (.nm 4) v5]⟩
def A18 (a0 : QmM) (a1 : List Int) (a2 : Int) (v4 : Int) (v5 : (List (List Al))) (r1 : List Bool) (r3 : List Al) : ST := ⟨78, [os 1 (.int .i64) a1, oi 2 a2, op 3, ol 7 (.ar 17 0), ol 10 (.ar 7001000 0), ol 12 (.ar 37 0), oi 28 a2, oi 29 v4], [bc 3 (Cr a0), ba 17 4 .bool r1, ba 37 53 (.nm 4) r3, bw 7001000 40 53 (.nm 4) v5]⟩
def Azd (r4 : (List (List Al))) : ST := ⟨78, [ol 10 (.ar 7001000 0)], [bw 7001000 40 53 (.nm 4) r4]⟩
def Aow (a0 : QmM) (a1 : List Int) (a2 : Int) (v : Int × (List Bool)) : ST := ⟨78, [os 1 (.int .i64) a1, oi 2 a2, op 3, ol 7 (.ar 17 0), os 18 (.int .i64) a1, oi 19 (a1.length : Int), oi 20 v.1], [bc 3 (Cr a0), ba 17 4 .bool v.2]⟩
def Apn (a0 : QmM) (a1 : List Int) (a2 : Int) (v4 : Int) (v5 : (List (List Al))) (r1 : List Bool) (v : Int × Int × (List Al)) : ST := ⟨78, [os 1 (.int .i64) a1, oi 2 a2, op 3, ol 7 (.ar 17 0), ol 10 (.ar 7001000 0), oi 11 v4, ol 12 (.ar 37 0), oi 28 a2, oi 29 v4, oi 39 v.1, oi 40 v.2.1], [bc 3 (Cr a0), ba 17 4 .bool r1, ba 37 53 (.nm 4) v.2.2, bw 7001000 40 53 (.nm 4) v5]⟩
def Aq5 (a0 : QmM) (a1 : List Int) (a2 : Int) (v4 : Int) (v5 : (List (List Al))) (r1 : List Bool) (v : Int × (List Al)) : ST := ⟨78, [os 1 (.int .i64) a1, oi 2 a2, op 3, ol 7 (.ar 17 0), ol 10 (.ar 7001000 0), oi 11 v4, ol 12 (.ar 37 0), oi 28 a2, oi 29 v4, os 52 (.int .i64) a1, oi 53 (a1.length : Int), oi 54 v.1], [bc 3 (Cr a0), ba 17 4 .bool r1, ba 37 53 (.nm 4) v.2, bw 7001000 40 53 (.nm 4) v5]⟩
def Arr (a0 : QmM) (a1 : List Int) (a2 : Int) (r1 : List Bool) (v : Int × (List (List Al))) : ST := ⟨78, [os 1 (.int .i64) a1, oi 2 a2, op 3, ol 7 (.ar 17 0), ol 10 (.ar 7001000 0), oi 28 a2, oi 29 v.1], [bc 3 (Cr a0), ba 17 4 .bool r1, bw 7001000 40 53 (.nm 4) v.2]⟩
def Bho (a0 : QmM) (a1 : List Int) (a2 : Int) : ST := ⟨78, [og 0 (Cr a0), os 1 (.int .i64) a1, oi 2 a2], []⟩
theorem Az2 (G : Ay Ob P) {y a0 a1 a2} (E : Aru C F y) (v : Int × (List Bool)) o (h : On a0 a1 a2 v.1 v.2 = some o) (L : LP Ob P C F Aq6 (Aow a0 a1 a2) (GX Ob P C F A23 (Axj a0 a1 a2)) o) : Ax Ob P C F Aq6 (Aow a0 a1 a2 v) := by
 unfold On at h
 rcases Ag h with ⟨b1, h⟩ | ⟨b1, h⟩
 · obtain ⟨c4, h⟩ := Am h
   obtain ⟨c5, h⟩ := Am h
   exact sg G [r0, bt, r0, r0, r0, en] (e3 b1 c4 c5) (L.1 _ (si h))
 · exact sg G [r0, bf, au] (e1 b1) (L.2 _ (si h))
theorem Ay3 (G : Ay Ob P) {y a0 a1 a2 v4 v5 r1} (E : Aru C F y) (v : Int × Int × (List Al)) o (h : Sd a0 a1 a2 v4 v5 r1 v.1 v.2.1 v.2.2 = some o) (L : LP Ob P C F Aqw (Apn a0 a1 a2 v4 v5 r1) (GX Ob P C F A56 (Azv a0 a1 a2 v4 v5 r1)) o) : Ax Ob P C F Aqw (Apn a0 a1 a2 v4 v5 r1 v) := by
 unfold Sd at h
 rcases Ag h with ⟨b4, h⟩ | ⟨b4, h⟩
 · obtain ⟨y1, c10, h⟩ := bind_some h
   obtain ⟨c11, h⟩ := Am h
   exact sg G [r0, bt, r0, rc 2 (rs (.nm 4) y1), r0, en] (e3 b4 (ca c10) c11) (L.1 _ (si h))
 · exact sg G [r0, bf, au] (e1 b4) (L.2 _ (si h))
theorem Azc (G : Ay Ob P) {y a0 a1 a2 v4 v5 r1} (E : Aru C F y) (v : Int × (List Al)) o (h : Sr a0 a1 a2 v4 v5 r1 v.1 v.2 = some o) (L : LP Ob P C F Au5 (Aq5 a0 a1 a2 v4 v5 r1) (GX Ob P C F Bhv (A18 a0 a1 a2 v4 v5 r1)) o) : Ax Ob P C F Au5 (Aq5 a0 a1 a2 v4 v5 r1 v) := by
 unfold Sr at h
 rcases Ag h with ⟨b5, h⟩ | ⟨b5, h⟩
 · obtain ⟨c14, h⟩ := Am h
   obtain ⟨c15, c16, h⟩ := ns2 h
   obtain ⟨y3, c17, h⟩ := bind_some h
   obtain ⟨c18, h⟩ := Am h
   exact sg G [r0, bt, r0, rc 10 (rs (.nm 4) y3), r0, en] (e6 b5 c14 c15 c16 (ca c17) c18) (L.1 _ (si h))
 · exact sg G [r0, bf, au] (e1 b5) (L.2 _ (si h))
theorem Aza (G : Ay Ob P) {y a0 a1 a2 r1} (E : Aru C F y) (v : Int × (List (List Al))) o (h : O0 a0 a1 a2 r1 v.1 v.2 = some o) (L : LP Ob P C F Amk (Arr a0 a1 a2 r1) (GX Ob P C F Bep Azd) o) : Ax Ob P C F Amk (Arr a0 a1 a2 r1 v) := by
 unfold O0 at h
 rcases Ag h with ⟨b2, h⟩ | ⟨b2, h⟩
 · obtain ⟨c6, h⟩ := Am h
   rcases Ag h with ⟨b3, h⟩ | ⟨b3, h⟩
   · exact sg G [r0, bt, r0, r0, bt, r0, en] (e3 b2 c6 b3) (L.1 _ (si h))
   · obtain ⟨c7, c8, c9, h⟩ := ns3 h
     obtain ⟨r2, hi, h⟩ := bind_some h
     refine sg G [r0, bt, r0, r0, bf, r0, r0, en] (e6 b2 c6 b3 c7 c8 c9) (lg (Ay3 G E) hi ?_)
     obtain ⟨y2, c12, h⟩ := bind_some h
     obtain ⟨c13, h⟩ := Am h
     obtain ⟨r3, hi, h⟩ := bind_some h
     refine sg G [rc 2 (rs (.nm 4) y2), r0, en] (e2 (ca c12) c13) (lg (Azc G E) hi ?_)
     obtain ⟨c19, h⟩ := Am h
     exact sg G [rc 2 .own, r0, en, .weak [.re 7001000 7001000 0]] (e1 c19) (L.1 _ (si h))
 · exact sg G [r0, bf, au] (e1 b2) (L.2 _ (si h))
theorem Bgp (G : Ay Ob P) {y a0 a1 a2} (E : Aru C F y) (h : N2 a0 a1 a2 = some y) : Ax Ob P C F A43 (Bho a0 a1 a2) := by
 unfold N2 at h
 obtain ⟨c1, c2, c3, h⟩ := ns3 h
 obtain ⟨r1, hi, h⟩ := bind_some h
 refine sg G [r0, r0, r0, en] (e3 c1 c2 c3) (lg (Az2 G E) hi ?_)
 obtain ⟨r4, hi, h⟩ := bind_some h
 refine sg G [r0, .weak [.own (.slot 10) 0 7001000 40 53], r0, en] tt (lg (Aza G E) hi ?_)
 have e := sj h; subst e
 exact se G E [r0, au, .weak [.fix (.slot 6)]] tt
theorem Atv : MT 95 Avz := show Be Ob _ _ _ from mt (fn := Tryz.f95) (S := λ x => Bho x.1 x.2.1 x.2.2.1) (GB ⟨Iz, Xh, trivial⟩ trivial) λ G _ _ _ _ => Bgp G
end
end Go.Ab
