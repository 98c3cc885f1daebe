/- The functions compute what the plain functions tell. Conditions: none beyond those that each theorem names. -/
import Derived.Test.YtjdgmcngpiookaaGreatS15
namespace Go.Ab
open Go Go.Proofs
set_option linter.unusedVariables false
section
variable {P : Program} {C : Ctx} {F : Act -> World -> Prop}
noncomputable abbrev Z2 : Env := EV [(54, Aeb), (82, Adv), (83, Aa1), (87, Aly), (88, Are), (89, Amc)] [] false
noncomputable def A3v := c0 Tryz.f56
noncomputable def Aah : FS yzE := f1 [(.nm 5), (.nm 5)] (.nm 6) λ x => Co x.1 x.2.1
noncomputable def A3f := ct [0, 0, 2, 0, 3, 0, 4] A3v
noncomputable def A4i := ct [0, 2, 0, 0, 3, 4] A3f
noncomputable def Bb9 := ct [0, 0, 0, 4] A4i
abbrev A1s (C : Ctx) (F : FT) (y : Aa) : Prop := En Z2 C F Tryz.f56 Aah (y, ())
def A9o (v5 : List Int) (v6 : Bool) (v7 : List Int) (v8 : Bool) : ST := ⟨61, [op 2, op 3, op 4], [bc 2 [.sl (.int .u32) false v5, .bool v6], bc 3 [.sl (.int .u32) false v7, .bool v8], bc 4 [.sl (.int .u32) true [], .bool false, .sl (.int .u32) true [], .bool false]]⟩
def A9c (v1 : List Int) (v2 : Bool) (v3 : List Int) (v4 : Bool) (y5 : List Int) : ST := ⟨61, [op 2, op 3, op 4, os 5 (.int .u32) y5], [bc 2 [.sl (.int .u32) false v1, .bool v2], bc 3 [.sl (.int .u32) false v3, .bool v4], bc 4 [.sl (.int .u32) true [], .bool false, .sl (.int .u32) true [], .bool false]]⟩
def A8v (v1 : List Int) (v2 : Bool) (v3 : List Int) (v4 : Bool) : ST := ⟨61, [op 2, op 3, op 4], [bc 2 [.sl (.int .u32) false v1, .bool v2], bc 3 [.sl (.int .u32) false v3, .bool v4], bc 4 [.sl (.int .u32) true [], .bool false, .sl (.int .u32) true [], .bool false]]⟩
def Bf0 (a0 : Ad) (a1 : Ad) : ST := ⟨61, [og 0 (A5 a0), og 1 (A5 a1)], []⟩
theorem Amt (G : Ay Z2 P) {y v5 v6 v7 v8} (E : A1s C F y) (h : D2 v5 v6 v7 v8 = some y) : Ax Z2 P C F Bb9 (A9o v5 v6 v7 v8) := by
 unfold D2 at h
 have e := sj h; subst e
 exact se G E [r0, au] tt
theorem Akm (G : Ay Z2 P) {y v1 v2 v3 v4 y5} (E : A1s C F y) (h : Dt v1 v2 v3 v4 y5 = some y) : Ax Z2 P C F A4i (A9c v1 v2 v3 v4 y5) := by
 unfold Dt at h
 obtain ⟨y6, c7, h⟩ := bind_some h
 obtain ⟨y7, c8, h⟩ := bind_some h
 obtain ⟨y8, c9, h⟩ := bind_some h
 obtain ⟨y9, c10, h⟩ := bind_some h
 exact sg G [rc 3 (rt (.sl (.int .u32)) (.sl (.int .u32)) y6), rc 3 (rt (.sl (.int .u32)) (.sl (.int .u32)) y7), .reg [(3, rs (.nm 5) y8), (5, rs (.nm 5) y9)], au] (e4 (cb c7) (cb c8) (ca c9) (ca c10)) (Amt G E h)
theorem Alg (G : Ay Z2 P) {y v1 v2 v3 v4} (E : A1s C F y) (h : Dr v1 v2 v3 v4 = some y) : Ax Z2 P C F A3f (A8v v1 v2 v3 v4) := by
 unfold Dr at h
 obtain ⟨y4, c4, h⟩ := bind_some h
 rcases Ag h with ⟨b3, h⟩ | ⟨b3, h⟩
 · have e := sj h; subst e
   exact se G E [rc 1 (rs .bool y4), bt, r0, au] (e2 (ca c4) b3)
 · obtain ⟨y5, c5, h⟩ := bind_some h
   rcases Ag h with ⟨b4, h⟩ | ⟨b4, h⟩
   · exact sg G [rc 1 (rs .bool y4), bf, rc 4 (rs (.sl (.int .u32)) y5), ru [3, 8], bt, au] (q3 (ca c4) b3 (ca c5) <| ar 5 b4 <| e1 rT) (Akm G E h)
   · obtain ⟨c6, h⟩ := Am h
     rcases Ag h with ⟨b5, h⟩ | ⟨b5, h⟩
     · exact sg G [rc 1 (rs .bool y4), bf, rc 4 (rs (.sl (.int .u32)) y5), rf [3, 8], bt, au] (q6 (ca c4) b3 (ca c5) b4 b4 c6 <| ar 3 b4 <| e1 b5) (Akm G E h)
     · exact sg G [rc 1 (rs .bool y4), bf, rc 4 (rs (.sl (.int .u32)) y5), rf [3, 8], bf, au] (q6 (ca c4) b3 (ca c5) b4 b4 c6 <| ar 3 b4 <| e1 b5) (Amt G E h)
theorem Bfd (G : Ay Z2 P) {y a0 a1} (E : A1s C F y) (h : Co a0 a1 = some y) : Ax Z2 P C F A3v (Bf0 a0 a1) := by
 unfold Co at h
 obtain ⟨y1, c1, h⟩ := bind_some h
 rcases Ag h with ⟨b1, h⟩ | ⟨b1, h⟩
 · have e := sj h; subst e
   exact se G E [r0, rc 1 (rs .bool y1), bt, r0, au] (e2 (ca c1) b1)
 · rcases Ag h with ⟨b2, h⟩ | ⟨b2, h⟩
   · obtain ⟨y2, c2, h⟩ := bind_some h
     obtain ⟨y3, c3, h⟩ := bind_some h
     exact sg G [r0, rc 1 (rs .bool y1), bf, r0, bt, .reg [(1, rs (.nm 5) y2), (3, rs (.nm 5) y3)], au] (e5 (ca c1) b1 b2 (ca c2) (ca c3)) (Alg G E h)
   · exact sg G [r0, rc 1 (rs .bool y1), bf, r0, bf, au] (e3 (ca c1) b1 b2) (Alg G E h)
theorem Ti : MT 56 Aah := show Be Z2 _ _ _ from mt (fn := Tryz.f56) (S := λ x => Bf0 x.1 x.2.1) (GB ⟨Zj, Y2, T3, Ags, Aus, Afr, trivial⟩ trivial) λ G _ _ _ _ => Bfd G
noncomputable abbrev V8 : Env := EV [(91, Zu)] [] false
noncomputable def A5u := c0 Tryz.f90
noncomputable def Aso : FS yzE := f1 [(.sl (.int .u32)), (.sl (.int .u32))] (.sl (.int .u32)) λ x => Ez x.1 x.2.1
noncomputable def Aki := ct [0, 0, 0, 1] A5u
noncomputable def Auh := ct [0, 3, 0, 0, 1] Aki
noncomputable def Bie := ct [0, 2, 4] Auh
noncomputable def Bco := ct [0, 2, 4] Aki
abbrev A6k (C : Ctx) (F : FT) (y : List Int) : Prop := En V8 C F Tryz.f90 Aso (y, ())
def A2r (a0 : List Int) (a1 : List Int) (v1 : Int) (r1 : (Int × (List Int))) : ST := ⟨67, [os 0 (.int .u32) a0, os 1 (.int .u32) a1, ol 5 (.ar 14 0), oi 6 v1, ol 7 (.int .u64 r1.1)], [ba 14 120 (.int .u32) r1.2]⟩
def A0e (r2 : List Int) : ST := ⟨67, [ol 5 (.ar 14 0)], [ba 14 120 (.int .u32) r2]⟩
def Apk (a0 : List Int) (a1 : List Int) (v1 : Int) (v : Int × Int × (List Int)) : ST := ⟨67, [os 0 (.int .u32) a0, os 1 (.int .u32) a1, ol 5 (.ar 14 0), oi 6 v1, ol 7 (.int .u64 v.1), oi 8 v.2.1], [ba 14 120 (.int .u32) v.2.2]⟩
def Aqg (a0 : List Int) (a1 : List Int) (v : Int × (List Int)) : ST := ⟨67, [os 0 (.int .u32) a0, os 1 (.int .u32) a1, ol 5 (.ar 14 0), oi 6 v.1], [ba 14 120 (.int .u32) v.2]⟩
def Bg0 (a0 : List Int) (a1 : List Int) : ST := ⟨67, [os 0 (.int .u32) a0, os 1 (.int .u32) a1], []⟩
theorem A12 (G : Ay V8 P) {y a0 a1 v1} (E : A6k C F y) (v : Int × Int × (List Int)) o (h : E8 a0 a1 v1 v.1 v.2.1 v.2.2 = some o) (L : LP V8 P C F Auh (Apk a0 a1 v1) (GX V8 P C F Bie (A2r a0 a1 v1)) o) : Ax V8 P C F Auh (Apk a0 a1 v1 v) := by
 unfold E8 at h
 rcases Ag h with ⟨b2, h⟩ | ⟨b2, h⟩
 · obtain ⟨c4, c5, c6, h⟩ := ns3 h
   obtain ⟨c7, h⟩ := Am h
   obtain ⟨c8, h⟩ := Am h
   exact sg G [r0, bt, r0, r0, r0, r0, en] (e6 b2 c4 c5 c6 c7 c8) (L.1 _ (si h))
 · exact sg G [r0, bf, au] (e1 b2) (L.2 _ (si h))
theorem Aze (G : Ay V8 P) {y a0 a1} (E : A6k C F y) (v : Int × (List Int)) o (h : Fa a0 a1 v.1 v.2 = some o) (L : LP V8 P C F Aki (Aqg a0 a1) (GX V8 P C F Bco A0e) o) : Ax V8 P C F Aki (Aqg a0 a1 v) := by
 unfold Fa at h
 rcases Ag h with ⟨b1, h⟩ | ⟨b1, h⟩
 · obtain ⟨r1, hi, h⟩ := bind_some h
   refine sg G [r0, bt, r0, r0, en] (e1 b1) (lg (A12 G E) hi ?_)
   obtain ⟨c9, h⟩ := Am h
   exact sg G [r0, r0, en] (e1 c9) (L.1 _ (si h))
 · exact sg G [r0, bf, au] (e1 b1) (L.2 _ (si h))
theorem Be3 (G : Ay V8 P) {y a0 a1} (E : A6k C F y) (h : Ez a0 a1 = some y) : Ax V8 P C F A5u (Bg0 a0 a1) := by
 unfold Ez at h
 obtain ⟨c1, c2, c3, h⟩ := ns3 h
 obtain ⟨r2, hi, h⟩ := bind_some h
 refine sg G [r0, r0, r0, en] (e3 c1 c2 c3) (lg (Aze G E) hi ?_)
 obtain ⟨y1, c10, h⟩ := bind_some h
 have e := sj h; subst e
 exact se G E [rc 1 (rs (.sl (.int .u32)) y1), au, .weak [.fix (.slot 4)]] (e1 (ca c10))
theorem Asa : MT 90 Aso := show Be V8 _ _ _ from mt (fn := Tryz.f90) (S := λ x => Bg0 x.1 x.2.1) (GB ⟨P8, trivial⟩ trivial) λ G _ _ _ _ => Be3 G
noncomputable abbrev A0b : Env := EV [(83, Aa1), (90, Aso)] [] false
noncomputable def Bav := c0 Tryz.f57
noncomputable def Afg : FS yzE := f1 [(.nm 5), (.nm 5)] (.nm 5) λ x => Bo x.1 x.2.1
abbrev Bjz (C : Ctx) (F : FT) (y : Ad) : Prop := En A0b C F Tryz.f57 Afg (y, ())
def Bcl (a0 : Ad) (a1 : Ad) : ST := ⟨16, [og 0 (A5 a0), og 1 (A5 a1)], []⟩
theorem Bd3 (G : Ay A0b P) {y a0 a1} (E : Bjz C F y) (h : Bo a0 a1 = some y) : Ax A0b P C F Bav (Bcl a0 a1) := by
 unfold Bo at h
 obtain ⟨y1, c1, h⟩ := bind_some h
 obtain ⟨y2, c2, h⟩ := bind_some h
 have e := sj h; subst e
 exact se G E [r0, .reg [(4, rs (.sl (.int .u32)) y1), (10, rs (.nm 5) y2)], au] (e2 (ca c1) (ca c2))
theorem W9 : MT 57 Afg := show Be A0b _ _ _ from mt (fn := Tryz.f57) (S := λ x => Bcl x.1 x.2.1) (GB ⟨T3, Asa, trivial⟩ trivial) λ G _ _ _ _ => Bd3 G
noncomputable abbrev Anz : Env := EV [(53, Zd), (54, Aeb), (55, Aty), (56, Aah), (57, Afg)] [] false
noncomputable def A30 := c0 Tryz.f26
noncomputable def Te : FS yzE := f1 [(.nm 6), (.nm 6)] (.nm 6) λ x => Bm x.1 x.2.1
noncomputable def Bef := ct [0, 0, 0, 2, 4] A30
abbrev Bg5 (C : Ctx) (F : FT) (y : Aa) : Prop := En Anz C F Tryz.f26 Te (y, ())
def A9f (a0 : Aa) (a1 : Aa) (y1 : Ad) (y2 : Ad) : ST := ⟨37, [op 2, op 3, op 4, op 5, op 6], [bc 2 (A9 a0), bc 3 (A9 a1), bc 4 [.sl (.int .u32) true [], .bool false, .sl (.int .u32) true [], .bool false], bc 5 (A5 y1), bc 6 (A5 y2)]⟩
def Biq (a0 : Aa) (a1 : Aa) : ST := ⟨37, [og 0 (A9 a0), og 1 (A9 a1)], []⟩
theorem Akf (G : Ay Anz P) {y a0 a1 y1 y2} (E : Bg5 C F y) (h : Em a0 a1 y1 y2 = some y) : Ax Anz P C F Bef (A9f a0 a1 y1 y2) := by
 unfold Em at h
 obtain ⟨y6, c6, h⟩ := bind_some h
 obtain ⟨y7, c7, h⟩ := bind_some h
 obtain ⟨y8, c8, h⟩ := bind_some h
 obtain ⟨y9, c9, h⟩ := bind_some h
 obtain ⟨y10, c10, h⟩ := bind_some h
 have e := sj h; subst e
 exact se G E [.reg [(3, rs (.nm 5) y6), (7, rs (.nm 5) y7), (8, rs (.nm 5) y8), (11, rs (.nm 5) y9), (12, rs (.nm 6) y10)], au] (e5 (ca c6) (ca c7) (ca c8) (ca c9) (ca c10))
theorem Be4 (G : Ay Anz P) {y a0 a1} (E : Bg5 C F y) (h : Bm a0 a1 = some y) : Ax Anz P C F A30 (Biq a0 a1) := by
 unfold Bm at h
 obtain ⟨y1, c1, h⟩ := bind_some h
 obtain ⟨y2, c2, h⟩ := bind_some h
 obtain ⟨y3, c3, h⟩ := bind_some h
 rcases Ag h with ⟨b1, h⟩ | ⟨b1, h⟩
 · obtain ⟨y4, c4, h⟩ := bind_some h
   rcases Ag h with ⟨b2, h⟩ | ⟨b2, h⟩
   · obtain ⟨y5, c5, h⟩ := bind_some h
     have e := sj h; subst e
     exact se G E [r0, .reg [(1, rs (.nm 5) y1), (3, rs (.nm 5) y2)], rg [] [2, 5] [(1, rs .bool y3), (4, rs .bool y4)], bt, rc 4 (rs (.nm 5) y5), au] (q6 (ca c1) (ca c2) (ca c3) b1 b1 (ca c4) <| e3 b1 b2 (ca c5))
   · exact sg G [r0, .reg [(1, rs (.nm 5) y1), (3, rs (.nm 5) y2)], rg [] [2, 5] [(1, rs .bool y3), (4, rs .bool y4)], bf, au] (q6 (ca c1) (ca c2) (ca c3) b1 b1 (ca c4) <| e2 b1 b2) (Akf G E h)
 · exact sg G [r0, .reg [(1, rs (.nm 5) y1), (3, rs (.nm 5) y2)], rg [2, 5] [] [(1, rs .bool y3)], bf, au] (q3 (ca c1) (ca c2) (ca c3) <| ar 3 b1 <| e1 rF) (Akf G E h)
theorem L5 : MT 26 Te := show Be Anz _ _ _ from mt (fn := Tryz.f26) (S := λ x => Biq x.1 x.2.1) (GB ⟨P4, Zj, Apy, Ti, W9, trivial⟩ trivial) λ G _ _ _ _ => Be4 G
noncomputable abbrev Aoe : Env := EV [(91, Zu)] [] false
noncomputable def A25 := c0 Tryz.f58
noncomputable def Al1 : FS yzE := f1 [(.int .i64)] (.nm 5) λ x => Cy x.1
noncomputable def Bjp := ct [0, 0, 0, 3, 0, 4] A25
abbrev Bdk (C : Ctx) (F : FT) (y : Ad) : Prop := En Aoe C F Tryz.f58 Al1 (y, ())
def A9r (a0 : Int) (v1 : Int) : ST := ⟨20, [oi 0 a0, op 2, ol 3 (.int .u64 v1)], [bc 2 [.sl (.int .u32) true [], .bool false]]⟩
def Bbh (a0 : Int) : ST := ⟨20, [oi 0 a0], []⟩
theorem Als (G : Ay Aoe P) {y a0 v1} (E : Bdk C F y) (h : Dv a0 v1 = some y) : Ax Aoe P C F Bjp (A9r a0 v1) := by
 unfold Dv at h
 obtain ⟨c1, h⟩ := Am h
 obtain ⟨y1, c2, h⟩ := bind_some h
 have e := sj h; subst e
 exact se G E [.reg [(5, .lit), (6, rs (.sl (.int .u32)) y1)], au, .weak [.fix (.cell 2)]] (e2 c1 (ca c2))
theorem Bdd (G : Ay Aoe P) {y a0} (E : Bdk C F y) (h : Cy a0 = some y) : Ax Aoe P C F A25 (Bbh a0) := by
 unfold Cy at h
 rcases Ag h with ⟨b1, h⟩ | ⟨b1, h⟩
 · exact sg G [r0, r0, r0, bt, r0, au] (e1 b1) (Als G E h)
 · exact sg G [r0, r0, r0, bf, au] (e1 b1) (Als G E h)
theorem Afw : MT 58 Al1 := show Be Aoe _ _ _ from mt (fn := Tryz.f58) (S := λ x => Bbh x.1) (GB ⟨P8, trivial⟩ trivial) λ G _ _ _ _ => Bdd G
noncomputable abbrev A1b : Env := EV [(56, Aah), (58, Al1)] [] false
noncomputable def Bje := c0 Tryz.f27
noncomputable def Aa7 : FS yzE := f1 [(.nm 0)] (.nm 6) λ x => B8 x.1
abbrev Bk9 (C : Ctx) (F : FT) (y : Aa) : Prop := En A1b C F Tryz.f27 Aa7 (y, ())
def Bcu (a0 : Au) : ST := ⟨10, [og 0 (Gv a0)], []⟩
theorem Bbv (G : Ay A1b P) {y a0} (E : Bk9 C F y) (h : B8 a0 = some y) : Ax A1b P C F Bje (Bcu a0) := by
 unfold B8 at h
 obtain ⟨y1, c1, h⟩ := bind_some h
 obtain ⟨y2, c2, h⟩ := bind_some h
 obtain ⟨y3, c3, h⟩ := bind_some h
 have e := sj h; subst e
 exact se G E [r0, .reg [(2, rs (.nm 5) y1), (5, rs (.nm 5) y2), (6, rs (.nm 6) y3)], au] (e3 (ca c1) (ca c2) (ca c3))
theorem Uf : MT 27 Aa7 := show Be A1b _ _ _ from mt (fn := Tryz.f27) (S := λ x => Bcu x.1) (GB ⟨Ti, Afw, trivial⟩ trivial) λ G _ _ _ _ => Bbv G
noncomputable abbrev An0 : Env := EV [(53, Zd), (54, Aeb), (56, Aah), (57, Afg)] [] false
noncomputable def A3t := c0 Tryz.f28
noncomputable def Aa9 : FS yzE := f1 [(.nm 6), (.nm 6)] (.nm 6) λ x => B1 x.1 x.2.1
noncomputable def Bir := ct [0, 0, 0, 2, 4] A3t
abbrev Bec (C : Ctx) (F : FT) (y : Aa) : Prop := En An0 C F Tryz.f28 Aa9 (y, ())
def A7a (a0 : Aa) (a1 : Aa) (y1 : Ad) (y2 : Ad) : ST := ⟨33, [op 2, op 3, op 4, op 5, op 6], [bc 2 (A9 a0), bc 3 (A9 a1), bc 4 [.sl (.int .u32) true [], .bool false, .sl (.int .u32) true [], .bool false], bc 5 (A5 y1), bc 6 (A5 y2)]⟩
def Bfk (a0 : Aa) (a1 : Aa) : ST := ⟨33, [og 0 (A9 a0), og 1 (A9 a1)], []⟩
theorem Al8 (G : Ay An0 P) {y a0 a1 y1 y2} (E : Bec C F y) (h : El a0 a1 y1 y2 = some y) : Ax An0 P C F Bir (A7a a0 a1 y1 y2) := by
 unfold El at h
 obtain ⟨y6, c6, h⟩ := bind_some h
 obtain ⟨y7, c7, h⟩ := bind_some h
 obtain ⟨y8, c8, h⟩ := bind_some h
 have e := sj h; subst e
 exact se G E [.reg [(4, rs (.nm 5) y6), (7, rs (.nm 5) y7), (8, rs (.nm 6) y8)], au] (e3 (ca c6) (ca c7) (ca c8))
theorem Bic (G : Ay An0 P) {y a0 a1} (E : Bec C F y) (h : B1 a0 a1 = some y) : Ax An0 P C F A3t (Bfk a0 a1) := by
 unfold B1 at h
 obtain ⟨y1, c1, h⟩ := bind_some h
 obtain ⟨y2, c2, h⟩ := bind_some h
 obtain ⟨y3, c3, h⟩ := bind_some h
 rcases Ag h with ⟨b1, h⟩ | ⟨b1, h⟩
 · obtain ⟨y4, c4, h⟩ := bind_some h
   rcases Ag h with ⟨b2, h⟩ | ⟨b2, h⟩
   · obtain ⟨y5, c5, h⟩ := bind_some h
     have e := sj h; subst e
     exact se G E [r0, .reg [(1, rs (.nm 5) y1), (3, rs (.nm 5) y2)], rg [] [2, 5] [(1, rs .bool y3), (4, rs .bool y4)], bt, rc 4 (rs (.nm 5) y5), au] (q6 (ca c1) (ca c2) (ca c3) b1 b1 (ca c4) <| e3 b1 b2 (ca c5))
   · exact sg G [r0, .reg [(1, rs (.nm 5) y1), (3, rs (.nm 5) y2)], rg [] [2, 5] [(1, rs .bool y3), (4, rs .bool y4)], bf, au] (q6 (ca c1) (ca c2) (ca c3) b1 b1 (ca c4) <| e2 b1 b2) (Al8 G E h)
 · exact sg G [r0, .reg [(1, rs (.nm 5) y1), (3, rs (.nm 5) y2)], rg [2, 5] [] [(1, rs .bool y3)], bf, au] (q3 (ca c1) (ca c2) (ca c3) <| ar 3 b1 <| e1 rF) (Al8 G E h)
theorem Uq : MT 28 Aa9 := show Be An0 _ _ _ from mt (fn := Tryz.f28) (S := λ x => Bfk x.1 x.2.1) (GB ⟨P4, Zj, Ti, W9, trivial⟩ trivial) λ G _ _ _ _ => Bic G
noncomputable abbrev Lk : Env := EV [] [] false
noncomputable def A5t := c0 Tryz.f33
noncomputable def Akb : FS yzE := f1 [(.nm 2)] (.sl (.int .i64)) λ x => Dm x.1
noncomputable def Ap1 := ct [0, 0, 0, 1] A5t
noncomputable def A31 := ct [0, 2, 4] Ap1
noncomputable def Aj9 := ct [0, 1] A31
noncomputable def Aat := ct [0, 3, 0, 0, 1] Aj9
noncomputable def A46 := ct [0, 3, 0, 0, 3, 0, 4] Aat
noncomputable def Bdz := ct [0, 4] A46
noncomputable def Atm := ct [0, 2, 4] Aat
noncomputable def Bgx := ct [0, 2, 4] Aj9
abbrev Aog (C : Ctx) (F : FT) (y : List Int) : Prop := En Lk C F Tryz.f33 Akb (y, ())
def A2e (a0 : An) (r1 : List Int) : ST := ⟨71, [op 1, ol 3 (.ar 11 0)], [bc 1 (A1 a0), ba 11 3 (.int .i64) r1]⟩
def Abs (a0 : An) (r2 : (Bool × (List Int))) : ST := ⟨71, [op 1, ol 3 (.ar 11 0), ol 5 (.bool r2.1)], [bc 1 (A1 a0), ba 11 3 (.int .i64) r2.2]⟩
def Axo (r3 : List Int) : ST := ⟨71, [ol 3 (.ar 11 0)], [ba 11 3 (.int .i64) r3]⟩
def Ap6 (a0 : An) (v : Int × (List Int)) : ST := ⟨71, [op 1, ol 3 (.ar 11 0), oi 4 v.1], [bc 1 (A1 a0), ba 11 3 (.int .i64) v.2]⟩
def A8d (a0 : An) (v7 : Int) (v10 : Bool) (v11 : List Int) : ST := ⟨71, [op 1, ol 3 (.ar 11 0), ol 5 (.bool v10), oi 6 v7], [bc 1 (A1 a0), ba 11 3 (.int .i64) v11]⟩
def A7b (a0 : An) (v7 : Int) (v9 : List Int) : ST := ⟨71, [op 1, ol 3 (.ar 11 0), ol 5 (.bool true), oi 6 v7, oi 7 ((List.getD a0.Arms v7.toNat Ac).A), oi 8 ((List.getD a0.Arms v7.toNat Ac).B)], [bc 1 (A1 a0), ba 11 3 (.int .i64) v9]⟩
def Acr (a0 : An) (v : Bool × Int × (List Int)) : ST := ⟨71, [op 1, ol 3 (.ar 11 0), ol 5 (.bool v.1), oi 6 v.2.1], [bc 1 (A1 a0), ba 11 3 (.int .i64) v.2.2]⟩
def Aoo (a0 : An) (v : Bool × (List Int)) : ST := ⟨71, [op 1, ol 3 (.ar 11 0), ol 5 (.bool v.1)], [bc 1 (A1 a0), ba 11 3 (.int .i64) v.2]⟩
def Bfj (a0 : An) : ST := ⟨71, [og 0 (A1 a0)], []⟩
theorem Awi (G : Ay Lk P) {y a0} (E : Aog C F y) (v : Int × (List Int)) o (h : Gm a0 v.1 v.2 = some o) (L : LP Lk P C F Ap1 (Ap6 a0) (GX Lk P C F A31 (A2e a0)) o) : Ax Lk P C F Ap1 (Ap6 a0 v) := by
 unfold Gm at h
 rcases Ag h with ⟨b1, h⟩ | ⟨b1, h⟩
 · obtain ⟨c4, h⟩ := Am h
   exact sg G [r0, bt, r0, r0, en] (e2 b1 c4) (L.1 _ (si h))
 · exact sg G [r0, bf, au] (e1 b1) (L.2 _ (si h))
theorem Ak0 (G : Ay Lk P) {y o a0 v7 v10 v11} (E : Aog C F y) (h : E9 a0 v7 v10 v11 = some o) (L : LP Lk P C F Aat (Acr a0) (GX Lk P C F Atm (Abs a0)) o) : Ax Lk P C F Bdz (A8d a0 v7 v10 v11) := by
 unfold E9 at h
 exact sg G [r0, en] tt (L.1 _ (si h))
theorem Ayr (G : Ay Lk P) {y o a0 v7 v9} (E : Aog C F y) (h : Gk a0 v7 v9 = some o) (L : LP Lk P C F Aat (Acr a0) (GX Lk P C F Atm (Abs a0)) o) : Ax Lk P C F A46 (A7b a0 v7 v9) := by
 unfold Gk at h
 obtain ⟨c12, c13, h⟩ := ns2 h
 exact sg G [r0, au] (e2 c12 c13) (Ak0 G E h L)
theorem Azj (G : Ay Lk P) {y a0} (E : Aog C F y) (v : Bool × Int × (List Int)) o (h : E6 a0 v.1 v.2.1 v.2.2 = some o) (L : LP Lk P C F Aat (Acr a0) (GX Lk P C F Atm (Abs a0)) o) : Ax Lk P C F Aat (Acr a0 v) := by
 unfold E6 at h
 rcases Ag h with ⟨b3, h⟩ | ⟨b3, h⟩
 · obtain ⟨c5, c6, h⟩ := ns2 h
   obtain ⟨c7, c8, h⟩ := ns2 h
   rcases Ag h with ⟨b4, h⟩ | ⟨b4, h⟩
   · obtain ⟨c9, c10, c11, h⟩ := ns3 h
     exact sg G [r0, bt, r0, r0, bt, r0, au] (q6 b3 c5 c6 c7 c8 b4 <| e3 c9 c10 c11) (Ayr G E h L)
   · exact sg G [r0, bt, r0, r0, bf, au] (e6 b3 c5 c6 c7 c8 b4) (Ak0 G E h L)
 · exact sg G [r0, bf, au] (e1 b3) (L.2 _ (si h))
theorem A1z (G : Ay Lk P) {y a0} (E : Aog C F y) (v : Bool × (List Int)) o (h : Gp a0 v.1 v.2 = some o) (L : LP Lk P C F Aj9 (Aoo a0) (GX Lk P C F Bgx Axo) o) : Ax Lk P C F Aj9 (Aoo a0 v) := by
 unfold Gp at h
 rcases Ag h with ⟨b2, h⟩ | ⟨b2, h⟩
 · obtain ⟨r2, hi, h⟩ := bind_some h
   refine sg G [r0, bt, r0, r0, en] (e1 b2) (lg (Azj G E) hi ?_)
   exact sg G [en] tt (L.1 _ (si h))
 · exact sg G [r0, bf, au] (e1 b2) (L.2 _ (si h))
theorem Bc3 (G : Ay Lk P) {y a0} (E : Aog C F y) (h : Dm a0 = some y) : Ax Lk P C F A5t (Bfj a0) := by
 unfold Dm at h
 obtain ⟨c1, c2, c3, h⟩ := ns3 h
 obtain ⟨r1, hi, h⟩ := bind_some h
 refine sg G [r0, r0, r0, en] (e3 c1 c2 c3) (lg (Awi G E) hi ?_)
 obtain ⟨r3, hi, h⟩ := bind_some h
 refine sg G [r0, en] tt (lg (A1z G E) hi ?_)
 have e := sj h; subst e
 exact se G E [r0, au, .weak [.fix (.slot 2)]] tt
theorem Aec : MT 33 Akb := show Be Lk _ _ _ from mt (fn := Tryz.f33) (S := λ x => Bfj x.1) (GB trivial trivial) λ G _ _ _ _ => Bc3 G
noncomputable abbrev A2a : Env := EV [(58, Al1), (62, Ak1)] [] false
noncomputable def Bf5 := c0 Tryz.f34
noncomputable def Yi : FS yzE := f1 [(.int .i64)] (.nm 6) λ x => Ci x.1
abbrev Bk7 (C : Ctx) (F : FT) (y : Aa) : Prop := En A2a C F Tryz.f34 Yi (y, ())
def Bd5 (a0 : Int) : ST := ⟨7, [oi 0 a0], []⟩
theorem Bca (G : Ay A2a P) {y a0} (E : Bk7 C F y) (h : Ci a0 = some y) : Ax A2a P C F Bf5 (Bd5 a0) := by
 unfold Ci at h
 obtain ⟨y1, c1, h⟩ := bind_some h
 obtain ⟨y2, c2, h⟩ := bind_some h
 have e := sj h; subst e
 exact se G E [r0, .reg [(1, rs (.nm 5) y1), (2, rs (.nm 5) y2)], au] (e2 (ca c1) (ca c2))
theorem P9 : MT 34 Yi := show Be A2a _ _ _ from mt (fn := Tryz.f34) (S := λ x => Bd5 x.1) (GB ⟨Afw, Afy, trivial⟩ trivial) λ G _ _ _ _ => Bca G
noncomputable abbrev A1g : Env := EV [(53, Zd), (87, Aly)] [] false
noncomputable def Bcz := c0 Tryz.f63
noncomputable def Al5 : FS yzE := f1 [(.nm 6)] (.nm 6) λ x => D8 x.1
abbrev Bkz (C : Ctx) (F : FT) (y : Aa) : Prop := En A1g C F Tryz.f63 Al5 (y, ())
def Bb2 (a0 : Aa) : ST := ⟨9, [og 0 (A9 a0)], []⟩
theorem Bev (G : Ay A1g P) {y a0} (E : Bkz C F y) (h : D8 a0 = some y) : Ax A1g P C F Bcz (Bb2 a0) := by
 unfold D8 at h
 obtain ⟨y1, c1, h⟩ := bind_some h
 obtain ⟨y2, c2, h⟩ := bind_some h
 have e := sj h; subst e
 exact se G E [r0, .reg [(2, rs (.nm 5) y1), (4, rs (.nm 5) y2)], au] (e2 (ca c1) (ca c2))
theorem Agw : MT 63 Al5 := show Be A1g _ _ _ from mt (fn := Tryz.f63) (S := λ x => Bb2 x.1) (GB ⟨P4, Ags, trivial⟩ trivial) λ G _ _ _ _ => Bev G
noncomputable abbrev A19 : Env := EV [(26, Te), (63, Al5)] [] false
noncomputable def Bi1 := c0 Tryz.f35
noncomputable def Aam : FS yzE := f1 [(.nm 6), (.nm 6)] (.nm 6) λ x => B3 x.1 x.2.1
abbrev Bld (C : Ctx) (F : FT) (y : Aa) : Prop := En A19 C F Tryz.f35 Aam (y, ())
def Bh2 (a0 : Aa) (a1 : Aa) : ST := ⟨9, [og 0 (A9 a0), og 1 (A9 a1)], []⟩
theorem Bax (G : Ay A19 P) {y a0 a1} (E : Bld C F y) (h : B3 a0 a1 = some y) : Ax A19 P C F Bi1 (Bh2 a0 a1) := by
 unfold B3 at h
 obtain ⟨y1, c1, h⟩ := bind_some h
 obtain ⟨y2, c2, h⟩ := bind_some h
 have e := sj h; subst e
 exact se G E [r0, .reg [(2, rs (.nm 6) y1), (3, rs (.nm 6) y2)], au] (e2 (ca c1) (ca c2))
theorem Tl : MT 35 Aam := show Be A19 _ _ _ from mt (fn := Tryz.f35) (S := λ x => Bh2 x.1 x.2.1) (GB ⟨L5, Agw, trivial⟩ trivial) λ G _ _ _ _ => Bax G
noncomputable abbrev Azs : Env := EV [(53, Zd), (56, Aah), (57, Afg)] [] false
noncomputable def Bcx := c0 Tryz.f47
noncomputable def Ahc : FS yzE := f1 [(.nm 6), (.nm 6)] (.nm 6) λ x => Db x.1 x.2.1
abbrev Bku (C : Ctx) (F : FT) (y : Aa) : Prop := En Azs C F Tryz.f47 Ahc (y, ())
def Bac (a0 : Aa) (a1 : Aa) : ST := ⟨16, [og 0 (A9 a0), og 1 (A9 a1)], []⟩
theorem Bin (G : Ay Azs P) {y a0 a1} (E : Bku C F y) (h : Db a0 a1 = some y) : Ax Azs P C F Bcx (Bac a0 a1) := by
 unfold Db at h
 obtain ⟨y1, c1, h⟩ := bind_some h
 obtain ⟨y2, c2, h⟩ := bind_some h
 obtain ⟨y3, c3, h⟩ := bind_some h
 obtain ⟨y4, c4, h⟩ := bind_some h
 obtain ⟨y5, c5, h⟩ := bind_some h
 have e := sj h; subst e
 exact se G E [r0, .reg [(3, rs (.nm 5) y1), (4, rs (.nm 5) y2), (6, rs (.nm 5) y3), (9, rs (.nm 5) y4), (10, rs (.nm 6) y5)], au] (e5 (ca c1) (ca c2) (ca c3) (ca c4) (ca c5))
theorem Xf : MT 47 Ahc := show Be Azs _ _ _ from mt (fn := Tryz.f47) (S := λ x => Bac x.1 x.2.1) (GB ⟨P4, Ti, W9, trivial⟩ trivial) λ G _ _ _ _ => Bin G
noncomputable abbrev A2f : Env := EV [(34, Yi), (47, Ahc)] [] false
noncomputable def Bdw := c0 Tryz.f38
noncomputable def Agl : FS yzE := f1 [(.nm 6)] (.nm 6) λ x => Dc x.1
abbrev Bj1 (C : Ctx) (F : FT) (y : Aa) : Prop := En A2f C F Tryz.f38 Agl (y, ())
def Bd2 (a0 : Aa) : ST := ⟨6, [og 0 (A9 a0)], []⟩
theorem Bd1 (G : Ay A2f P) {y a0} (E : Bj1 C F y) (h : Dc a0 = some y) : Ax A2f P C F Bdw (Bd2 a0) := by
 unfold Dc at h
 obtain ⟨y1, c1, h⟩ := bind_some h
 obtain ⟨y2, c2, h⟩ := bind_some h
 have e := sj h; subst e
 exact se G E [r0, .reg [(0, rs (.nm 6) y1), (2, rs (.nm 6) y2)], au] (e2 (ca c1) (ca c2))
theorem Xj : MT 38 Agl := show Be A2f _ _ _ from mt (fn := Tryz.f38) (S := λ x => Bd2 x.1) (GB ⟨P9, Xf, trivial⟩ trivial) λ G _ _ _ _ => Bd1 G
noncomputable abbrev A21 : Env := EV [(82, Adv)] [] false
noncomputable def Bcg := c0 Tryz.f65
noncomputable def Ae9 : FS yzE := f1 [(.nm 6)] .bool λ x => Ca x.1
abbrev Bkj (C : Ctx) (F : FT) (y : Bool) : Prop := En A21 C F Tryz.f65 Ae9 (y, ())
def Bd6 (a0 : Aa) : ST := ⟨6, [og 0 (A9 a0)], []⟩
theorem Bam (G : Ay A21 P) {y a0} (E : Bkj C F y) (h : Ca a0 = some y) : Ax A21 P C F Bcg (Bd6 a0) := by
 unfold Ca at h
 obtain ⟨y1, c1, h⟩ := bind_some h
 have e := sj h; subst e
 exact se G E [r0, rc 2 (rs .bool y1), au] (e1 (ca c1))
theorem Zc : MT 65 Ae9 := show Be A21 _ _ _ from mt (fn := Tryz.f65) (S := λ x => Bd6 x.1) (GB ⟨Y2, trivial⟩ trivial) λ G _ _ _ _ => Bam G
noncomputable abbrev Kf : Env := EV [(28, Aa9), (35, Aam), (38, Agl), (65, Ae9)] [] false
noncomputable def A4x := c0 Tryz.f68
noncomputable def Aqv : FS yzE := f2 [(.sl (.sl (.nm 6))), (.int .i64)] (.sl (.sl (.nm 6))) (.sl (.int .i64)) λ x => Ds x.1 x.2.1
noncomputable def At6 := ct [0, 0, 0, 1] A4x
noncomputable def A5n := ct [0, 2, 4] At6
noncomputable def Ams := ct [0, 0, 1] A5n
noncomputable def Aqq := ct [0, 3, 0, 0, 1] Ams
noncomputable def A52 := ct [0, 2, 4] Aqq
noncomputable def Aph := ct [0, 2, 0, 0, 0, 1] A52
noncomputable def A38 := ct [0, 2, 4] Aph
noncomputable def Ak7 := ct [0, 1] A38
noncomputable def Au4 := ct [0, 3, 0, 0, 1] Ak7
noncomputable def A6t := ct [0, 2, 4] Au4
noncomputable def A8b := ct [0, 2, 4] Ak7
noncomputable def A80 := ct [0, 2, 4] Ams
abbrev Ai1 (C : Ctx) (F : FT) (y : ((List (List Aa)) × (List Int))) : Prop := En Kf C F Tryz.f68 Aqv (y.1, y.2, ())
def Ayb (a1 : Int) (r1 : (List (List Aa))) : ST := ⟨176, [oi 1 a1, ol 6 (.ar 19 0)], [bw 19 45 63 (.nm 6) r1]⟩
def Axg (a1 : Int) (v4 : Int) (v5 : (List (List Aa))) (v6 : List Int) (r2 : Int) : ST := ⟨176, [oi 1 a1, ol 6 (.ar 19 0), ol 8 (.ar 173 0), oi 9 v4, oi 10 (v6.length : Int), oi 11 r2, ol 38 (.ar 173 0), oi 39 (v6.length : Int), ol 40 (.ar 19 0), oi 41 (v5.length : Int), ol 42 (.bool (decide ((v6.length : Int) < (v5.length : Int))))], [bw 19 45 63 (.nm 6) v5, ba 173 3 (.int .i64) v6]⟩
def Ayy (a1 : Int) (v4 : Int) (v5 : (List (List Aa))) (v6 : List Int) (r3 : (List (List Aa))) : ST := ⟨176, [oi 1 a1, ol 6 (.ar 19 0), ol 8 (.ar 173 0), oi 9 v4, oi 10 (v6.length : Int), ol 38 (.ar 173 0), oi 39 (v6.length : Int), ol 40 (.ar 19 0), oi 41 (v5.length : Int), ol 42 (.bool (decide ((v6.length : Int) < (v5.length : Int))))], [bw 19 45 63 (.nm 6) r3, ba 173 3 (.int .i64) v6]⟩
def A0g (a1 : Int) (v4 : Int) (v5 : (List (List Aa))) (v6 : List Int) (v12 : Int) (r4 : (List (List Aa))) : ST := ⟨176, [oi 1 a1, ol 6 (.ar 19 0), ol 8 (.ar 173 0), oi 9 v4, oi 10 (v6.length : Int), oi 14 v12, ol 38 (.ar 173 0), oi 39 (v6.length : Int), ol 40 (.ar 19 0), oi 41 (v5.length : Int), ol 42 (.bool (decide ((v6.length : Int) < (v5.length : Int))))], [bw 19 45 63 (.nm 6) r4, ba 173 3 (.int .i64) v6]⟩
def Azk (a1 : Int) (v4 : Int) (v5 : (List (List Aa))) (v6 : List Int) (r5 : (List (List Aa))) : ST := ⟨176, [oi 1 a1, ol 6 (.ar 19 0), ol 8 (.ar 173 0), oi 9 v4, ol 38 (.ar 173 0), oi 39 (v6.length : Int), ol 40 (.ar 19 0), oi 41 (v5.length : Int), ol 42 (.bool (decide ((v6.length : Int) < (v5.length : Int))))], [bw 19 45 63 (.nm 6) r5, ba 173 3 (.int .i64) v6]⟩
def Awr (r6 : ((List (List Aa)) × (List Int))) : ST := ⟨176, [ol 6 (.ar 19 0), ol 8 (.ar 173 0)], [bw 19 45 63 (.nm 6) r6.1, ba 173 3 (.int .i64) r6.2]⟩
def Aq9 (a0 : (List (List Aa))) (a1 : Int) (v : Int × (List (List Aa))) : ST := ⟨176, [os 0 (.sl (.nm 6)) a0, oi 1 a1, ol 6 (.ar 19 0), oi 7 v.1], [bw 19 45 63 (.nm 6) v.2]⟩
def Avp (a1 : Int) (v4 : Int) (v5 : (List (List Aa))) (v6 : List Int) (v : Int) : ST := ⟨176, [oi 1 a1, ol 6 (.ar 19 0), ol 8 (.ar 173 0), oi 9 v4, oi 10 (v6.length : Int), oi 11 v, ol 38 (.ar 173 0), oi 39 (v6.length : Int), ol 40 (.ar 19 0), oi 41 (v5.length : Int), ol 42 (.bool (decide ((v6.length : Int) < (v5.length : Int))))], [bw 19 45 63 (.nm 6) v5, ba 173 3 (.int .i64) v6]⟩
def Awc (a1 : Int) (v4 : Int) (v5 : (List (List Aa))) (v6 : List Int) (y2 : Aa) (v : Int × (List (List Aa))) : ST := ⟨176, [oi 1 a1, ol 6 (.ar 19 0), ol 8 (.ar 173 0), oi 9 v4, oi 10 (v6.length : Int), op 12, oi 13 v.1, ol 38 (.ar 173 0), oi 39 (v6.length : Int), ol 40 (.ar 19 0), oi 41 (v5.length : Int), ol 42 (.bool (decide ((v6.length : Int) < (v5.length : Int))))], [bc 12 (A9 y2), bw 19 45 63 (.nm 6) v.2, ba 173 3 (.int .i64) v6]⟩
def Aqu (a1 : Int) (v4 : Int) (v5 : (List (List Aa))) (v6 : List Int) (v12 : Int) (v : Int × (List Int) × Bool × (List Int) × Bool × (List (List Aa))) : ST := ⟨176, [oi 1 a1, ol 6 (.ar 19 0), ol 8 (.ar 173 0), oi 9 v4, oi 10 (v6.length : Int), oi 14 v12, op 15, oi 16 v.1, ol 38 (.ar 173 0), oi 39 (v6.length : Int), ol 40 (.ar 19 0), oi 41 (v5.length : Int), ol 42 (.bool (decide ((v6.length : Int) < (v5.length : Int))))], [bc 15 [.sl (.int .u32) false v.2.1, .bool v.2.2.1, .sl (.int .u32) false v.2.2.2.1, .bool v.2.2.2.2.1], bw 19 45 63 (.nm 6) v.2.2.2.2.2, ba 173 3 (.int .i64) v6]⟩
def Ao7 (a1 : Int) (v4 : Int) (v5 : (List (List Aa))) (v6 : List Int) (v : Int × (List (List Aa))) : ST := ⟨176, [oi 1 a1, ol 6 (.ar 19 0), ol 8 (.ar 173 0), oi 9 v4, oi 10 (v6.length : Int), oi 14 v.1, ol 38 (.ar 173 0), oi 39 (v6.length : Int), ol 40 (.ar 19 0), oi 41 (v5.length : Int), ol 42 (.bool (decide ((v6.length : Int) < (v5.length : Int))))], [bw 19 45 63 (.nm 6) v.2, ba 173 3 (.int .i64) v6]⟩
def Ase (a1 : Int) (v : Int × (List (List Aa)) × (List Int)) : ST := ⟨176, [oi 1 a1, ol 6 (.ar 19 0), ol 8 (.ar 173 0), oi 9 v.1], [bw 19 45 63 (.nm 6) v.2.1, ba 173 3 (.int .i64) v.2.2]⟩
def Bfr (a0 : (List (List Aa))) (a1 : Int) : ST := ⟨176, [os 0 (.sl (.nm 6)) a0, oi 1 a1], []⟩
theorem A06 (G : Ay Kf P) {y a0 a1} (E : Ai1 C F y) (v : Int × (List (List Aa))) o (h : Fw a0 a1 v.1 v.2 = some o) (L : LP Kf P C F At6 (Aq9 a0 a1) (GX Kf P C F A5n (Ayb a1)) o) : Ax Kf P C F At6 (Aq9 a0 a1 v) := by
 unfold Fw at h
 rcases Ag h with ⟨b1, h⟩ | ⟨b1, h⟩
 · obtain ⟨c4, c5, c6, h⟩ := ns3 h
   exact sg G [r0, bt, r0, r0, en, .weak [.re 19 19 0]] (e4 b1 c4 c5 c6) (L.1 _ (si h))
 · exact sg G [r0, bf, au] (e1 b1) (L.2 _ (si h))
theorem A03 (G : Ay Kf P) {y a1 v4 v5 v6} (E : Ai1 C F y) (v : Int) o (h : Ef a1 v4 v5 v6 v = some o) (L : LP Kf P C F Aqq (Avp a1 v4 v5 v6) (GX Kf P C F A52 (Axg a1 v4 v5 v6)) o) : Ax Kf P C F Aqq (Avp a1 v4 v5 v6 v) := by
 unfold Ef at h
 rcases Ag h with ⟨b4, h⟩ | ⟨b4, h⟩
 · obtain ⟨c7, c8, h⟩ := ns2 h
   obtain ⟨y1, c9, h⟩ := bind_some h
   rcases Ag h with ⟨b5, h⟩ | ⟨b5, h⟩
   · exact sg G [rg [] [4, 13] [(12, rs .bool y1)], bt, r0, en] (ar 3 b4 <| q1 c7 <| ar 3 b4 <| e6 c8 b4 b4 (ca c9) b4 b5) (L.1 _ (si h))
   · exact sg G [rg [] [4, 13] [(12, rs .bool y1)], bf, au] (ar 3 b4 <| q1 c7 <| ar 3 b4 <| e6 c8 b4 b4 (ca c9) b4 b5) (L.2 _ (si h))
 · exact sg G [rf [4, 13], bf, au] (ar 9 b4 <| e1 rF) (L.2 _ (si h))
theorem A00 (G : Ay Kf P) {y a1 v4 v5 v6 y2} (E : Ai1 C F y) (v : Int × (List (List Aa))) o (h : D6 a1 v4 v5 v6 y2 v.1 v.2 = some o) (L : LP Kf P C F Aph (Awc a1 v4 v5 v6 y2) (GX Kf P C F A38 (Ayy a1 v4 v5 v6)) o) : Ax Kf P C F Aph (Awc a1 v4 v5 v6 y2 v) := by
 unfold D6 at h
 obtain ⟨c19, h⟩ := Am h
 rcases Ag h with ⟨b7, h⟩ | ⟨b7, h⟩
 · obtain ⟨c20, c21, c22, h⟩ := ns3 h
   obtain ⟨y3, c23, h⟩ := bind_some h
   obtain ⟨c24, h⟩ := Am h
   exact sg G [r0, bt, rc 13 (rs (.nm 6) y3), r0, en] (q6 c19 b7 c20 c21 c22 (ca c23) <| e1 c24) (L.1 _ (si h))
 · exact sg G [r0, bf, au] (e2 c19 b7) (L.2 _ (si h))
theorem A1y (G : Ay Kf P) {y a1 v4 v5 v6 v12} (E : Ai1 C F y) (v : Int × (List Int) × Bool × (List Int) × Bool × (List (List Aa))) o (h : Ea a1 v4 v5 v6 v12 v.1 v.2.1 v.2.2.1 v.2.2.2.1 v.2.2.2.2.1 v.2.2.2.2.2 = some o) (L : LP Kf P C F Au4 (Aqu a1 v4 v5 v6 v12) (GX Kf P C F A6t (A0g a1 v4 v5 v6 v12)) o) : Ax Kf P C F Au4 (Aqu a1 v4 v5 v6 v12 v) := by
 unfold Ea at h
 obtain ⟨c27, h⟩ := Am h
 rcases Ag h with ⟨b9, h⟩ | ⟨b9, h⟩
 · rcases Ag h with ⟨b10, h⟩ | ⟨b10, h⟩
   · obtain ⟨y4, c28, h⟩ := bind_some h
     rcases Ag h with ⟨b11, h⟩ | ⟨b11, h⟩
     · obtain ⟨c29, c30, c31, c32, h⟩ := ns4 h
       obtain ⟨c33, h⟩ := Am h
       obtain ⟨y5, c34, h⟩ := bind_some h
       obtain ⟨y6, c35, h⟩ := bind_some h
       obtain ⟨c36, h⟩ := Am h
       exact sg G [rg [] [7, 11, 12, 16] [(14, rs .bool y4)], bt, .reg [(20, rs (.nm 6) y5), (21, rs (.nm 6) y6)], r0, en] (q1 c27 <| ar 4 b9 <| q6 b10 b10 (ca c28) b10 b10 b11 <| q6 c29 c30 c31 c32 c33 (ca c34) <| e2 (ca c35) c36) (L.1 _ (si h))
     · exact sg G [rg [] [7, 11, 12, 16] [(14, rs .bool y4)], bf, au] (q1 c27 <| ar 4 b9 <| e6 b10 b10 (ca c28) b10 b10 b11) (L.2 _ (si h))
   · exact sg G [rb [12, 16] [7, 11], bf, au] (q1 c27 <| ar 4 b9 <| ar 4 b10 <| e1 rF) (L.2 _ (si h))
 · exact sg G [rf [7, 11, 12, 16], bf, au] (q1 c27 <| ar 4 b9 <| ar 5 rF <| tt) (L.2 _ (si h))
theorem A2t (G : Ay Kf P) {y a1 v4 v5 v6} (E : Ai1 C F y) (v : Int × (List (List Aa))) o (h : Eh a1 v4 v5 v6 v.1 v.2 = some o) (L : LP Kf P C F Ak7 (Ao7 a1 v4 v5 v6) (GX Kf P C F A8b (Azk a1 v4 v5 v6)) o) : Ax Kf P C F Ak7 (Ao7 a1 v4 v5 v6 v) := by
 unfold Eh at h
 rcases Ag h with ⟨b8, h⟩ | ⟨b8, h⟩
 · obtain ⟨c25, c26, h⟩ := ns2 h
   obtain ⟨r4, hi, h⟩ := bind_some h
   refine sg G [r0, bt, r0, r0, en] (e3 b8 c25 c26) (lg (A1y G E) hi ?_)
   exact sg G [r0, en] tt (L.1 _ (si h))
 · exact sg G [r0, bf, au] (e1 b8) (L.2 _ (si h))
theorem Awv (G : Ay Kf P) {y a1} (E : Ai1 C F y) (v : Int × (List (List Aa)) × (List Int)) o (h : Fx a1 v.1 v.2.1 v.2.2 = some o) (L : LP Kf P C F Ams (Ase a1) (GX Kf P C F A80 Awr) o) : Ax Kf P C F Ams (Ase a1 v) := by
 unfold Fx at h
 rcases Ag h with ⟨b2, h⟩ | ⟨b2, h⟩
 · rcases Ag h with ⟨b3, h⟩ | ⟨b3, h⟩
   · obtain ⟨r2, hi, h⟩ := bind_some h
     refine sg G [ru [3, 9], bt, r0, r0, en] (ar 6 b2 <| e1 b3) (lg (A03 G E) hi ?_)
     rcases Ag h with ⟨b6, h⟩ | ⟨b6, h⟩
     · exact sg G [r0, bt, r0, en] (e1 b6) (L.1 _ (si h))
     · obtain ⟨c10, c11, c12, c13, h⟩ := ns4 h
       obtain ⟨c14, c15, h⟩ := ns2 h
       obtain ⟨c16, c17, h⟩ := ns2 h
       obtain ⟨y2, c18, h⟩ := bind_some h
       obtain ⟨r3, hi, h⟩ := bind_some h
       refine sg G [r0, bf, r0, rc 7 (rs (.nm 6) y2), r0, en, .weak [.re 19 19 0]] (q6 b6 c10 c11 c12 c13 c14 <| e4 c15 c16 c17 (ca c18)) (lg (A00 G E) hi ?_)
       obtain ⟨r5, hi, h⟩ := bind_some h
       refine sg G [r0, en] tt (lg (A2t G E) hi ?_)
       obtain ⟨c37, h⟩ := Am h
       exact sg G [r0, r0, en, .weak [.re 173 173 0]] (e1 c37) (L.1 _ (si h))
   · exact sg G [ru [3, 9], bf, au] (ar 6 b2 <| e1 b3) (L.2 _ (si h))
 · exact sg G [rf [3, 9], bf, au] (ar 6 b2 <| e1 rF) (L.2 _ (si h))
theorem Bbj (G : Ay Kf P) {y a0 a1} (E : Ai1 C F y) (h : Ds a0 a1 = some y) : Ax Kf P C F A4x (Bfr a0 a1) := by
 unfold Ds at h
 obtain ⟨c1, c2, c3, h⟩ := ns3 h
 obtain ⟨r1, hi, h⟩ := bind_some h
 refine sg G [r0, rc 2 .own, r0, en] (e3 c1 c2 c3) (lg (A06 G E) hi ?_)
 obtain ⟨r6, hi, h⟩ := bind_some h
 refine sg G [r0, r0, en, .weak [.own (.slot 8) 0 173 3 0]] tt (lg (Awv G E) hi ?_)
 have e := sj h; subst e
 exact se G E [r0, au, .weak [.fix (.slot 4), .fix (.slot 5)]] tt
theorem Arf : MT 68 Aqv := show Be Kf _ _ _ from mt (fn := Tryz.f68) (S := λ x => Bfr x.1 x.2.1) (GB ⟨Uq, Tl, Xj, Zc, trivial⟩ trivial) λ G _ _ _ _ => Bbj G
noncomputable abbrev Rx : Env := EV [(34, Yi), (63, Al5)] [] false
noncomputable def A3b := c0 Tryz.f69
noncomputable def Ato : FS yzE := f1 [(.sl (.sl (.nm 6))), (.sl (.int .i64)), (.int .i64)] (.sl (.sl (.nm 6))) λ x => Ex x.1 x.2.1 x.2.2.1
noncomputable def Avr := ct [0, 0, 0, 1] A3b
noncomputable def A4y := ct [0, 2, 4] Avr
noncomputable def Amh := ct [0, 0, 1] A4y
noncomputable def Aun := ct [0, 3, 0, 2, 0, 0, 0, 1] Amh
noncomputable def Bjk := ct [0, 2, 4] Aun
noncomputable def Bew := ct [0, 2, 4] Amh
abbrev A1j (C : Ctx) (F : FT) (y : (List (List Aa))) : Prop := En Rx C F Tryz.f69 Ato (y, ())
def Axm (a0 : (List (List Aa))) (a1 : List Int) (a2 : Int) (r1 : (List (Int × Bool))) : ST := ⟨64, [os 0 (.sl (.nm 6)) a0, os 1 (.int .i64) a1, oi 2 a2, ol 7 (.mp 13)], [(13, .map (.int .i64) .bool r1)]⟩
def A1l (a0 : (List (List Aa))) (a1 : List Int) (a2 : Int) (v4 : Int) (v5 : (List (List Aa))) (r1 : (List (Int × Bool))) (r2 : List Aa) : ST := ⟨64, [os 0 (.sl (.nm 6)) a0, os 1 (.int .i64) a1, oi 2 a2, ol 7 (.mp 13), ol 9 (.ar 7000900 0), oi 10 v4, ol 11 (.ar 34 0)], [(13, .map (.int .i64) .bool r1), ba 34 63 (.nm 6) r2, bw 7000900 45 63 (.nm 6) v5]⟩
def Azo (r3 : (List (List Aa))) : ST := ⟨64, [ol 9 (.ar 7000900 0)], [bw 7000900 45 63 (.nm 6) r3]⟩
def Arv (a0 : (List (List Aa))) (a1 : List Int) (a2 : Int) (v : Int × (List (Int × Bool))) : ST := ⟨64, [os 0 (.sl (.nm 6)) a0, os 1 (.int .i64) a1, oi 2 a2, ol 7 (.mp 13), oi 8 v.1], [(13, .map (.int .i64) .bool v.2)]⟩
def Auz (a0 : (List (List Aa))) (a1 : List Int) (a2 : Int) (v4 : Int) (v5 : (List (List Aa))) (r1 : (List (Int × Bool))) (v : Int × (List Aa)) : ST := ⟨64, [os 0 (.sl (.nm 6)) a0, os 1 (.int .i64) a1, oi 2 a2, ol 7 (.mp 13), ol 9 (.ar 7000900 0), oi 10 v4, ol 11 (.ar 34 0), oi 12 v.1], [(13, .map (.int .i64) .bool r1), ba 34 63 (.nm 6) v.2, bw 7000900 45 63 (.nm 6) v5]⟩
def Ara (a0 : (List (List Aa))) (a1 : List Int) (a2 : Int) (r1 : (List (Int × Bool))) (v : Int × (List (List Aa))) : ST := ⟨64, [os 0 (.sl (.nm 6)) a0, os 1 (.int .i64) a1, oi 2 a2, ol 7 (.mp 13), ol 9 (.ar 7000900 0), oi 10 v.1], [(13, .map (.int .i64) .bool r1), bw 7000900 45 63 (.nm 6) v.2]⟩
def Bad (a0 : (List (List Aa))) (a1 : List Int) (a2 : Int) : ST := ⟨64, [os 0 (.sl (.nm 6)) a0, os 1 (.int .i64) a1, oi 2 a2], []⟩
theorem Axc (G : Ay Rx P) {y a0 a1 a2} (E : A1j C F y) (v : Int × (List (Int × Bool))) o (h : Gj a0 a1 a2 v.1 v.2 = some o) (L : LP Rx P C F Avr (Arv a0 a1 a2) (GX Rx P C F A4y (Axm a0 a1 a2)) o) : Ax Rx P C F Avr (Arv a0 a1 a2 v) := by
 unfold Gj at h
 rcases Ag h with ⟨b1, h⟩ | ⟨b1, h⟩
 · obtain ⟨c1, h⟩ := Am h
   exact sg G [r0, bt, r0, r0, en] (e2 b1 c1) (L.1 _ (si h))
 · exact sg G [r0, bf, au] (e1 b1) (L.2 _ (si h))
theorem A1e (G : Ay Rx P) {y a0 a1 a2 v4 v5 r1} (E : A1j C F y) (v : Int × (List Aa)) o (h : Ig a0 a1 a2 v4 v5 r1 v.1 v.2 = some o) (L : LP Rx P C F Aun (Auz a0 a1 a2 v4 v5 r1) (GX Rx P C F Bjk (A1l a0 a1 a2 v4 v5 r1)) o) : Ax Rx P C F Aun (Auz a0 a1 a2 v4 v5 r1 v) := by
 unfold Ig at h
 rcases Ag h with ⟨b4, h⟩ | ⟨b4, h⟩
 · obtain ⟨c7, c8, c9, h⟩ := ns3 h
   obtain ⟨y2, c10, h⟩ := bind_some h
   obtain ⟨c11, h⟩ := Am h
   exact sg G [r0, bt, rc 12 (rs (.nm 6) y2), r0, en] (e6 b4 c7 c8 c9 (ca c10) c11) (L.1 _ (si h))
 · exact sg G [r0, bf, au] (e1 b4) (L.2 _ (si h))
theorem Az7 (G : Ay Rx P) {y a0 a1 a2 r1} (E : A1j C F y) (v : Int × (List (List Aa))) o (h : Gh a0 a1 a2 r1 v.1 v.2 = some o) (L : LP Rx P C F Amh (Ara a0 a1 a2 r1) (GX Rx P C F Bew Azo) o) : Ax Rx P C F Amh (Ara a0 a1 a2 r1 v) := by
 unfold Gh at h
 rcases Ag h with ⟨b2, h⟩ | ⟨b2, h⟩
 · rcases Ag h with ⟨b3, h⟩ | ⟨b3, h⟩
   · exact sg G [r0, bt, r0, bt, r0, en] (e2 b2 b3) (L.1 _ (si h))
   · obtain ⟨c2, c3, c4, h⟩ := ns3 h
     obtain ⟨y1, c5, h⟩ := bind_some h
     obtain ⟨c6, h⟩ := Am h
     obtain ⟨r2, hi, h⟩ := bind_some h
     refine sg G [r0, bt, r0, bf, r0, rc 2 (rs (.nm 6) y1), r0, en] (q6 b2 b3 c2 c3 c4 (ca c5) <| e1 c6) (lg (A1e G E) hi ?_)
     obtain ⟨c12, h⟩ := Am h
     exact sg G [rc 2 .own, r0, en, .weak [.re 7000900 7000900 0]] (e1 c12) (L.1 _ (si h))
 · exact sg G [r0, bf, au] (e1 b2) (L.2 _ (si h))
theorem Bbc (G : Ay Rx P) {y a0 a1 a2} (E : A1j C F y) (h : Ex a0 a1 a2 = some y) : Ax Rx P C F A3b (Bad a0 a1 a2) := by
 unfold Ex at h
 obtain ⟨r1, hi, h⟩ := bind_some h
 refine sg G [r0, r0, r0, en] tt (lg (Axc G E) hi ?_)
 obtain ⟨r3, hi, h⟩ := bind_some h
 refine sg G [r0, .weak [.own (.slot 9) 0 7000900 45 63], r0, en] tt (lg (Az7 G E) hi ?_)
 have e := sj h; subst e
 exact se G E [r0, au, .weak [.fix (.slot 6)]] tt
theorem As4 : MT 69 Ato := show Be Rx _ _ _ from mt (fn := Tryz.f69) (S := λ x => Bad x.1 x.2.1 x.2.2.1) (GB ⟨P9, Agw, trivial⟩ trivial) λ G _ _ _ _ => Bbc G
noncomputable abbrev Rs : Env := EV [(65, Ae9), (68, Aqv), (69, Ato)] [] false
noncomputable def A5a := c0 Tryz.f45
noncomputable def Atf : FS yzE := ⟨[(.sl (.sl (.nm 6))), (.int .i64), (.sl (.nm 6))], [(.sl (.nm 6)), (.sl (.sl (.nm 6))), .bool], [], [], λ x => Option.map (λ r => (r.1, r.2.1, r.2.2, ())) (De x.1 x.2.1 x.2.2.1)⟩
noncomputable def Atw := ct [0, 0, 0, 1] A5a
noncomputable def A4e := ct [0, 2, 4] Atw
noncomputable def Api := ct [0, 0, 1] A4e
noncomputable def A57 := ct [0, 2, 4] Api
noncomputable def Aqh := ct [0, 0, 1] A57
noncomputable def Bdj := ct [0, 2, 4] Aqh
abbrev A2n (C : Ctx) (F : FT) (y : ((List Aa) × (List (List Aa)) × Bool)) : Prop := En Rs C F Tryz.f45 Atf (y.1, y.2.1, y.2.2, ())
def Axd (a1 : Int) (r1 : (List (List Aa))) : ST := ⟨87, [oi 1 a1, ol 9 (.ar 17 0)], [bw 17 45 63 (.nm 6) r1]⟩
def A0f (a1 : Int) (y1 : ((List (List Aa)) × (List Int))) (r2 : Unit) : ST := ⟨87, [oi 1 a1, os 9 (.sl (.nm 6)) y1.1, os 11 (.int .i64) y1.2], []⟩
def A0w (a1 : Int) (y1 : ((List (List Aa)) × (List Int))) (r3 : List Aa) : ST := ⟨87, [oi 1 a1, os 9 (.sl (.nm 6)) y1.1, os 11 (.int .i64) y1.2, ol 13 (.ar 62 0)], [ba 62 63 (.nm 6) r3]⟩
def Au8 (a0 : (List (List Aa))) (a1 : Int) (a2 : List Aa) (v : Int × (List (List Aa))) : ST := ⟨87, [os 0 (.sl (.nm 6)) a0, oi 1 a1, os 2 (.nm 6) a2, ol 9 (.ar 17 0), oi 10 v.1], [bw 17 45 63 (.nm 6) v.2]⟩
def Auw (a1 : Int) (y1 : ((List (List Aa)) × (List Int))) (v : Int) : ST := ⟨87, [oi 1 a1, os 9 (.sl (.nm 6)) y1.1, os 11 (.int .i64) y1.2, oi 12 v], []⟩
def Auv (a1 : Int) (y1 : ((List (List Aa)) × (List Int))) (v : Int × (List Aa)) : ST := ⟨87, [oi 1 a1, os 9 (.sl (.nm 6)) y1.1, os 11 (.int .i64) y1.2, ol 13 (.ar 62 0), oi 14 v.1], [ba 62 63 (.nm 6) v.2]⟩
def Ba4 (a0 : (List (List Aa))) (a1 : Int) (a2 : List Aa) : ST := ⟨87, [os 0 (.sl (.nm 6)) a0, oi 1 a1, os 2 (.nm 6) a2], []⟩
theorem Ax9 (G : Ay Rs P) {y a0 a1 a2} (E : A2n C F y) (v : Int × (List (List Aa))) o (h : Ff a0 a1 a2 v.1 v.2 = some o) (L : LP Rs P C F Atw (Au8 a0 a1 a2) (GX Rs P C F A4e (Axd a1)) o) : Ax Rs P C F Atw (Au8 a0 a1 a2 v) := by
 unfold Ff at h
 rcases Ag h with ⟨b1, h⟩ | ⟨b1, h⟩
 · obtain ⟨c4, c5, c6, c7, h⟩ := ns4 h
   obtain ⟨c8, h⟩ := Am h
   exact sg G [r0, bt, r0, r0, en, .weak [.re 17 17 0]] (e6 b1 c4 c5 c6 c7 c8) (L.1 _ (si h))
 · exact sg G [r0, bf, au] (e1 b1) (L.2 _ (si h))
theorem Ayi (G : Ay Rs P) {y a1 y1} (E : A2n C F y) (v : Int) o (h : Dp a1 y1 v = some o) (L : LP Rs P C F Api (Auw a1 y1) (Sum.elim (GX Rs P C F A57 (A0f a1 y1)) (RX y)) o) : Ax Rs P C F Api (Auw a1 y1 v) := by
 unfold Dp at h
 rcases Ag h with ⟨b2, h⟩ | ⟨b2, h⟩
 · obtain ⟨c10, c11, h⟩ := ns2 h
   obtain ⟨y2, c12, h⟩ := bind_some h
   rcases Ag h with ⟨b3, h⟩ | ⟨b3, h⟩
   · have e : _ = y := L.2 _ (si h); subst e
     exact se G E [r0, bt, rc 7 (rs .bool y2), bt, r0, au] (e5 b2 c10 c11 (ca c12) b3)
   · exact sg G [r0, bt, rc 7 (rs .bool y2), bf, r0, en] (e5 b2 c10 c11 (ca c12) b3) (L.1 _ (si h))
 · exact sg G [r0, bf, au] (e1 b2) (L.2 _ (si h))
theorem A14 (G : Ay Rs P) {y a1 y1} (E : A2n C F y) (v : Int × (List Aa)) o (h : Fk a1 y1 v.1 v.2 = some o) (L : LP Rs P C F Aqh (Auv a1 y1) (GX Rs P C F Bdj (A0w a1 y1)) o) : Ax Rs P C F Aqh (Auv a1 y1 v) := by
 unfold Fk at h
 rcases Ag h with ⟨b4, h⟩ | ⟨b4, h⟩
 · obtain ⟨c16, c17, c18, c19, h⟩ := ns4 h
   exact sg G [r0, bt, r0, r0, en] (e5 b4 c16 c17 c18 c19) (L.1 _ (si h))
 · exact sg G [r0, bf, au] (e1 b4) (L.2 _ (si h))
theorem Bee (G : Ay Rs P) {y a0 a1 a2} (E : A2n C F y) (h : De a0 a1 a2 = some y) : Ax Rs P C F A5a (Ba4 a0 a1 a2) := by
 unfold De at h
 obtain ⟨c1, c2, c3, h⟩ := ns3 h
 obtain ⟨r1, hi, h⟩ := bind_some h
 refine sg G [r0, rc 2 .own, r0, en] (e3 c1 c2 c3) (lg (Ax9 G E) hi ?_)
 obtain ⟨y1, c9, h⟩ := bind_some h
 obtain ⟨r, hi, h⟩ := bind_some h
 refine sg G [rc 2 (rt (.sl (.sl (.nm 6))) (.sl (.int .i64)) y1), r0, en] (e1 (cb c9)) (lg (Ayi G E) hi ?_)
 rcases r with r2 | r4
 · obtain ⟨c13, c14, c15, h⟩ := ns3 h
   obtain ⟨r3, hi, h⟩ := bind_some h
   refine sg G [r0, r0, en] (e3 c13 c14 c15) (lg (A14 G E) hi ?_)
   obtain ⟨y3, c20, h⟩ := bind_some h
   have e := sj h; subst e
   exact se G E [rc 4 (rs (.sl (.sl (.nm 6))) y3), au, .weak [.fix (.slot 6)]] (e1 (ca c20))
 · exact sj h
theorem Av8 : MT 45 Atf := show Be Rs _ _ _ from mt (fn := Tryz.f45) (S := λ x => Ba4 x.1 x.2.1 x.2.2.1) (GB ⟨Zc, Arf, As4, trivial⟩ trivial) λ G _ _ _ _ => Bee G
noncomputable abbrev I7 : Env := EV [(26, Te), (27, Aa7), (28, Aa9), (33, Akb), (34, Yi), (35, Aam), (38, Agl), (45, Atf)] [] false
noncomputable def A5o := c0 Tryz.f18
noncomputable def Afe : FS yzE := f1 [(.nm 2), (.sl (.nm 6)), .bool] (.sl (.nm 6)) λ x => Ct x.1 x.2.1 x.2.2.1
noncomputable def Av0 := ct [0, 0, 0, 0, 1] A5o
noncomputable def A3m := ct [0, 2, 4] Av0
noncomputable def Yb := ct [0, 1] A3m
noncomputable def A4d := ct [0, 3, 0, 0, 2, 0, 0, 4] Yb
noncomputable def A4s := ct [0, 4] A4d
noncomputable def Bhg := ct [0, 3, 0, 0, 4] A4s
noncomputable def Af6 := ct [0, 2, 4] Yb
noncomputable def Agj := ct [0, 1] Af6
noncomputable def Bb3 := ct [0, 3, 0, 3, 0, 0, 0, 4] Agj
noncomputable def Atr := ct [0, 2, 4] Agj
abbrev Agn (C : Ctx) (F : FT) (y : List Aa) : Prop := En I7 C F Tryz.f18 Afe (y, ())
def Axb (a0 : An) (a1 : List Aa) (a2 : Bool) (y1 : List Int) (r1 : (List (List Aa))) : ST := ⟨198, [ol 2 (.bool a2), op 3, oi 7 a0.Nodes, os 8 (.int .i64) y1, ol 9 (.ar 26 0), ol 10 (.ar 28 0)], [bc 3 (A1 a0), bw 26 45 63 (.nm 6) r1, ba 28 63 (.nm 6) a1]⟩
def Wp (a0 : An) (y1 : List Int) (r2 : ((List (List Aa)) × (List Aa))) : ST := ⟨198, [oi 7 a0.Nodes, os 8 (.int .i64) y1, ol 9 (.ar 26 0), ol 10 (.ar 28 0)], [bw 26 45 63 (.nm 6) r2.1, ba 28 63 (.nm 6) r2.2]⟩
def Alj (a0 : An) (r3 : ((List (List Aa)) × (List Aa))) : ST := ⟨198, [oi 7 a0.Nodes, ol 9 (.ar 26 0), ol 10 (.ar 28 0)], [bw 26 45 63 (.nm 6) r3.1, ba 28 63 (.nm 6) r3.2]⟩
def Aor (a0 : An) (a1 : List Aa) (a2 : Bool) (y1 : List Int) (v : Int × (List (List Aa))) : ST := ⟨198, [ol 2 (.bool a2), op 3, oi 7 a0.Nodes, os 8 (.int .i64) y1, ol 9 (.ar 26 0), ol 10 (.ar 28 0), oi 11 v.1], [bc 3 (A1 a0), bw 26 45 63 (.nm 6) v.2, ba 28 63 (.nm 6) a1]⟩
def A6p (a0 : An) (a2 : Bool) (v4 : Int) (v8 : (List (List Aa))) (v9 : List Aa) (y1 : List Int) : ST := ⟨198, [ol 2 (.bool a2), op 3, oi 7 a0.Nodes, os 8 (.int .i64) y1, ol 9 (.ar 26 0), ol 10 (.ar 28 0), oi 12 v4], [bc 3 (A1 a0), bw 26 45 63 (.nm 6) v8, ba 28 63 (.nm 6) v9]⟩
def A74 (a0 : An) (a2 : Bool) (v4 : Int) (v6 : List Aa) (v8 : (List (List Aa))) (y1 : List Int) (y3 : Aa) : ST := ⟨198, [ol 2 (.bool a2), op 3, oi 7 a0.Nodes, os 8 (.int .i64) y1, ol 9 (.ar 26 0), ol 10 (.ar 28 0), oi 12 v4, op 13, op 14], [bc 3 (A1 a0), bc 13 (Mb (List.getD a0.Arms v4.toNat Ac)), bc 14 (A9 y3), bw 26 45 63 (.nm 6) v8, ba 28 63 (.nm 6) v6]⟩
def A7y (a0 : An) (a2 : Bool) (v4 : Int) (v6 : List Aa) (v7 : (List (List Aa))) (y1 : List Int) (y3 : Aa) : ST := ⟨198, [ol 2 (.bool a2), op 3, oi 7 a0.Nodes, os 8 (.int .i64) y1, ol 9 (.ar 26 0), ol 10 (.ar 28 0), oi 12 v4, op 13, op 14], [bc 3 (A1 a0), bc 13 (Mb (List.getD a0.Arms v4.toNat Ac)), bc 14 (A9 y3), bw 26 45 63 (.nm 6) v7, ba 28 63 (.nm 6) v6]⟩
def Xv (a0 : An) (a2 : Bool) (y1 : List Int) (v : Int × (List (List Aa)) × (List Aa)) : ST := ⟨198, [ol 2 (.bool a2), op 3, oi 7 a0.Nodes, os 8 (.int .i64) y1, ol 9 (.ar 26 0), ol 10 (.ar 28 0), oi 12 v.1], [bc 3 (A1 a0), bw 26 45 63 (.nm 6) v.2.1, ba 28 63 (.nm 6) v.2.2]⟩
def A7s (a0 : An) (v12 : Int) (v15 : (List (List Aa))) (v16 : List Aa) (y1 : List Int) : ST := ⟨198, [oi 7 a0.Nodes, os 8 (.int .i64) y1, ol 9 (.ar 26 0), ol 10 (.ar 28 0), oi 16 v12], [bw 26 45 63 (.nm 6) v15, ba 28 63 (.nm 6) v16]⟩
def Aii (a0 : An) (y1 : List Int) (v : Int × (List (List Aa)) × (List Aa)) : ST := ⟨198, [oi 7 a0.Nodes, os 8 (.int .i64) y1, ol 9 (.ar 26 0), ol 10 (.ar 28 0), oi 16 v.1], [bw 26 45 63 (.nm 6) v.2.1, ba 28 63 (.nm 6) v.2.2]⟩
def Bd4 (a0 : An) (a1 : List Aa) (a2 : Bool) : ST := ⟨198, [og 0 (A1 a0), os 1 (.nm 6) a1, ol 2 (.bool a2)], []⟩
theorem A1o (G : Ay I7 P) {y a0 a1 a2 y1} (E : Agn C F y) (v : Int × (List (List Aa))) o (h : Gb a0 a1 a2 y1 v.1 v.2 = some o) (L : LP I7 P C F Av0 (Aor a0 a1 a2 y1) (GX I7 P C F A3m (Axb a0 a1 a2 y1)) o) : Ax I7 P C F Av0 (Aor a0 a1 a2 y1 v) := by
 unfold Gb at h
 rcases Ag h with ⟨b1, h⟩ | ⟨b1, h⟩
 · obtain ⟨c6, c7, c8, c9, h⟩ := ns4 h
   exact sg G [r0, bt, r0, r0, en, .weak [.re 26 26 0]] (e5 b1 c6 c7 c8 c9) (L.1 _ (si h))
 · exact sg G [r0, bf, au] (e1 b1) (L.2 _ (si h))
theorem Aj0 (G : Ay I7 P) {y o a0 a2 v4 v8 v9 y1} (E : Agn C F y) (h : Eu a0 a2 v4 v8 v9 y1 = some o) (L : LP I7 P C F Yb (Xv a0 a2 y1) (GX I7 P C F Af6 (Wp a0 y1)) o) : Ax I7 P C F Bhg (A6p a0 a2 v4 v8 v9 y1) := by
 unfold Eu at h
 exact sg G [r0, en] tt (L.1 _ (si h))
theorem A0a (G : Ay I7 P) {y o a0 a2 v4 v6 v8 y1 y3} (E : Agn C F y) (h : F8 a0 a2 v4 v6 v8 y1 y3 = some o) (L : LP I7 P C F Yb (Xv a0 a2 y1) (GX I7 P C F Af6 (Wp a0 y1)) o) : Ax I7 P C F A4s (A74 a0 a2 v4 v6 v8 y1 y3) := by
 unfold F8 at h
 rcases Ag h with ⟨b4, h⟩ | ⟨b4, h⟩
 · obtain ⟨y8, c33, h⟩ := bind_some h
   obtain ⟨y9, c34, h⟩ := bind_some h
   obtain ⟨c35, h⟩ := Am h
   obtain ⟨y10, c36, h⟩ := bind_some h
   obtain ⟨c37, h⟩ := Am h
   obtain ⟨y11, c38, h⟩ := bind_some h
   obtain ⟨c39, c40, h⟩ := ns2 h
   exact sg G [r0, bt, .reg [(2, rs (.nm 6) y8), (4, rs (.nm 6) y9)], .reg [(12, rs (.nm 6) y10), (19, rs (.nm 6) y11)], au] (q6 b4 (ca c33) (ca c34) c35 (ca c36) c37 <| e3 (ca c38) c39 c40) (Aj0 G E h L)
 · exact sg G [r0, bf, au] (e1 b4) (Aj0 G E h L)
theorem A2j (G : Ay I7 P) {y o a0 a2 v4 v6 v7 y1 y3} (E : Agn C F y) (h : Ga a0 a2 v4 v6 v7 y1 y3 = some o) (L : LP I7 P C F Yb (Xv a0 a2 y1) (GX I7 P C F Af6 (Wp a0 y1)) o) : Ax I7 P C F A4d (A7y a0 a2 v4 v6 v7 y1 y3) := by
 unfold Ga at h
 obtain ⟨c23, c24, c25, c26, h⟩ := ns4 h
 obtain ⟨y6, c27, h⟩ := bind_some h
 obtain ⟨c28, c29, h⟩ := ns2 h
 obtain ⟨y7, c30, h⟩ := bind_some h
 obtain ⟨c31, c32, h⟩ := ns2 h
 exact sg G [.reg [(24, rs (.nm 6) y6), (35, rs (.nm 6) y7)], au] (q6 c23 c24 c25 c26 (ca c27) c28 <| e4 c29 (ca c30) c31 c32) (A0a G E h L)
theorem A1i (G : Ay I7 P) {y a0 a2 y1} (E : Agn C F y) (v : Int × (List (List Aa)) × (List Aa)) o (h : Ev a0 a2 y1 v.1 v.2.1 v.2.2 = some o) (L : LP I7 P C F Yb (Xv a0 a2 y1) (GX I7 P C F Af6 (Wp a0 y1)) o) : Ax I7 P C F Yb (Xv a0 a2 y1 v) := by
 unfold Ev at h
 rcases Ag h with ⟨b2, h⟩ | ⟨b2, h⟩
 · obtain ⟨c10, h⟩ := Am h
   rcases Ag h with ⟨b3, h⟩ | ⟨b3, h⟩
   · exact sg G [r0, bt, r0, r0, bt, r0, en] (e3 b2 c10 b3) (L.1 _ (si h))
   · obtain ⟨y2, c11, h⟩ := bind_some h
     obtain ⟨y3, c12, h⟩ := bind_some h
     obtain ⟨c13, c14, c15, c16, h⟩ := ns4 h
     obtain ⟨y4, c17, h⟩ := bind_some h
     obtain ⟨c18, c19, h⟩ := ns2 h
     obtain ⟨y5, c20, h⟩ := bind_some h
     obtain ⟨c21, c22, h⟩ := ns2 h
     exact sg G [r0, bt, r0, r0, bf, .reg [(2, rs (.nm 6) y2), (3, rs (.nm 6) y3)], .reg [(24, rs (.nm 6) y4), (35, rs (.nm 6) y5)], au] (q6 b2 c10 b3 (ca c11) (ca c12) c13 <| q6 c14 c15 c16 (ca c17) c18 c19 <| e3 (ca c20) c21 c22) (A2j G E h L)
 · exact sg G [r0, bf, au] (e1 b2) (L.2 _ (si h))
theorem Ajr (G : Ay I7 P) {y o a0 v12 v15 v16 y1} (E : Agn C F y) (h : Et a0 v12 v15 v16 y1 = some o) (L : LP I7 P C F Agj (Aii a0 y1) (GX I7 P C F Atr (Alj a0)) o) : Ax I7 P C F Bb3 (A7s a0 v12 v15 v16 y1) := by
 unfold Et at h
 exact sg G [r0, en] tt (L.1 _ (si h))
theorem A1f (G : Ay I7 P) {y a0 y1} (E : Agn C F y) (v : Int × (List (List Aa)) × (List Aa)) o (h : Gc a0 y1 v.1 v.2.1 v.2.2 = some o) (L : LP I7 P C F Agj (Aii a0 y1) (GX I7 P C F Atr (Alj a0)) o) : Ax I7 P C F Agj (Aii a0 y1 v) := by
 unfold Gc at h
 rcases Ag h with ⟨b5, h⟩ | ⟨b5, h⟩
 · obtain ⟨c41, h⟩ := Am h
   rcases Ag h with ⟨b6, h⟩ | ⟨b6, h⟩
   · obtain ⟨c42, c43, c44, h⟩ := ns3 h
     obtain ⟨y12, c45, h⟩ := bind_some h
     obtain ⟨c46, h⟩ := Am h
     obtain ⟨c47, c48, h⟩ := ns2 h
     exact sg G [r0, bt, r0, bt, r0, rc 2 (rs (.nm 6) y12), rc 2 .own, au, .weak [.re 26 26 0, .re 28 28 0]] (q6 b5 c41 b6 c42 c43 c44 <| e4 (ca c45) c46 c47 c48) (Ajr G E h L)
   · exact sg G [r0, bt, r0, bf, au] (e3 b5 c41 b6) (Ajr G E h L)
 · exact sg G [r0, bf, au] (e1 b5) (L.2 _ (si h))
theorem Bed (G : Ay I7 P) {y a0 a1 a2} (E : Agn C F y) (h : Ct a0 a1 a2 = some y) : Ax I7 P C F A5o (Bd4 a0 a1 a2) := by
 unfold Ct at h
 obtain ⟨y1, c1, h⟩ := bind_some h
 obtain ⟨c2, c3, c4, c5, h⟩ := ns4 h
 obtain ⟨r1, hi, h⟩ := bind_some h
 refine sg G [r0, rc 3 (rs (.sl (.int .i64)) y1), rc 1 .own, r0, en] (e5 (ca c1) c2 c3 c4 c5) (lg (A1o G E) hi ?_)
 obtain ⟨r2, hi, h⟩ := bind_some h
 refine sg G [r0, en] tt (lg (A1i G E) hi ?_)
 obtain ⟨r3, hi, h⟩ := bind_some h
 refine sg G [r0, en] tt (lg (A1f G E) hi ?_)
 obtain ⟨y13, c49, h⟩ := bind_some h
 have e := sj h; subst e
 exact se G E [rc 3 (.res ⟨[(.sl (.nm 6)), (.sl (.sl (.nm 6))), .bool], (y13.1, y13.2.1, y13.2.2, ())⟩), r0, au] (e1 (congrArg (Option.map (λ r => (r.1, r.2.1, r.2.2, ()))) c49))
theorem Ys : MT 18 Afe := show Be I7 _ _ _ from mt (fn := Tryz.f18) (S := λ x => Bd4 x.1 x.2.1 x.2.2.1) (GB ⟨L5, Uf, Uq, Aec, P9, Tl, Xj, Av8, trivial⟩ trivial) λ G _ _ _ _ => Bed G
noncomputable abbrev Af9 : Env := EV [] [] false
noncomputable def A3c := c0 Tryz.f70
noncomputable def Avq : FS yzE := f2 [(.nm 5)] (.int .i64) .bool λ x => Ch x.1
noncomputable def At7 := ct [0, 0, 2, 0, 0, 1] A3c
noncomputable def Bgw := ct [0, 2, 4] At7
abbrev Bhr (C : Ctx) (F : FT) (y : (Int × Bool)) : Prop := En Af9 C F Tryz.f70 Avq (y.1, y.2, ())
def Ay5 (a0 : Ad) (r1 : Int) : ST := ⟨40, [op 1, ol 4 (.int .u64 r1)], [bc 1 (A5 a0)]⟩
def Ao9 (a0 : Ad) (v : Int × Int) : ST := ⟨40, [op 1, ol 4 (.int .u64 v.1), oi 5 v.2], [bc 1 (A5 a0)]⟩
def Bf3 (a0 : Ad) : ST := ⟨40, [og 0 (A5 a0)], []⟩
theorem A2y (G : Ay Af9 P) {y a0} (E : Bhr C F y) (v : Int × Int) o (h : Es a0 v.1 v.2 = some o) (L : LP Af9 P C F At7 (Ao9 a0) (GX Af9 P C F Bgw (Ay5 a0)) o) : Ax Af9 P C F At7 (Ao9 a0 v) := by
 unfold Es at h
 rcases Ag h with ⟨b2, h⟩ | ⟨b2, h⟩
 · obtain ⟨c1, c2, h⟩ := ns2 h
   exact sg G [r0, bt, r0, r0, en] (e3 b2 c1 c2) (L.1 _ (si h))
 · exact sg G [r0, bf, au] (e1 b2) (L.2 _ (si h))
theorem Bdq (G : Ay Af9 P) {y a0} (E : Bhr C F y) (h : Ch a0 = some y) : Ax Af9 P C F A3c (Bf3 a0) := by
 unfold Ch at h
 rcases Ag h with ⟨b1, h⟩ | ⟨b1, h⟩
 · have e := sj h; subst e
   exact se G E [r0, r0, bt, r0, au] (e1 b1)
 · obtain ⟨r1, hi, h⟩ := bind_some h
   refine sg G [r0, r0, bf, r0, r0, en] (e1 b1) (lg (A2y G E) hi ?_)
   rcases Ag h with ⟨b3, h⟩ | ⟨b3, h⟩
   · have e := sj h; subst e
     exact se G E [r0, bt, r0, au] (e1 b3)
   · have e := sj h; subst e
     exact se G E [r0, bf, r0, au] (e1 b3)
theorem Ar5 : MT 70 Avq := show Be Af9 _ _ _ from mt (fn := Tryz.f70) (S := λ x => Bf3 x.1) (GB trivial trivial) λ G _ _ _ _ => Bdq G
noncomputable abbrev Aob : Env := EV [(53, Zd), (70, Avq)] [] false
noncomputable def A3n := c0 Tryz.f46
noncomputable def Ajs : FS yzE := f2 [(.nm 6)] (.nm 0) .bool λ x => Ey x.1
noncomputable def Ba8 := ct [0, 0, 0, 0, 3, 4] A3n
abbrev Bjb (C : Ctx) (F : FT) (y : (Au × Bool)) : Prop := En Aob C F Tryz.f46 Ajs (y.1, y.2, ())
def A6r : ST := ⟨42, [op 2], [bc 2 [.int .i64 (0 : Int), .int .i64 (0 : Int)]]⟩
def Bg2 (a0 : Aa) : ST := ⟨42, [og 0 (A9 a0)], []⟩
theorem Ua (G : Ay Aob P) {y} (E : Bjb C F y) (h : Cw = some y) : Ax Aob P C F Ba8 A6r := by
 unfold Cw at h
 have e := sj h; subst e
 exact se G E [r0, au] tt
theorem Bg1 (G : Ay Aob P) {y a0} (E : Bjb C F y) (h : Ey a0 = some y) : Ax Aob P C F A3n (Bg2 a0) := by
 unfold Ey at h
 obtain ⟨y1, c1, h⟩ := bind_some h
 obtain ⟨y2, c2, h⟩ := bind_some h
 obtain ⟨y3, c3, h⟩ := bind_some h
 rcases Ag h with ⟨b1, h⟩ | ⟨b1, h⟩
 · exact sg G [r0, rc 2 (rt (.int .i64) .bool y1), .reg [(1, rs (.nm 5) y2), (2, rt (.int .i64) .bool y3)], ru [2, 5, 6, 9, 10, 13, 14, 17], bt, au] (q3 (cb c1) (ca c2) (cb c3) <| ar 3 b1 <| ar 10 rT <| tt) (Ua G E h)
 · rcases Ag h with ⟨b2, h⟩ | ⟨b2, h⟩
   · exact sg G [r0, rc 2 (rt (.int .i64) .bool y1), .reg [(1, rs (.nm 5) y2), (2, rt (.int .i64) .bool y3)], rb [2, 5] [6, 9, 10, 13, 14, 17], bt, au] (q3 (cb c1) (ca c2) (cb c3) <| ar 3 b1 <| ar 3 b2 <| ar 7 rT <| tt) (Ua G E h)
   · rcases Ag h with ⟨b3, h⟩ | ⟨b3, h⟩
     · exact sg G [r0, rc 2 (rt (.int .i64) .bool y1), .reg [(1, rs (.nm 5) y2), (2, rt (.int .i64) .bool y3)], rb [2, 5, 6, 9] [10, 13, 14, 17], bt, au] (q3 (cb c1) (ca c2) (cb c3) <| ar 3 b1 <| ar 3 b2 <| ar 3 b3 <| ar 4 rT <| tt) (Ua G E h)
     · rcases Ag h with ⟨b4, h⟩ | ⟨b4, h⟩
       · exact sg G [r0, rc 2 (rt (.int .i64) .bool y1), .reg [(1, rs (.nm 5) y2), (2, rt (.int .i64) .bool y3)], rb [2, 5, 6, 9, 10, 13] [14, 17], bt, au] (q3 (cb c1) (ca c2) (cb c3) <| ar 3 b1 <| ar 3 b2 <| ar 3 b3 <| ar 3 b4 <| e1 rT) (Ua G E h)
       · rcases Ag h with ⟨b5, h⟩ | ⟨b5, h⟩
         · exact sg G [r0, rc 2 (rt (.int .i64) .bool y1), .reg [(1, rs (.nm 5) y2), (2, rt (.int .i64) .bool y3)], rf [2, 5, 6, 9, 10, 13, 14, 17], bt, au] (q3 (cb c1) (ca c2) (cb c3) <| ar 3 b1 <| ar 3 b2 <| ar 3 b3 <| ar 3 b4 <| e1 b5) (Ua G E h)
         · have e := sj h; subst e
           exact se G E [r0, rc 2 (rt (.int .i64) .bool y1), .reg [(1, rs (.nm 5) y2), (2, rt (.int .i64) .bool y3)], rf [2, 5, 6, 9, 10, 13, 14, 17], bf, r0, au] (q3 (cb c1) (ca c2) (cb c3) <| ar 3 b1 <| ar 3 b2 <| ar 3 b3 <| ar 3 b4 <| e1 b5)
theorem Afb : MT 46 Ajs := show Be Aob _ _ _ from mt (fn := Tryz.f46) (S := λ x => Bg2 x.1) (GB ⟨P4, Ar5, trivial⟩ trivial) λ G _ _ _ _ => Bg1 G
noncomputable abbrev Afl : Env := EV [(46, Ajs)] [] false
noncomputable def A41 := c0 Tryz.f19
noncomputable def Arb : FS yzE := f2 [(.sl (.nm 6))] (.sl (.nm 0)) .bool λ x => Ec x.1
noncomputable def Ao6 := ct [0, 0, 0, 1] A41
noncomputable def Bc6 := ct [0, 2, 4] Ao6
abbrev Bhe (C : Ctx) (F : FT) (y : ((List Au) × Bool)) : Prop := En Afl C F Tryz.f19 Arb (y.1, y.2, ())
def A0z (r1 : List Au) : ST := ⟨29, [ol 4 (.ar 27 0)], [ba 27 31 (.nm 0) r1]⟩
def Aps (a0 : List Aa) (v : Int × (List Au)) : ST := ⟨29, [os 0 (.nm 6) a0, ol 4 (.ar 27 0), oi 5 v.1], [ba 27 31 (.nm 0) v.2]⟩
def Bii (a0 : List Aa) : ST := ⟨29, [os 0 (.nm 6) a0], []⟩
theorem A0j (G : Ay Afl P) {y a0} (E : Bhe C F y) (v : Int × (List Au)) o (h : Gx a0 v.1 v.2 = some o) (L : LP Afl P C F Ao6 (Aps a0) (Sum.elim (GX Afl P C F Bc6 A0z) (RX y)) o) : Ax Afl P C F Ao6 (Aps a0 v) := by
 unfold Gx at h
 rcases Ag h with ⟨b1, h⟩ | ⟨b1, h⟩
 · obtain ⟨c1, h⟩ := Am h
   obtain ⟨y1, c2, h⟩ := bind_some h
   rcases Ag h with ⟨b2, h⟩ | ⟨b2, h⟩
   · have e : _ = y := L.2 _ (si h); subst e
     exact se G E [r0, bt, rc 4 (rt (.nm 0) .bool y1), r0, bt, r0, au] (e4 b1 c1 (cb c2) b2)
   · obtain ⟨c3, h⟩ := Am h
     exact sg G [r0, bt, rc 4 (rt (.nm 0) .bool y1), r0, bf, r0, r0, en, .weak [.re 27 27 0]] (e5 b1 c1 (cb c2) b2 c3) (L.1 _ (si h))
 · exact sg G [r0, bf, au] (e1 b1) (L.2 _ (si h))
theorem Biy (G : Ay Afl P) {y a0} (E : Bhe C F y) (h : Ec a0 = some y) : Ax Afl P C F A41 (Bii a0) := by
 unfold Ec at h
 obtain ⟨r, hi, h⟩ := bind_some h
 refine sg G [r0, r0, r0, en, .weak [.own (.slot 4) 0 27 31 0]] tt (lg (A0j G E) hi ?_)
 rcases r with r1 | r2
 · have e := sj h; subst e
   exact se G E [r0, au, .weak [.fix (.slot 2)]] tt
 · exact sj h
theorem Asu : MT 19 Arb := show Be Afl _ _ _ from mt (fn := Tryz.f19) (S := λ x => Bii x.1) (GB ⟨Afb, trivial⟩ trivial) λ G _ _ _ _ => Biy G
end
end Go.Ab
