/- The functions compute what the plain functions tell. Conditions: none beyond those that each theorem names. -/
import Derived.Test.YtjdgmcngpiookaaGreatS14
namespace Go.Ab
open Go Go.Proofs
set_option linter.unusedVariables false
section
variable {P : Program} {C : Ctx} {F : Act -> World -> Prop}
noncomputable abbrev Ro : Env := EV [(21, Pw), (64, Ama), (92, Ar2), (93, Aui), (94, Alb), (95, Avz)] [] false
noncomputable def A4b := c0 Tryz.f61
noncomputable def Aom : FS yzE := ⟨[(.nm 7), (.sl (.nm 4))], [(.sl (.nm 4)), (.sl (.sl (.nm 4))), .bool], [], [], λ x => Option.map (λ r => (r.1, r.2.1, r.2.2, ())) (Oc x.1 x.2.1)⟩
noncomputable def Aum := ct [0, 0, 0, 1] A4b
noncomputable def A3p := ct [0, 2, 4] Aum
noncomputable def Au3 := ct [0, 0, 1] A3p
noncomputable def A3a := ct [0, 2, 4] Au3
noncomputable def Atx := ct [0, 1] A3a
noncomputable def Bbk := ct [0, 2, 4] Atx
abbrev Azt (C : Ctx) (F : FT) (y : ((List Al) × (List (List Al)) × Bool)) : Prop := En Ro C F Tryz.f61 Aom (y.1, y.2.1, y.2.2, ())
def A0m (a0 : QmM) (y3 : (QmM × (List Int) × Al)) (r1 : Unit) : ST := ⟨85, [op 2, op 7, os 8 (.int .i64) y3.2.1], [bc 2 (Cr a0), bc 7 (Cr y3.1)]⟩
def Axs (a0 : QmM) (y3 : (QmM × (List Int) × Al)) (r2 : List Al) : ST := ⟨85, [op 2, op 7, os 8 (.int .i64) y3.2.1, ol 11 (.ar 48 0)], [bc 2 (Cr a0), bc 7 (Cr y3.1), ba 48 53 (.nm 4) r2]⟩
def Ayu (a0 : QmM) (y3 : (QmM × (List Int) × Al)) (r3 : List Al) : ST := ⟨85, [op 2, op 7, os 8 (.int .i64) y3.2.1, ol 11 (.ar 48 0)], [bc 2 (Cr a0), bc 7 (Cr y3.1), ba 48 53 (.nm 4) r3]⟩
def Avh (a0 : QmM) (y3 : (QmM × (List Int) × Al)) (v : Int) : ST := ⟨85, [op 2, op 7, os 8 (.int .i64) y3.2.1, oi 10 v], [bc 2 (Cr a0), bc 7 (Cr y3.1)]⟩
def Avb (a0 : QmM) (y3 : (QmM × (List Int) × Al)) (v : Int × Int × (List Al)) : ST := ⟨85, [op 2, op 7, os 8 (.int .i64) y3.2.1, ol 11 (.ar 48 0), oi 50 v.1, oi 51 v.2.1], [bc 2 (Cr a0), bc 7 (Cr y3.1), ba 48 53 (.nm 4) v.2.2]⟩
def Apm (a0 : QmM) (y3 : (QmM × (List Int) × Al)) (v : Int × (List Al)) : ST := ⟨85, [op 2, op 7, os 8 (.int .i64) y3.2.1, ol 11 (.ar 48 0), os 59 (.int .i64) y3.2.1, oi 60 (y3.2.1.length : Int), oi 61 v.1], [bc 2 (Cr a0), bc 7 (Cr y3.1), ba 48 53 (.nm 4) v.2]⟩
def Bck (a0 : QmM) (a1 : List Al) : ST := ⟨85, [og 0 (Cr a0), os 1 (.nm 4) a1], []⟩
theorem A0s (G : Ay Ro P) {y a0 y3} (E : Azt C F y) (v : Int) o (h : L4 a0 y3 v = some o) (L : LP Ro P C F Aum (Avh a0 y3) (Sum.elim (GX Ro P C F A3p (A0m a0 y3)) (RX y)) o) : Ax Ro P C F Aum (Avh a0 y3 v) := by
 unfold L4 at h
 rcases Ag h with ⟨b1, h⟩ | ⟨b1, h⟩
 · obtain ⟨c4, c5, h⟩ := ns2 h
   obtain ⟨y4, c6, h⟩ := bind_some h
   rcases Ag h with ⟨b2, h⟩ | ⟨b2, h⟩
   · have e : _ = y := L.2 _ (si h); subst e
     exact se G E [r0, bt, rc 9 (rs .bool y4), bt, r0, au] (e5 b1 c4 c5 (ca c6) b2)
   · exact sg G [r0, bt, rc 9 (rs .bool y4), bf, r0, en] (e5 b1 c4 c5 (ca c6) b2) (L.1 _ (si h))
 · exact sg G [r0, bf, au] (e1 b1) (L.2 _ (si h))
theorem Azw (G : Ay Ro P) {y a0 y3} (E : Azt C F y) (v : Int × Int × (List Al)) o (h : Mm a0 y3 v.1 v.2.1 v.2.2 = some o) (L : LP Ro P C F Au3 (Avb a0 y3) (GX Ro P C F A3a (Axs a0 y3)) o) : Ax Ro P C F Au3 (Avb a0 y3 v) := by
 unfold Mm at h
 rcases Ag h with ⟨b3, h⟩ | ⟨b3, h⟩
 · obtain ⟨y5, c10, h⟩ := bind_some h
   obtain ⟨c11, h⟩ := Am h
   exact sg G [r0, bt, r0, rc 2 (rs (.nm 4) y5), r0, en] (e3 b3 (ca c10) c11) (L.1 _ (si h))
 · exact sg G [r0, bf, au] (e1 b3) (L.2 _ (si h))
theorem Azq (G : Ay Ro P) {y a0 y3} (E : Azt C F y) (v : Int × (List Al)) o (h : Pc a0 y3 v.1 v.2 = some o) (L : LP Ro P C F Atx (Apm a0 y3) (GX Ro P C F Bbk (Ayu a0 y3)) o) : Ax Ro P C F Atx (Apm a0 y3 v) := by
 unfold Pc at h
 rcases Ag h with ⟨b4, h⟩ | ⟨b4, h⟩
 · obtain ⟨c12, h⟩ := Am h
   obtain ⟨c13, c14, c15, h⟩ := ns3 h
   exact sg G [r0, bt, r0, r0, r0, en] (e5 b4 c12 c13 c14 c15) (L.1 _ (si h))
 · exact sg G [r0, bf, au] (e1 b4) (L.2 _ (si h))
theorem Bff (G : Ay Ro P) {y a0 a1} (E : Azt C F y) (h : Oc a0 a1 = some y) : Ax Ro P C F A4b (Bck a0 a1) := by
 unfold Oc at h
 obtain ⟨y1, c1, h⟩ := bind_some h
 obtain ⟨y2, c2, h⟩ := bind_some h
 obtain ⟨y3, c3, h⟩ := bind_some h
 obtain ⟨r, hi, h⟩ := bind_some h
 refine sg G [r0, .reg [(2, rs (.nm 7) y1), (3, rs (.nm 7) y2), (6, .res ⟨[(.nm 7), (.sl (.int .i64)), (.nm 4)], (y3.1, y3.2.1, y3.2.2, ())⟩)], r0, en] (e3 (ca c1) (ca c2) (congrArg (Option.map (λ r => (r.1, r.2.1, r.2.2, ()))) c3)) (lg (A0s G E) hi ?_)
 rcases r with r1 | r4
 · obtain ⟨c7, c8, c9, h⟩ := ns3 h
   obtain ⟨r2, hi, h⟩ := bind_some h
   refine sg G [r0, r0, en] (e3 c7 c8 c9) (lg (Azw G E) hi ?_)
   obtain ⟨r3, hi, h⟩ := bind_some h
   refine sg G [r0, en] tt (lg (Azq G E) hi ?_)
   obtain ⟨y6, c16, h⟩ := bind_some h
   have e := sj h; subst e
   exact se G E [rc 5 (rs (.sl (.sl (.nm 4))) y6), au, .weak [.fix (.slot 4)]] (e1 (ca c16))
 · exact sj h
theorem Auj : MT 61 Aom := show Be Ro _ _ _ from mt (fn := Tryz.f61) (S := λ x => Bck x.1 x.2.1) (GB ⟨Iz, Ag2, Aro, Av5, Agg, Atv, trivial⟩ trivial) λ G _ _ _ _ => Bff G
noncomputable abbrev Wa : Env := EV [(21, Pw), (30, Al0), (36, Amd), (60, Aji), (61, Aom)] [] false
noncomputable def A5j := c0 Tryz.f32
noncomputable def Alo : FS yzE := ⟨[(.nm 2), (.sl (.nm 4))], [(.sl (.nm 4))], [0, 53], [], λ x => Option.map (λ r => (r, ())) (Kj x.1 x.2.1)⟩
noncomputable def Ag6 := ct [0, 0, 0, 1] A5j
noncomputable def Bay := ct [0, 3, 0, 0, 3, 0, 0, 0, 4] Ag6
noncomputable def A5l := ct [0, 2, 4] Ag6
abbrev A9j (C : Ctx) (F : FT) (y : List Al) : Prop := En Wa C F Tryz.f32 Alo (y, ())
def Alp (y1 : QmM) (r1 : ((List Al) × (List (List Al)))) : ST := ⟨53, [ol 1 (.ar 1000001 0), op 5], [bc 5 [.int .i64 y1.C, .ar 1013 0], bw 1013 40 53 (.nm 4) r1.2, ba 1000001 53 (.nm 4) r1.1]⟩
def A9d (a0 : An) (v1 : Int) (v4 : List Al) (v5 : (List (List Al))) (y1 : QmM) (y2 : List Int) : ST := ⟨53, [ol 1 (.ar 1000001 0), op 2, op 5, os 15 (.int .i64) y2, oi 16 (y2.length : Int), oi 17 v1], [bc 2 (A1 a0), bc 5 [.int .i64 y1.C, .ar 1013 0], bw 1013 40 53 (.nm 4) v5, ba 1000001 53 (.nm 4) v4]⟩
def Ajd (a0 : An) (y1 : QmM) (y2 : List Int) (v : Int × (List Al) × (List (List Al))) : ST := ⟨53, [ol 1 (.ar 1000001 0), op 2, op 5, os 15 (.int .i64) y2, oi 16 (y2.length : Int), oi 17 v.1], [bc 2 (A1 a0), bc 5 [.int .i64 y1.C, .ar 1013 0], bw 1013 40 53 (.nm 4) v.2.2, ba 1000001 53 (.nm 4) v.2.1]⟩
def Bfe (a0 : An) (a1 : List Al) : ST := ⟨53, [og 0 (A1 a0), ol 1 (.ar 1000001 0)], [ba 1000001 53 (.nm 4) a1]⟩
theorem Alm (G : Ay Wa P) {y o a0 v1 v4 v5 y1 y2} (E : A9j C F y) (h : K8 a0 v1 v4 v5 y1 y2 = some o) (L : LP Wa P C F Ag6 (Ajd a0 y1 y2) (GX Wa P C F A5l (Alp y1)) o) : Ax Wa P C F Bay (A9d a0 v1 v4 v5 y1 y2) := by
 unfold K8 at h
 exact sg G [r0, en] tt (L.1 _ (si h))
theorem Azu (G : Ay Wa P) {y a0 y1 y2} (E : A9j C F y) (v : Int × (List Al) × (List (List Al))) o (h : Mu a0 y1 y2 v.1 v.2.1 v.2.2 = some o) (L : LP Wa P C F Ag6 (Ajd a0 y1 y2) (GX Wa P C F A5l (Alp y1)) o) : Ax Wa P C F Ag6 (Ajd a0 y1 y2 v) := by
 unfold Mu at h
 rcases Ag h with ⟨b1, h⟩ | ⟨b1, h⟩
 · obtain ⟨c3, h⟩ := Am h
   rcases Ag h with ⟨b2, h⟩ | ⟨b2, h⟩
   · obtain ⟨y3, c4, h⟩ := bind_some h
     obtain ⟨c5, h⟩ := Am h
     obtain ⟨y4, c6, h⟩ := bind_some h
     obtain ⟨c7, h⟩ := Am h
     obtain ⟨y5, c8, h⟩ := bind_some h
     obtain ⟨c9, c10, h⟩ := ns2 h
     exact sg G [r0, bt, r0, r0, bt, rc 2 (rs (.nm 7) y3), rc 2 (rs (.nm 4) y4), rc 6 (rs (.nm 4) y5), au, .weak [.re 1013 1013 0]] (q6 b1 c3 b2 (ca c4) c5 (ca c6) <| e4 c7 (ca c8) c9 c10) (Alm G E h L)
   · exact sg G [r0, bt, r0, r0, bf, au] (e3 b1 c3 b2) (Alm G E h L)
 · exact sg G [r0, bf, au] (e1 b1) (L.2 _ (si h))
theorem Bif (G : Ay Wa P) {y a0 a1} (E : A9j C F y) (h : Kj a0 a1 = some y) : Ax Wa P C F A5j (Bfe a0 a1) := by
 unfold Kj at h
 obtain ⟨y1, c1, h⟩ := bind_some h
 obtain ⟨y2, c2, h⟩ := bind_some h
 obtain ⟨r1, hi, h⟩ := bind_some h
 refine sg G [r0, rc 1 (rs (.nm 7) y1), rc 1 (rs (.sl (.int .i64)) y2), en] (e2 (ca c1) (ca c2)) (lg (Azu G E) hi ?_)
 obtain ⟨y6, c11, h⟩ := bind_some h
 have e := sj h; subst e
 exact se G E [rc 2 (.res ⟨[(.sl (.nm 4)), (.sl (.sl (.nm 4))), .bool], (y6.1, y6.2.1, y6.2.2, ())⟩), r0, au] (e1 (congrArg (Option.map (λ r => (r.1, r.2.1, r.2.2, ()))) c11))
theorem Agf : MT 32 Alo := show Be Wa _ _ _ from mt (fn := Tryz.f32) (S := λ x => Bfe x.1 x.2.1) (GB ⟨Iz, Afh, Ads, Agi, Auj, trivial⟩ trivial) λ G _ _ _ _ => Bif G
noncomputable abbrev Rp : Env := EV [(21, Pw), (22, Yj), (23, Ag5), (24, Af0), (31, Abi), (32, Alo), (42, Alw)] [] false
noncomputable def A24 := c0 Tryz.f15
noncomputable def Ak2 : FS yzE := f2 [(.nm 2)] (.sl (.nm 4)) (.sl (.nm 4)) λ x => O4 x.1
noncomputable def Av1 := ct [0, 0, 0, 1] A24
noncomputable def A3r := ct [0, 2, 4] Av1
noncomputable def Arq := ct [0, 1] A3r
noncomputable def A5r := ct [0, 2, 4] Arq
noncomputable def Aqb := ct [0, 0, 0, 1] A5r
noncomputable def Ba0 := ct [0, 2, 4] Aqb
abbrev A04 (C : Ctx) (F : FT) (y : ((List Al) × (List Al))) : Prop := En Rp C F Tryz.f15 Ak2 (y.1, y.2, ())
def A2l (a0 : An) (r1 : List Al) : ST := ⟨96, [op 1, ol 4 (.ar 15 0)], [bc 1 (A1 a0), ba 15 53 (.nm 4) r1]⟩
def A1v (a0 : An) (r2 : List Al) : ST := ⟨96, [op 1, ol 4 (.ar 15 0)], [bc 1 (A1 a0), ba 15 53 (.nm 4) r2]⟩
def A1k (y7 : List Al) (r3 : List Al) : ST := ⟨96, [os 9 (.nm 4) y7, ol 10 (.ar 92 0)], [ba 92 53 (.nm 4) r3]⟩
def Au6 (a0 : An) (v : Int × Int × (List Al)) : ST := ⟨96, [op 1, ol 4 (.ar 15 0), oi 17 v.1, oi 18 v.2.1], [bc 1 (A1 a0), ba 15 53 (.nm 4) v.2.2]⟩
def Auc (a0 : An) (v : Int × (List Al)) : ST := ⟨96, [op 1, ol 4 (.ar 15 0), os 27 (.nm 1) a0.Arms, oi 28 (a0.Arms.length : Int), oi 29 v.1], [bc 1 (A1 a0), ba 15 53 (.nm 4) v.2]⟩
def Atz (a0 : An) (y7 : List Al) (v : Int × (List Al)) : ST := ⟨96, [os 9 (.nm 4) y7, ol 10 (.ar 92 0), os 66 (.nm 1) a0.Arms, oi 67 (a0.Arms.length : Int), oi 68 v.1], [ba 92 53 (.nm 4) v.2]⟩
def Be6 (a0 : An) : ST := ⟨96, [og 0 (A1 a0)], []⟩
theorem Azx (G : Ay Rp P) {y a0} (E : A04 C F y) (v : Int × Int × (List Al)) o (h : U0 a0 v.1 v.2.1 v.2.2 = some o) (L : LP Rp P C F Av1 (Au6 a0) (GX Rp P C F A3r (A2l a0)) o) : Ax Rp P C F Av1 (Au6 a0 v) := by
 unfold U0 at h
 rcases Ag h with ⟨b1, h⟩ | ⟨b1, h⟩
 · obtain ⟨y1, c4, h⟩ := bind_some h
   obtain ⟨c5, h⟩ := Am h
   exact sg G [r0, bt, r0, rc 2 (rs (.nm 4) y1), r0, en] (e3 b1 (ca c4) c5) (L.1 _ (si h))
 · exact sg G [r0, bf, au] (e1 b1) (L.2 _ (si h))
theorem A2u (G : Ay Rp P) {y a0} (E : A04 C F y) (v : Int × (List Al)) o (h : Nv a0 v.1 v.2 = some o) (L : LP Rp P C F Arq (Auc a0) (GX Rp P C F A5r (A1v a0)) o) : Ax Rp P C F Arq (Auc a0 v) := by
 unfold Nv at h
 rcases Ag h with ⟨b2, h⟩ | ⟨b2, h⟩
 · obtain ⟨c6, h⟩ := Am h
   obtain ⟨y2, c7, h⟩ := bind_some h
   obtain ⟨y3, c8, h⟩ := bind_some h
   obtain ⟨y4, c9, h⟩ := bind_some h
   obtain ⟨c10, h⟩ := Am h
   obtain ⟨y5, c11, h⟩ := bind_some h
   obtain ⟨c12, h⟩ := Am h
   obtain ⟨c13, h⟩ := Am h
   obtain ⟨y6, c14, h⟩ := bind_some h
   obtain ⟨c15, h⟩ := Am h
   exact sg G [r0, bt, r0, .reg [(1, rs (.nm 4) y2), (4, rs (.nm 4) y3), (5, rs (.nm 4) y4)], rc 9 (rs (.nm 4) y5), rc 9 (rs (.nm 4) y6), r0, en] (q6 b2 c6 (ca c7) (ca c8) (ca c9) c10 <| e5 (ca c11) c12 c13 (ca c14) c15) (L.1 _ (si h))
 · exact sg G [r0, bf, au] (e1 b2) (L.2 _ (si h))
theorem Azr (G : Ay Rp P) {y a0 y7} (E : A04 C F y) (v : Int × (List Al)) o (h : Rd a0 y7 v.1 v.2 = some o) (L : LP Rp P C F Aqb (Atz a0 y7) (GX Rp P C F Ba0 (A1k y7)) o) : Ax Rp P C F Aqb (Atz a0 y7 v) := by
 unfold Rd at h
 rcases Ag h with ⟨b3, h⟩ | ⟨b3, h⟩
 · obtain ⟨c17, h⟩ := Am h
   obtain ⟨c18, c19, h⟩ := ns2 h
   obtain ⟨y8, c20, h⟩ := bind_some h
   obtain ⟨y9, c21, h⟩ := bind_some h
   obtain ⟨y10, c22, h⟩ := bind_some h
   obtain ⟨y11, c23, h⟩ := bind_some h
   obtain ⟨y12, c24, h⟩ := bind_some h
   obtain ⟨c25, h⟩ := Am h
   exact sg G [r0, bt, r0, .reg [(11, rs (.nm 4) y8), (14, rs (.nm 4) y9), (15, rs (.nm 4) y10), (17, rs (.nm 4) y11), (18, rs (.nm 4) y12)], r0, en, .weak [.re 92 92 0]] (q6 b3 c17 c18 c19 (ca c20) (ca c21) <| e4 (ca c22) (ca c23) (ca c24) c25) (L.1 _ (si h))
 · exact sg G [r0, bf, au] (e1 b3) (L.2 _ (si h))
theorem Bd9 (G : Ay Rp P) {y a0} (E : A04 C F y) (h : O4 a0 = some y) : Ax Rp P C F A24 (Be6 a0) := by
 unfold O4 at h
 obtain ⟨c1, c2, c3, h⟩ := ns3 h
 obtain ⟨r1, hi, h⟩ := bind_some h
 refine sg G [r0, r0, r0, en] (e3 c1 c2 c3) (lg (Azx G E) hi ?_)
 obtain ⟨r2, hi, h⟩ := bind_some h
 refine sg G [r0, en] tt (lg (A2u G E) hi ?_)
 obtain ⟨y7, c16, h⟩ := bind_some h
 obtain ⟨r3, hi, h⟩ := bind_some h
 refine sg G [rc 2 (rs (.sl (.nm 4)) y7), r0, r0, en, .weak [.own (.slot 10) 0 92 53 0]] (e1 (ca c16)) (lg (Azr G E) hi ?_)
 have e := sj h; subst e
 exact se G E [r0, au, .weak [.fix (.slot 3)]] tt
theorem Ad4 : MT 15 Ak2 := show Be Rp _ _ _ from mt (fn := Tryz.f15) (S := λ x => Be6 x.1) (GB ⟨Iz, P5, Ze, Xd, Tg, Agf, Adx, trivial⟩ trivial) λ G _ _ _ _ => Bd9 G
noncomputable abbrev Aoj : Env := EV [] [] false
noncomputable def A3z := c0 Tryz.f67
noncomputable def Ap8 : FS yzE := f2 [(.nm 3), (.int .i64)] (.int .i64) .bool λ x => Pk x.1 x.2.1
noncomputable def A99 := ct [0, 0, 3, 4] A3z
abbrev Bgd (C : Ctx) (F : FT) (y : (Int × Bool)) : Prop := En Aoj C F Tryz.f67 Ap8 (y.1, y.2, ())
def A89 : ST := ⟨24, [], []⟩
def Bex (a0 : A8) (a1 : Int) : ST := ⟨24, [og 0 (Bv a0), oi 1 a1], []⟩
theorem Acf (G : Ay Aoj P) {y} (E : Bgd C F y) (h : Lq = some y) : Ax Aoj P C F A99 A89 := by
 unfold Lq at h
 have e := sj h; subst e
 exact se G E [r0, au] tt
theorem Bf1 (G : Ay Aoj P) {y a0 a1} (E : Bgd C F y) (h : Pk a0 a1 = some y) : Ax Aoj P C F A3z (Bex a0 a1) := by
 unfold Pk at h
 rcases Ag h with ⟨b1, h⟩ | ⟨b1, h⟩
 · exact sg G [r0, ru [3, 8, 9, 15], bt, au] (ar 5 b1 <| ar 7 rT <| tt) (Acf G E h)
 · rcases Ag h with ⟨b2, h⟩ | ⟨b2, h⟩
   · exact sg G [r0, rb [3, 8] [9, 15], bt, au] (ar 5 b1 <| ar 6 b2 <| e1 rT) (Acf G E h)
   · rcases Ag h with ⟨b3, h⟩ | ⟨b3, h⟩
     · exact sg G [r0, rf [3, 8, 9, 15], bt, au] (ar 5 b1 <| ar 6 b2 <| e1 b3) (Acf G E h)
     · have e := sj h; subst e
       exact se G E [r0, rf [3, 8, 9, 15], bf, r0, au] (ar 5 b1 <| ar 6 b2 <| e1 b3)
theorem Ast : MT 67 Ap8 := show Be Aoj _ _ _ from mt (fn := Tryz.f67) (S := λ x => Bex x.1 x.2.1) (GB trivial trivial) λ G _ _ _ _ => Bf1 G
noncomputable abbrev An4 : Env := EV [(67, Ap8)] [] false
noncomputable def A4j := c0 Tryz.f43
noncomputable def Al4 : FS yzE := f2 [(.nm 4)] (.nm 0) .bool λ x => Oy x.1
noncomputable def Bfg := ct [0, 0, 0, 0, 3, 4] A4j
abbrev Bis (C : Ctx) (F : FT) (y : (Au × Bool)) : Prop := En An4 C F Tryz.f43 Al4 (y.1, y.2, ())
def A68 : ST := ⟨30, [op 2], [bc 2 [.int .i64 (0 : Int), .int .i64 (0 : Int)]]⟩
def Be7 (a0 : Al) : ST := ⟨30, [og 0 (B5 a0)], []⟩
theorem Alf (G : Ay An4 P) {y} (E : Bis C F y) (h : Ny = some y) : Ax An4 P C F Bfg A68 := by
 unfold Ny at h
 have e := sj h; subst e
 exact se G E [r0, au] tt
theorem Bai (G : Ay An4 P) {y a0} (E : Bis C F y) (h : Oy a0 = some y) : Ax An4 P C F A4j (Be7 a0) := by
 unfold Oy at h
 obtain ⟨y1, c1, h⟩ := bind_some h
 obtain ⟨y2, c2, h⟩ := bind_some h
 rcases Ag h with ⟨b1, h⟩ | ⟨b1, h⟩
 · exact sg G [r0, rc 2 (rt (.int .i64) .bool y1), rc 2 (rt (.int .i64) .bool y2), ru [2, 5], bt, au] (q2 (cb c1) (cb c2) <| ar 3 b1 <| e1 rT) (Alf G E h)
 · rcases Ag h with ⟨b2, h⟩ | ⟨b2, h⟩
   · exact sg G [r0, rc 2 (rt (.int .i64) .bool y1), rc 2 (rt (.int .i64) .bool y2), rf [2, 5], bt, au] (q2 (cb c1) (cb c2) <| ar 3 b1 <| e1 b2) (Alf G E h)
   · have e := sj h; subst e
     exact se G E [r0, rc 2 (rt (.int .i64) .bool y1), rc 2 (rt (.int .i64) .bool y2), rf [2, 5], bf, r0, au] (q2 (cb c1) (cb c2) <| ar 3 b1 <| e1 b2)
theorem Ahd : MT 43 Al4 := show Be An4 _ _ _ from mt (fn := Tryz.f43) (S := λ x => Be7 x.1) (GB ⟨Ast, trivial⟩ trivial) λ G _ _ _ _ => Bai G
noncomputable abbrev Af3 : Env := EV [(43, Al4)] [] false
noncomputable def A5q := c0 Tryz.f16
noncomputable def As5 : FS yzE := f2 [(.sl (.nm 4))] (.sl (.nm 0)) .bool λ x => Ph x.1
noncomputable def As3 := ct [0, 0, 0, 1] A5q
noncomputable def Bcq := ct [0, 2, 4] As3
abbrev Baq (C : Ctx) (F : FT) (y : ((List Au) × Bool)) : Prop := En Af3 C F Tryz.f16 As5 (y.1, y.2, ())
def Axi (r1 : List Au) : ST := ⟨32, [ol 4 (.ar 11 0)], [ba 11 31 (.nm 0) r1]⟩
def Ask (a0 : List Al) (v : Int × (List Au)) : ST := ⟨32, [ol 4 (.ar 11 0), os 12 (.nm 4) a0, oi 13 (a0.length : Int), oi 14 v.1], [ba 11 31 (.nm 0) v.2]⟩
def Bh6 (a0 : List Al) : ST := ⟨32, [os 0 (.nm 4) a0], []⟩
theorem Axl (G : Ay Af3 P) {y a0} (E : Baq C F y) (v : Int × (List Au)) o (h : Re a0 v.1 v.2 = some o) (L : LP Af3 P C F As3 (Ask a0) (Sum.elim (GX Af3 P C F Bcq Axi) (RX y)) o) : Ax Af3 P C F As3 (Ask a0 v) := by
 unfold Re at h
 rcases Ag h with ⟨b1, h⟩ | ⟨b1, h⟩
 · obtain ⟨c4, h⟩ := Am h
   obtain ⟨y1, c5, h⟩ := bind_some h
   rcases Ag h with ⟨b2, h⟩ | ⟨b2, h⟩
   · have e : _ = y := L.2 _ (si h); subst e
     exact se G E [r0, bt, r0, rc 1 (rt (.nm 0) .bool y1), r0, bt, r0, au] (e4 b1 c4 (cb c5) b2)
   · obtain ⟨c6, h⟩ := Am h
     exact sg G [r0, bt, r0, rc 1 (rt (.nm 0) .bool y1), r0, bf, r0, r0, en] (e5 b1 c4 (cb c5) b2 c6) (L.1 _ (si h))
 · exact sg G [r0, bf, au] (e1 b1) (L.2 _ (si h))
theorem Baw (G : Ay Af3 P) {y a0} (E : Baq C F y) (h : Ph a0 = some y) : Ax Af3 P C F A5q (Bh6 a0) := by
 unfold Ph at h
 obtain ⟨c1, c2, c3, h⟩ := ns3 h
 obtain ⟨r, hi, h⟩ := bind_some h
 refine sg G [r0, r0, r0, en] (e3 c1 c2 c3) (lg (Axl G E) hi ?_)
 rcases r with r1 | r2
 · have e := sj h; subst e
   exact se G E [r0, au, .weak [.fix (.slot 2)]] tt
 · exact sj h
theorem Asr : MT 16 As5 := show Be Af3 _ _ _ from mt (fn := Tryz.f16) (S := λ x => Bh6 x.1) (GB ⟨Ahd, trivial⟩ trivial) λ G _ _ _ _ => Baw G
noncomputable abbrev w4V : Env := EV [(14, Aa3), (15, Ak2), (16, As5)] [] false
noncomputable def Bfv := c0 Tryz.f4
noncomputable def Ay9 : FS yzE := ⟨[(.nm 2)], [(.sl (.nm 0)), (.sl (.nm 0)), (.int .i64)], [], [], λ x => Option.map (λ r => (r.1, r.2.1, r.2.2, ())) (E2 x.1)⟩
noncomputable def Bkt := ct [0, 0, 0, 2, 0, 0, 0, 0, 3, 4] Bfv
abbrev w4E (C : Ctx) (F : FT) (y : ((List Au) × (List Au) × Int)) : Prop := En w4V C F Tryz.f4 Ay9 (y.1, y.2.1, y.2.2, ())
def Bdf : ST := ⟨40, [], []⟩
def w4S (a0 : An) : ST := ⟨40, [og 0 (A1 a0)], []⟩
theorem Aqm (G : Ay w4V P) {y} (E : w4E C F y) (h : Hp = some y) : Ax w4V P C F Bkt Bdf := by
 unfold Hp at h
 have e := sj h; subst e
 exact se G E [r0, au] tt
theorem Bk4 (G : Ay w4V P) {y a0} (E : w4E C F y) (h : E2 a0 = some y) : Ax w4V P C F Bfv (w4S a0) := by
 unfold E2 at h
 obtain ⟨y1, c1, h⟩ := bind_some h
 rcases Ag h with ⟨b1, h⟩ | ⟨b1, h⟩
 · have e := sj h; subst e
   exact se G E [r0, rc 1 (rs (.int .i64) y1), r0, bt, r0, au] (e2 (ca c1) b1)
 · obtain ⟨y2, c2, h⟩ := bind_some h
   obtain ⟨y3, c3, h⟩ := bind_some h
   obtain ⟨y4, c4, h⟩ := bind_some h
   rcases Ag h with ⟨b2, h⟩ | ⟨b2, h⟩
   · exact sg G [r0, rc 1 (rs (.int .i64) y1), r0, bf, rc 1 (rt (.sl (.nm 4)) (.sl (.nm 4)) y2), rc 1 (rt (.sl (.nm 0)) .bool y3), rc 1 (rt (.sl (.nm 0)) .bool y4), ru [2, 5], bt, au] (q5 (ca c1) b1 (cb c2) (cb c3) (cb c4) <| ar 3 b2 <| e1 rT) (Aqm G E h)
   · rcases Ag h with ⟨b3, h⟩ | ⟨b3, h⟩
     · exact sg G [r0, rc 1 (rs (.int .i64) y1), r0, bf, rc 1 (rt (.sl (.nm 4)) (.sl (.nm 4)) y2), rc 1 (rt (.sl (.nm 0)) .bool y3), rc 1 (rt (.sl (.nm 0)) .bool y4), rf [2, 5], bt, au] (q5 (ca c1) b1 (cb c2) (cb c3) (cb c4) <| ar 3 b2 <| e1 b3) (Aqm G E h)
     · have e := sj h; subst e
       exact se G E [r0, rc 1 (rs (.int .i64) y1), r0, bf, rc 1 (rt (.sl (.nm 4)) (.sl (.nm 4)) y2), rc 1 (rt (.sl (.nm 0)) .bool y3), rc 1 (rt (.sl (.nm 0)) .bool y4), rf [2, 5], bf, r0, au] (q5 (ca c1) b1 (cb c2) (cb c3) (cb c4) <| ar 3 b2 <| e1 b3)
theorem Al7 : MT 4 Ay9 := show Be w4V _ _ _ from mt (fn := Tryz.f4) (S := λ x => w4S x.1) (GB ⟨Tu, Ad4, Asr, trivial⟩ trivial) λ G _ _ _ _ => Bk4 G
noncomputable abbrev V6 : Env := EV [] [] false
noncomputable def Apu := c0 Tryz.f44
noncomputable def Aul : FS yzE := f1 [(.nm 0)] .bool λ x => Fl x.1
noncomputable def Bgz := ct [0, 0, 3, 4] Apu
noncomputable def A5x := ct [0, 0, 2, 0, 0, 3, 0, 4] Apu
noncomputable def Ary := ct [1] A5x
noncomputable def Be1 := ct [0, 2, 4] Ary
abbrev A2i (C : Ctx) (F : FT) (y : Bool) : Prop := En V6 C F Tryz.f44 Aul (y, ())
def A10 (r1 : Int) : ST := ⟨39, [oi 3 r1], []⟩
def A8k : ST := ⟨39, [], []⟩
def Apc (v : Int × Int) : ST := ⟨39, [oi 3 v.1, oi 4 v.2], []⟩
def A9g (a0 : Au) (v1 : Int) : ST := ⟨39, [oi 3 v1, oi 4 a0.D], []⟩
def Ba9 (a0 : Au) : ST := ⟨39, [og 0 (Gv a0)], []⟩
theorem Wl (G : Ay V6 P) {y} (E : A2i C F y) (h : D9 = some y) : Ax V6 P C F Bgz A8k := by
 unfold D9 at h
 have e := sj h; subst e
 exact se G E [r0, au] tt
theorem A0h (G : Ay V6 P) {y} (E : A2i C F y) (v : Int × Int) o (h : H4 v.1 v.2 = some o) (L : LP V6 P C F Ary Apc (GX V6 P C F Be1 A10) o) : Ax V6 P C F Ary (Apc v) := by
 unfold H4 at h
 rcases Ag h with ⟨b6, h⟩ | ⟨b6, h⟩
 · obtain ⟨c1, h⟩ := Am h
   exact sg G [r0, bt, r0, en] (e2 b6 c1) (L.1 _ (si h))
 · exact sg G [r0, bf, au] (e1 b6) (L.2 _ (si h))
theorem Amu (G : Ay V6 P) {y a0 v1} (E : A2i C F y) (h : Fg a0 v1 = some y) : Ax V6 P C F A5x (A9g a0 v1) := by
 unfold Fg at h
 obtain ⟨r1, hi, h⟩ := bind_some h
 refine sg G [en] tt (lg (A0h G E) hi ?_)
 have e := sj h; subst e
 exact se G E [r0, au] tt
theorem Bej (G : Ay V6 P) {y a0} (E : A2i C F y) (h : Fl a0 = some y) : Ax V6 P C F Apu (Ba9 a0) := by
 unfold Fl at h
 rcases Ag h with ⟨b1, h⟩ | ⟨b1, h⟩
 · exact sg G [r0, ru [3, 7, 8, 12, 13, 17], bt, au] (ar 4 b1 <| ar 9 rT <| tt) (Wl G E h)
 · rcases Ag h with ⟨b2, h⟩ | ⟨b2, h⟩
   · exact sg G [r0, rb [3, 7] [8, 12, 13, 17], bt, au] (ar 4 b1 <| ar 4 b2 <| ar 5 rT <| tt) (Wl G E h)
   · rcases Ag h with ⟨b3, h⟩ | ⟨b3, h⟩
     · exact sg G [r0, rb [3, 7, 8, 12] [13, 17], bt, au] (ar 4 b1 <| ar 4 b2 <| ar 4 b3 <| e1 rT) (Wl G E h)
     · rcases Ag h with ⟨b4, h⟩ | ⟨b4, h⟩
       · exact sg G [r0, rf [3, 7, 8, 12, 13, 17], bt, au] (ar 4 b1 <| ar 4 b2 <| ar 4 b3 <| e1 b4) (Wl G E h)
       · rcases Ag h with ⟨b5, h⟩ | ⟨b5, h⟩
         · exact sg G [r0, rf [3, 7, 8, 12, 13, 17], bf, r0, r0, bt, r0, au] (ar 4 b1 <| ar 4 b2 <| ar 4 b3 <| e2 b4 b5) (Amu G E h)
         · exact sg G [r0, rf [3, 7, 8, 12, 13, 17], bf, r0, r0, bf, au] (ar 4 b1 <| ar 4 b2 <| ar 4 b3 <| e2 b4 b5) (Amu G E h)
theorem Aq2 : MT 44 Aul := show Be V6 _ _ _ from mt (fn := Tryz.f44) (S := λ x => Ba9 x.1) (GB trivial trivial) λ G _ _ _ _ => Bej G
noncomputable abbrev Up : Env := EV [(44, Aul)] [] false
noncomputable def Aqf := c0 Tryz.f17
noncomputable def Abd : FS yzE := f1 [(.nm 2)] (.int .i64) λ x => By x.1
noncomputable def Bjx := ct [0, 0, 2, 0, 3, 4] Aqf
noncomputable def Ae7 := ct [0, 0, 2, 0, 2, 0, 1] Aqf
noncomputable def Bfu := ct [0, 3, 0, 0, 3, 4] Ae7
noncomputable def A42 := ct [0, 2, 4] Ae7
abbrev Azg (C : Ctx) (F : FT) (y : Int) : Prop := En Up C F Tryz.f17 Abd (y, ())
def Aju (r1 : Unit) : ST := ⟨69, [], []⟩
def A6o : ST := ⟨69, [], []⟩
def A69 : ST := ⟨69, [], []⟩
def Aid (a0 : An) (v : Int) : ST := ⟨69, [op 1, oi 3 v], [bc 1 (A1 a0)]⟩
def Bga (a0 : An) : ST := ⟨69, [og 0 (A1 a0)], []⟩
theorem Amq (G : Ay Up P) {y} (E : Azg C F y) (h : Du = some y) : Ax Up P C F Bjx A6o := by
 unfold Du at h
 have e := sj h; subst e
 exact se G E [r0, au] tt
theorem Pd (G : Ay Up P) {y a0 o} (E : Azg C F y) (h : Bp = some o) (L : LP Up P C F Ae7 (Aid a0) (Sum.elim (GX Up P C F A42 Aju) (RX y)) o) : Ax Up P C F Bfu A69 := by
 unfold Bp at h
 have e : _ = y := L.2 _ (si h); subst e
 exact se G E [r0, au] tt
theorem A0u (G : Ay Up P) {y a0} (E : Azg C F y) (v : Int) o (h : Fi a0 v = some o) (L : LP Up P C F Ae7 (Aid a0) (Sum.elim (GX Up P C F A42 Aju) (RX y)) o) : Ax Up P C F Ae7 (Aid a0 v) := by
 unfold Fi at h
 rcases Ag h with ⟨b4, h⟩ | ⟨b4, h⟩
 · obtain ⟨c1, h⟩ := Am h
   rcases Ag h with ⟨b5, h⟩ | ⟨b5, h⟩
   · exact sg G [r0, bt, r0, ru [3, 9, 10, 14, 15, 21, 22, 27, 28, 33, 34, 39], bt, au] (q2 b4 c1 <| ar 6 b5 <| ar 26 rT <| tt) (Pd G E h L)
   · rcases Ag h with ⟨b6, h⟩ | ⟨b6, h⟩
     · exact sg G [r0, bt, r0, rb [3, 9] [10, 14, 15, 21, 22, 27, 28, 33, 34, 39], bt, au] (q2 b4 c1 <| ar 6 b5 <| ar 4 b6 <| ar 22 rT <| tt) (Pd G E h L)
     · rcases Ag h with ⟨b7, h⟩ | ⟨b7, h⟩
       · exact sg G [r0, bt, r0, rb [3, 9, 10, 14] [15, 21, 22, 27, 28, 33, 34, 39], bt, au] (q2 b4 c1 <| ar 6 b5 <| ar 4 b6 <| ar 6 b7 <| ar 16 rT <| tt) (Pd G E h L)
       · rcases Ag h with ⟨b8, h⟩ | ⟨b8, h⟩
         · exact sg G [r0, bt, r0, rb [3, 9, 10, 14, 15, 21] [22, 27, 28, 33, 34, 39], bt, au] (q2 b4 c1 <| ar 6 b5 <| ar 4 b6 <| ar 6 b7 <| ar 5 b8 <| ar 11 rT <| tt) (Pd G E h L)
         · obtain ⟨y1, c2, h⟩ := bind_some h
           rcases Ag h with ⟨b9, h⟩ | ⟨b9, h⟩
           · exact sg G [r0, bt, r0, rg [3, 9, 10, 14, 15, 21, 22, 27] [28, 33, 34, 39] [(25, rs .bool y1)], bt, au] (q2 b4 c1 <| ar 6 b5 <| ar 4 b6 <| ar 6 b7 <| ar 3 b8 <| q3 (ca c2) b8 b8 <| ar 5 b9 <| ar 6 rT <| tt) (Pd G E h L)
           · rcases Ag h with ⟨b10, h⟩ | ⟨b10, h⟩
             · exact sg G [r0, bt, r0, rg [3, 9, 10, 14, 15, 21, 22, 27, 28, 33] [34, 39] [(25, rs .bool y1)], bt, au] (q2 b4 c1 <| ar 6 b5 <| ar 4 b6 <| ar 6 b7 <| ar 3 b8 <| q3 (ca c2) b8 b8 <| ar 5 b9 <| ar 5 b10 <| e1 rT) (Pd G E h L)
             · obtain ⟨y2, c3, h⟩ := bind_some h
               rcases Ag h with ⟨b11, h⟩ | ⟨b11, h⟩
               · exact sg G [r0, bt, r0, rg [3, 9, 10, 14, 15, 21, 22, 27, 28, 33, 34, 39] [] [(25, rs .bool y1), (37, rs .bool y2)], bt, au] (q2 b4 c1 <| ar 6 b5 <| ar 4 b6 <| ar 6 b7 <| ar 3 b8 <| q3 (ca c2) b8 b8 <| ar 5 b9 <| ar 3 b10 <| e4 (ca c3) b10 b10 b11) (Pd G E h L)
               · exact sg G [r0, bt, r0, rg [3, 9, 10, 14, 15, 21, 22, 27, 28, 33, 34, 39] [] [(25, rs .bool y1), (37, rs .bool y2)], bf, r0, en] (q2 b4 c1 <| ar 6 b5 <| ar 4 b6 <| ar 6 b7 <| ar 3 b8 <| q3 (ca c2) b8 b8 <| ar 5 b9 <| ar 3 b10 <| e4 (ca c3) b10 b10 b11) (L.1 _ (si h))
 · exact sg G [r0, bf, au] (e1 b4) (L.2 _ (si h))
theorem Bg9 (G : Ay Up P) {y a0} (E : Azg C F y) (h : By a0 = some y) : Ax Up P C F Aqf (Bga a0) := by
 unfold By at h
 rcases Ag h with ⟨b1, h⟩ | ⟨b1, h⟩
 · have e := sj h; subst e
   exact se G E [r0, r0, bt, r0, au] (e1 b1)
 · rcases Ag h with ⟨b2, h⟩ | ⟨b2, h⟩
   · exact sg G [r0, r0, bf, ru [3, 7], bt, au] (q1 b1 <| ar 4 b2 <| e1 rT) (Amq G E h)
   · rcases Ag h with ⟨b3, h⟩ | ⟨b3, h⟩
     · exact sg G [r0, r0, bf, rf [3, 7], bt, au] (q1 b1 <| ar 4 b2 <| e1 b3) (Amq G E h)
     · obtain ⟨r, hi, h⟩ := bind_some h
       refine sg G [r0, r0, bf, rf [3, 7], bf, r0, en] (q1 b1 <| ar 4 b2 <| e1 b3) (lg (A0u G E) hi ?_)
       rcases r with r1 | r2
       · have e := sj h; subst e
         exact se G E [r0, au] tt
       · exact sj h
theorem Ud : MT 17 Abd := show Be Up _ _ _ from mt (fn := Tryz.f17) (S := λ x => Bga x.1) (GB ⟨Aq2, trivial⟩ trivial) λ G _ _ _ _ => Bg9 G
noncomputable abbrev Aw7 : Env := EV [] [] false
noncomputable def Bc4 := c0 Tryz.f62
noncomputable def Ak1 : FS yzE := f1 [] (.nm 5) λ _ => Dy
abbrev Bkp (C : Ctx) (F : FT) (y : Ad) : Prop := En Aw7 C F Tryz.f62 Ak1 (y, ())
def Bjd : ST := ⟨3, [], []⟩
theorem Bcd (G : Ay Aw7 P) {y} (E : Bkp C F y) (h : Dy = some y) : Ax Aw7 P C F Bc4 Bjd := by
 unfold Dy at h
 have e := sj h; subst e
 exact se G E [r0, r0, au] tt
theorem Afy : MT 62 Ak1 := show Be Aw7 _ _ _ from mt (fn := Tryz.f62) (S := λ _ => Bjd) (GB trivial trivial) λ G _ _ _ _ => Bcd G
noncomputable abbrev A2d : Env := EV [] [] false
noncomputable def Bb1 := c0 Tryz.f82
noncomputable def Adv : FS yzE := f1 [(.nm 5)] .bool λ x => Bu x.1
abbrev Bkg (C : Ctx) (F : FT) (y : Bool) : Prop := En A2d C F Tryz.f82 Adv (y, ())
def Bgo (a0 : Ad) : ST := ⟨7, [og 0 (A5 a0)], []⟩
theorem Bhb (G : Ay A2d P) {y a0} (E : Bkg C F y) (h : Bu a0 = some y) : Ax A2d P C F Bb1 (Bgo a0) := by
 unfold Bu at h
 have e := sj h; subst e
 exact se G E [r0, r0, au] tt
theorem Y2 : MT 82 Adv := show Be A2d _ _ _ from mt (fn := Tryz.f82) (S := λ x => Bgo x.1) (GB trivial trivial) λ G _ _ _ _ => Bhb G
noncomputable abbrev A2v : Env := EV [(62, Ak1), (82, Adv)] [] false
noncomputable def Bbe := c0 Tryz.f53
noncomputable def Zd : FS yzE := f1 [(.nm 6)] (.nm 5) λ x => B0 x.1
abbrev Bk2 (C : Ctx) (F : FT) (y : Ad) : Prop := En A2v C F Tryz.f53 Zd (y, ())
def Beb (a0 : Aa) : ST := ⟨9, [og 0 (A9 a0)], []⟩
theorem Bce (G : Ay A2v P) {y a0} (E : Bk2 C F y) (h : B0 a0 = some y) : Ax A2v P C F Bbe (Beb a0) := by
 unfold B0 at h
 obtain ⟨y1, c1, h⟩ := bind_some h
 rcases Ag h with ⟨b1, h⟩ | ⟨b1, h⟩
 · obtain ⟨y2, c2, h⟩ := bind_some h
   have e := sj h; subst e
   exact se G E [r0, rc 2 (rs .bool y1), bt, rc 0 (rs (.nm 5) y2), au] (e3 (ca c1) b1 (ca c2))
 · have e := sj h; subst e
   exact se G E [r0, rc 2 (rs .bool y1), bf, r0, au] (e2 (ca c1) b1)
theorem P4 : MT 53 Zd := show Be A2v _ _ _ from mt (fn := Tryz.f53) (S := λ x => Beb x.1) (GB ⟨Afy, Y2, trivial⟩ trivial) λ G _ _ _ _ => Bce G
noncomputable abbrev A0l : Env := EV [] [] false
noncomputable def Bg3 := c0 Tryz.f54
noncomputable def Aeb : FS yzE := f1 [(.nm 5)] .bool λ x => Cb x.1
abbrev Bki (C : Ctx) (F : FT) (y : Bool) : Prop := En A0l C F Tryz.f54 Aeb (y, ())
def Bcf (a0 : Ad) : ST := ⟨19, [og 0 (A5 a0)], []⟩
theorem Bja (G : Ay A0l P) {y a0} (E : Bki C F y) (h : Cb a0 = some y) : Ax A0l P C F Bg3 (Bcf a0) := by
 unfold Cb at h
 rcases Ag h with ⟨b1, h⟩ | ⟨b1, h⟩
 · obtain ⟨c1, h⟩ := Am h
   rcases Ag h with ⟨b2, h⟩ | ⟨b2, h⟩
   · have e := sj h; subst e
     exact se G E [r0, ru [4, 10, 11, 15], au] (ar 3 b1 <| q1 c1 <| ar 3 b1 <| ar 4 b2 <| tt)
   · have e := sj h; subst e
     exact se G E [r0, rb [11, 15] [4, 10], au] (ar 3 b1 <| q1 c1 <| ar 3 b1 <| ar 4 b2 <| tt)
 · have e := sj h; subst e
   exact se G E [r0, rf [4, 10, 11, 15], au] (ar 6 b1 <| ar 4 rF <| tt)
theorem Zj : MT 54 Aeb := show Be A0l _ _ _ from mt (fn := Tryz.f54) (S := λ x => Bcf x.1) (GB trivial trivial) λ G _ _ _ _ => Bja G
noncomputable abbrev Ax2 : Env := EV [] [] false
noncomputable def Bju := c0 Tryz.f83
noncomputable def Aa1 : FS yzE := f1 [(.sl (.int .u32)), .bool] (.nm 5) λ x => Bz x.1 x.2.1
abbrev Ble (C : Ctx) (F : FT) (y : Ad) : Prop := En Ax2 C F Tryz.f83 Aa1 (y, ())
def Bet (a0 : List Int) (a1 : Bool) : ST := ⟨13, [os 0 (.int .u32) a0, ol 1 (.bool a1)], []⟩
theorem Bim (G : Ay Ax2 P) {y a0 a1} (E : Ble C F y) (h : Bz a0 a1 = some y) : Ax Ax2 P C F Bju (Bet a0 a1) := by
 unfold Bz at h
 rcases Ag h with ⟨b1, h⟩ | ⟨b1, h⟩
 · have e := sj h; subst e
   exact se G E [r0, ru [2, 6], au] (ar 4 b1 <| tt)
 · have e := sj h; subst e
   exact se G E [r0, rf [2, 6], au] (ar 4 b1 <| tt)
theorem T3 : MT 83 Aa1 := show Be Ax2 _ _ _ from mt (fn := Tryz.f83) (S := λ x => Bet x.1 x.2.1) (GB trivial trivial) λ G _ _ _ _ => Bim G
noncomputable abbrev Ag9 : Env := EV [] [] false
noncomputable def A28 := c0 Tryz.f91
noncomputable def Zu : FS yzE := ⟨[(.sl (.int .u32))], [(.sl (.int .u32))], [120], [[(120, 0)]], λ x => Option.map (λ r => (r, ())) (Bt x.1)⟩
noncomputable def Au9 := ct [0, 1] A28
noncomputable def Beu := ct [0, 2, 4] Au9
abbrev Bfp (C : Ctx) (F : FT) (y : List Int) : Prop := En Ag9 C F Tryz.f91 Zu (y, ())
def A1p (r1 : List Int) : ST := ⟨21, [ol 0 (.ar 1000000 0)], [ba 1000000 120 (.int .u32) r1]⟩
def Av6 (v : List Int) : ST := ⟨21, [ol 0 (.ar 1000000 0)], [ba 1000000 120 (.int .u32) v]⟩
def Bjo (a0 : List Int) : ST := ⟨21, [ol 0 (.ar 1000000 0)], [ba 1000000 120 (.int .u32) a0]⟩
theorem A1x (G : Ay Ag9 P) {y} (E : Bfp C F y) (v : List Int) o (h : G4 v = some o) (L : LP Ag9 P C F Au9 Av6 (GX Ag9 P C F Beu A1p) o) : Ax Ag9 P C F Au9 (Av6 v) := by
 unfold G4 at h
 rcases Ag h with ⟨b1, h⟩ | ⟨b1, h⟩
 · obtain ⟨c1, h⟩ := Am h
   rcases Ag h with ⟨b2, h⟩ | ⟨b2, h⟩
   · obtain ⟨c2, c3, h⟩ := ns2 h
     exact sg G [ru [3, 11], bt, r0, en, .weak [.re 1000000 1000000 0]] (ar 5 b1 <| q1 c1 <| ar 3 b1 <| e3 b2 c2 c3) (L.1 _ (si h))
   · exact sg G [ru [3, 11], bf, au] (ar 5 b1 <| q1 c1 <| ar 3 b1 <| e1 b2) (L.2 _ (si h))
 · exact sg G [rf [3, 11], bf, au] (ar 8 b1 <| e1 rF) (L.2 _ (si h))
theorem Bid (G : Ay Ag9 P) {y a0} (E : Bfp C F y) (h : Bt a0 = some y) : Ax Ag9 P C F A28 (Bjo a0) := by
 unfold Bt at h
 obtain ⟨r1, hi, h⟩ := bind_some h
 refine sg G [r0, en] tt (lg (A1x G E) hi ?_)
 have e := sj h; subst e
 exact se G E [r0, au] tt
theorem P8 : MT 91 Zu := show Be Ag9 _ _ _ from mt (fn := Tryz.f91) (S := λ x => Bjo x.1) (GB trivial trivial) λ G _ _ _ _ => Bid G
noncomputable abbrev Nt : Env := EV [(91, Zu)] [] false
noncomputable def A36 := c0 Tryz.f84
noncomputable def Auu : FS yzE := f1 [(.sl (.int .u32)), (.sl (.int .u32))] (.sl (.int .u32)) λ x => Fe x.1 x.2.1
noncomputable def Y3 := ct [0, 0, 0, 0, 1] A36
noncomputable def A5c := ct [0, 3, 4] Y3
noncomputable def A4l := ct [0, 3, 0, 4] A5c
noncomputable def Bfw := ct [0, 3, 0, 4] A4l
noncomputable def Al6 := ct [0, 2, 4] Y3
abbrev Auf (C : Ctx) (F : FT) (y : List Int) : Prop := En Nt C F Tryz.f84 Auu (y, ())
def Wg (r1 : (Int × (List Int))) : ST := ⟨62, [ol 5 (.ar 14 0), ol 6 (.int .u64 r1.1)], [ba 14 120 (.int .u32) r1.2]⟩
def A8a (a0 : List Int) (a1 : List Int) (v2 : Int) (v3 : List Int) (v5 : Int) : ST := ⟨62, [os 0 (.int .u32) a0, os 1 (.int .u32) a1, ol 5 (.ar 14 0), ol 6 (.int .u64 v5), oi 7 v2], [ba 14 120 (.int .u32) v3]⟩
def A81 (a0 : List Int) (a1 : List Int) (v2 : Int) (v3 : List Int) (v4 : Int) : ST := ⟨62, [os 0 (.int .u32) a0, os 1 (.int .u32) a1, ol 5 (.ar 14 0), ol 6 (.int .u64 v4), oi 7 v2], [ba 14 120 (.int .u32) v3]⟩
def A6h (a0 : List Int) (a1 : List Int) (v1 : Int) (v2 : Int) (v3 : List Int) : ST := ⟨62, [os 0 (.int .u32) a0, os 1 (.int .u32) a1, ol 5 (.ar 14 0), ol 6 (.int .u64 v1), oi 7 v2], [ba 14 120 (.int .u32) v3]⟩
def Y7 (a0 : List Int) (a1 : List Int) (v : Int × Int × (List Int)) : ST := ⟨62, [os 0 (.int .u32) a0, os 1 (.int .u32) a1, ol 5 (.ar 14 0), ol 6 (.int .u64 v.1), oi 7 v.2.1], [ba 14 120 (.int .u32) v.2.2]⟩
def Bar (a0 : List Int) (a1 : List Int) : ST := ⟨62, [os 0 (.int .u32) a0, os 1 (.int .u32) a1], []⟩
theorem Aln (G : Ay Nt P) {y o a0 a1 v2 v3 v5} (E : Auf C F y) (h : Cs a0 a1 v2 v3 v5 = some o) (L : LP Nt P C F Y3 (Y7 a0 a1) (GX Nt P C F Al6 Wg) o) : Ax Nt P C F Bfw (A8a a0 a1 v2 v3 v5) := by
 unfold Cs at h
 obtain ⟨c6, h⟩ := Am h
 obtain ⟨c7, h⟩ := Am h
 exact sg G [r0, r0, r0, en, .weak [.re 14 14 0]] (e2 c6 c7) (L.1 _ (si h))
theorem Amj (G : Ay Nt P) {y o a0 a1 v2 v3 v4} (E : Auf C F y) (h : Ek a0 a1 v2 v3 v4 = some o) (L : LP Nt P C F Y3 (Y7 a0 a1) (GX Nt P C F Al6 Wg) o) : Ax Nt P C F A4l (A81 a0 a1 v2 v3 v4) := by
 unfold Ek at h
 rcases Ag h with ⟨b4, h⟩ | ⟨b4, h⟩
 · obtain ⟨c5, h⟩ := Am h
   exact sg G [r0, bt, r0, au] (e2 b4 c5) (Aln G E h L)
 · exact sg G [r0, bf, au] (e1 b4) (Aln G E h L)
theorem Alc (G : Ay Nt P) {y o a0 a1 v1 v2 v3} (E : Auf C F y) (h : Ei a0 a1 v1 v2 v3 = some o) (L : LP Nt P C F Y3 (Y7 a0 a1) (GX Nt P C F Al6 Wg) o) : Ax Nt P C F A5c (A6h a0 a1 v1 v2 v3) := by
 unfold Ei at h
 rcases Ag h with ⟨b3, h⟩ | ⟨b3, h⟩
 · obtain ⟨c4, h⟩ := Am h
   exact sg G [r0, bt, r0, au] (e2 b3 c4) (Amj G E h L)
 · exact sg G [r0, bf, au] (e1 b3) (Amj G E h L)
theorem Awp (G : Ay Nt P) {y a0 a1} (E : Auf C F y) (v : Int × Int × (List Int)) o (h : Gz a0 a1 v.1 v.2.1 v.2.2 = some o) (L : LP Nt P C F Y3 (Y7 a0 a1) (GX Nt P C F Al6 Wg) o) : Ax Nt P C F Y3 (Y7 a0 a1 v) := by
 unfold Gz at h
 rcases Ag h with ⟨b1, h⟩ | ⟨b1, h⟩
 · exact sg G [ru [4, 9], bt, au] (ar 5 b1 <| e1 rT) (Alc G E h L)
 · rcases Ag h with ⟨b2, h⟩ | ⟨b2, h⟩
   · exact sg G [rf [4, 9], bt, au] (ar 5 b1 <| e1 b2) (Alc G E h L)
   · exact sg G [rf [4, 9], bf, au] (ar 5 b1 <| e1 b2) (L.2 _ (si h))
theorem Bgi (G : Ay Nt P) {y a0 a1} (E : Auf C F y) (h : Fe a0 a1 = some y) : Ax Nt P C F A36 (Bar a0 a1) := by
 unfold Fe at h
 obtain ⟨c1, c2, c3, h⟩ := ns3 h
 obtain ⟨r1, hi, h⟩ := bind_some h
 refine sg G [r0, r0, r0, r0, en] (e3 c1 c2 c3) (lg (Awp G E) hi ?_)
 obtain ⟨c8, h⟩ := Am h
 obtain ⟨y1, c9, h⟩ := bind_some h
 have e := sj h; subst e
 exact se G E [rc 5 (rs (.sl (.int .u32)) y1), au, .weak [.fix (.slot 4)]] (e2 c8 (ca c9))
theorem Asc : MT 84 Auu := show Be Nt _ _ _ from mt (fn := Tryz.f84) (S := λ x => Bar x.1 x.2.1) (GB ⟨P8, trivial⟩ trivial) λ G _ _ _ _ => Bgi G
noncomputable abbrev Agt : Env := EV [] [] false
noncomputable def A5i := c0 Tryz.f85
noncomputable def Akk : FS yzE := f1 [(.sl (.int .u32)), (.sl (.int .u32))] (.int .i64) λ x => Dl x.1 x.2.1
noncomputable def Avk := ct [0, 0, 2, 0, 1] A5i
noncomputable def Bbn := ct [0, 2, 4] Avk
abbrev Bg6 (C : Ctx) (F : FT) (y : Int) : Prop := En Agt C F Tryz.f85 Akk (y, ())
def Aw8 (r1 : Unit) : ST := ⟨41, [], []⟩
def Atn (a0 : List Int) (a1 : List Int) (v : Int) : ST := ⟨41, [os 0 (.int .u32) a0, os 1 (.int .u32) a1, oi 5 v], []⟩
def Bfb (a0 : List Int) (a1 : List Int) : ST := ⟨41, [os 0 (.int .u32) a0, os 1 (.int .u32) a1], []⟩
theorem Awo (G : Ay Agt P) {y a0 a1} (E : Bg6 C F y) (v : Int) o (h : Gg a0 a1 v = some o) (L : LP Agt P C F Avk (Atn a0 a1) (Sum.elim (GX Agt P C F Bbn Aw8) (RX y)) o) : Ax Agt P C F Avk (Atn a0 a1 v) := by
 unfold Gg at h
 rcases Ag h with ⟨b3, h⟩ | ⟨b3, h⟩
 · obtain ⟨c1, c2, h⟩ := ns2 h
   rcases Ag h with ⟨b4, h⟩ | ⟨b4, h⟩
   · have e : _ = y := L.2 _ (si h); subst e
     exact se G E [r0, bt, r0, bt, r0, au] (e4 b3 c1 c2 b4)
   · obtain ⟨c3, c4, h⟩ := ns2 h
     rcases Ag h with ⟨b5, h⟩ | ⟨b5, h⟩
     · have e : _ = y := L.2 _ (si h); subst e
       exact se G E [r0, bt, r0, bf, r0, bt, r0, au] (q6 b3 c1 c2 b4 c3 c4 <| e1 b5)
     · exact sg G [r0, bt, r0, bf, r0, bf, r0, en] (q6 b3 c1 c2 b4 c3 c4 <| e1 b5) (L.1 _ (si h))
 · exact sg G [r0, bf, au] (e1 b3) (L.2 _ (si h))
theorem Beo (G : Ay Agt P) {y a0 a1} (E : Bg6 C F y) (h : Dl a0 a1 = some y) : Ax Agt P C F A5i (Bfb a0 a1) := by
 unfold Dl at h
 rcases Ag h with ⟨b1, h⟩ | ⟨b1, h⟩
 · rcases Ag h with ⟨b2, h⟩ | ⟨b2, h⟩
   · have e := sj h; subst e
     exact se G E [r0, r0, bt, r0, bt, r0, au] (e2 b1 b2)
   · have e := sj h; subst e
     exact se G E [r0, r0, bt, r0, bf, r0, au] (e2 b1 b2)
 · obtain ⟨r, hi, h⟩ := bind_some h
   refine sg G [r0, r0, bf, r0, en] (e1 b1) (lg (Awo G E) hi ?_)
   rcases r with r1 | r2
   · have e := sj h; subst e
     exact se G E [r0, au] tt
   · exact sj h
theorem Afi : MT 85 Akk := show Be Agt _ _ _ from mt (fn := Tryz.f85) (S := λ x => Bfb x.1 x.2.1) (GB trivial trivial) λ G _ _ _ _ => Beo G
noncomputable abbrev V3 : Env := EV [(91, Zu)] [] false
noncomputable def A6a := c0 Tryz.f86
noncomputable def Ap9 : FS yzE := f1 [(.sl (.int .u32)), (.sl (.int .u32))] (.sl (.int .u32)) λ x => Ee x.1 x.2.1
noncomputable def Aen := ct [0, 0, 0, 0, 1] A6a
noncomputable def Bfx := ct [0, 3, 0, 0, 3, 0, 4] Aen
noncomputable def A5s := ct [0, 2, 4] Aen
abbrev A91 (C : Ctx) (F : FT) (y : List Int) : Prop := En V3 C F Tryz.f86 Ap9 (y, ())
def Akj (r1 : List Int) : ST := ⟨45, [ol 5 (.ar 11 0)], [ba 11 120 (.int .u32) r1]⟩
def A7g (a0 : List Int) (a1 : List Int) (v2 : Int) (v3 : List Int) (v4 : Int) : ST := ⟨45, [os 0 (.int .u32) a0, os 1 (.int .u32) a1, ol 5 (.ar 11 0), oi 7 v2, ol 8 (.int .u64 v4)], [ba 11 120 (.int .u32) v3]⟩
def Ai3 (a0 : List Int) (a1 : List Int) (v : Int × Int × (List Int)) : ST := ⟨45, [os 0 (.int .u32) a0, os 1 (.int .u32) a1, ol 5 (.ar 11 0), ol 6 (.int .u64 v.1), oi 7 v.2.1], [ba 11 120 (.int .u32) v.2.2]⟩
def Bbp (a0 : List Int) (a1 : List Int) : ST := ⟨45, [os 0 (.int .u32) a0, os 1 (.int .u32) a1], []⟩
theorem Alz (G : Ay V3 P) {y o a0 a1 v2 v3 v4} (E : A91 C F y) (h : Ej a0 a1 v2 v3 v4 = some o) (L : LP V3 P C F Aen (Ai3 a0 a1) (GX V3 P C F A5s Akj) o) : Ax V3 P C F Bfx (A7g a0 a1 v2 v3 v4) := by
 unfold Ej at h
 obtain ⟨c6, h⟩ := Am h
 obtain ⟨c7, h⟩ := Am h
 exact sg G [r0, r0, r0, en, .weak [.re 11 11 0]] (e2 c6 c7) (L.1 _ (si h))
theorem A2m (G : Ay V3 P) {y a0 a1} (E : A91 C F y) (v : Int × Int × (List Int)) o (h : G0 a0 a1 v.1 v.2.1 v.2.2 = some o) (L : LP V3 P C F Aen (Ai3 a0 a1) (GX V3 P C F A5s Akj) o) : Ax V3 P C F Aen (Ai3 a0 a1 v) := by
 unfold G0 at h
 rcases Ag h with ⟨b1, h⟩ | ⟨b1, h⟩
 · obtain ⟨c4, h⟩ := Am h
   rcases Ag h with ⟨b2, h⟩ | ⟨b2, h⟩
   · obtain ⟨c5, h⟩ := Am h
     exact sg G [r0, bt, r0, r0, bt, r0, au] (e4 b1 c4 b2 c5) (Alz G E h L)
   · exact sg G [r0, bt, r0, r0, bf, au] (e3 b1 c4 b2) (Alz G E h L)
 · exact sg G [r0, bf, au] (e1 b1) (L.2 _ (si h))
theorem Bey (G : Ay V3 P) {y a0 a1} (E : A91 C F y) (h : Ee a0 a1 = some y) : Ax V3 P C F A6a (Bbp a0 a1) := by
 unfold Ee at h
 obtain ⟨c1, c2, c3, h⟩ := ns3 h
 obtain ⟨r1, hi, h⟩ := bind_some h
 refine sg G [r0, r0, r0, r0, en] (e3 c1 c2 c3) (lg (A2m G E) hi ?_)
 obtain ⟨y1, c8, h⟩ := bind_some h
 have e := sj h; subst e
 exact se G E [rc 1 (rs (.sl (.int .u32)) y1), au, .weak [.fix (.slot 4)]] (e1 (ca c8))
theorem Ap4 : MT 86 Ap9 := show Be V3 _ _ _ from mt (fn := Tryz.f86) (S := λ x => Bbp x.1 x.2.1) (GB ⟨P8, trivial⟩ trivial) λ G _ _ _ _ => Bey G
noncomputable abbrev A02 : Env := EV [(83, Aa1), (84, Auu), (85, Akk), (86, Ap9)] [] false
noncomputable def Bjj := c0 Tryz.f55
noncomputable def Aty : FS yzE := f1 [(.nm 5), (.nm 5)] (.nm 5) λ x => Cu x.1 x.2.1
abbrev Bkr (C : Ctx) (F : FT) (y : Ad) : Prop := En A02 C F Tryz.f55 Aty (y, ())
def Bcs (a0 : Ad) (a1 : Ad) : ST := ⟨40, [og 0 (A5 a0), og 1 (A5 a1)], []⟩
theorem Bb5 (G : Ay A02 P) {y a0 a1} (E : Bkr C F y) (h : Cu a0 a1 = some y) : Ax A02 P C F Bjj (Bcs a0 a1) := by
 unfold Cu at h
 rcases Ag h with ⟨b1, h⟩ | ⟨b1, h⟩
 · obtain ⟨y1, c1, h⟩ := bind_some h
   obtain ⟨y2, c2, h⟩ := bind_some h
   have e := sj h; subst e
   exact se G E [r0, r0, bt, .reg [(4, rs (.sl (.int .u32)) y1), (7, rs (.nm 5) y2)], au] (e3 b1 (ca c1) (ca c2))
 · obtain ⟨y3, c3, h⟩ := bind_some h
   rcases Ag h with ⟨b2, h⟩ | ⟨b2, h⟩
   · obtain ⟨y4, c4, h⟩ := bind_some h
     obtain ⟨y5, c5, h⟩ := bind_some h
     have e := sj h; subst e
     exact se G E [r0, r0, bf, rc 4 (rs (.int .i64) y3), bt, .reg [(4, rs (.sl (.int .u32)) y4), (7, rs (.nm 5) y5)], au] (e5 b1 (ca c3) b2 (ca c4) (ca c5))
   · obtain ⟨y6, c6, h⟩ := bind_some h
     obtain ⟨y7, c7, h⟩ := bind_some h
     have e := sj h; subst e
     exact se G E [r0, r0, bf, rc 4 (rs (.int .i64) y3), bf, .reg [(4, rs (.sl (.int .u32)) y6), (7, rs (.nm 5) y7)], au] (e5 b1 (ca c3) b2 (ca c6) (ca c7))
theorem Apy : MT 55 Aty := show Be A02 _ _ _ from mt (fn := Tryz.f55) (S := λ x => Bcs x.1 x.2.1) (GB ⟨T3, Asc, Afi, Ap4, trivial⟩ trivial) λ G _ _ _ _ => Bb5 G
noncomputable abbrev A1w : Env := EV [(83, Aa1)] [] false
noncomputable def Bba := c0 Tryz.f87
noncomputable def Aly : FS yzE := f1 [(.nm 5)] (.nm 5) λ x => Cf x.1
abbrev Bko (C : Ctx) (F : FT) (y : Ad) : Prop := En A1w C F Tryz.f87 Aly (y, ())
def Bb6 (a0 : Ad) : ST := ⟨9, [og 0 (A5 a0)], []⟩
theorem Bgc (G : Ay A1w P) {y a0} (E : Bko C F y) (h : Cf a0 = some y) : Ax A1w P C F Bba (Bb6 a0) := by
 unfold Cf at h
 obtain ⟨y1, c1, h⟩ := bind_some h
 have e := sj h; subst e
 exact se G E [r0, rc 5 (rs (.nm 5) y1), au] (e1 (ca c1))
theorem Ags : MT 87 Aly := show Be A1w _ _ _ from mt (fn := Tryz.f87) (S := λ x => Bb6 x.1) (GB ⟨T3, trivial⟩ trivial) λ G _ _ _ _ => Bgc G
noncomputable abbrev Vw : Env := EV [] [] false
noncomputable def Avi := c0 Tryz.f101
noncomputable def Ajb : FS yzE := ⟨[(.sl (.int .u32)), (.int .u64)], [(.sl (.int .u32))], [], [[(120, 0)]], λ x => Option.map (λ r => (r, ())) (C2 x.1 x.2.1)⟩
noncomputable def Aib := ct [0, 0, 0, 1] Avi
noncomputable def A6n := ct [0, 2, 4] Aib
abbrev A4f (C : Ctx) (F : FT) (y : List Int) : Prop := En Vw C F Tryz.f101 Ajb (y, ())
def Avl (r1 : List Int) : ST := ⟨41, [ol 5 (.ar 11 0)], [ba 11 120 (.int .u32) r1]⟩
def Aj8 (a0 : List Int) (a1 : Int) (v : Int × (List Int)) : ST := ⟨41, [os 0 (.int .u32) a0, ol 1 (.int .u64 a1), ol 5 (.ar 11 0), oi 6 v.1], [ba 11 120 (.int .u32) v.2]⟩
def A4k (a0 : List Int) (a1 : Int) : ST := ⟨41, [os 0 (.int .u32) a0, ol 1 (.int .u64 a1)], []⟩
theorem Ap0 (G : Ay Vw P) {y a0 a1} (E : A4f C F y) (v : Int × (List Int)) o (h : Fu a0 a1 v.1 v.2 = some o) (L : LP Vw P C F Aib (Aj8 a0 a1) (GX Vw P C F A6n Avl) o) : Ax Vw P C F Aib (Aj8 a0 a1 v) := by
 unfold Fu at h
 rcases Ag h with ⟨b1, h⟩ | ⟨b1, h⟩
 · obtain ⟨c4, c5, h⟩ := ns2 h
   obtain ⟨c6, c7, h⟩ := ns2 h
   obtain ⟨c8, c9, h⟩ := ns2 h
   exact sg G [r0, bt, r0, r0, r0, r0, en] (q6 b1 c4 c5 c6 c7 c8 <| e1 c9) (L.1 _ (si h))
 · exact sg G [r0, bf, au] (e1 b1) (L.2 _ (si h))
theorem A6y (G : Ay Vw P) {y a0 a1} (E : A4f C F y) (h : C2 a0 a1 = some y) : Ax Vw P C F Avi (A4k a0 a1) := by
 unfold C2 at h
 obtain ⟨c1, c2, c3, h⟩ := ns3 h
 obtain ⟨r1, hi, h⟩ := bind_some h
 refine sg G [r0, r0, r0, en] (e3 c1 c2 c3) (lg (Ap0 G E) hi ?_)
 have e := sj h; subst e
 exact se G E [r0, au] tt
theorem Ant : MT 101 Ajb := show Be Vw _ _ _ from mt (fn := Tryz.f101) (S := λ x => A4k x.1 x.2.1) (GB trivial trivial) λ G _ _ _ _ => A6y G
noncomputable abbrev Hn : Env := EV [] [] true
noncomputable def Aug := c0 Tryz.f102
noncomputable def Aiq := ct [0, 0, 0, 0, 0, 1] Aug
noncomputable def Aq0 := ct [0, 2, 4] Aiq
noncomputable def Ym := ct [0, 0, 1] Aq0
noncomputable def A71 := ct [0, 3, 0, 3, 0, 4] Ym
noncomputable def Ahv := ct [0, 2, 4] Ym
noncomputable def Za := ct [0, 2, 0, 0, 1] Ahv
noncomputable def A72 := ct [0, 3, 0, 0, 3, 0, 4] Za
noncomputable def Avs := ct [0, 2, 4] Za
abbrev Aaj (wi wn : Int) (C : Ctx) (F : FT) (y : (List Int × Int)) : Prop := Ak8 Hn C F Tryz.f102.results.toList 120 (.int .u32) wi wn [(.int .u32)] y.1 (y.2, ())
def Asm (a0 : List Int) (a1 : List Int) (wi : Int) (wn : Int) (r1 : Int) : ST := ⟨137, [ol 0 (.win 1000000 0 wi wn), os 1 (.int .u32) a1, oi 9 (a1.length : Int), ol 11 (.int .u64 r1)], [ba 1000000 120 (.int .u32) a0]⟩
def Ad0 (a1 : List Int) (r1 : Int) (wi : Int) (wn : Int) (r2 : (Int × (List Int))) : ST := ⟨137, [ol 0 (.win 1000000 0 wi wn), os 1 (.int .u32) a1, oi 9 (a1.length : Int), ol 11 (.int .u64 r1), ol 13 (.int .u64 r2.1)], [ba 1000000 120 (.int .u32) r2.2]⟩
def Aer (r1 : Int) (wi : Int) (wn : Int) (r3 : List Int) : ST := ⟨137, [ol 0 (.win 1000000 0 wi wn), ol 11 (.int .u64 r1)], [ba 1000000 120 (.int .u32) r3]⟩
def Alq (a0 : List Int) (a1 : List Int) (a2 : Int) (a3 : Int) (wi : Int) (wn : Int) (v : Int × Int) : ST := ⟨137, [ol 0 (.win 1000000 0 wi wn), os 1 (.int .u32) a1, ol 2 (.int .u64 a2), ol 3 (.int .u64 a3), oi 9 (a1.length : Int), ol 11 (.int .u64 v.1), ol 12 (.int .u64 v.2)], [ba 1000000 120 (.int .u32) a0]⟩
def Ay7 (a1 : List Int) (v4 : Int) (v6 : Int) (v7 : List Int) (v8 : Int) (r1 : Int) (wi : Int) (wn : Int) : ST := ⟨137, [ol 0 (.win 1000000 0 wi wn), os 1 (.int .u32) a1, oi 9 (a1.length : Int), ol 11 (.int .u64 r1), ol 13 (.int .u64 v4), ol 14 (.int .u64 v8), oi 15 v6], [ba 1000000 120 (.int .u32) v7]⟩
def Ac8 (a1 : List Int) (r1 : Int) (wi : Int) (wn : Int) (v : Int × Int × Int × (List Int)) : ST := ⟨137, [ol 0 (.win 1000000 0 wi wn), os 1 (.int .u32) a1, oi 9 (a1.length : Int), ol 11 (.int .u64 r1), ol 13 (.int .u64 v.1), ol 14 (.int .u64 v.2.1), oi 15 v.2.2.1], [ba 1000000 120 (.int .u32) v.2.2.2]⟩
def Az9 (a1 : List Int) (v12 : Int) (v13 : List Int) (v14 : Int) (r1 : Int) (wi : Int) (wn : Int) : ST := ⟨137, [ol 0 (.win 1000000 0 wi wn), os 1 (.int .u32) a1, oi 9 (a1.length : Int), ol 11 (.int .u64 r1), ol 14 (.int .u64 v14), oi 17 v12], [ba 1000000 120 (.int .u32) v13]⟩
def Ac3 (a1 : List Int) (r1 : Int) (wi : Int) (wn : Int) (v : Int × Int × (List Int)) : ST := ⟨137, [ol 0 (.win 1000000 0 wi wn), os 1 (.int .u32) a1, oi 9 (a1.length : Int), ol 11 (.int .u64 r1), ol 14 (.int .u64 v.1), oi 17 v.2.1], [ba 1000000 120 (.int .u32) v.2.2]⟩
def A27 (a0 : List Int) (wi : Int) (wn : Int) (a1 : List Int) (a2 : Int) (a3 : Int) : ST := ⟨137, [ol 0 (.win 1000000 0 wi wn), os 1 (.int .u32) a1, ol 2 (.int .u64 a2), ol 3 (.int .u64 a3)], [ba 1000000 120 (.int .u32) a0]⟩
theorem Awg (G : Ay Hn P) {y a0 a1 a2 a3 wi wn} (E : Aaj wi wn C F y) (v : Int × Int) o (h : Fo a0 a1 a2 a3 wi wn v.1 v.2 = some o) (L : LP Hn P C F Aiq (Alq a0 a1 a2 a3 wi wn) (GX Hn P C F Aq0 (Asm a0 a1 wi wn)) o) : Ax Hn P C F Aiq (Alq a0 a1 a2 a3 wi wn v) := by
 unfold Fo at h
 rcases Ag h with ⟨b1, h⟩ | ⟨b1, h⟩
 · obtain ⟨c7, c8, c9, h⟩ := ns3 h
   rcases Ag h with ⟨b2, h⟩ | ⟨b2, h⟩
   · exact sg G [ru [2, 16], bt, r0, r0, en] (ar 5 b1 <| q1 c7 <| ar 4 b1 <| q2 c8 c9 <| ar 5 b1 <| e1 b2) (L.1 _ (si h))
   · exact sg G [ru [2, 16], bf, au] (ar 5 b1 <| q1 c7 <| ar 4 b1 <| q2 c8 c9 <| ar 5 b1 <| e1 b2) (L.2 _ (si h))
 · exact sg G [rf [2, 16], bf, au] (ar 14 b1 <| e1 rF) (L.2 _ (si h))
theorem Afz (G : Ay Hn P) {y o a1 v4 v6 v7 v8 r1 wi wn} (E : Aaj wi wn C F y) (h : Eo a1 v4 v6 v7 v8 r1 wi wn = some o) (L : LP Hn P C F Ym (Ac8 a1 r1 wi wn) (GX Hn P C F Ahv (Ad0 a1 r1 wi wn)) o) : Ax Hn P C F A71 (Ay7 a1 v4 v6 v7 v8 r1 wi wn) := by
 unfold Eo at h
 obtain ⟨c11, c12, h⟩ := ns2 h
 obtain ⟨c13, c14, h⟩ := ns2 h
 obtain ⟨c15, h⟩ := Am h
 obtain ⟨c16, h⟩ := Am h
 exact sg G [r0, r0, r0, r0, r0, en] (e6 c11 c12 c13 c14 c15 c16) (L.1 _ (si h))
theorem Ar1 (G : Ay Hn P) {y a1 r1 wi wn} (E : Aaj wi wn C F y) (v : Int × Int × Int × (List Int)) o (h : Fq a1 r1 wi wn v.1 v.2.1 v.2.2.1 v.2.2.2 = some o) (L : LP Hn P C F Ym (Ac8 a1 r1 wi wn) (GX Hn P C F Ahv (Ad0 a1 r1 wi wn)) o) : Ax Hn P C F Ym (Ac8 a1 r1 wi wn v) := by
 unfold Fq at h
 rcases Ag h with ⟨b3, h⟩ | ⟨b3, h⟩
 · rcases Ag h with ⟨b4, h⟩ | ⟨b4, h⟩
   · obtain ⟨c10, h⟩ := Am h
     exact sg G [r0, bt, r0, bt, r0, au] (e3 b3 b4 c10) (Afz G E h L)
   · exact sg G [r0, bt, r0, bf, au] (e2 b3 b4) (Afz G E h L)
 · exact sg G [r0, bf, au] (e1 b3) (L.2 _ (si h))
theorem Aes (G : Ay Hn P) {y o a1 v12 v13 v14 r1 wi wn} (E : Aaj wi wn C F y) (h : Ep a1 v12 v13 v14 r1 wi wn = some o) (L : LP Hn P C F Za (Ac3 a1 r1 wi wn) (GX Hn P C F Avs (Aer r1 wi wn)) o) : Ax Hn P C F A72 (Az9 a1 v12 v13 v14 r1 wi wn) := by
 unfold Ep at h
 obtain ⟨c20, c21, h⟩ := ns2 h
 obtain ⟨c22, h⟩ := Am h
 exact sg G [r0, r0, r0, en] (e3 c20 c21 c22) (L.1 _ (si h))
theorem Aqn (G : Ay Hn P) {y a1 r1 wi wn} (E : Aaj wi wn C F y) (v : Int × Int × (List Int)) o (h : Ft a1 r1 wi wn v.1 v.2.1 v.2.2 = some o) (L : LP Hn P C F Za (Ac3 a1 r1 wi wn) (GX Hn P C F Avs (Aer r1 wi wn)) o) : Ax Hn P C F Za (Ac3 a1 r1 wi wn v) := by
 unfold Ft at h
 rcases Ag h with ⟨b6, h⟩ | ⟨b6, h⟩
 · obtain ⟨c17, c18, h⟩ := ns2 h
   rcases Ag h with ⟨b7, h⟩ | ⟨b7, h⟩
   · obtain ⟨c19, h⟩ := Am h
     exact sg G [r0, bt, r0, r0, bt, r0, au] (e5 b6 c17 c18 b7 c19) (Aes G E h L)
   · exact sg G [r0, bt, r0, r0, bf, au] (e4 b6 c17 c18 b7) (Aes G E h L)
 · exact sg G [r0, bf, au] (e1 b6) (L.2 _ (si h))
theorem A8x (G : Ay Hn P) {y a0 wi wn a1 a2 a3} (E : Aaj wi wn C F y) (h : D7 a0 wi wn a1 a2 a3 = some y) : Ax Hn P C F Aug (A27 a0 wi wn a1 a2 a3) := by
 unfold D7 at h
 obtain ⟨c1, c2, c3, c4, h⟩ := ns4 h
 obtain ⟨c5, h⟩ := Am h
 obtain ⟨c6, h⟩ := Am h
 obtain ⟨r1, hi, h⟩ := bind_some h
 refine sg G [r0, r0, r0, r0, r0, en] (e6 c1 c2 c3 c4 c5 c6) (lg (Awg G E) hi ?_)
 obtain ⟨r2, hi, h⟩ := bind_some h
 refine sg G [r0, r0, en] tt (lg (Ar1 G E) hi ?_)
 rcases Ag h with ⟨b5, h⟩ | ⟨b5, h⟩
 · have e := sj h; subst e
   exact sw G E [r0, bt, r0, au] (e1 b5)
 · obtain ⟨r3, hi, h⟩ := bind_some h
   refine sg G [r0, bf, r0, r0, en] (e1 b5) (lg (Aqn G E) hi ?_)
   have e := sj h; subst e
   exact sw G E [r0, au] tt
noncomputable def Ai9 : FW yzE := ⟨120, (.int .u32), [(.sl (.int .u32)), (.int .u64), (.int .u64)], [(.int .u32)], λ xs i n x => Option.map (λ r => (r.1, (r.2, ()))) (D7 xs i n x.1 x.2.1 x.2.2.1)⟩
theorem Anf : Ab5 yzT Aia Xr Tryz.prog 102 Ai9 :=
 An3 (V := Hn) (GB trivial trivial) rfl (c := Tryz.f102.body.getD .skip) (fn := Tryz.f102) (by kernel_rfl) (by kernel_rfl) (by kernel_rfl) (by kernel_rfl) λ xs i n x ys y h C F E => by
   obtain ⟨a1, a2, a3, u⟩ := x
   have h : Option.map (λ r => (r.1, (r.2, ()))) (D7 xs i n a1 a2 a3) = some (ys, y) := h
   obtain ⟨z, hz, e⟩ := Option.map_eq_some_iff.1 h
   cases e
   rw [show Un Hn Tryz.f102.ntmps Ai9 xs i n (a1, a2, a3, u) = A27 xs i n a1 a2 a3 by kernel_rfl]
   exact A8x (GB trivial trivial) E hz
noncomputable abbrev N0 : Env := EV [(85, Akk), (91, Zu), (100, Ab6), (101, Ajb)] [(102, Ai9)] false
noncomputable def At9 := c0 Tryz.f89
noncomputable def Amc : FS yzE := f2 [(.sl (.int .u32)), (.sl (.int .u32))] (.sl (.int .u32)) (.sl (.int .u32)) λ x => C1 x.1 x.2.1
noncomputable def Asn := ct [0, 0, 2, 0, 3, 0, 0, 0, 1] At9
noncomputable def Bgk := ct [0, 2, 4] Asn
noncomputable def Aqc := ct [0, 0, 2, 0, 2, 0, 0, 0, 0, 0, 1] At9
noncomputable def A37 := ct [0, 2, 4] Aqc
noncomputable def Aed := ct [0, 0, 1] A37
noncomputable def Bfa := ct [0, 3, 0, 0, 3, 0, 4] Aed
noncomputable def A59 := ct [0, 2, 4] Aed
abbrev Apb (C : Ctx) (F : FT) (y : ((List Int) × (List Int))) : Prop := En N0 C F Tryz.f89 Amc (y.1, y.2, ())
def A1t (r1 : (Int × (List Int))) : ST := ⟨164, [ol 6 (.ar 29 0), ol 7 (.int .u64 r1.1)], [ba 29 120 (.int .u32) r1.2]⟩
def A15 (y4 : Int) (r2 : ((List Int) × (List Int))) : ST := ⟨164, [ol 10 (.int .u64 (IntKind.wrap .u64 y4)), ol 11 (.ar 77 0), ol 13 (.ar 87 0)], [ba 77 120 (.int .u32) r2.1, ba 87 120 (.int .u32) r2.2]⟩
def Amw (r2 : ((List Int) × (List Int))) (r3 : List Int) : ST := ⟨164, [ol 13 (.ar 87 0), ol 17 (.ar 125 0)], [ba 87 120 (.int .u32) r2.2, ba 125 120 (.int .u32) r3]⟩
def Ath (a0 : List Int) (a1 : List Int) (v : Int × Int × (List Int)) : ST := ⟨164, [os 0 (.int .u32) a0, os 1 (.int .u32) a1, ol 6 (.ar 29 0), ol 7 (.int .u64 v.1), oi 8 v.2.1], [ba 29 120 (.int .u32) v.2.2]⟩
def Auk (y4 : Int) (y7 : List Int) (v : Int × Int × Int × (List Int) × (List Int)) : ST := ⟨164, [ol 10 (.int .u64 (IntKind.wrap .u64 y4)), ol 11 (.ar 77 0), os 12 (.int .u32) y7, ol 13 (.ar 87 0), ol 14 (.int .u64 v.1), ol 15 (.int .u64 v.2.1), oi 16 v.2.2.1], [ba 77 120 (.int .u32) v.2.2.2.1, ba 87 120 (.int .u32) v.2.2.2.2]⟩
def A8c (v13 : Int) (v15 : List Int) (r2 : ((List Int) × (List Int))) (y4 : Int) : ST := ⟨164, [ol 10 (.int .u64 (IntKind.wrap .u64 y4)), ol 13 (.ar 87 0), ol 17 (.ar 125 0), oi 18 v13], [ba 87 120 (.int .u32) r2.2, ba 125 120 (.int .u32) v15]⟩
def Ahf (r2 : ((List Int) × (List Int))) (y4 : Int) (v : Int × (List Int)) : ST := ⟨164, [ol 10 (.int .u64 (IntKind.wrap .u64 y4)), ol 13 (.ar 87 0), ol 17 (.ar 125 0), oi 18 v.1], [ba 87 120 (.int .u32) r2.2, ba 125 120 (.int .u32) v.2]⟩
def Bbq (a0 : List Int) (a1 : List Int) : ST := ⟨164, [os 0 (.int .u32) a0, os 1 (.int .u32) a1], []⟩
theorem Azi (G : Ay N0 P) {y a0 a1} (E : Apb C F y) (v : Int × Int × (List Int)) o (h : E7 a0 a1 v.1 v.2.1 v.2.2 = some o) (L : LP N0 P C F Asn (Ath a0 a1) (GX N0 P C F Bgk A1t) o) : Ax N0 P C F Asn (Ath a0 a1 v) := by
 unfold E7 at h
 rcases Ag h with ⟨b3, h⟩ | ⟨b3, h⟩
 · obtain ⟨c5, c6, h⟩ := ns2 h
   obtain ⟨c7, c8, c9, h⟩ := ns3 h
   obtain ⟨c10, c11, h⟩ := ns2 h
   exact sg G [r0, bt, r0, r0, r0, r0, en] (q6 b3 c5 c6 c7 c8 c9 <| e2 c10 c11) (L.1 _ (si h))
 · exact sg G [r0, bf, au] (e1 b3) (L.2 _ (si h))
theorem Awl (G : Ay N0 P) {y y4 y7} (E : Apb C F y) (v : Int × Int × Int × (List Int) × (List Int)) o (h : E5 y4 y7 v.1 v.2.1 v.2.2.1 v.2.2.2.1 v.2.2.2.2 = some o) (L : LP N0 P C F Aqc (Auk y4 y7) (GX N0 P C F A37 (A15 y4)) o) : Ax N0 P C F Aqc (Auk y4 y7 v) := by
 unfold E5 at h
 rcases Ag h with ⟨b4, h⟩ | ⟨b4, h⟩
 · obtain ⟨c24, c25, c26, h⟩ := ns3 h
   obtain ⟨y8, c27, h⟩ := bind_some h
   obtain ⟨c28, c29, h⟩ := ns2 h
   exact sg G [r0, bt, rc 13 (.res ⟨[(.sl (.int .u32)), (.int .u32)], (y8.1, (y8.2, ()))⟩), r0, en] (q6 b4 c24 c25 c26 (congrArg (Option.map (λ r => (r.1, (r.2, ())))) c27) c28 <| e1 c29) (L.1 _ (si h))
 · exact sg G [r0, bf, au] (e1 b4) (L.2 _ (si h))
theorem Aj5 (G : Ay N0 P) {y o v13 v15 r2 y4} (E : Apb C F y) (h : Dq v13 v15 r2 y4 = some o) (L : LP N0 P C F Aed (Ahf r2 y4) (GX N0 P C F A59 (Amw r2)) o) : Ax N0 P C F Bfa (A8c v13 v15 r2 y4) := by
 unfold Dq at h
 exact sg G [r0, en] tt (L.1 _ (si h))
theorem Ax8 (G : Ay N0 P) {y r2 y4} (E : Apb C F y) (v : Int × (List Int)) o (h : Fc r2 y4 v.1 v.2 = some o) (L : LP N0 P C F Aed (Ahf r2 y4) (GX N0 P C F A59 (Amw r2)) o) : Ax N0 P C F Aed (Ahf r2 y4 v) := by
 unfold Fc at h
 rcases Ag h with ⟨b5, h⟩ | ⟨b5, h⟩
 · obtain ⟨c31, c32, c33, h⟩ := ns3 h
   rcases Ag h with ⟨b6, h⟩ | ⟨b6, h⟩
   · obtain ⟨c34, c35, c36, c37, h⟩ := ns4 h
     exact sg G [r0, bt, r0, r0, bt, r0, au] (q6 b5 c31 c32 c33 b6 c34 <| e3 c35 c36 c37) (Aj5 G E h L)
   · exact sg G [r0, bt, r0, r0, bf, au] (e5 b5 c31 c32 c33 b6) (Aj5 G E h L)
 · exact sg G [r0, bf, au] (e1 b5) (L.2 _ (si h))
theorem Bau (G : Ay N0 P) {y a0 a1} (E : Apb C F y) (h : C1 a0 a1 = some y) : Ax N0 P C F At9 (Bbq a0 a1) := by
 unfold C1 at h
 obtain ⟨y1, c1, h⟩ := bind_some h
 rcases Ag h with ⟨b1, h⟩ | ⟨b1, h⟩
 · have e := sj h; subst e
   exact se G E [r0, rc 2 (rs (.int .i64) y1), bt, r0, au] (e2 (ca c1) b1)
 · rcases Ag h with ⟨b2, h⟩ | ⟨b2, h⟩
   · obtain ⟨c2, c3, c4, h⟩ := ns3 h
     obtain ⟨r1, hi, h⟩ := bind_some h
     refine sg G [r0, rc 2 (rs (.int .i64) y1), bf, r0, bt, r0, r0, r0, en] (e6 (ca c1) b1 b2 c2 c3 c4) (lg (Azi G E) hi ?_)
     obtain ⟨y2, c12, h⟩ := bind_some h
     obtain ⟨y3, c13, h⟩ := bind_some h
     have e := sj h; subst e
     exact se G E [.reg [(1, rs (.sl (.int .u32)) y2), (4, .lit), (5, rs (.sl (.int .u32)) y3)], au, .weak [.fix (.slot 4), .fix (.slot 5)]] (e2 (ca c12) (ca c13))
   · obtain ⟨c14, h⟩ := Am h
     obtain ⟨y4, c15, h⟩ := bind_some h
     obtain ⟨y5, c16, h⟩ := bind_some h
     obtain ⟨y6, c17, h⟩ := bind_some h
     obtain ⟨y7, c18, h⟩ := bind_some h
     obtain ⟨c19, c20, c21, h⟩ := ns3 h
     obtain ⟨c22, c23, h⟩ := ns2 h
     obtain ⟨r2, hi, h⟩ := bind_some h
     refine sg G [r0, rc 2 (rs (.int .i64) y1), bf, r0, bf, rc 6 (rs (.int .i64) y4), .reg [(2, rs (.sl (.int .u32)) y5), (5, rs (.sl (.int .u32)) y6), (6, rs (.sl (.int .u32)) y7)], r0, r0, r0, en, .weak [.fix (.slot 12)]] (q6 (ca c1) b1 b2 c14 (ca c15) (ca c16) <| q6 (ca c17) (ca c18) c19 c20 c21 c22 <| e1 c23) (lg (Awl G E) hi ?_)
     obtain ⟨y9, c30, h⟩ := bind_some h
     obtain ⟨r3, hi, h⟩ := bind_some h
     refine sg G [rc 1 (rs (.sl (.int .u32)) y9), r0, en] (e1 (ca c30)) (lg (Ax8 G E) hi ?_)
     obtain ⟨y10, c38, h⟩ := bind_some h
     obtain ⟨y11, c39, h⟩ := bind_some h
     have e := sj h; subst e
     exact se G E [.reg [(1, rs (.sl (.int .u32)) y10), (3, rs (.sl (.int .u32)) y11)], au, .weak [.fix (.slot 4), .fix (.slot 5)]] (e2 (ca c38) (ca c39))
theorem Afr : MT 89 Amc := show Be N0 _ _ _ from mt (fn := Tryz.f89) (S := λ x => Bbq x.1 x.2.1) (GB ⟨Afi, P8, Aas, Ant, trivial⟩ ⟨Anf, trivial⟩) λ G _ _ _ _ => Bau G
noncomputable abbrev Ad7 : Env := EV [(89, Amc)] [] false
noncomputable def A44 := c0 Tryz.f88
noncomputable def Are : FS yzE := f1 [(.sl (.int .u32)), (.sl (.int .u32))] (.sl (.int .u32)) λ x => D1 x.1 x.2.1
noncomputable def Au2 := ct [0, 1] A44
noncomputable def Ben := ct [0, 2, 4] Au2
abbrev Bdg (C : Ctx) (F : FT) (y : List Int) : Prop := En Ad7 C F Tryz.f88 Are (y, ())
def Ayo (r1 : List Int) : ST := ⟨19, [os 0 (.int .u32) r1], []⟩
def Aq1 (v : (List Int) × (List Int)) : ST := ⟨19, [os 0 (.int .u32) v.1, os 1 (.int .u32) v.2], []⟩
def Bf4 (a0 : List Int) (a1 : List Int) : ST := ⟨19, [os 0 (.int .u32) a0, os 1 (.int .u32) a1], []⟩
theorem Ax3 (G : Ay Ad7 P) {y} (E : Bdg C F y) (v : (List Int) × (List Int)) o (h : Fz v.1 v.2 = some o) (L : LP Ad7 P C F Au2 Aq1 (GX Ad7 P C F Ben Ayo) o) : Ax Ad7 P C F Au2 (Aq1 v) := by
 unfold Fz at h
 rcases Ag h with ⟨b1, h⟩ | ⟨b1, h⟩
 · obtain ⟨y1, c1, h⟩ := bind_some h
   exact sg G [r0, bt, rc 2 (rt (.sl (.int .u32)) (.sl (.int .u32)) y1), r0, en] (e2 b1 (cb c1)) (L.1 _ (si h))
 · exact sg G [r0, bf, au] (e1 b1) (L.2 _ (si h))
theorem Bda (G : Ay Ad7 P) {y a0 a1} (E : Bdg C F y) (h : D1 a0 a1 = some y) : Ax Ad7 P C F A44 (Bf4 a0 a1) := by
 unfold D1 at h
 obtain ⟨r1, hi, h⟩ := bind_some h
 refine sg G [r0, en] tt (lg (Ax3 G E) hi ?_)
 have e := sj h; subst e
 exact se G E [r0, au] tt
theorem Aus : MT 88 Are := show Be Ad7 _ _ _ from mt (fn := Tryz.f88) (S := λ x => Bf4 x.1 x.2.1) (GB ⟨Afr, trivial⟩ trivial) λ G _ _ _ _ => Bda G
end
end Go.Ab
