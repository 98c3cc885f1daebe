/- The functions compute what the plain functions tell. Conditions: none beyond those that each theorem names. -/
import Derived.Test.YtjdgmcngpiookaaGreatS12
namespace Go.Ab
open Go Go.Proofs
set_option linter.unusedVariables false
section
variable {P : Program} {C : Ctx} {F : Act -> World -> Prop}
noncomputable abbrev Aac : Env := EV [] [] false
noncomputable def Ate := c0 Tryz.f41
noncomputable def Avy : FS yzE := f1 [(.nm 0)] .bool λ x => Mj x.1
noncomputable def Bi2 := ct [0, 0, 3, 4] Ate
noncomputable def As7 := ct [0, 0, 2, 0, 1] Ate
noncomputable def Bae := ct [0, 2, 4] As7
abbrev A7x (C : Ctx) (F : FT) (y : Bool) : Prop := En Aac C F Tryz.f41 Avy (y, ())
def Ayj (r1 : Int) : ST := ⟨39, [oi 3 r1], []⟩
def A61 : ST := ⟨39, [], []⟩
def Aqx (v : Int × Int) : ST := ⟨39, [oi 3 v.1, oi 4 v.2], []⟩
def Bd8 (a0 : Au) : ST := ⟨39, [og 0 (Gv a0)], []⟩
theorem Wi (G : Ay Aac P) {y} (E : A7x C F y) (h : Jg = some y) : Ax Aac P C F Bi2 A61 := by
 unfold Jg at h
 have e := sj h; subst e
 exact se G E [r0, au] tt
theorem Ayz (G : Ay Aac P) {y} (E : A7x C F y) (v : Int × Int) o (h : O2 v.1 v.2 = some o) (L : LP Aac P C F As7 Aqx (GX Aac P C F Bae Ayj) o) : Ax Aac P C F As7 (Aqx v) := by
 unfold O2 at h
 rcases Ag h with ⟨b5, h⟩ | ⟨b5, h⟩
 · obtain ⟨c1, h⟩ := Am h
   exact sg G [r0, bt, r0, en] (e2 b5 c1) (L.1 _ (si h))
 · exact sg G [r0, bf, au] (e1 b5) (L.2 _ (si h))
theorem Bcp (G : Ay Aac P) {y a0} (E : A7x C F y) (h : Mj a0 = some y) : Ax Aac P C F Ate (Bd8 a0) := by
 unfold Mj at h
 rcases Ag h with ⟨b1, h⟩ | ⟨b1, h⟩
 · exact sg G [r0, ru [3, 7, 8, 12, 13, 17], bt, au] (ar 4 b1 <| ar 9 rT <| tt) (Wi G E h)
 · rcases Ag h with ⟨b2, h⟩ | ⟨b2, h⟩
   · exact sg G [r0, rb [3, 7] [8, 12, 13, 17], bt, au] (ar 4 b1 <| ar 4 b2 <| ar 5 rT <| tt) (Wi G E h)
   · rcases Ag h with ⟨b3, h⟩ | ⟨b3, h⟩
     · exact sg G [r0, rb [3, 7, 8, 12] [13, 17], bt, au] (ar 4 b1 <| ar 4 b2 <| ar 4 b3 <| e1 rT) (Wi G E h)
     · rcases Ag h with ⟨b4, h⟩ | ⟨b4, h⟩
       · exact sg G [r0, rf [3, 7, 8, 12, 13, 17], bt, au] (ar 4 b1 <| ar 4 b2 <| ar 4 b3 <| e1 b4) (Wi G E h)
       · obtain ⟨r1, hi, h⟩ := bind_some h
         refine sg G [r0, rf [3, 7, 8, 12, 13, 17], bf, r0, en] (ar 4 b1 <| ar 4 b2 <| ar 4 b3 <| e1 b4) (lg (Ayz G E) hi ?_)
         rcases Ag h with ⟨b6, h⟩ | ⟨b6, h⟩
         · have e := sj h; subst e
           exact se G E [ru [2, 5], au] (ar 3 b6 <| tt)
         · have e := sj h; subst e
           exact se G E [rf [2, 5], au] (ar 3 b6 <| tt)
theorem Aox : MT 41 Avy := show Be Aac _ _ _ from mt (fn := Tryz.f41) (S := λ x => Bd8 x.1) (GB trivial trivial) λ G _ _ _ _ => Bcp G
noncomputable abbrev To : Env := EV [(41, Avy)] [] false
noncomputable def Aol := c0 Tryz.f14
noncomputable def Aa3 : FS yzE := f1 [(.nm 2)] (.int .i64) λ x => J7 x.1
noncomputable def Bil := ct [0, 0, 2, 0, 3, 4] Aol
noncomputable def Agz := ct [0, 0, 2, 0, 2, 0, 1] Aol
noncomputable def Bdh := ct [0, 3, 0, 0, 3, 4] Agz
noncomputable def A4g := ct [0, 2, 4] Agz
abbrev Axf (C : Ctx) (F : FT) (y : Int) : Prop := En To C F Tryz.f14 Aa3 (y, ())
def Ajt (r1 : Unit) : ST := ⟨65, [], []⟩
def A6v : ST := ⟨65, [], []⟩
def A6e : ST := ⟨65, [], []⟩
def Ahs (a0 : An) (v : Int) : ST := ⟨65, [op 1, os 18 (.nm 1) a0.Arms, oi 19 (a0.Arms.length : Int), oi 20 v], [bc 1 (A1 a0)]⟩
def Bfh (a0 : An) : ST := ⟨65, [og 0 (A1 a0)], []⟩
theorem Am5 (G : Ay To P) {y} (E : Axf C F y) (h : Nx = some y) : Ax To P C F Bil A6v := by
 unfold Nx at h
 have e := sj h; subst e
 exact se G E [r0, au] tt
theorem Pi (G : Ay To P) {y a0 o} (E : Axf C F y) (h : Ha = some o) (L : LP To P C F Agz (Ahs a0) (Sum.elim (GX To P C F A4g Ajt) (RX y)) o) : Ax To P C F Bdh A6e := by
 unfold Ha at h
 have e : _ = y := L.2 _ (si h); subst e
 exact se G E [r0, au] tt
theorem Axv (G : Ay To P) {y a0} (E : Axf C F y) (v : Int) o (h : Q2 a0 v = some o) (L : LP To P C F Agz (Ahs a0) (Sum.elim (GX To P C F A4g Ajt) (RX y)) o) : Ax To P C F Agz (Ahs a0 v) := by
 unfold Q2 at h
 rcases Ag h with ⟨b4, h⟩ | ⟨b4, h⟩
 · obtain ⟨c1, h⟩ := Am h
   rcases Ag h with ⟨b5, h⟩ | ⟨b5, h⟩
   · exact sg G [r0, bt, r0, ru [3, 9, 10, 14, 15, 21, 22, 27, 28, 33, 34, 39], bt, au] (q2 b4 c1 <| ar 6 b5 <| ar 26 rT <| tt) (Pi G E h L)
   · rcases Ag h with ⟨b6, h⟩ | ⟨b6, h⟩
     · exact sg G [r0, bt, r0, rb [3, 9] [10, 14, 15, 21, 22, 27, 28, 33, 34, 39], bt, au] (q2 b4 c1 <| ar 6 b5 <| ar 4 b6 <| ar 22 rT <| tt) (Pi G E h L)
     · rcases Ag h with ⟨b7, h⟩ | ⟨b7, h⟩
       · exact sg G [r0, bt, r0, rb [3, 9, 10, 14] [15, 21, 22, 27, 28, 33, 34, 39], bt, au] (q2 b4 c1 <| ar 6 b5 <| ar 4 b6 <| ar 6 b7 <| ar 16 rT <| tt) (Pi G E h L)
       · rcases Ag h with ⟨b8, h⟩ | ⟨b8, h⟩
         · exact sg G [r0, bt, r0, rb [3, 9, 10, 14, 15, 21] [22, 27, 28, 33, 34, 39], bt, au] (q2 b4 c1 <| ar 6 b5 <| ar 4 b6 <| ar 6 b7 <| ar 5 b8 <| ar 11 rT <| tt) (Pi G E h L)
         · obtain ⟨y1, c2, h⟩ := bind_some h
           rcases Ag h with ⟨b9, h⟩ | ⟨b9, h⟩
           · exact sg G [r0, bt, r0, rg [3, 9, 10, 14, 15, 21, 22, 27] [28, 33, 34, 39] [(25, rs .bool y1)], bt, au] (q2 b4 c1 <| ar 6 b5 <| ar 4 b6 <| ar 6 b7 <| ar 3 b8 <| q3 (ca c2) b8 b8 <| ar 5 b9 <| ar 6 rT <| tt) (Pi G E h L)
           · rcases Ag h with ⟨b10, h⟩ | ⟨b10, h⟩
             · exact sg G [r0, bt, r0, rg [3, 9, 10, 14, 15, 21, 22, 27, 28, 33] [34, 39] [(25, rs .bool y1)], bt, au] (q2 b4 c1 <| ar 6 b5 <| ar 4 b6 <| ar 6 b7 <| ar 3 b8 <| q3 (ca c2) b8 b8 <| ar 5 b9 <| ar 5 b10 <| e1 rT) (Pi G E h L)
             · obtain ⟨y2, c3, h⟩ := bind_some h
               rcases Ag h with ⟨b11, h⟩ | ⟨b11, h⟩
               · exact sg G [r0, bt, r0, rg [3, 9, 10, 14, 15, 21, 22, 27, 28, 33, 34, 39] [] [(25, rs .bool y1), (37, rs .bool y2)], bt, au] (q2 b4 c1 <| ar 6 b5 <| ar 4 b6 <| ar 6 b7 <| ar 3 b8 <| q3 (ca c2) b8 b8 <| ar 5 b9 <| ar 3 b10 <| e4 (ca c3) b10 b10 b11) (Pi G E h L)
               · exact sg G [r0, bt, r0, rg [3, 9, 10, 14, 15, 21, 22, 27, 28, 33, 34, 39] [] [(25, rs .bool y1), (37, rs .bool y2)], bf, r0, en] (q2 b4 c1 <| ar 6 b5 <| ar 4 b6 <| ar 6 b7 <| ar 3 b8 <| q3 (ca c2) b8 b8 <| ar 5 b9 <| ar 3 b10 <| e4 (ca c3) b10 b10 b11) (L.1 _ (si h))
 · exact sg G [r0, bf, au] (e1 b4) (L.2 _ (si h))
theorem Beh (G : Ay To P) {y a0} (E : Axf C F y) (h : J7 a0 = some y) : Ax To P C F Aol (Bfh a0) := by
 unfold J7 at h
 rcases Ag h with ⟨b1, h⟩ | ⟨b1, h⟩
 · have e := sj h; subst e
   exact se G E [r0, r0, bt, r0, au] (e1 b1)
 · rcases Ag h with ⟨b2, h⟩ | ⟨b2, h⟩
   · exact sg G [r0, r0, bf, ru [3, 7], bt, au] (q1 b1 <| ar 4 b2 <| e1 rT) (Am5 G E h)
   · rcases Ag h with ⟨b3, h⟩ | ⟨b3, h⟩
     · exact sg G [r0, r0, bf, rf [3, 7], bt, au] (q1 b1 <| ar 4 b2 <| e1 b3) (Am5 G E h)
     · obtain ⟨r, hi, h⟩ := bind_some h
       refine sg G [r0, r0, bf, rf [3, 7], bf, r0, en] (q1 b1 <| ar 4 b2 <| e1 b3) (lg (Axv G E) hi ?_)
       rcases r with r1 | r2
       · have e := sj h; subst e
         exact se G E [r0, au] tt
       · exact sj h
theorem Tu : MT 14 Aa3 := show Be To _ _ _ from mt (fn := Tryz.f14) (S := λ x => Bfh x.1) (GB ⟨Aox, trivial⟩ trivial) λ G _ _ _ _ => Beh G
noncomputable abbrev A0k : Env := EV [] [] false
noncomputable def Bel := c0 Tryz.f48
noncomputable def Aev : FS yzE := f1 [(.int .i64)] (.nm 3) λ x => Xk x.1
abbrev Bk8 (C : Ctx) (F : FT) (y : A8) : Prop := En A0k C F Tryz.f48 Aev (y, ())
def Be0 (a0 : Int) : ST := ⟨5, [oi 0 a0], []⟩
theorem Bc0 (G : Ay A0k P) {y a0} (E : Bk8 C F y) (h : Xk a0 = some y) : Ax A0k P C F Bel (Be0 a0) := by
 unfold Xk at h
 have e := sj h; subst e
 exact se G E [r0, r0, au] tt
theorem Yk : MT 48 Aev := show Be A0k _ _ _ from mt (fn := Tryz.f48) (S := λ x => Be0 x.1) (GB trivial trivial) λ G _ _ _ _ => Bc0 G
noncomputable abbrev Ayk : Env := EV [(48, Aev)] [] false
noncomputable def Bcy := c0 Tryz.f21
noncomputable def Pw : FS yzE := f1 [(.int .i64)] (.nm 4) λ x => G8 x.1
abbrev Bj3 (C : Ctx) (F : FT) (y : Al) : Prop := En Ayk C F Tryz.f21 Pw (y, ())
def Ba7 (a0 : Int) : ST := ⟨7, [oi 0 a0], []⟩
theorem Bds (G : Ay Ayk P) {y a0} (E : Bj3 C F y) (h : G8 a0 = some y) : Ax Ayk P C F Bcy (Ba7 a0) := by
 unfold G8 at h
 obtain ⟨y1, c1, h⟩ := bind_some h
 obtain ⟨y2, c2, h⟩ := bind_some h
 have e := sj h; subst e
 exact se G E [r0, .reg [(1, rs (.nm 3) y1), (2, rs (.nm 3) y2)], au] (e2 (ca c1) (ca c2))
theorem Iz : MT 21 Pw := show Be Ayk _ _ _ from mt (fn := Tryz.f21) (S := λ x => Ba7 x.1) (GB ⟨Yk, trivial⟩ trivial) λ G _ _ _ _ => Bds G
noncomputable abbrev Z7 : Env := EV [] [] false
noncomputable def At5 := c0 Tryz.f77
noncomputable def Zi : FS yzE := f1 [(.nm 3)] (.int .i64) λ x => I4 x.1
noncomputable def Bgr := ct [0, 0, 3, 4] At5
noncomputable def A3w := ct [0, 0, 2, 4] At5
noncomputable def Bfy := ct [0, 2, 4] A3w
abbrev Azb (C : Ctx) (F : FT) (y : Int) : Prop := En Z7 C F Tryz.f77 Zi (y, ())
def A8i : ST := ⟨30, [], []⟩
def A6u : ST := ⟨30, [], []⟩
def A9p (a0 : A8) : ST := ⟨30, [op 1], [bc 1 (Bv a0)]⟩
def Biw (a0 : A8) : ST := ⟨30, [og 0 (Bv a0)], []⟩
theorem Add (G : Ay Z7 P) {y} (E : Azb C F y) (h : Ki = some y) : Ax Z7 P C F Bgr A8i := by
 unfold Ki at h
 have e := sj h; subst e
 exact se G E [r0, au] tt
theorem Aj3 (G : Ay Z7 P) {y} (E : Azb C F y) (h : Ml = some y) : Ax Z7 P C F Bfy A6u := by
 unfold Ml at h
 have e := sj h; subst e
 exact se G E [r0, au] tt
theorem Wo (G : Ay Z7 P) {y a0} (E : Azb C F y) (h : Jo a0 = some y) : Ax Z7 P C F A3w (A9p a0) := by
 unfold Jo at h
 rcases Ag h with ⟨b7, h⟩ | ⟨b7, h⟩
 · rcases Ag h with ⟨b8, h⟩ | ⟨b8, h⟩
   · have e := sj h; subst e
     exact se G E [ru [3, 7], bt, r0, au] (ar 4 b7 <| e1 b8)
   · exact sg G [ru [3, 7], bf, au] (ar 4 b7 <| e1 b8) (Aj3 G E h)
 · exact sg G [rf [3, 7], bf, au] (ar 4 b7 <| e1 rF) (Aj3 G E h)
theorem Bhk (G : Ay Z7 P) {y a0} (E : Azb C F y) (h : I4 a0 = some y) : Ax Z7 P C F At5 (Biw a0) := by
 unfold I4 at h
 rcases Ag h with ⟨b1, h⟩ | ⟨b1, h⟩
 · rcases Ag h with ⟨b2, h⟩ | ⟨b2, h⟩
   · exact sg G [r0, ru [3, 6, 7, 16], bt, au] (ar 3 b1 <| ar 6 b2 <| e1 rT) (Add G E h)
   · rcases Ag h with ⟨b3, h⟩ | ⟨b3, h⟩
     · rcases Ag h with ⟨b4, h⟩ | ⟨b4, h⟩
       · exact sg G [r0, rb [7, 16] [3, 6, 11, 15], bt, au] (ar 3 b1 <| ar 4 b2 <| ar 3 b3 <| e4 b2 b3 b2 b4) (Add G E h)
       · exact sg G [r0, rb [7, 16] [3, 6, 11, 15], bf, au] (ar 3 b1 <| ar 4 b2 <| ar 3 b3 <| e4 b2 b3 b2 b4) (Wo G E h)
     · exact sg G [r0, rb [7, 11, 15, 16] [3, 6], bf, au] (ar 3 b1 <| ar 4 b2 <| ar 3 b3 <| e4 b2 b3 b2 rF) (Wo G E h)
 · rcases Ag h with ⟨b5, h⟩ | ⟨b5, h⟩
   · rcases Ag h with ⟨b6, h⟩ | ⟨b6, h⟩
     · exact sg G [r0, rb [3, 6, 7, 16] [11, 15], bt, au] (ar 3 b1 <| ar 4 rF <| ar 3 b5 <| e4 rF b5 rF b6) (Add G E h)
     · exact sg G [r0, rb [3, 6, 7, 16] [11, 15], bf, au] (ar 3 b1 <| ar 4 rF <| ar 3 b5 <| e4 rF b5 rF b6) (Wo G E h)
   · exact sg G [r0, rf [3, 6, 7, 11, 15, 16], bf, au] (ar 3 b1 <| ar 4 rF <| ar 3 b5 <| e4 rF b5 rF rF) (Wo G E h)
theorem Qr : MT 77 Zi := show Be Z7 _ _ _ from mt (fn := Tryz.f77) (S := λ x => Biw x.1) (GB trivial trivial) λ G _ _ _ _ => Bhk G
noncomputable abbrev Ank : Env := EV [] [] false
noncomputable def A5h := c0 Tryz.f72
noncomputable def Aan : FS yzE := f2 [(.nm 3)] (.sl (.int .u32)) .bool λ x => F4 x.1
noncomputable def Bbm := ct [0, 0, 2, 0, 0, 3, 0, 4] A5h
abbrev Big (C : Ctx) (F : FT) (y : ((List Int) × Bool)) : Prop := En Ank C F Tryz.f72 Aan (y.1, y.2, ())
def A7w (a0 : A8) (v1 : Int) : ST := ⟨42, [op 1, ol 4 (.int .u64 v1)], [bc 1 (Bv a0)]⟩
def Baf (a0 : A8) : ST := ⟨42, [og 0 (Bv a0)], []⟩
theorem Amx (G : Ay Ank P) {y a0 v1} (E : Big C F y) (h : Jr a0 v1 = some y) : Ax Ank P C F Bbm (A7w a0 v1) := by
 unfold Jr at h
 rcases Ag h with ⟨b3, h⟩ | ⟨b3, h⟩
 · have e := sj h; subst e
   exact se G E [r0, bt, r0, au] (e1 b3)
 · obtain ⟨c1, h⟩ := Am h
   rcases Ag h with ⟨b4, h⟩ | ⟨b4, h⟩
   · have e := sj h; subst e
     exact se G E [r0, bf, r0, bt, r0, au] (e3 b3 c1 b4)
   · obtain ⟨c2, h⟩ := Am h
     have e := sj h; subst e
     exact se G E [r0, bf, r0, bf, r0, au] (e4 b3 c1 b4 c2)
theorem Bio (G : Ay Ank P) {y a0} (E : Big C F y) (h : F4 a0 = some y) : Ax Ank P C F A5h (Baf a0) := by
 unfold F4 at h
 rcases Ag h with ⟨b1, h⟩ | ⟨b1, h⟩
 · have e := sj h; subst e
   exact se G E [r0, r0, bt, r0, au] (e1 b1)
 · rcases Ag h with ⟨b2, h⟩ | ⟨b2, h⟩
   · exact sg G [r0, r0, bf, r0, r0, bt, r0, au] (e2 b1 b2) (Amx G E h)
   · exact sg G [r0, r0, bf, r0, r0, bf, au] (e2 b1 b2) (Amx G E h)
theorem Ts : MT 72 Aan := show Be Ank _ _ _ from mt (fn := Tryz.f72) (S := λ x => Baf x.1) (GB trivial trivial) λ G _ _ _ _ => Bio G
noncomputable abbrev Ue : Env := EV [] [] false
noncomputable def A32 := c0 Tryz.f73
noncomputable def Abc : FS yzE := f1 [(.sl (.int .u32)), .bool] (.nm 3) λ x => Je x.1 x.2.1
noncomputable def Arw := ct [0, 1] A32
noncomputable def A47 := ct [0, 2, 4] Arw
noncomputable def Aqd := ct [0, 3, 0, 0, 1] A47
noncomputable def A5k := ct [0, 2, 4] Aqd
noncomputable def Bc7 := ct [0, 2, 4] A5k
abbrev A0o (C : Ctx) (F : FT) (y : A8) : Prop := En Ue C F Tryz.f73 Abc (y, ())
def A0t (a1 : Bool) (r1 : List Int) : ST := ⟨55, [os 0 (.int .u32) r1, ol 1 (.bool a1), op 4], [bc 4 [.int .i64 (0 : Int), .sl (.int .u32) true [], .bool false]]⟩
def A0r (a1 : Bool) (r1 : List Int) (r2 : Int) : ST := ⟨55, [os 0 (.int .u32) r1, ol 1 (.bool a1), op 4, ol 5 (.int .u64 r2)], [bc 4 [.int .i64 (0 : Int), .sl (.int .u32) true [], .bool false]]⟩
def Avf (a1 : Bool) (v : List Int) : ST := ⟨55, [os 0 (.int .u32) v, ol 1 (.bool a1), op 4], [bc 4 [.int .i64 (0 : Int), .sl (.int .u32) true [], .bool false]]⟩
def Au1 (a1 : Bool) (r1 : List Int) (v : Int × Int) : ST := ⟨55, [os 0 (.int .u32) r1, ol 1 (.bool a1), op 4, ol 5 (.int .u64 v.1), oi 6 v.2], [bc 4 [.int .i64 (0 : Int), .sl (.int .u32) true [], .bool false]]⟩
def A9s (a1 : Bool) (r1 : List Int) : ST := ⟨55, [os 0 (.int .u32) r1, ol 1 (.bool a1), op 4], [bc 4 [.int .i64 (0 : Int), .sl (.int .u32) true [], .bool false]]⟩
def Bbd (a0 : List Int) (a1 : Bool) : ST := ⟨55, [os 0 (.int .u32) a0, ol 1 (.bool a1)], []⟩
theorem Awn (G : Ay Ue P) {y a1} (E : A0o C F y) (v : List Int) o (h : Rb a1 v = some o) (L : LP Ue P C F Arw (Avf a1) (GX Ue P C F A47 (A0t a1)) o) : Ax Ue P C F Arw (Avf a1 v) := by
 unfold Rb at h
 rcases Ag h with ⟨b1, h⟩ | ⟨b1, h⟩
 · obtain ⟨c1, h⟩ := Am h
   rcases Ag h with ⟨b2, h⟩ | ⟨b2, h⟩
   · obtain ⟨c2, c3, c4, h⟩ := ns3 h
     exact sg G [ru [3, 11], bt, r0, en] (ar 5 b1 <| q1 c1 <| ar 3 b1 <| e4 b2 c2 c3 c4) (L.1 _ (si h))
   · exact sg G [ru [3, 11], bf, au] (ar 5 b1 <| q1 c1 <| ar 3 b1 <| e1 b2) (L.2 _ (si h))
 · exact sg G [rf [3, 11], bf, au] (ar 8 b1 <| e1 rF) (L.2 _ (si h))
theorem Ay8 (G : Ay Ue P) {y a1 r1} (E : A0o C F y) (v : Int × Int) o (h : Nu a1 r1 v.1 v.2 = some o) (L : LP Ue P C F Aqd (Au1 a1 r1) (GX Ue P C F A5k (A0r a1 r1)) o) : Ax Ue P C F Aqd (Au1 a1 r1 v) := by
 unfold Nu at h
 rcases Ag h with ⟨b4, h⟩ | ⟨b4, h⟩
 · obtain ⟨c5, c6, h⟩ := ns2 h
   exact sg G [r0, bt, r0, r0, en] (e3 b4 c5 c6) (L.1 _ (si h))
 · exact sg G [r0, bf, au] (e1 b4) (L.2 _ (si h))
theorem Amm (G : Ay Ue P) {y a1 r1} (E : A0o C F y) (h : Lm a1 r1 = some y) : Ax Ue P C F Bc7 (A9s a1 r1) := by
 unfold Lm at h
 obtain ⟨c7, h⟩ := Am h
 have e := sj h; subst e
 exact se G E [r0, au, .weak [.ne (.cell 4) 1]] (e1 c7)
theorem Bbb (G : Ay Ue P) {y a0 a1} (E : A0o C F y) (h : Je a0 a1 = some y) : Ax Ue P C F A32 (Bbd a0 a1) := by
 unfold Je at h
 obtain ⟨r1, hi, h⟩ := bind_some h
 refine sg G [r0, en] tt (lg (Awn G E) hi ?_)
 rcases Ag h with ⟨b3, h⟩ | ⟨b3, h⟩
 · obtain ⟨r2, hi, h⟩ := bind_some h
   refine sg G [r0, bt, r0, r0, en] (e1 b3) (lg (Ay8 G E) hi ?_)
   rcases Ag h with ⟨b5, h⟩ | ⟨b5, h⟩
   · rcases Ag h with ⟨b6, h⟩ | ⟨b6, h⟩
     · have e := sj h; subst e
       exact se G E [r0, bt, r0, bt, r0, au] (e2 b5 b6)
     · have e := sj h; subst e
       exact se G E [r0, bt, r0, bf, r0, au] (e2 b5 b6)
   · exact sg G [r0, bf, au] (e1 b5) (Amm G E h)
 · exact sg G [r0, bf, au] (e1 b3) (Amm G E h)
theorem Tc : MT 73 Abc := show Be Ue _ _ _ from mt (fn := Tryz.f73) (S := λ x => Bbd x.1 x.2.1) (GB trivial trivial) λ G _ _ _ _ => Bbb G
noncomputable abbrev T0 : Env := EV [] [] false
noncomputable def A5e := c0 Tryz.f74
noncomputable def Atk : FS yzE := f1 [(.sl (.int .u32)), (.sl (.int .u32))] (.sl (.int .u32)) λ x => J4 x.1 x.2.1
noncomputable def A3i := ct [0, 0, 3, 0, 4] A5e
noncomputable def Agp := ct [0, 0, 0, 1] A3i
noncomputable def Bhf := ct [0, 3, 0, 0, 0, 3, 0, 4] Agp
noncomputable def A4z := ct [0, 2, 4] Agp
abbrev A11 (C : Ctx) (F : FT) (y : List Int) : Prop := En T0 C F Tryz.f74 Atk (y, ())
def Akt (r1 : (Int × (List Int))) : ST := ⟨56, [ol 5 (.ar 19 0), ol 6 (.int .u64 r1.1)], [ba 19 120 (.int .u32) r1.2]⟩
def A9y (v1 : List Int) (v2 : List Int) (v4 : Int) (v5 : List Int) (v6 : Int) : ST := ⟨56, [os 0 (.int .u32) v1, os 1 (.int .u32) v2, ol 5 (.ar 19 0), ol 8 (.int .u64 v6), oi 21 (v1.length : Int), oi 22 v4], [ba 19 120 (.int .u32) v5]⟩
def Aif (v1 : List Int) (v2 : List Int) (v : Int × Int × (List Int)) : ST := ⟨56, [os 0 (.int .u32) v1, os 1 (.int .u32) v2, ol 5 (.ar 19 0), ol 6 (.int .u64 v.1), oi 21 (v1.length : Int), oi 22 v.2.1], [ba 19 120 (.int .u32) v.2.2]⟩
def A7l (v1 : List Int) (v2 : List Int) : ST := ⟨56, [os 0 (.int .u32) v1, os 1 (.int .u32) v2], []⟩
def Bjh (a0 : List Int) (a1 : List Int) : ST := ⟨56, [os 0 (.int .u32) a0, os 1 (.int .u32) a1], []⟩
theorem Am4 (G : Ay T0 P) {y o v1 v2 v4 v5 v6} (E : A11 C F y) (h : H1 v1 v2 v4 v5 v6 = some o) (L : LP T0 P C F Agp (Aif v1 v2) (GX T0 P C F A4z Akt) o) : Ax T0 P C F Bhf (A9y v1 v2 v4 v5 v6) := by
 unfold H1 at h
 obtain ⟨c6, h⟩ := Am h
 obtain ⟨c7, h⟩ := Am h
 exact sg G [r0, r0, r0, en, .weak [.re 19 19 0]] (e2 c6 c7) (L.1 _ (si h))
theorem A0c (G : Ay T0 P) {y v1 v2} (E : A11 C F y) (v : Int × Int × (List Int)) o (h : Kt v1 v2 v.1 v.2.1 v.2.2 = some o) (L : LP T0 P C F Agp (Aif v1 v2) (GX T0 P C F A4z Akt) o) : Ax T0 P C F Agp (Aif v1 v2 v) := by
 unfold Kt at h
 rcases Ag h with ⟨b2, h⟩ | ⟨b2, h⟩
 · obtain ⟨c4, h⟩ := Am h
   rcases Ag h with ⟨b3, h⟩ | ⟨b3, h⟩
   · obtain ⟨c5, h⟩ := Am h
     exact sg G [r0, bt, r0, r0, r0, bt, r0, au] (e4 b2 c4 b3 c5) (Am4 G E h L)
   · exact sg G [r0, bt, r0, r0, r0, bf, au] (e3 b2 c4 b3) (Am4 G E h L)
 · exact sg G [r0, bf, au] (e1 b2) (L.2 _ (si h))
theorem Aj4 (G : Ay T0 P) {y v1 v2} (E : A11 C F y) (h : Hz v1 v2 = some y) : Ax T0 P C F A3i (A7l v1 v2) := by
 unfold Hz at h
 obtain ⟨c1, c2, c3, h⟩ := ns3 h
 obtain ⟨r1, hi, h⟩ := bind_some h
 refine sg G [r0, r0, r0, en] (e3 c1 c2 c3) (lg (A0c G E) hi ?_)
 obtain ⟨c8, h⟩ := Am h
 have e := sj h; subst e
 exact se G E [r0, au, .weak [.fix (.slot 4)]] (e1 c8)
theorem A98 (G : Ay T0 P) {y a0 a1} (E : A11 C F y) (h : J4 a0 a1 = some y) : Ax T0 P C F A5e (Bjh a0 a1) := by
 unfold J4 at h
 rcases Ag h with ⟨b1, h⟩ | ⟨b1, h⟩
 · exact sg G [r0, r0, bt, r0, au] (e1 b1) (Aj4 G E h)
 · exact sg G [r0, r0, bf, au] (e1 b1) (Aj4 G E h)
theorem Auo : MT 74 Atk := show Be T0 _ _ _ from mt (fn := Tryz.f74) (S := λ x => Bjh x.1 x.2.1) (GB trivial trivial) λ G _ _ _ _ => A98 G
noncomputable abbrev Aeg : Env := EV [] [] false
noncomputable def A4a := c0 Tryz.f75
noncomputable def Ajf : FS yzE := f1 [(.sl (.int .u32)), (.sl (.int .u32))] (.int .i64) λ x => Ia x.1 x.2.1
noncomputable def As8 := ct [0, 0, 2, 0, 1] A4a
noncomputable def Bfc := ct [0, 2, 4] As8
abbrev Bhy (C : Ctx) (F : FT) (y : Int) : Prop := En Aeg C F Tryz.f75 Ajf (y, ())
def Aya (r1 : Unit) : ST := ⟨41, [], []⟩
def Asd (a0 : List Int) (a1 : List Int) (v : Int) : ST := ⟨41, [os 0 (.int .u32) a0, os 1 (.int .u32) a1, oi 5 v], []⟩
def Bfq (a0 : List Int) (a1 : List Int) : ST := ⟨41, [os 0 (.int .u32) a0, os 1 (.int .u32) a1], []⟩
theorem Awy (G : Ay Aeg P) {y a0 a1} (E : Bhy C F y) (v : Int) o (h : Ks a0 a1 v = some o) (L : LP Aeg P C F As8 (Asd a0 a1) (Sum.elim (GX Aeg P C F Bfc Aya) (RX y)) o) : Ax Aeg P C F As8 (Asd a0 a1 v) := by
 unfold Ks at h
 rcases Ag h with ⟨b3, h⟩ | ⟨b3, h⟩
 · obtain ⟨c1, c2, h⟩ := ns2 h
   rcases Ag h with ⟨b4, h⟩ | ⟨b4, h⟩
   · obtain ⟨c3, c4, h⟩ := ns2 h
     rcases Ag h with ⟨b5, h⟩ | ⟨b5, h⟩
     · have e : _ = y := L.2 _ (si h); subst e
       exact se G E [r0, bt, r0, bt, r0, bt, r0, au] (q6 b3 c1 c2 b4 c3 c4 <| e1 b5)
     · have e : _ = y := L.2 _ (si h); subst e
       exact se G E [r0, bt, r0, bt, r0, bf, r0, au] (q6 b3 c1 c2 b4 c3 c4 <| e1 b5)
   · exact sg G [r0, bt, r0, bf, r0, en] (e4 b3 c1 c2 b4) (L.1 _ (si h))
 · exact sg G [r0, bf, au] (e1 b3) (L.2 _ (si h))
theorem Bgy (G : Ay Aeg P) {y a0 a1} (E : Bhy C F y) (h : Ia a0 a1 = some y) : Ax Aeg P C F A4a (Bfq a0 a1) := by
 unfold Ia at h
 rcases Ag h with ⟨b1, h⟩ | ⟨b1, h⟩
 · rcases Ag h with ⟨b2, h⟩ | ⟨b2, h⟩
   · have e := sj h; subst e
     exact se G E [r0, r0, bt, r0, bt, r0, au] (e2 b1 b2)
   · have e := sj h; subst e
     exact se G E [r0, r0, bt, r0, bf, r0, au] (e2 b1 b2)
 · obtain ⟨r, hi, h⟩ := bind_some h
   refine sg G [r0, r0, bf, r0, en] (e1 b1) (lg (Awy G E) hi ?_)
   rcases r with r1 | r2
   · have e := sj h; subst e
     exact se G E [r0, au] tt
   · exact sj h
theorem Ahb : MT 75 Ajf := show Be Aeg _ _ _ from mt (fn := Tryz.f75) (S := λ x => Bfq x.1 x.2.1) (GB trivial trivial) λ G _ _ _ _ => Bgy G
noncomputable abbrev Rv : Env := EV [] [] false
noncomputable def A39 := c0 Tryz.f76
noncomputable def Asg : FS yzE := f1 [(.sl (.int .u32)), (.sl (.int .u32))] (.sl (.int .u32)) λ x => H7 x.1 x.2.1
noncomputable def Aag := ct [0, 0, 0, 0, 1] A39
noncomputable def A34 := ct [0, 3, 0, 0, 0, 3, 0, 4] Aag
noncomputable def Bgt := ct [0, 0, 3, 0, 4] A34
noncomputable def Awf := ct [0, 2, 4] Aag
abbrev Aw1 (C : Ctx) (F : FT) (y : List Int) : Prop := En Rv C F Tryz.f76 Asg (y, ())
def Abn (r1 : List Int) : ST := ⟨46, [ol 5 (.ar 11 0)], [ba 11 120 (.int .u32) r1]⟩
def A8m (a0 : List Int) (a1 : List Int) (v2 : Int) (v3 : List Int) (v5 : Int) (v6 : Int) : ST := ⟨46, [os 0 (.int .u32) a0, os 1 (.int .u32) a1, ol 5 (.ar 11 0), oi 6 v5, oi 8 v6, oi 13 (a0.length : Int), oi 14 v2], [ba 11 120 (.int .u32) v3]⟩
def A66 (a0 : List Int) (a1 : List Int) (v2 : Int) (v3 : List Int) (v4 : Int) : ST := ⟨46, [os 0 (.int .u32) a0, os 1 (.int .u32) a1, ol 5 (.ar 11 0), oi 8 v4, oi 13 (a0.length : Int), oi 14 v2], [ba 11 120 (.int .u32) v3]⟩
def Acy (a0 : List Int) (a1 : List Int) (v : Int × Int × (List Int)) : ST := ⟨46, [os 0 (.int .u32) a0, os 1 (.int .u32) a1, ol 5 (.ar 11 0), oi 6 v.1, oi 13 (a0.length : Int), oi 14 v.2.1], [ba 11 120 (.int .u32) v.2.2]⟩
def Bhn (a0 : List Int) (a1 : List Int) : ST := ⟨46, [os 0 (.int .u32) a0, os 1 (.int .u32) a1], []⟩
theorem Aj7 (G : Ay Rv P) {y o a0 a1 v2 v3 v5 v6} (E : Aw1 C F y) (h : Hu a0 a1 v2 v3 v5 v6 = some o) (L : LP Rv P C F Aag (Acy a0 a1) (GX Rv P C F Awf Abn) o) : Ax Rv P C F Bgt (A8m a0 a1 v2 v3 v5 v6) := by
 unfold Hu at h
 obtain ⟨c6, h⟩ := Am h
 exact sg G [r0, r0, en, .weak [.re 11 11 0]] (e1 c6) (L.1 _ (si h))
theorem Amp (G : Ay Rv P) {y o a0 a1 v2 v3 v4} (E : Aw1 C F y) (h : Hs a0 a1 v2 v3 v4 = some o) (L : LP Rv P C F Aag (Acy a0 a1) (GX Rv P C F Awf Abn) o) : Ax Rv P C F A34 (A66 a0 a1 v2 v3 v4) := by
 unfold Hs at h
 rcases Ag h with ⟨b3, h⟩ | ⟨b3, h⟩
 · exact sg G [r0, r0, bt, r0, au] (e1 b3) (Aj7 G E h L)
 · exact sg G [r0, r0, bf, au] (e1 b3) (Aj7 G E h L)
theorem Az4 (G : Ay Rv P) {y a0 a1} (E : Aw1 C F y) (v : Int × Int × (List Int)) o (h : Ku a0 a1 v.1 v.2.1 v.2.2 = some o) (L : LP Rv P C F Aag (Acy a0 a1) (GX Rv P C F Awf Abn) o) : Ax Rv P C F Aag (Acy a0 a1 v) := by
 unfold Ku at h
 rcases Ag h with ⟨b1, h⟩ | ⟨b1, h⟩
 · obtain ⟨c4, h⟩ := Am h
   rcases Ag h with ⟨b2, h⟩ | ⟨b2, h⟩
   · obtain ⟨c5, h⟩ := Am h
     exact sg G [r0, bt, r0, r0, r0, bt, r0, au] (e4 b1 c4 b2 c5) (Amp G E h L)
   · exact sg G [r0, bt, r0, r0, r0, bf, au] (e3 b1 c4 b2) (Amp G E h L)
 · exact sg G [r0, bf, au] (e1 b1) (L.2 _ (si h))
theorem Bgs (G : Ay Rv P) {y a0 a1} (E : Aw1 C F y) (h : H7 a0 a1 = some y) : Ax Rv P C F A39 (Bhn a0 a1) := by
 unfold H7 at h
 obtain ⟨c1, c2, c3, h⟩ := ns3 h
 obtain ⟨r1, hi, h⟩ := bind_some h
 refine sg G [r0, r0, r0, r0, en] (e3 c1 c2 c3) (lg (Az4 G E) hi ?_)
 have e := sj h; subst e
 exact se G E [r0, au, .weak [.fix (.slot 4)]] tt
theorem Aqz : MT 76 Asg := show Be Rv _ _ _ from mt (fn := Tryz.f76) (S := λ x => Bhn x.1 x.2.1) (GB trivial trivial) λ G _ _ _ _ => Bgs G
noncomputable abbrev Aoa : Env := EV [(72, Aan), (73, Abc), (74, Atk), (75, Ajf), (76, Asg)] [] false
noncomputable def A29 := c0 Tryz.f50
noncomputable def Amf : FS yzE := f1 [(.nm 3), (.nm 3)] (.nm 3) λ x => Nb x.1 x.2.1
noncomputable def Bi0 := ct [0, 0, 3, 0, 0, 2, 4] A29
abbrev Bhq (C : Ctx) (F : FT) (y : A8) : Prop := En Aoa C F Tryz.f50 Amf (y, ())
def A9h (a0 : A8) (a1 : A8) : ST := ⟨65, [op 2, op 3, op 4], [bc 2 (Bv a0), bc 3 (Bv a1), bc 4 [.int .i64 (0 : Int), .sl (.int .u32) true [], .bool false]]⟩
def Bcn (a0 : A8) (a1 : A8) : ST := ⟨65, [og 0 (Bv a0), og 1 (Bv a1)], []⟩
theorem Adm (G : Ay Aoa P) {y a0 a1} (E : Bhq C F y) (h : Ko a0 a1 = some y) : Ax Aoa P C F Bi0 (A9h a0 a1) := by
 unfold Ko at h
 obtain ⟨y1, c1, h⟩ := bind_some h
 obtain ⟨y2, c2, h⟩ := bind_some h
 rcases Ag h with ⟨b4, h⟩ | ⟨b4, h⟩
 · obtain ⟨y3, c3, h⟩ := bind_some h
   obtain ⟨y4, c4, h⟩ := bind_some h
   have e := sj h; subst e
   exact se G E [rc 1 (rt (.sl (.int .u32)) .bool y1), rc 1 (rt (.sl (.int .u32)) .bool y2), r0, bt, .reg [(2, rs (.sl (.int .u32)) y3), (4, rs (.nm 3) y4)], au] (e5 (cb c1) (cb c2) b4 (ca c3) (ca c4))
 · obtain ⟨y5, c5, h⟩ := bind_some h
   rcases Ag h with ⟨b5, h⟩ | ⟨b5, h⟩
   · obtain ⟨y6, c6, h⟩ := bind_some h
     obtain ⟨y7, c7, h⟩ := bind_some h
     have e := sj h; subst e
     exact se G E [rc 1 (rt (.sl (.int .u32)) .bool y1), rc 1 (rt (.sl (.int .u32)) .bool y2), r0, bf, rc 2 (rs (.int .i64) y5), bt, .reg [(2, rs (.sl (.int .u32)) y6), (4, rs (.nm 3) y7)], au] (q6 (cb c1) (cb c2) b4 (ca c5) b5 (ca c6) <| e1 (ca c7))
   · obtain ⟨y8, c8, h⟩ := bind_some h
     obtain ⟨y9, c9, h⟩ := bind_some h
     have e := sj h; subst e
     exact se G E [rc 1 (rt (.sl (.int .u32)) .bool y1), rc 1 (rt (.sl (.int .u32)) .bool y2), r0, bf, rc 2 (rs (.int .i64) y5), bf, .reg [(2, rs (.sl (.int .u32)) y8), (4, rs (.nm 3) y9)], au] (q6 (cb c1) (cb c2) b4 (ca c5) b5 (ca c8) <| e1 (ca c9))
theorem Bjf (G : Ay Aoa P) {y a0 a1} (E : Bhq C F y) (h : Nb a0 a1 = some y) : Ax Aoa P C F A29 (Bcn a0 a1) := by
 unfold Nb at h
 rcases Ag h with ⟨b1, h⟩ | ⟨b1, h⟩
 · rcases Ag h with ⟨b2, h⟩ | ⟨b2, h⟩
   · rcases Ag h with ⟨b3, h⟩ | ⟨b3, h⟩
     · have e := sj h; subst e
       exact se G E [r0, ru [3, 7], bt, r0, r0, bt, r0, au] (ar 4 b1 <| e2 b2 b3)
     · exact sg G [r0, ru [3, 7], bt, r0, r0, bf, au] (ar 4 b1 <| e2 b2 b3) (Adm G E h)
   · exact sg G [r0, ru [3, 7], bf, au] (ar 4 b1 <| e1 b2) (Adm G E h)
 · exact sg G [r0, rf [3, 7], bf, au] (ar 4 b1 <| e1 rF) (Adm G E h)
theorem Ag4 : MT 50 Amf := show Be Aoa _ _ _ from mt (fn := Tryz.f50) (S := λ x => Bcn x.1 x.2.1) (GB ⟨Ts, Tc, Auo, Ahb, Aqz, trivial⟩ trivial) λ G _ _ _ _ => Bjf G
noncomputable abbrev Anl : Env := EV [(72, Aan), (73, Abc)] [] false
noncomputable def A4o := c0 Tryz.f78
noncomputable def Aa6 : FS yzE := f1 [(.nm 3)] (.nm 3) λ x => Kw x.1
noncomputable def Bdy := ct [0, 0, 2, 4] A4o
abbrev Bik (C : Ctx) (F : FT) (y : A8) : Prop := En Anl C F Tryz.f78 Aa6 (y, ())
def A6d (a0 : A8) : ST := ⟨26, [op 1, op 2], [bc 1 (Bv a0), bc 2 [.int .i64 (0 : Int), .sl (.int .u32) true [], .bool false]]⟩
def Bdl (a0 : A8) : ST := ⟨26, [og 0 (Bv a0)], []⟩
theorem Alu (G : Ay Anl P) {y a0} (E : Bik C F y) (h : Ls a0 = some y) : Ax Anl P C F Bdy (A6d a0) := by
 unfold Ls at h
 obtain ⟨y1, c1, h⟩ := bind_some h
 obtain ⟨y2, c2, h⟩ := bind_some h
 have e := sj h; subst e
 exact se G E [rc 1 (rt (.sl (.int .u32)) .bool y1), rc 3 (rs (.nm 3) y2), au] (e2 (cb c1) (ca c2))
theorem Bc5 (G : Ay Anl P) {y a0} (E : Bik C F y) (h : Kw a0 = some y) : Ax Anl P C F A4o (Bdl a0) := by
 unfold Kw at h
 rcases Ag h with ⟨b1, h⟩ | ⟨b1, h⟩
 · rcases Ag h with ⟨b2, h⟩ | ⟨b2, h⟩
   · have e := sj h; subst e
     exact se G E [r0, ru [3, 7], bt, r0, au] (ar 4 b1 <| e1 b2)
   · exact sg G [r0, ru [3, 7], bf, au] (ar 4 b1 <| e1 b2) (Alu G E h)
 · exact sg G [r0, rf [3, 7], bf, au] (ar 4 b1 <| e1 rF) (Alu G E h)
theorem Tj : MT 78 Aa6 := show Be Anl _ _ _ from mt (fn := Tryz.f78) (S := λ x => Bdl x.1) (GB ⟨Ts, Tc, trivial⟩ trivial) λ G _ _ _ _ => Bc5 G
noncomputable abbrev A1r : Env := EV [(50, Amf), (78, Aa6)] [] false
noncomputable def Bcb := c0 Tryz.f97
noncomputable def Aut : FS yzE := f1 [(.nm 3), (.nm 3)] (.nm 3) λ x => Q3 x.1 x.2.1
abbrev Bkn (C : Ctx) (F : FT) (y : A8) : Prop := En A1r C F Tryz.f97 Aut (y, ())
def Bhs (a0 : A8) (a1 : A8) : ST := ⟨9, [og 0 (Bv a0), og 1 (Bv a1)], []⟩
theorem Bhj (G : Ay A1r P) {y a0 a1} (E : Bkn C F y) (h : Q3 a0 a1 = some y) : Ax A1r P C F Bcb (Bhs a0 a1) := by
 unfold Q3 at h
 obtain ⟨y1, c1, h⟩ := bind_some h
 obtain ⟨y2, c2, h⟩ := bind_some h
 have e := sj h; subst e
 exact se G E [r0, .reg [(2, rs (.nm 3) y1), (3, rs (.nm 3) y2)], au] (e2 (ca c1) (ca c2))
theorem Apz : MT 97 Aut := show Be A1r _ _ _ from mt (fn := Tryz.f97) (S := λ x => Bhs x.1 x.2.1) (GB ⟨Ag4, Tj, trivial⟩ trivial) λ G _ _ _ _ => Bhj G
noncomputable abbrev Anw : Env := EV [(77, Zi), (97, Aut)] [] false
noncomputable def A4q := c0 Tryz.f71
noncomputable def Arp : FS yzE := f1 [(.nm 3), (.nm 3)] (.int .i64) λ x => Q1 x.1 x.2.1
noncomputable def Bct := ct [0, 0, 2, 4] A4q
abbrev Bdp (C : Ctx) (F : FT) (y : Int) : Prop := En Anw C F Tryz.f71 Arp (y, ())
def A93 (a0 : A8) (a1 : A8) : ST := ⟨29, [op 2, op 3], [bc 2 (Bv a0), bc 3 (Bv a1)]⟩
def Bfi (a0 : A8) (a1 : A8) : ST := ⟨29, [og 0 (Bv a0), og 1 (Bv a1)], []⟩
theorem Am3 (G : Ay Anw P) {y a0 a1} (E : Bdp C F y) (h : Lx a0 a1 = some y) : Ax Anw P C F Bct (A93 a0 a1) := by
 unfold Lx at h
 obtain ⟨y1, c1, h⟩ := bind_some h
 obtain ⟨y2, c2, h⟩ := bind_some h
 have e := sj h; subst e
 exact se G E [.reg [(2, rs (.nm 3) y1), (3, rs (.int .i64) y2)], au] (e2 (ca c1) (ca c2))
theorem Bi5 (G : Ay Anw P) {y a0 a1} (E : Bdp C F y) (h : Q1 a0 a1 = some y) : Ax Anw P C F A4q (Bfi a0 a1) := by
 unfold Q1 at h
 rcases Ag h with ⟨b1, h⟩ | ⟨b1, h⟩
 · rcases Ag h with ⟨b2, h⟩ | ⟨b2, h⟩
   · rcases Ag h with ⟨b3, h⟩ | ⟨b3, h⟩
     · have e := sj h; subst e
       exact se G E [r0, ru [3, 7], bt, r0, bt, r0, au] (ar 4 b1 <| e2 b2 b3)
     · rcases Ag h with ⟨b4, h⟩ | ⟨b4, h⟩
       · have e := sj h; subst e
         exact se G E [r0, ru [3, 7], bt, r0, bf, r0, bt, r0, au] (ar 4 b1 <| e3 b2 b3 b4)
       · have e := sj h; subst e
         exact se G E [r0, ru [3, 7], bt, r0, bf, r0, bf, r0, au] (ar 4 b1 <| e3 b2 b3 b4)
   · exact sg G [r0, ru [3, 7], bf, au] (ar 4 b1 <| e1 b2) (Am3 G E h)
 · exact sg G [r0, rf [3, 7], bf, au] (ar 4 b1 <| e1 rF) (Am3 G E h)
theorem Ao2 : MT 71 Arp := show Be Anw _ _ _ from mt (fn := Tryz.f71) (S := λ x => Bfi x.1 x.2.1) (GB ⟨Qr, Apz, trivial⟩ trivial) λ G _ _ _ _ => Bi5 G
noncomputable abbrev Ax6 : Env := EV [(48, Aev), (71, Arp)] [] false
noncomputable def Biv := c0 Tryz.f49
noncomputable def Alk : FS yzE := f1 [(.nm 4)] .bool λ x => Ii x.1
abbrev Blc (C : Ctx) (F : FT) (y : Bool) : Prop := En Ax6 C F Tryz.f49 Alk (y, ())
def Bi3 (a0 : Al) : ST := ⟨8, [og 0 (B5 a0)], []⟩
theorem Bhx (G : Ay Ax6 P) {y a0} (E : Blc C F y) (h : Ii a0 = some y) : Ax Ax6 P C F Biv (Bi3 a0) := by
 unfold Ii at h
 obtain ⟨y1, c1, h⟩ := bind_some h
 obtain ⟨y2, c2, h⟩ := bind_some h
 have e := sj h; subst e
 exact se G E [r0, .reg [(2, rs (.nm 3) y1), (3, rs (.int .i64) y2)], au] (e2 (ca c1) (ca c2))
theorem Aeq : MT 49 Alk := show Be Ax6 _ _ _ from mt (fn := Tryz.f49) (S := λ x => Bi3 x.1) (GB ⟨Yk, Ao2, trivial⟩ trivial) λ G _ _ _ _ => Bhx G
noncomputable abbrev Vp : Env := EV [] [] false
noncomputable def Awh := c0 Tryz.f103
noncomputable def Ah6 : FS yzE := f1 [(.int .u32)] (.int .i64) λ x => Lt x.1
noncomputable def Aub := ct [0, 0, 3, 0, 0, 4] Awh
noncomputable def A9m := ct [0, 3, 0, 0, 4] Aub
abbrev Apj (C : Ctx) (F : FT) (y : Int) : Prop := En Vp C F Tryz.f103 Ah6 (y, ())
def Ayw (v3 : Int) (v4 : Int) : ST := ⟨19, [ol 0 (.int .u32 v3), oi 2 v4], []⟩
def A2p (v1 : Int) (v2 : Int) : ST := ⟨19, [ol 0 (.int .u32 v1), oi 2 v2], []⟩
def A4v (a0 : Int) : ST := ⟨19, [ol 0 (.int .u32 a0)], []⟩
theorem Agr (G : Ay Vp P) {y v3 v4} (E : Apj C F y) (h : Jt v3 v4 = some y) : Ax Vp P C F A9m (Ayw v3 v4) := by
 unfold Jt at h
 obtain ⟨c3, h⟩ := Am h
 have e := sj h; subst e
 exact se G E [r0, au] (e1 c3)
theorem Ag0 (G : Ay Vp P) {y v1 v2} (E : Apj C F y) (h : J0 v1 v2 = some y) : Ax Vp P C F Aub (A2p v1 v2) := by
 unfold J0 at h
 rcases Ag h with ⟨b2, h⟩ | ⟨b2, h⟩
 · obtain ⟨c2, h⟩ := Am h
   exact sg G [r0, bt, r0, r0, au] (e2 b2 c2) (Agr G E h)
 · exact sg G [r0, bf, au] (e1 b2) (Agr G E h)
theorem A7c (G : Ay Vp P) {y a0} (E : Apj C F y) (h : Lt a0 = some y) : Ax Vp P C F Awh (A4v a0) := by
 unfold Lt at h
 rcases Ag h with ⟨b1, h⟩ | ⟨b1, h⟩
 · obtain ⟨c1, h⟩ := Am h
   exact sg G [r0, r0, bt, r0, r0, au] (e2 b1 c1) (Ag0 G E h)
 · exact sg G [r0, r0, bf, au] (e1 b1) (Ag0 G E h)
theorem Anu : MT 103 Ah6 := show Be Vp _ _ _ from mt (fn := Tryz.f103) (S := λ x => A4v x.1) (GB trivial trivial) λ G _ _ _ _ => A7c G
noncomputable abbrev Ajv : Env := EV [(103, Ah6)] [] false
noncomputable def A9x := c0 Tryz.f100
noncomputable def Ab6 : FS yzE := f1 [(.int .u32)] (.int .i64) λ x => Dk x.1
abbrev Biz (C : Ctx) (F : FT) (y : Int) : Prop := En Ajv C F Tryz.f100 Ab6 (y, ())
def A3d (a0 : Int) : ST := ⟨6, [ol 0 (.int .u32 a0)], []⟩
theorem A9n (G : Ay Ajv P) {y a0} (E : Biz C F y) (h : Dk a0 = some y) : Ax Ajv P C F A9x (A3d a0) := by
 unfold Dk at h
 obtain ⟨y1, c1, h⟩ := bind_some h
 have e := sj h; subst e
 exact se G E [r0, rc 1 (rs (.int .i64) y1), au] (e1 (ca c1))
theorem Aas : MT 100 Ab6 := show Be Ajv _ _ _ from mt (fn := Tryz.f100) (S := λ x => A3d x.1) (GB ⟨Anu, trivial⟩ trivial) λ G _ _ _ _ => A9n G
noncomputable abbrev Di : Env := EV [(75, Ajf), (100, Ab6)] [] false
noncomputable def Avj := c0 Tryz.f99
noncomputable def Ap5 : FS yzE := f2 [(.sl (.int .u32)), (.sl (.int .u32))] (.sl (.int .u32)) (.sl (.int .u32)) λ x => Jz x.1 x.2.1
noncomputable def Aue := ct [0, 0, 2, 0, 3, 0, 0, 0, 1] Avj
noncomputable def Bf9 := ct [0, 2, 4] Aue
noncomputable def Ad2 := ct [0, 0, 2, 0, 2, 0, 0, 0, 0, 1] Avj
noncomputable def Bgj := ct [0, 3, 0, 0, 0, 3, 0, 4] Ad2
noncomputable def Avx := ct [0, 2, 4] Ad2
noncomputable def Aa8 := ct [0, 1] Avx
noncomputable def A53 := ct [0, 3, 0, 0, 3, 0, 4] Aa8
noncomputable def Ba5 := ct [0, 3, 0, 4] A53
noncomputable def Amr := ct [0, 2, 4] Aa8
noncomputable def Yo := ct [0, 0, 0, 1] Amr
noncomputable def X5 := ct [0, 3, 0, 0, 1] Yo
noncomputable def A6q := ct [0, 3, 4] X5
noncomputable def Ai7 := ct [0, 2, 4] X5
noncomputable def Xm := ct [0, 0, 1] Ai7
noncomputable def A7h := ct [0, 3, 0, 0, 0, 0, 0, 0, 0, 3, 0, 4] Xm
noncomputable def Aim := ct [0, 2, 4] Xm
noncomputable def Ahm := ct [0, 0, 0, 3, 0, 0, 0, 1] Aim
noncomputable def Ar7 := ct [0, 2, 4] Ahm
noncomputable def A7t := ct [0, 4] Ar7
noncomputable def Ai6 := ct [0, 2, 4] Yo
noncomputable def Zk := ct [0, 0, 1] Ai6
noncomputable def A70 := ct [0, 3, 0, 0, 0, 3, 0, 4] Zk
noncomputable def Aql := ct [0, 2, 4] Zk
abbrev Rt (C : Ctx) (F : FT) (y : ((List Int) × (List Int))) : Prop := En Di C F Tryz.f99 Ap5 (y.1, y.2, ())
def Axr (r1 : (Int × (List Int))) : ST := ⟨392, [ol 6 (.ar 43 0), ol 7 (.int .u64 r1.1)], [ba 43 120 (.int .u32) r1.2]⟩
def Ako (a0 : List Int) (y2 : Int) (r2 : ((List Int) × (List Int))) : ST := ⟨392, [os 0 (.int .u32) a0, ol 10 (.int .u64 (IntKind.wrap .u64 y2)), ol 11 (.ar 90 0), ol 12 (.ar 93 0)], [ba 90 120 (.int .u32) r2.1, ba 93 120 (.int .u32) r2.2]⟩
def Ac4 (a0 : List Int) (r2 : ((List Int) × (List Int))) (y2 : Int) (r3 : List Int) : ST := ⟨392, [os 0 (.int .u32) a0, ol 10 (.int .u64 (IntKind.wrap .u64 y2)), ol 11 (.ar 90 0), ol 12 (.ar 93 0)], [ba 90 120 (.int .u32) r3, ba 93 120 (.int .u32) r2.2]⟩
def Al2 (v17 : Int) (v18 : List Int) (v19 : List Int) (r2 : ((List Int) × (List Int))) (y2 : Int) (r4 : Int) : ST := ⟨392, [ol 10 (.int .u64 (IntKind.wrap .u64 y2)), ol 11 (.ar 90 0), ol 12 (.ar 93 0), oi 15 (r2.2.length : Int), ol 16 (.ar 175 0), oi 17 v17, ol 19 (.int .u64 r4)], [ba 90 120 (.int .u32) v18, ba 93 120 (.int .u32) r2.2, ba 175 120 (.int .u32) v19]⟩
def Akd (v17 : Int) (v19 : List Int) (r2 : ((List Int) × (List Int))) (r4 : Int) (y2 : Int) (r5 : (Int × Int × (List Int))) : ST := ⟨392, [ol 10 (.int .u64 (IntKind.wrap .u64 y2)), ol 11 (.ar 90 0), ol 12 (.ar 93 0), oi 15 (r2.2.length : Int), ol 16 (.ar 175 0), oi 17 v17, ol 19 (.int .u64 r4), oi 21 r5.1, ol 22 (.int .u64 r5.2.1)], [ba 90 120 (.int .u32) r5.2.2, ba 93 120 (.int .u32) r2.2, ba 175 120 (.int .u32) v19]⟩
def Az5 (v17 : Int) (v19 : List Int) (r2 : ((List Int) × (List Int))) (r4 : Int) (y2 : Int) (r6 : (Int × (List Int))) : ST := ⟨392, [ol 10 (.int .u64 (IntKind.wrap .u64 y2)), ol 11 (.ar 90 0), ol 12 (.ar 93 0), oi 15 (r2.2.length : Int), ol 16 (.ar 175 0), oi 17 v17, ol 19 (.int .u64 (IntKind.wrap .u64 (r4 - (1 : Int)))), ol 27 (.int .u64 r6.1)], [ba 90 120 (.int .u32) r6.2, ba 93 120 (.int .u32) r2.2, ba 175 120 (.int .u32) v19]⟩
def Alt (r2 : ((List Int) × (List Int))) (y2 : Int) (r7 : ((List Int) × (List Int))) : ST := ⟨392, [ol 10 (.int .u64 (IntKind.wrap .u64 y2)), ol 11 (.ar 90 0), oi 15 (r2.2.length : Int), ol 16 (.ar 175 0)], [ba 90 120 (.int .u32) r7.1, ba 175 120 (.int .u32) r7.2]⟩
def Aj2 (r7 : ((List Int) × (List Int))) (r8 : List Int) : ST := ⟨392, [ol 16 (.ar 175 0), ol 30 (.ar 359 0)], [ba 175 120 (.int .u32) r7.2, ba 359 120 (.int .u32) r8]⟩
def Ao8 (a0 : List Int) (a1 : List Int) (v : Int × Int × (List Int)) : ST := ⟨392, [os 0 (.int .u32) a0, os 1 (.int .u32) a1, ol 6 (.ar 43 0), ol 7 (.int .u64 v.1), oi 8 v.2.1], [ba 43 120 (.int .u32) v.2.2]⟩
def A96 (a0 : List Int) (a1 : List Int) (v6 : Int) (v7 : List Int) (v9 : List Int) (y2 : Int) : ST := ⟨392, [os 0 (.int .u32) a0, os 1 (.int .u32) a1, ol 10 (.int .u64 (IntKind.wrap .u64 y2)), ol 11 (.ar 90 0), ol 12 (.ar 93 0), oi 95 (a1.length : Int), oi 96 v6], [ba 90 120 (.int .u32) v7, ba 93 120 (.int .u32) v9]⟩
def Ais (a0 : List Int) (a1 : List Int) (y2 : Int) (v : Int × (List Int) × (List Int)) : ST := ⟨392, [os 0 (.int .u32) a0, os 1 (.int .u32) a1, ol 10 (.int .u64 (IntKind.wrap .u64 y2)), ol 11 (.ar 90 0), ol 12 (.ar 93 0), oi 95 (a1.length : Int), oi 96 v.1], [ba 90 120 (.int .u32) v.2.1, ba 93 120 (.int .u32) v.2.2]⟩
def A87 (a0 : List Int) (v12 : Int) (v15 : List Int) (r2 : ((List Int) × (List Int))) (y2 : Int) : ST := ⟨392, [os 0 (.int .u32) a0, ol 10 (.int .u64 (IntKind.wrap .u64 y2)), ol 11 (.ar 90 0), ol 12 (.ar 93 0), oi 130 (r2.1.length : Int), oi 131 v12], [ba 90 120 (.int .u32) v15, ba 93 120 (.int .u32) r2.2]⟩
def A83 (a0 : List Int) (v12 : Int) (v14 : List Int) (r2 : ((List Int) × (List Int))) (y2 : Int) : ST := ⟨392, [os 0 (.int .u32) a0, ol 10 (.int .u64 (IntKind.wrap .u64 y2)), ol 11 (.ar 90 0), ol 12 (.ar 93 0), oi 14 v12, oi 130 (r2.1.length : Int), oi 131 v12], [ba 90 120 (.int .u32) v14, ba 93 120 (.int .u32) r2.2]⟩
def Abw (a0 : List Int) (r2 : ((List Int) × (List Int))) (y2 : Int) (v : Int × (List Int)) : ST := ⟨392, [os 0 (.int .u32) a0, ol 10 (.int .u64 (IntKind.wrap .u64 y2)), ol 11 (.ar 90 0), ol 12 (.ar 93 0), oi 130 (r2.1.length : Int), oi 131 v.1], [ba 90 120 (.int .u32) v.2, ba 93 120 (.int .u32) r2.2]⟩
def A7m (v17 : Int) (v18 : List Int) (v19 : List Int) (v20 : Int) (v21 : Int) (r2 : ((List Int) × (List Int))) (y2 : Int) : ST := ⟨392, [ol 10 (.int .u64 (IntKind.wrap .u64 y2)), ol 11 (.ar 90 0), ol 12 (.ar 93 0), oi 15 (r2.2.length : Int), ol 16 (.ar 175 0), oi 17 v17, ol 19 (.int .u64 v20), ol 20 (.int .u64 v21)], [ba 90 120 (.int .u32) v18, ba 93 120 (.int .u32) r2.2, ba 175 120 (.int .u32) v19]⟩
def Ahw (v17 : Int) (v18 : List Int) (v19 : List Int) (r2 : ((List Int) × (List Int))) (y2 : Int) (v : Int × Int) : ST := ⟨392, [ol 10 (.int .u64 (IntKind.wrap .u64 y2)), ol 11 (.ar 90 0), ol 12 (.ar 93 0), oi 15 (r2.2.length : Int), ol 16 (.ar 175 0), oi 17 v17, ol 19 (.int .u64 v.1), ol 20 (.int .u64 v.2)], [ba 90 120 (.int .u32) v18, ba 93 120 (.int .u32) r2.2, ba 175 120 (.int .u32) v19]⟩
def A92 (v17 : Int) (v19 : List Int) (v25 : Int) (v27 : Int) (v28 : Int) (v29 : List Int) (r2 : ((List Int) × (List Int))) (r4 : Int) (y2 : Int) : ST := ⟨392, [ol 10 (.int .u64 (IntKind.wrap .u64 y2)), ol 11 (.ar 90 0), ol 12 (.ar 93 0), oi 15 (r2.2.length : Int), ol 16 (.ar 175 0), oi 17 v17, ol 19 (.int .u64 r4), oi 21 v27, ol 22 (.int .u64 v28), oi 253 (r2.2.length : Int), oi 254 v25], [ba 90 120 (.int .u32) v29, ba 93 120 (.int .u32) r2.2, ba 175 120 (.int .u32) v19]⟩
def Ahu (v17 : Int) (v19 : List Int) (r2 : ((List Int) × (List Int))) (r4 : Int) (y2 : Int) (v : Int × Int × Int × (List Int)) : ST := ⟨392, [ol 10 (.int .u64 (IntKind.wrap .u64 y2)), ol 11 (.ar 90 0), ol 12 (.ar 93 0), oi 15 (r2.2.length : Int), ol 16 (.ar 175 0), oi 17 v17, ol 19 (.int .u64 r4), oi 21 v.1, ol 22 (.int .u64 v.2.1), oi 253 (r2.2.length : Int), oi 254 v.2.2.1], [ba 90 120 (.int .u32) v.2.2.2, ba 93 120 (.int .u32) r2.2, ba 175 120 (.int .u32) v19]⟩
def Ari (v17 : Int) (v19 : List Int) (r2 : ((List Int) × (List Int))) (r4 : Int) (y2 : Int) (v : Int × Int × (List Int)) : ST := ⟨392, [ol 10 (.int .u64 (IntKind.wrap .u64 y2)), ol 11 (.ar 90 0), ol 12 (.ar 93 0), oi 15 (r2.2.length : Int), ol 16 (.ar 175 0), oi 17 v17, ol 19 (.int .u64 (IntKind.wrap .u64 (r4 - (1 : Int)))), ol 27 (.int .u64 v.1), oi 314 (r2.2.length : Int), oi 315 v.2.1], [ba 90 120 (.int .u32) v.2.2, ba 93 120 (.int .u32) r2.2, ba 175 120 (.int .u32) v19]⟩
def A7u (v17 : Int) (v19 : List Int) (v38 : Int) (v39 : List Int) (r2 : ((List Int) × (List Int))) (y2 : Int) : ST := ⟨392, [ol 10 (.int .u64 (IntKind.wrap .u64 y2)), ol 11 (.ar 90 0), ol 12 (.ar 93 0), oi 15 (r2.2.length : Int), ol 16 (.ar 175 0), oi 17 v17, ol 19 (.int .u64 v38)], [ba 90 120 (.int .u32) v39, ba 93 120 (.int .u32) r2.2, ba 175 120 (.int .u32) v19]⟩
def Ahl (r2 : ((List Int) × (List Int))) (y2 : Int) (v : Int × (List Int) × (List Int)) : ST := ⟨392, [ol 10 (.int .u64 (IntKind.wrap .u64 y2)), ol 11 (.ar 90 0), ol 12 (.ar 93 0), oi 15 (r2.2.length : Int), ol 16 (.ar 175 0), oi 17 v.1], [ba 90 120 (.int .u32) v.2.1, ba 93 120 (.int .u32) r2.2, ba 175 120 (.int .u32) v.2.2]⟩
def A8g (v42 : Int) (v44 : List Int) (r2 : ((List Int) × (List Int))) (r7 : ((List Int) × (List Int))) (y2 : Int) : ST := ⟨392, [ol 10 (.int .u64 (IntKind.wrap .u64 y2)), ol 11 (.ar 90 0), ol 16 (.ar 175 0), ol 30 (.ar 359 0), oi 360 (r2.2.length : Int), oi 361 v42], [ba 90 120 (.int .u32) r7.1, ba 175 120 (.int .u32) r7.2, ba 359 120 (.int .u32) v44]⟩
def Aip (r2 : ((List Int) × (List Int))) (r7 : ((List Int) × (List Int))) (y2 : Int) (v : Int × (List Int)) : ST := ⟨392, [ol 10 (.int .u64 (IntKind.wrap .u64 y2)), ol 11 (.ar 90 0), ol 16 (.ar 175 0), ol 30 (.ar 359 0), oi 360 (r2.2.length : Int), oi 361 v.1], [ba 90 120 (.int .u32) r7.1, ba 175 120 (.int .u32) r7.2, ba 359 120 (.int .u32) v.2]⟩
def Bjw (a0 : List Int) (a1 : List Int) : ST := ⟨392, [os 0 (.int .u32) a0, os 1 (.int .u32) a1], []⟩
theorem Azp (G : Ay Di P) {y a0 a1} (E : Rt C F y) (v : Int × Int × (List Int)) o (h : Hr a0 a1 v.1 v.2.1 v.2.2 = some o) (L : LP Di P C F Aue (Ao8 a0 a1) (GX Di P C F Bf9 Axr) o) : Ax Di P C F Aue (Ao8 a0 a1 v) := by
 unfold Hr at h
 rcases Ag h with ⟨b3, h⟩ | ⟨b3, h⟩
 · obtain ⟨c6, c7, h⟩ := ns2 h
   obtain ⟨c8, c9, c10, h⟩ := ns3 h
   obtain ⟨c11, c12, h⟩ := ns2 h
   exact sg G [r0, bt, r0, r0, r0, r0, en] (q6 b3 c6 c7 c8 c9 c10 <| e2 c11 c12) (L.1 _ (si h))
 · exact sg G [r0, bf, au] (e1 b3) (L.2 _ (si h))
theorem Abo (G : Ay Di P) {y o a0 a1 v6 v7 v9 y2} (E : Rt C F y) (h : Gt a0 a1 v6 v7 v9 y2 = some o) (L : LP Di P C F Ad2 (Ais a0 a1 y2) (GX Di P C F Avx (Ako a0 y2)) o) : Ax Di P C F Bgj (A96 a0 a1 v6 v7 v9 y2) := by
 unfold Gt at h
 exact sg G [r0, en] tt (L.1 _ (si h))
theorem Ax1 (G : Ay Di P) {y a0 a1 y2} (E : Rt C F y) (v : Int × (List Int) × (List Int)) o (h : Iq a0 a1 y2 v.1 v.2.1 v.2.2 = some o) (L : LP Di P C F Ad2 (Ais a0 a1 y2) (GX Di P C F Avx (Ako a0 y2)) o) : Ax Di P C F Ad2 (Ais a0 a1 y2 v) := by
 unfold Iq at h
 rcases Ag h with ⟨b4, h⟩ | ⟨b4, h⟩
 · obtain ⟨c21, c22, c23, h⟩ := ns3 h
   rcases Ag h with ⟨b5, h⟩ | ⟨b5, h⟩
   · rcases Ag h with ⟨b6, h⟩ | ⟨b6, h⟩
     · obtain ⟨c24, c25, c26, c27, h⟩ := ns4 h
       exact sg G [r0, bt, r0, r0, ru [2, 5], bt, r0, au] (q4 b4 c21 c22 c23 <| ar 3 b5 <| e5 b6 c24 c25 c26 c27) (Abo G E h L)
     · exact sg G [r0, bt, r0, r0, ru [2, 5], bf, au] (q4 b4 c21 c22 c23 <| ar 3 b5 <| e1 b6) (Abo G E h L)
   · exact sg G [r0, bt, r0, r0, rf [2, 5], bf, au] (q4 b4 c21 c22 c23 <| ar 3 b5 <| e1 rF) (Abo G E h L)
 · exact sg G [r0, bf, au] (e1 b4) (L.2 _ (si h))
theorem Acz (G : Ay Di P) {y o a0 v12 v15 r2 y2} (E : Rt C F y) (h : F1 a0 v12 v15 r2 y2 = some o) (L : LP Di P C F Aa8 (Abw a0 r2 y2) (GX Di P C F Amr (Ac4 a0 r2 y2)) o) : Ax Di P C F Ba5 (A87 a0 v12 v15 r2 y2) := by
 unfold F1 at h
 exact sg G [r0, en] tt (L.1 _ (si h))
theorem Ajy (G : Ay Di P) {y o a0 v12 v14 r2 y2} (E : Rt C F y) (h : Hw a0 v12 v14 r2 y2 = some o) (L : LP Di P C F Aa8 (Abw a0 r2 y2) (GX Di P C F Amr (Ac4 a0 r2 y2)) o) : Ax Di P C F A53 (A83 a0 v12 v14 r2 y2) := by
 unfold Hw at h
 rcases Ag h with ⟨b9, h⟩ | ⟨b9, h⟩
 · rcases Ag h with ⟨b10, h⟩ | ⟨b10, h⟩
   · obtain ⟨c31, c32, c33, c34, h⟩ := ns4 h
     exact sg G [ru [2, 5], bt, r0, au] (ar 3 b9 <| e5 b10 c31 c32 c33 c34) (Acz G E h L)
   · exact sg G [ru [2, 5], bf, au] (ar 3 b9 <| e1 b10) (Acz G E h L)
 · exact sg G [rf [2, 5], bf, au] (ar 3 b9 <| e1 rF) (Acz G E h L)
theorem Axz (G : Ay Di P) {y a0 r2 y2} (E : Rt C F y) (v : Int × (List Int)) o (h : I0 a0 r2 y2 v.1 v.2 = some o) (L : LP Di P C F Aa8 (Abw a0 r2 y2) (GX Di P C F Amr (Ac4 a0 r2 y2)) o) : Ax Di P C F Aa8 (Abw a0 r2 y2 v) := by
 unfold I0 at h
 rcases Ag h with ⟨b7, h⟩ | ⟨b7, h⟩
 · rcases Ag h with ⟨b8, h⟩ | ⟨b8, h⟩
   · obtain ⟨c28, c29, c30, h⟩ := ns3 h
     exact sg G [r0, bt, r0, r0, bt, r0, au] (e5 b7 b8 c28 c29 c30) (Ajy G E h L)
   · exact sg G [r0, bt, r0, r0, bf, au] (e2 b7 b8) (Ajy G E h L)
 · exact sg G [r0, bf, au] (e1 b7) (L.2 _ (si h))
theorem Akc (G : Ay Di P) {y o v17 v18 v19 v20 v21 r2 y2} (E : Rt C F y) (h : Hq v17 v18 v19 v20 v21 r2 y2 = some o) (L : LP Di P C F X5 (Ahw v17 v18 v19 r2 y2) (GX Di P C F Ai7 (Al2 v17 v18 v19 r2 y2)) o) : Ax Di P C F A6q (A7m v17 v18 v19 v20 v21 r2 y2) := by
 unfold Hq at h
 obtain ⟨c48, h⟩ := Am h
 rcases Ag h with ⟨b14, h⟩ | ⟨b14, h⟩
 · exact sg G [r0, r0, r0, bt, au] (e2 c48 b14) (L.2 _ (si h))
 · exact sg G [r0, r0, r0, bf, en] (e2 c48 b14) (L.1 _ (si h))
theorem Axn (G : Ay Di P) {y v17 v18 v19 r2 y2} (E : Rt C F y) (v : Int × Int) o (h : I6 v17 v18 v19 r2 y2 v.1 v.2 = some o) (L : LP Di P C F X5 (Ahw v17 v18 v19 r2 y2) (GX Di P C F Ai7 (Al2 v17 v18 v19 r2 y2)) o) : Ax Di P C F X5 (Ahw v17 v18 v19 r2 y2 v) := by
 unfold I6 at h
 rcases Ag h with ⟨b12, h⟩ | ⟨b12, h⟩
 · exact sg G [ru [2, 23], bt, au] (ar 21 b12 <| e1 rT) (Akc G E h L)
 · obtain ⟨c45, c46, c47, h⟩ := ns3 h
   rcases Ag h with ⟨b13, h⟩ | ⟨b13, h⟩
   · exact sg G [rf [2, 23], bt, au] (ar 5 b12 <| q1 c45 <| ar 5 b12 <| q1 c46 <| ar 6 b12 <| q1 c47 <| ar 5 b12 <| e1 b13) (Akc G E h L)
   · exact sg G [rf [2, 23], bf, au] (ar 5 b12 <| q1 c45 <| ar 5 b12 <| q1 c46 <| ar 6 b12 <| q1 c47 <| ar 5 b12 <| e1 b13) (L.2 _ (si h))
theorem Akr (G : Ay Di P) {y o v17 v19 v25 v27 v28 v29 r2 r4 y2} (E : Rt C F y) (h : H3 v17 v19 v25 v27 v28 v29 r2 r4 y2 = some o) (L : LP Di P C F Xm (Ahu v17 v19 r2 r4 y2) (GX Di P C F Aim (Akd v17 v19 r2 r4 y2)) o) : Ax Di P C F A7h (A92 v17 v19 v25 v27 v28 v29 r2 r4 y2) := by
 unfold H3 at h
 exact sg G [r0, en] tt (L.1 _ (si h))
theorem A2q (G : Ay Di P) {y v17 v19 r2 r4 y2} (E : Rt C F y) (v : Int × Int × Int × (List Int)) o (h : I3 v17 v19 r2 r4 y2 v.1 v.2.1 v.2.2.1 v.2.2.2 = some o) (L : LP Di P C F Xm (Ahu v17 v19 r2 r4 y2) (GX Di P C F Aim (Akd v17 v19 r2 r4 y2)) o) : Ax Di P C F Xm (Ahu v17 v19 r2 r4 y2 v) := by
 unfold I3 at h
 rcases Ag h with ⟨b15, h⟩ | ⟨b15, h⟩
 · obtain ⟨c49, h⟩ := Am h
   obtain ⟨c50, h⟩ := Am h
   obtain ⟨c51, h⟩ := Am h
   obtain ⟨c52, h⟩ := Am h
   rcases Ag h with ⟨b16, h⟩ | ⟨b16, h⟩
   · exact sg G [r0, bt, r0, r0, r0, r0, r0, r0, r0, bt, r0, au] (e6 b15 c49 c50 c51 c52 b16) (Akr G E h L)
   · exact sg G [r0, bt, r0, r0, r0, r0, r0, r0, r0, bf, au] (e6 b15 c49 c50 c51 c52 b16) (Akr G E h L)
 · exact sg G [r0, bf, au] (e1 b15) (L.2 _ (si h))
theorem A1q (G : Ay Di P) {y v17 v19 r2 r4 y2} (E : Rt C F y) (v : Int × Int × (List Int)) o (h : I5 v17 v19 r2 r4 y2 v.1 v.2.1 v.2.2 = some o) (L : LP Di P C F Ahm (Ari v17 v19 r2 r4 y2) (GX Di P C F Ar7 (Az5 v17 v19 r2 r4 y2)) o) : Ax Di P C F Ahm (Ari v17 v19 r2 r4 y2 v) := by
 unfold I5 at h
 rcases Ag h with ⟨b18, h⟩ | ⟨b18, h⟩
 · obtain ⟨c55, c56, h⟩ := ns2 h
   obtain ⟨c57, h⟩ := Am h
   obtain ⟨c58, h⟩ := Am h
   exact sg G [r0, bt, r0, r0, r0, r0, r0, en] (e5 b18 c55 c56 c57 c58) (L.1 _ (si h))
 · exact sg G [r0, bf, au] (e1 b18) (L.2 _ (si h))
theorem Akg (G : Ay Di P) {y o v17 v19 v38 v39 r2 y2} (E : Rt C F y) (h : H0 v17 v19 v38 v39 r2 y2 = some o) (L : LP Di P C F Yo (Ahl r2 y2) (GX Di P C F Ai6 (Alt r2 y2)) o) : Ax Di P C F A7t (A7u v17 v19 v38 v39 r2 y2) := by
 unfold H0 at h
 obtain ⟨c61, h⟩ := Am h
 exact sg G [r0, r0, en] (e1 c61) (L.1 _ (si h))
theorem Aw0 (G : Ay Di P) {y r2 y2} (E : Rt C F y) (v : Int × (List Int) × (List Int)) o (h : Gr r2 y2 v.1 v.2.1 v.2.2 = some o) (L : LP Di P C F Yo (Ahl r2 y2) (GX Di P C F Ai6 (Alt r2 y2)) o) : Ax Di P C F Yo (Ahl r2 y2 v) := by
 unfold Gr at h
 rcases Ag h with ⟨b11, h⟩ | ⟨b11, h⟩
 · obtain ⟨c38, c39, c40, h⟩ := ns3 h
   obtain ⟨c41, c42, c43, c44, h⟩ := ns4 h
   obtain ⟨r4, hi, h⟩ := bind_some h
   refine sg G [r0, bt, r0, r0, en] (q6 b11 c38 c39 c40 c41 c42 <| e2 c43 c44) (lg (Axn G E) hi ?_)
   obtain ⟨r5, hi, h⟩ := bind_some h
   refine sg G [r0, r0, en] tt (lg (A2q G E) hi ?_)
   obtain ⟨c53, h⟩ := Am h
   obtain ⟨c54, h⟩ := Am h
   rcases Ag h with ⟨b17, h⟩ | ⟨b17, h⟩
   · obtain ⟨r6, hi, h⟩ := bind_some h
     refine sg G [r0, r0, r0, bt, r0, r0, r0, en] (e3 c53 c54 b17) (lg (A1q G E) hi ?_)
     obtain ⟨c59, c60, h⟩ := ns2 h
     exact sg G [r0, au] (e2 c59 c60) (Akg G E h L)
   · exact sg G [r0, r0, r0, bf, au] (e3 c53 c54 b17) (Akg G E h L)
 · exact sg G [r0, bf, au] (e1 b11) (L.2 _ (si h))
theorem Akn (G : Ay Di P) {y o v42 v44 r2 r7 y2} (E : Rt C F y) (h : Hy v42 v44 r2 r7 y2 = some o) (L : LP Di P C F Zk (Aip r2 r7 y2) (GX Di P C F Aql (Aj2 r7)) o) : Ax Di P C F A70 (A8g v42 v44 r2 r7 y2) := by
 unfold Hy at h
 exact sg G [r0, en] tt (L.1 _ (si h))
theorem Axk (G : Ay Di P) {y r2 r7 y2} (E : Rt C F y) (v : Int × (List Int)) o (h : Iy r2 r7 y2 v.1 v.2 = some o) (L : LP Di P C F Zk (Aip r2 r7 y2) (GX Di P C F Aql (Aj2 r7)) o) : Ax Di P C F Zk (Aip r2 r7 y2 v) := by
 unfold Iy at h
 rcases Ag h with ⟨b19, h⟩ | ⟨b19, h⟩
 · obtain ⟨c65, c66, c67, h⟩ := ns3 h
   rcases Ag h with ⟨b20, h⟩ | ⟨b20, h⟩
   · obtain ⟨c68, c69, c70, c71, h⟩ := ns4 h
     exact sg G [r0, bt, r0, r0, r0, bt, r0, au] (q6 b19 c65 c66 c67 b20 c68 <| e3 c69 c70 c71) (Akn G E h L)
   · exact sg G [r0, bt, r0, r0, r0, bf, au] (e5 b19 c65 c66 c67 b20) (Akn G E h L)
 · exact sg G [r0, bf, au] (e1 b19) (L.2 _ (si h))
theorem Bht (G : Ay Di P) {y a0 a1} (E : Rt C F y) (h : Jz a0 a1 = some y) : Ax Di P C F Avj (Bjw a0 a1) := by
 unfold Jz at h
 obtain ⟨y1, c1, h⟩ := bind_some h
 rcases Ag h with ⟨b1, h⟩ | ⟨b1, h⟩
 · obtain ⟨c2, h⟩ := Am h
   have e := sj h; subst e
   exact se G E [r0, rc 2 (rs (.int .i64) y1), bt, r0, au, .weak [.fix (.slot 5)]] (e3 (ca c1) b1 c2)
 · rcases Ag h with ⟨b2, h⟩ | ⟨b2, h⟩
   · obtain ⟨c3, c4, c5, h⟩ := ns3 h
     obtain ⟨r1, hi, h⟩ := bind_some h
     refine sg G [r0, rc 2 (rs (.int .i64) y1), bf, r0, bt, r0, r0, r0, en] (e6 (ca c1) b1 b2 c3 c4 c5) (lg (Azp G E) hi ?_)
     have e := sj h; subst e
     exact se G E [r0, au, .weak [.fix (.slot 4)]] tt
   · obtain ⟨c13, h⟩ := Am h
     obtain ⟨y2, c14, h⟩ := bind_some h
     obtain ⟨c15, c16, c17, h⟩ := ns3 h
     obtain ⟨c18, c19, c20, h⟩ := ns3 h
     obtain ⟨r2, hi, h⟩ := bind_some h
     refine sg G [r0, rc 2 (rs (.int .i64) y1), bf, r0, bf, rc 6 (rs (.int .i64) y2), r0, r0, r0, en] (q6 (ca c1) b1 b2 c13 (ca c14) c15 <| e5 c16 c17 c18 c19 c20) (lg (Ax1 G E) hi ?_)
     obtain ⟨r3, hi, h⟩ := bind_some h
     refine sg G [r0, en] tt (lg (Axz G E) hi ?_)
     obtain ⟨c35, c36, c37, h⟩ := ns3 h
     obtain ⟨r7, hi, h⟩ := bind_some h
     refine sg G [r0, r0, r0, en] (e3 c35 c36 c37) (lg (Aw0 G E) hi ?_)
     obtain ⟨c62, c63, c64, h⟩ := ns3 h
     obtain ⟨r8, hi, h⟩ := bind_some h
     refine sg G [r0, r0, en] (e3 c62 c63 c64) (lg (Axk G E) hi ?_)
     have e := sj h; subst e
     exact se G E [r0, au, .weak [.fix (.slot 4), .fix (.slot 5)]] tt
theorem Ats : MT 99 Ap5 := show Be Di _ _ _ from mt (fn := Tryz.f99) (S := λ x => Bjw x.1 x.2.1) (GB ⟨Ahb, Aas, trivial⟩ trivial) λ G _ _ _ _ => Bht G
noncomputable abbrev Anh : Env := EV [(72, Aan), (73, Abc), (99, Ap5)] [] false
noncomputable def A3s := c0 Tryz.f80
noncomputable def All : FS yzE := f2 [(.nm 3), (.nm 3)] (.nm 3) (.nm 3) λ x => Nc x.1 x.2.1
noncomputable def Bgl := ct [0, 0, 2, 4] A3s
abbrev Bi7 (C : Ctx) (F : FT) (y : (A8 × A8)) : Prop := En Anh C F Tryz.f80 All (y.1, y.2, ())
def A77 (a0 : A8) (a1 : A8) : ST := ⟨61, [op 2, op 3, op 4, op 5], [bc 2 (Bv a0), bc 3 (Bv a1), bc 4 [.int .i64 (0 : Int), .sl (.int .u32) true [], .bool false], bc 5 [.int .i64 (0 : Int), .sl (.int .u32) true [], .bool false]]⟩
def Bjv (a0 : A8) (a1 : A8) : ST := ⟨61, [og 0 (Bv a0), og 1 (Bv a1)], []⟩
theorem Acb (G : Ay Anh P) {y a0 a1} (E : Bi7 C F y) (h : Kl a0 a1 = some y) : Ax Anh P C F Bgl (A77 a0 a1) := by
 unfold Kl at h
 obtain ⟨y1, c3, h⟩ := bind_some h
 obtain ⟨y2, c4, h⟩ := bind_some h
 obtain ⟨y3, c5, h⟩ := bind_some h
 obtain ⟨y4, c6, h⟩ := bind_some h
 obtain ⟨y5, c7, h⟩ := bind_some h
 have e := sj h; subst e
 exact se G E [rc 1 (rt (.sl (.int .u32)) .bool y1), rc 1 (rt (.sl (.int .u32)) .bool y2), rc 2 (rt (.sl (.int .u32)) (.sl (.int .u32)) y3), .reg [(4, rs (.nm 3) y4), (7, rs (.nm 3) y5)], au] (e5 (cb c3) (cb c4) (cb c5) (ca c6) (ca c7))
theorem Bi8 (G : Ay Anh P) {y a0 a1} (E : Bi7 C F y) (h : Nc a0 a1 = some y) : Ax Anh P C F A3s (Bjv a0 a1) := by
 unfold Nc at h
 rcases Ag h with ⟨b1, h⟩ | ⟨b1, h⟩
 · rcases Ag h with ⟨b2, h⟩ | ⟨b2, h⟩
   · rcases Ag h with ⟨b3, h⟩ | ⟨b3, h⟩
     · obtain ⟨c1, c2, h⟩ := ns2 h
       have e := sj h; subst e
       exact se G E [r0, ru [3, 7, 8, 12], bt, r0, au] (ar 4 b1 <| ar 4 b2 <| e3 b3 c1 c2)
     · exact sg G [r0, ru [3, 7, 8, 12], bf, au] (ar 4 b1 <| ar 4 b2 <| e1 b3) (Acb G E h)
   · exact sg G [r0, rb [8, 12] [3, 7], bf, au] (ar 4 b1 <| ar 4 b2 <| e1 rF) (Acb G E h)
 · exact sg G [r0, rf [3, 7, 8, 12], bf, au] (ar 4 b1 <| ar 5 rF <| tt) (Acb G E h)
theorem Adu : MT 80 All := show Be Anh _ _ _ from mt (fn := Tryz.f80) (S := λ x => Bjv x.1 x.2.1) (GB ⟨Ts, Tc, Ats, trivial⟩ trivial) λ G _ _ _ _ => Bi8 G
noncomputable abbrev Ax0 : Env := EV [(77, Zi), (78, Aa6)] [] false
noncomputable def Bek := c0 Tryz.f98
noncomputable def At4 : FS yzE := f1 [(.nm 3)] (.nm 3) λ x => Oj x.1
abbrev Bkv (C : Ctx) (F : FT) (y : A8) : Prop := En Ax0 C F Tryz.f98 At4 (y, ())
def Bci (a0 : A8) : ST := ⟨9, [og 0 (Bv a0)], []⟩
theorem Bez (G : Ay Ax0 P) {y a0} (E : Bkv C F y) (h : Oj a0 = some y) : Ax Ax0 P C F Bek (Bci a0) := by
 unfold Oj at h
 obtain ⟨y1, c1, h⟩ := bind_some h
 rcases Ag h with ⟨b1, h⟩ | ⟨b1, h⟩
 · obtain ⟨y2, c2, h⟩ := bind_some h
   have e := sj h; subst e
   exact se G E [r0, rc 1 (rs (.int .i64) y1), bt, rc 1 (rs (.nm 3) y2), au] (e3 (ca c1) b1 (ca c2))
 · have e := sj h; subst e
   exact se G E [r0, rc 1 (rs (.int .i64) y1), bf, r0, au] (e2 (ca c1) b1)
theorem Apx : MT 98 At4 := show Be Ax0 _ _ _ from mt (fn := Tryz.f98) (S := λ x => Bci x.1) (GB ⟨Qr, Tj, trivial⟩ trivial) λ G _ _ _ _ => Bez G
noncomputable abbrev Ru : Env := EV [(77, Zi), (80, All), (98, At4)] [] false
noncomputable def A58 := c0 Tryz.f79
noncomputable def Arm : FS yzE := f1 [(.nm 3), (.nm 3)] (.nm 3) λ x => Uz x.1 x.2.1
noncomputable def Aai := ct [0, 0, 1] A58
noncomputable def Apg := ct [0, 3, 0, 3, 0, 1] Aai
noncomputable def Bgq := ct [0, 2, 4] Apg
noncomputable def Bd7 := ct [0, 3, 0, 2, 4] Aai
noncomputable def A4u := ct [0, 2, 4] Aai
abbrev A13 (C : Ctx) (F : FT) (y : A8) : Prop := En Ru C F Tryz.f79 Arm (y, ())
def A05 (r1 : Int) : ST := ⟨45, [op 4, oi 5 r1], [bc 4 [.int .i64 (0 : Int), .sl (.int .u32) true [], .bool false]]⟩
def Aka (r2 : (Int × (List Int) × Bool)) : ST := ⟨45, [op 2, op 4], [bc 2 [.int .i64 r2.1, .sl (.int .u32) true r2.2.1, .bool r2.2.2], bc 4 [.int .i64 (0 : Int), .sl (.int .u32) true [], .bool false]]⟩
def App (v : Int × Int) : ST := ⟨45, [op 4, oi 5 v.1, oi 6 v.2], [bc 4 [.int .i64 (0 : Int), .sl (.int .u32) true [], .bool false]]⟩
def A95 (v1 : Int) (v2 : List Int) (v3 : Bool) (v4 : Int) (v5 : List Int) (v6 : Bool) : ST := ⟨45, [op 2, op 3, op 4], [bc 2 [.int .i64 v1, .sl (.int .u32) true v2, .bool v3], bc 3 [.int .i64 v4, .sl (.int .u32) true v5, .bool v6], bc 4 [.int .i64 (0 : Int), .sl (.int .u32) true [], .bool false]]⟩
def Ah3 (v : Int × (List Int) × Bool × Int × (List Int) × Bool) : ST := ⟨45, [op 2, op 3, op 4], [bc 2 [.int .i64 v.1, .sl (.int .u32) true v.2.1, .bool v.2.2.1], bc 3 [.int .i64 v.2.2.2.1, .sl (.int .u32) true v.2.2.2.2.1, .bool v.2.2.2.2.2], bc 4 [.int .i64 (0 : Int), .sl (.int .u32) true [], .bool false]]⟩
def Ba2 (a0 : A8) (a1 : A8) : ST := ⟨45, [og 0 (Bv a0), og 1 (Bv a1)], []⟩
theorem Aw3 (G : Ay Ru P) {y} (E : A13 C F y) (v : Int × Int) o (h : Us v.1 v.2 = some o) (L : LP Ru P C F Apg App (GX Ru P C F Bgq A05) o) : Ax Ru P C F Apg (App v) := by
 unfold Us at h
 rcases Ag h with ⟨b4, h⟩ | ⟨b4, h⟩
 · obtain ⟨c4, h⟩ := Am h
   exact sg G [r0, bt, r0, en] (e2 b4 c4) (L.1 _ (si h))
 · exact sg G [r0, bf, au] (e1 b4) (L.2 _ (si h))
theorem Ak5 (G : Ay Ru P) {y o v1 v2 v3 v4 v5 v6} (E : A13 C F y) (h : N7 v1 v2 v3 v4 v5 v6 = some o) (L : LP Ru P C F Aai Ah3 (Sum.elim (GX Ru P C F A4u Aka) (RX y)) o) : Ax Ru P C F Bd7 (A95 v1 v2 v3 v4 v5 v6) := by
 unfold N7 at h
 obtain ⟨y4, c5, h⟩ := bind_some h
 exact sg G [rc 2 (rt (.nm 3) (.nm 3) y4), r0, en] (e1 (cb c5)) (L.1 _ (si h))
theorem Ayt (G : Ay Ru P) {y} (E : A13 C F y) (v : Int × (List Int) × Bool × Int × (List Int) × Bool) o (h : Tp v.1 v.2.1 v.2.2.1 v.2.2.2.1 v.2.2.2.2.1 v.2.2.2.2.2 = some o) (L : LP Ru P C F Aai Ah3 (Sum.elim (GX Ru P C F A4u Aka) (RX y)) o) : Ax Ru P C F Aai (Ah3 v) := by
 unfold Tp at h
 obtain ⟨y3, c3, h⟩ := bind_some h
 rcases Ag h with ⟨b1, h⟩ | ⟨b1, h⟩
 · rcases Ag h with ⟨b2, h⟩ | ⟨b2, h⟩
   · rcases Ag h with ⟨b3, h⟩ | ⟨b3, h⟩
     · obtain ⟨r1, hi, h⟩ := bind_some h
       refine sg G [rc 1 (rs (.int .i64) y3), bt, ru [3, 7], bt, r0, en] (q2 (ca c3) b1 <| ar 4 b2 <| e1 b3) (lg (Aw3 G E) hi ?_)
       have e : _ = y := L.2 _ (si h); subst e
       exact se G E [r0, au] tt
     · exact sg G [rc 1 (rs (.int .i64) y3), bt, ru [3, 7], bf, au] (q2 (ca c3) b1 <| ar 4 b2 <| e1 b3) (Ak5 G E h L)
   · exact sg G [rc 1 (rs (.int .i64) y3), bt, rf [3, 7], bf, au] (q2 (ca c3) b1 <| ar 4 b2 <| e1 rF) (Ak5 G E h L)
 · exact sg G [rc 1 (rs (.int .i64) y3), bf, au] (e2 (ca c3) b1) (L.2 _ (si h))
theorem Bhu (G : Ay Ru P) {y a0 a1} (E : A13 C F y) (h : Uz a0 a1 = some y) : Ax Ru P C F A58 (Ba2 a0 a1) := by
 unfold Uz at h
 obtain ⟨y1, c1, h⟩ := bind_some h
 obtain ⟨y2, c2, h⟩ := bind_some h
 obtain ⟨r, hi, h⟩ := bind_some h
 refine sg G [r0, .reg [(1, rs (.nm 3) y1), (3, rs (.nm 3) y2)], en] (e2 (ca c1) (ca c2)) (lg (Ayt G E) hi ?_)
 rcases r with r2 | r3
 · have e := sj h; subst e
   exact se G E [r0, au] tt
 · exact sj h
theorem Ao0 : MT 79 Arm := show Be Ru _ _ _ from mt (fn := Tryz.f79) (S := λ x => Ba2 x.1 x.2.1) (GB ⟨Qr, Adu, Apx, trivial⟩ trivial) λ G _ _ _ _ => Bhu G
end
end Go.Ab
