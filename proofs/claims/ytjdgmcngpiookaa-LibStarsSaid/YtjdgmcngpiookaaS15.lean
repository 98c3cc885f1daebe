/- The functions compute what the plain functions tell. Conditions: none beyond those that each theorem names. -/
import Derived.Test.YtjdgmcngpiookaaS14
namespace Go.Ab
open Go Go.Proofs
set_option linter.unusedVariables false
section
variable {P : Program} {C : Ctx} {F : Act -> World -> Prop}
noncomputable abbrev Py : Env := EV [(17, Om)] [] false
noncomputable def Azr : List Item := [.code (Try.f49.body.getD .skip)]
noncomputable def Ac3 := ctl [.reg, .reg, .reg, .enter] Azr
noncomputable def All := ctl [.reg, .br true, .reg, .reg, .reg, .enter] Ac3
noncomputable def A0d := ctl [.reg, .br false, .auto] All
noncomputable def A0t := ctl [.reg, .br false, .auto] Ac3
abbrev A1q (C : Ctx) (F : Act -> World -> Prop) (y : QmM) : Prop := Bz Py C F Try.f49.results.toList [[(0, 0), (48, 53)]] [(.nm 5)] (y, ())
noncomputable def Alr (a1 : Int) (v1 : Int) (v2 : Int) (r1 : (List (List Aj))) : ST := ⟨44, [(1, oi a1), (4, ol (.ptr 4 0)), (5, ol (.ptr 5 0)), (14, oi v1), (15, oi v2)], [(4, .cells [.int .i64 (0 : Int), .sl (.sl (.nm 4)) true []]), (5, .cells [.int .i64 a1, .ar 10 0]), (10, .rows 48 53 (.nm 4) r1 0 0 .opn)]⟩
noncomputable def Alg (a1 : Int) (r2 : (List (List Aj))) : ST := ⟨44, [(4, ol (.ptr 4 0)), (5, ol (.ptr 5 0))], [(4, .cells [.int .i64 (0 : Int), .sl (.sl (.nm 4)) true []]), (5, .cells [.int .i64 a1, .ar 10 0]), (10, .rows 48 53 (.nm 4) r2 0 0 .opn)]⟩
noncomputable def Ag0 (a1 : Int) (v1 : Int) (v2 : Int) (v4 : Int) (v5 : Int) (v6 : (List (List Aj))) : ST := ⟨44, [(1, oi a1), (4, ol (.ptr 4 0)), (5, ol (.ptr 5 0)), (6, oi v2), (14, oi v1), (15, oi v2), (29, oi v4), (30, oi v5)], [(4, .cells [.int .i64 (0 : Int), .sl (.sl (.nm 4)) true []]), (5, .cells [.int .i64 a1, .ar 10 0]), (10, .rows 48 53 (.nm 4) v6 0 0 .opn)]⟩
noncomputable def Af6 (a1 : Int) (v1 : Int) (v2 : Int) (v3 : (List (List Aj))) : ST := ⟨44, [(1, oi a1), (4, ol (.ptr 4 0)), (5, ol (.ptr 5 0)), (14, oi v1), (15, oi v2)], [(4, .cells [.int .i64 (0 : Int), .sl (.sl (.nm 4)) true []]), (5, .cells [.int .i64 a1, .ar 10 0]), (10, .rows 48 53 (.nm 4) v3 0 0 .opn)]⟩
noncomputable def A5o (a0 : Int) (a1 : Int) : ST := ⟨44, [(0, oi a0), (1, oi a1)], []⟩
theorem Atg (G : Ay Py P) {y o r a1 v1 v2 v4 v5 v6} (E : A1q C F y) (h : R3 a1 v1 v2 v4 v5 v6 = some o)
   (hl : ∀ v', o = .inl v' -> Am Py P C F All (Ag0 a1 v1 v2 v'.1 v'.2.1 v'.2.2)) (hr : ∀ r', o = .inr r' -> r' = r)
   (K1 : ∀ r1, r = r1 -> Am Py P C F A0d (Alr a1 v1 v2 r1)) : Am Py P C F All (Ag0 a1 v1 v2 v4 v5 v6) := by
 unfold R3 at h
 rcases Ad h with ⟨b2, h⟩ | ⟨b2, h⟩
 · obtain ⟨c9, h⟩ := Ao h
   obtain ⟨y1, c10, h⟩ := bind_some h
   obtain ⟨c11, h⟩ := Ao h
   exact sg G [r0, bt, r0, .reg [(6, .res ⟨[(.nm 4)], (y1, ())⟩)], r0, en, wk [1, 4, 5, 6, 14, 15, 29, 30] [4, 5, 10]] (aa b2 <| aa c9 <| aa (ca c10) <| aa c11 <| tt) (hl _ (si h))
 · exact sg G [r0, bf, au, wk [1, 4, 5, 14, 15] [4, 5, 10]] (aa b2 <| tt) (K1 _ (hr _ (si h)).symm)
theorem Atj (G : Ay Py P) {y o r a1 v1 v2 v3} (E : A1q C F y) (h : Uj a1 v1 v2 v3 = some o)
   (hl : ∀ v', o = .inl v' -> Am Py P C F Ac3 (Af6 a1 v'.1 v'.2.1 v'.2.2)) (hr : ∀ r', o = .inr r' -> r' = r)
   (K1 : ∀ r2, r = r2 -> Am Py P C F A0t (Alg a1 r2)) : Am Py P C F Ac3 (Af6 a1 v1 v2 v3) := by
 unfold Uj at h
 rcases Ad h with ⟨b1, h⟩ | ⟨b1, h⟩
 · obtain ⟨c4, c5, c6, c7, h⟩ := ns4 h
   obtain ⟨c8, h⟩ := Ao h
   obtain ⟨r1, hi, h⟩ := bind_some h
   have K1 : ∀ q, r1 = q -> Am Py P C F A0d (Alr a1 v1 v2 q) := by
     rintro q rfl
     exact sg G [r0, en, wk [1, 4, 5, 14, 15] [4, 5, 10]] tt (hl _ (si h))
   exact sg G [r0, bt, r0, r0, r0, en, .weak [.re 10 10 0, .keep [1, 4, 5, 6, 14, 15, 29, 30] [4, 5, 10]]] (aa b1 <| aa c4 <| aa c5 <| aa c6 <| aa c7 <| aa c8 <| tt) (Az (V := Py) (F := F) (k := All) (S := λ v => Ag0 a1 v1 v2 v.1 v.2.1 v.2.2) (λ v o h hl hr => Atg G E h hl hr K1) _ hi)
 · exact sg G [r0, bf, au, wk [4, 5] [4, 5, 10]] (aa b1 <| tt) (K1 _ (hr _ (si h)).symm)
theorem A9k (G : Ay Py P) {y a0 a1} (E : A1q C F y) (h : Uw a0 a1 = some y) : Am Py P C F Azr (A5o a0 a1) := by
 unfold Uw at h
 obtain ⟨c1, c2, c3, h⟩ := ns3 h
 obtain ⟨r2, hi, h⟩ := bind_some h
 have K1 : ∀ q, r2 = q -> Am Py P C F A0t (Alg a1 q) := by
   rintro q rfl
   have e := sj h; subst e
   exact se G E [r0, au] tt
 exact sg G [r0, .reg [(2, .own)], r0, en, wk [1, 4, 5, 14, 15] [4, 5, 10]] (aa c1 <| aa c2 <| aa c3 <| tt) (Az (V := Py) (F := F) (k := Ac3) (S := λ v => Af6 a1 v.1 v.2.1 v.2.2) (λ v o h hl hr => Atj G E h hl hr K1) _ hi)
noncomputable def Ao7 : FS yaE := ⟨[(.int .i64), (.int .i64)], [(.nm 5)], [], [[(0, 0), (48, 53)]], λ x => Option.map (λ r => (r, ())) (Uw x.1 x.2.1)⟩
theorem Aef : MT 49 Ao7 := show Bh Py _ _ _ from mt (fn := Try.f49) (S := λ x => A5o x.1 x.2.1) (GB ⟨G8, trivial⟩ trivial) λ G _ _ _ _ E h => A9k G E h
noncomputable abbrev X5 : Env := EV [(18, Yz), (19, Ad2), (29, Amb), (49, Ao7)] [] false
noncomputable def Ax6 : List Item := [.code (Try.f22.body.getD .skip)]
noncomputable def Aka := ctl [.reg, .reg, .reg, .enter] Ax6
noncomputable def A0c := ctl [.reg, .br false, .auto] Aka
abbrev Bbq (C : Ctx) (F : Act -> World -> Prop) (y : QmM) : Prop := Bz X5 C F Try.f22.results.toList [[(0, 0), (48, 53)]] [(.nm 5)] (y, ())
noncomputable def Aiq (r1 : (List (List Aj))) (y1 : QmM) : ST := ⟨112, [(2, ol (.ptr 2 0)), (3, ol (.ptr 3 0))], [(2, .cells [.int .i64 (0 : Int), .sl (.sl (.nm 4)) true []]), (3, .cells [.int .i64 y1.C, .ar 1011 0]), (1011, .rows 48 53 (.nm 4) r1 0 0 .opn)]⟩
noncomputable def Agi (a0 : Ah) (y1 : QmM) (v1 : Int) (v2 : (List (List Aj))) : ST := ⟨112, [(2, ol (.ptr 2 0)), (3, ol (.ptr 3 0)), (13, ol (.sl (.nm 1) false a0.Arms)), (14, oi ((a0.Arms.length : Nat) : Int)), (15, oi v1)], [(2, .cells [.int .i64 (0 : Int), .sl (.sl (.nm 4)) true []]), (3, .cells [.int .i64 y1.C, .ar 1011 0]), (1011, .rows 48 53 (.nm 4) v2 0 0 .opn)]⟩
noncomputable def A6u (a0 : Ah) : ST := ⟨112, [(0, og (Ce a0))], []⟩
theorem Avr (G : Ay X5 P) {y o r a0 y1 v1 v2} (E : Bbq C F y) (h : Jp a0 y1 v1 v2 = some o)
   (hl : ∀ v', o = .inl v' -> Am X5 P C F Aka (Agi a0 y1 v'.1 v'.2)) (hr : ∀ r', o = .inr r' -> r' = r)
   (K1 : ∀ r1, r = r1 -> Am X5 P C F A0c (Aiq r1 y1)) : Am X5 P C F Aka (Agi a0 y1 v1 v2) := by
 unfold Jp at h
 rcases Ad h with ⟨b1, h⟩ | ⟨b1, h⟩
 · obtain ⟨c2, h⟩ := Ao h
   rcases Ad h with ⟨b2, h⟩ | ⟨b2, h⟩
   · exact sg G [r0, bt, r0, r0, bt, r0, en, wk [2, 3, 13, 14, 15] [2, 3, 1011]] (aa b1 <| aa c2 <| aa b2 <| tt) (hl _ (si h))
   · obtain ⟨y2, c3, h⟩ := bind_some h
     obtain ⟨c4, c5, c6, h⟩ := ns3 h
     obtain ⟨y3, c7, h⟩ := bind_some h
     obtain ⟨c8, h⟩ := Ao h
     obtain ⟨c9, c10, c11, h⟩ := ns3 h
     obtain ⟨y4, c12, h⟩ := bind_some h
     obtain ⟨c13, h⟩ := Ao h
     obtain ⟨c14, c15, c16, h⟩ := ns3 h
     obtain ⟨y5, c17, h⟩ := bind_some h
     obtain ⟨c18, h⟩ := Ao h
     obtain ⟨c19, c20, c21, h⟩ := ns3 h
     obtain ⟨y6, c22, h⟩ := bind_some h
     obtain ⟨c23, h⟩ := Ao h
     exact sg G [r0, bt, r0, r0, bf, .reg [(1, .res ⟨[(.nm 4)], (y2, ())⟩)], .reg [(19, .res ⟨[(.nm 4)], (y3, ())⟩)], .reg [(19, .res ⟨[(.nm 4)], (y4, ())⟩)], .reg [(19, .res ⟨[(.nm 4)], (y5, ())⟩)], .reg [(19, .res ⟨[(.nm 4)], (y6, ())⟩)], r0, en, wk [2, 3, 13, 14, 15] [2, 3, 1011]] (aa b1 <| aa c2 <| aa b2 <| aa (ca c3) <| aa c4 <| aa c5 <| aa c6 <| aa (ca c7) <| aa c8 <| aa c9 <| aa c10 <| aa c11 <| aa (ca c12) <| aa c13 <| aa c14 <| aa c15 <| aa c16 <| aa (ca c17) <| aa c18 <| aa c19 <| aa c20 <| aa c21 <| aa (ca c22) <| aa c23 <| tt) (hl _ (si h))
 · exact sg G [r0, bf, au, wk [2, 3] [2, 3, 1011]] (aa b1 <| tt) (K1 _ (hr _ (si h)).symm)
theorem Bad (G : Ay X5 P) {y a0} (E : Bbq C F y) (h : Ho a0 = some y) : Am X5 P C F Ax6 (A6u a0) := by
 unfold Ho at h
 obtain ⟨y1, c1, h⟩ := bind_some h
 obtain ⟨r1, hi, h⟩ := bind_some h
 have K1 : ∀ q, r1 = q -> Am X5 P C F A0c (Aiq q y1) := by
   rintro q rfl
   have e := sj h; subst e
   exact se G E [r0, au] tt
 exact sg G [r0, .reg [(4, .res ⟨[(.nm 5)], (y1, ())⟩)], r0, en, wk [2, 3, 13, 14, 15] [2, 3, 1011]] (aa (ca c1) <| tt) (Az (V := X5) (F := F) (k := Aka) (S := λ v => Agi a0 y1 v.1 v.2) (λ v o h hl hr => Avr G E h hl hr K1) _ hi)
noncomputable def Art : FS yaE := ⟨[(.nm 2)], [(.nm 5)], [], [[(0, 0), (48, 53)]], λ x => Option.map (λ r => (r, ())) (Ho x.1)⟩
theorem Adc : MT 22 Art := show Bh X5 _ _ _ from mt (fn := Try.f22) (S := λ x => A6u x.1) (GB ⟨Oh, Rr, W0, Aef, trivial⟩ trivial) λ G _ _ _ _ E h => Bad G E h
noncomputable abbrev Atz : Env := EV [(61, Yc)] [] false
noncomputable def A5x : List Item := [.code (Try.f30.body.getD .skip)]
abbrev Bdk (C : Ctx) (F : Act -> World -> Prop) (y : Bool) : Prop := Bz Atz C F Try.f30.results.toList [] [.bool] (y, ())
noncomputable def Bb3 (a0 : Aj) : ST := ⟨7, [(0, og (Dy a0))], []⟩
theorem Bca (G : Ay Atz P) {y a0} (E : Bdk C F y) (h : E1 a0 = some y) : Am Atz P C F A5x (Bb3 a0) := by
 unfold E1 at h
 obtain ⟨y1, c1, h⟩ := bind_some h
 have e := sj h; subst e
 exact se G E [r0, .reg [(2, .res ⟨[(.int .i64)], (y1, ())⟩)], au] (aa (ca c1) <| tt)
noncomputable def Ajb : FS yaE := ⟨[(.nm 4)], [.bool], [], [], λ x => Option.map (λ r => (r, ())) (E1 x.1)⟩
theorem Uv : MT 30 Ajb := show Bh Atz _ _ _ from mt (fn := Try.f30) (S := λ x => Bb3 x.1) (GB ⟨Ow, trivial⟩ trivial) λ G _ _ _ _ E h => Bca G E h
noncomputable abbrev Amo : Env := EV [(44, Aqz), (46, Ahr), (47, Akr)] [] false
noncomputable def Ay1 : List Item := [.code (Try.f32.body.getD .skip)]
noncomputable def Bat := ctl [.reg, .reg, .br false, .auto] Ay1
abbrev Bbl (C : Ctx) (F : Act -> World -> Prop) (y : Aj) : Prop := Bz Amo C F Try.f32.results.toList [] [(.nm 4)] (y, ())
noncomputable def A4e (a0 : Aj) (a1 : Aj) : ST := ⟨30, [(2, ol (.ptr 2 0)), (3, ol (.ptr 3 0)), (4, ol (.ptr 4 0))], [(2, .cells [.int .i64 a0.N.v, .sl (.int .u32) true a0.N.m, .bool a0.N.neg, .int .i64 a0.D.v, .sl (.int .u32) true a0.D.m, .bool a0.D.neg]), (3, .cells [.int .i64 a1.N.v, .sl (.int .u32) true a1.N.m, .bool a1.N.neg, .int .i64 a1.D.v, .sl (.int .u32) true a1.D.m, .bool a1.D.neg]), (4, .cells [.int .i64 (0 : Int), .sl (.int .u32) true [], .bool false, .int .i64 (0 : Int), .sl (.int .u32) true [], .bool false])]⟩
noncomputable def A8w (a0 : Aj) (a1 : Aj) : ST := ⟨30, [(0, og (Dy a0)), (1, og (Dy a1))], []⟩
theorem Akw (G : Ay Amo P) {y a0 a1} (E : Bbl C F y) (h : Pr a0 a1 = some y) : Am Amo P C F Bat (A4e a0 a1) := by
 unfold Pr at h
 obtain ⟨y4, c4, h⟩ := bind_some h
 obtain ⟨y5, c5, h⟩ := bind_some h
 obtain ⟨y6, c6, h⟩ := bind_some h
 have e := sj h; subst e
 exact se G E [.reg [(4, .res ⟨[(.nm 3)], (y4, ())⟩), (9, .res ⟨[(.nm 3)], (y5, ())⟩), (10, .res ⟨[(.nm 4)], (y6, ())⟩)], au] (aa (ca c4) <| aa (ca c5) <| aa (ca c6) <| tt)
theorem A5j (G : Ay Amo P) {y a0 a1} (E : Bbl C F y) (h : I4 a0 a1 = some y) : Am Amo P C F Ay1 (A8w a0 a1) := by
 unfold I4 at h
 obtain ⟨y1, c1, h⟩ := bind_some h
 rcases Ad h with ⟨b1, h⟩ | ⟨b1, h⟩
 · obtain ⟨y2, c2, h⟩ := bind_some h
   rcases Ad h with ⟨b2, h⟩ | ⟨b2, h⟩
   · obtain ⟨y3, c3, h⟩ := bind_some h
     have e := sj h; subst e
     exact se G E [r0, .reg [(1, .res ⟨[.bool], (y1, ())⟩), (2, oT), (4, .res ⟨[.bool], (y2, ())⟩), (5, oT)], bt, .reg [(4, .res ⟨[(.nm 3)], (y3, ())⟩)], au] (aa (ca c1) <| aa b1 <| aa b1 <| aa (ca c2) <| aa b1 <| aa b2 <| aa (ca c3) <| tt)
   · exact sg G [r0, .reg [(1, .res ⟨[.bool], (y1, ())⟩), (2, oT), (4, .res ⟨[.bool], (y2, ())⟩), (5, oT)], bf, au, wk [2, 3, 4] [2, 3, 4]] (aa (ca c1) <| aa b1 <| aa b1 <| aa (ca c2) <| aa b1 <| aa b2 <| tt) (Akw G E h)
 · exact sg G [r0, .reg [(1, .res ⟨[.bool], (y1, ())⟩), (2, oF), (5, oF)], bf, au, wk [2, 3, 4] [2, 3, 4]] (aa (ca c1) <| aa b1 <| aa b1 <| aa b1 <| aa (show false = false from rfl) <| tt) (Akw G E h)
noncomputable def Amf : FS yaE := ⟨[(.nm 4), (.nm 4)], [(.nm 4)], [], [], λ x => Option.map (λ r => (r, ())) (I4 x.1 x.2.1)⟩
theorem W8 : MT 32 Amf := show Bh Amo _ _ _ from mt (fn := Try.f32) (S := λ x => A8w x.1 x.2.1) (GB ⟨Acu, Vu, V4, trivial⟩ trivial) λ G _ _ _ _ E h => A5j G E h
noncomputable abbrev Xp : Env := EV [] [] false
noncomputable def Ayv : List Item := [.code (Try.f81.body.getD .skip)]
noncomputable def Ajj := ctl [.reg, .reg, .reg, .enter] Ayv
noncomputable def Ayc := ctl [.reg, .br false, .auto] Ajj
abbrev A9w (C : Ctx) (F : Act -> World -> Prop) (y : QmM) : Prop := Bz Xp C F Try.f81.results.toList [[(0, 0), (48, 53)]] [(.nm 5)] (y, ())
noncomputable def Aj8 (a0 : QmM) (r1 : (List (List Aj))) : ST := ⟨25, [(2, ol (.ptr 2 0)), (3, ol (.ptr 3 0))], [(2, .cells [.int .i64 (0 : Int), .ar 8000201 0]), (3, .cells [.int .i64 a0.C, .ar 8000301 0]), (8000201, .rows 48 53 (.nm 4) [] 0 0 .opn), (8000301, .rows 48 53 (.nm 4) r1 0 0 .opn)]⟩
noncomputable def Ae5 (a0 : QmM) (v1 : Int) (v2 : (List (List Aj))) : ST := ⟨25, [(2, ol (.ptr 2 0)), (3, ol (.ptr 3 0)), (10, ol (.sl (.sl (.nm 4)) false a0.V)), (11, oi ((a0.V.length : Nat) : Int)), (12, oi v1)], [(2, .cells [.int .i64 (0 : Int), .ar 8000201 0]), (3, .cells [.int .i64 a0.C, .ar 8000301 0]), (8000201, .rows 48 53 (.nm 4) [] 0 0 .opn), (8000301, .rows 48 53 (.nm 4) v2 0 0 .opn)]⟩
noncomputable def A8n (a0 : QmM) : ST := ⟨25, [(0, og (Js a0))], []⟩
theorem Av1 (G : Ay Xp P) {y o r a0 v1 v2} (E : A9w C F y) (h : Pq a0 v1 v2 = some o)
   (hl : ∀ v', o = .inl v' -> Am Xp P C F Ajj (Ae5 a0 v'.1 v'.2)) (hr : ∀ r', o = .inr r' -> r' = r)
   (K1 : ∀ r1, r = r1 -> Am Xp P C F Ayc (Aj8 a0 r1)) : Am Xp P C F Ajj (Ae5 a0 v1 v2) := by
 unfold Pq at h
 rcases Ad h with ⟨b1, h⟩ | ⟨b1, h⟩
 · obtain ⟨c1, h⟩ := Ao h
   obtain ⟨c2, c3, h⟩ := ns2 h
   exact sg G [r0, bt, r0, .reg [(4, .own)], r0, en, .weak [.re 8000301 8000301 0, .keep [2, 3, 10, 11, 12] [2, 3, 8000201, 8000301]]] (aa b1 <| aa c1 <| aa c2 <| aa c3 <| tt) (hl _ (si h))
 · exact sg G [r0, bf, au, wk [2, 3] [2, 3, 8000201, 8000301]] (aa b1 <| tt) (K1 _ (hr _ (si h)).symm)
theorem A5f (G : Ay Xp P) {y a0} (E : A9w C F y) (h : O6 a0 = some y) : Am Xp P C F Ayv (A8n a0) := by
 unfold O6 at h
 obtain ⟨r1, hi, h⟩ := bind_some h
 have K1 : ∀ q, r1 = q -> Am Xp P C F Ayc (Aj8 a0 q) := by
   rintro q rfl
   have e := sj h; subst e
   exact se G E [r0, au] tt
 exact sg G [r0, .weak [.own (.cell 2) 1 8000201 48 53], r0, .weak [.own (.cell 3) 1 8000301 48 53], r0, en, wk [2, 3, 10, 11, 12] [2, 3, 8000201, 8000301]] tt (Az (V := Xp) (F := F) (k := Ajj) (S := λ v => Ae5 a0 v.1 v.2) (λ v o h hl hr => Av1 G E h hl hr K1) _ hi)
noncomputable def Ay0 : FS yaE := ⟨[(.nm 5)], [(.nm 5)], [], [[(0, 0), (48, 53)]], λ x => Option.map (λ r => (r, ())) (O6 x.1)⟩
theorem Aok : MT 81 Ay0 := show Bh Xp _ _ _ from mt (fn := Try.f81) (S := λ x => A8n x.1) (GB trivial trivial) λ G _ _ _ _ E h => A5f G E h
noncomputable abbrev E6 : Env := EV [(17, Om), (19, Ad2), (30, Ajb), (31, Ah5), (32, Amf), (48, Ajv), (81, Ay0)] [] false
noncomputable def Azh : List Item := [.code (Try.f52.body.getD .skip)]
noncomputable def Yf := ctl [.reg, .reg, .reg, .reg, .reg, .enter] Azh
noncomputable def Akm := ctl [.reg, .br true, .reg, .reg, .enter] Yf
noncomputable def Arq := ctl [.reg, .br false, .auto] Akm
noncomputable def Ayz := ctl [.reg, .br false, .reg, .br true, .reg, .reg, .auto] Arq
noncomputable def Ak6 := ctl [.reg, .reg, .reg, .enter] Ayz
noncomputable def Asx := ctl [.reg, .br false, .auto] Ak6
noncomputable def Xd := ctl [.reg, .enter] Asx
noncomputable def Ahq := ctl [.reg, .br true, .reg, .reg, .reg, .br true, .auto] Xd
noncomputable def Adn := ctl [.reg, .br true, .reg, .reg, .reg, .br false, .reg, .enter] Xd
noncomputable def A32 := ctl [.reg, .br true, .reg, .reg, .br true, .reg, .auto] Adn
noncomputable def Afd := ctl [.reg, .br false, .auto] Xd
noncomputable def Afw := ctl [.reg, .br false, .auto] Yf
abbrev Zr (C : Ctx) (F : Act -> World -> Prop) (y : (QmM × (List Int) × Aj)) : Prop := Bz E6 C F Try.f52.results.toList [] [(.nm 5), (.sl (.int .i64)), (.nm 4)] (y.1, y.2.1, y.2.2, ())
noncomputable def Aji (a1 : Int) (v1 : Int) (v2 : Int) (v3 : List Int) (v4 : Bool) (v5 : Int) (v6 : List Int) (v7 : Bool) (v8 : List Int) (v9 : (List (List Aj))) (r1 : (Int × Bool)) (y1 : QmM) : ST := ⟨196, [(1, oi a1), (4, ol (.ptr 4 0)), (6, ol (.ptr 6 0)), (7, ol (.ptr 7 0)), (8, ol (.ar 192 0)), (9, ol (.ptr 9 0)), (10, oi v1), (11, oi ((v8.length : Nat) : Int)), (12, oi r1.1), (25, ol (.ar 192 0)), (26, oi ((v8.length : Nat) : Int)), (27, ol (.ptr 7 1)), (28, ol (.ar 1019 0)), (29, oi ((v9.length : Nat) : Int)), (30, ol (.bool r1.2))], [(4, .cells [.int .i64 (0 : Int), .sl (.sl (.nm 4)) true []]), (6, .cells [.int .i64 (0 : Int), .sl (.int .u32) true [], .bool false, .int .i64 (0 : Int), .sl (.int .u32) true [], .bool false]), (7, .cells [.int .i64 y1.C, .ar 1019 0]), (9, .cells [.int .i64 v2, .sl (.int .u32) true v3, .bool v4, .int .i64 v5, .sl (.int .u32) true v6, .bool v7]), (192, .arr 3 (.int .i64) v8 0 false), (1019, .rows 48 53 (.nm 4) v9 0 0 .opn)]⟩
noncomputable def Ak0 (a1 : Int) (v1 : Int) (v8 : List Int) (v9 : (List (List Aj))) (r1 : (Int × Bool)) (r2 : (List (List Aj))) (y1 : QmM) (y5 : Aj) : ST := ⟨196, [(1, oi a1), (4, ol (.ptr 4 0)), (6, ol (.ptr 6 0)), (7, ol (.ptr 7 0)), (8, ol (.ar 192 0)), (9, ol (.ptr 9 0)), (10, oi v1), (11, oi ((v8.length : Nat) : Int)), (25, ol (.ar 192 0)), (26, oi ((v8.length : Nat) : Int)), (27, ol (.ptr 7 1)), (28, ol (.ar 1019 0)), (29, oi ((v9.length : Nat) : Int)), (30, ol (.bool r1.2))], [(4, .cells [.int .i64 (0 : Int), .sl (.sl (.nm 4)) true []]), (6, .cells [.int .i64 (0 : Int), .sl (.int .u32) true [], .bool false, .int .i64 (0 : Int), .sl (.int .u32) true [], .bool false]), (7, .cells [.int .i64 y1.C, .ar 1019 0]), (9, .cells [.int .i64 y5.N.v, .sl (.int .u32) true y5.N.m, .bool y5.N.neg, .int .i64 y5.D.v, .sl (.int .u32) true y5.D.m, .bool y5.D.neg]), (192, .arr 3 (.int .i64) v8 0 false), (1019, .rows 48 53 (.nm 4) r2 0 0 .opn)]⟩
noncomputable def Abe (a1 : Int) (v1 : Int) (v8 : List Int) (v9 : (List (List Aj))) (r1 : (Int × Bool)) (r4 : (List (List Aj))) (y1 : QmM) (y5 : Aj) : ST := ⟨196, [(1, oi a1), (4, ol (.ptr 4 0)), (6, ol (.ptr 6 0)), (7, ol (.ptr 7 0)), (8, ol (.ar 192 0)), (9, ol (.ptr 9 0)), (10, oi v1), (25, ol (.ar 192 0)), (26, oi ((v8.length : Nat) : Int)), (27, ol (.ptr 7 1)), (28, ol (.ar 1019 0)), (29, oi ((v9.length : Nat) : Int)), (30, ol (.bool r1.2))], [(4, .cells [.int .i64 (0 : Int), .sl (.sl (.nm 4)) true []]), (6, .cells [.int .i64 (0 : Int), .sl (.int .u32) true [], .bool false, .int .i64 (0 : Int), .sl (.int .u32) true [], .bool false]), (7, .cells [.int .i64 y1.C, .ar 1019 0]), (9, .cells [.int .i64 y5.N.v, .sl (.int .u32) true y5.N.m, .bool y5.N.neg, .int .i64 y5.D.v, .sl (.int .u32) true y5.D.m, .bool y5.D.neg]), (192, .arr 3 (.int .i64) v8 0 false), (1019, .rows 48 53 (.nm 4) r4 0 0 .opn)]⟩
noncomputable def Z6 (a1 : Int) (v1 : Int) (v8 : List Int) (v9 : (List (List Aj))) (v31 : Int) (r1 : (Int × Bool)) (r2 : (List (List Aj))) (r3 : (Aj × (List (List Aj)))) (y1 : QmM) (y5 : Aj) (y7 : Bool) : ST := ⟨196, [(1, oi a1), (4, ol (.ptr 4 0)), (6, ol (.ptr 6 0)), (7, ol (.ptr 7 0)), (8, ol (.ar 192 0)), (9, ol (.ptr 9 0)), (10, oi v1), (11, oi ((v8.length : Nat) : Int)), (25, ol (.ar 192 0)), (26, oi ((v8.length : Nat) : Int)), (27, ol (.ptr 7 1)), (28, ol (.ar 1019 0)), (29, oi ((v9.length : Nat) : Int)), (30, ol (.bool r1.2)), (123, oi ((r2.length : Nat) : Int)), (124, oi v31), (139, og (Dy r3.1)), (140, ol (.bool y7))], [(4, .cells [.int .i64 (0 : Int), .sl (.sl (.nm 4)) true []]), (6, .cells [.int .i64 (0 : Int), .sl (.int .u32) true [], .bool false, .int .i64 (0 : Int), .sl (.int .u32) true [], .bool false]), (7, .cells [.int .i64 y1.C, .ar 1019 0]), (9, .cells [.int .i64 y5.N.v, .sl (.int .u32) true y5.N.m, .bool y5.N.neg, .int .i64 y5.D.v, .sl (.int .u32) true y5.D.m, .bool y5.D.neg]), (192, .arr 3 (.int .i64) v8 0 false), (1019, .rows 48 53 (.nm 4) r3.2 0 0 .opn)]⟩
noncomputable def Aal (r5 : (Int × (List Int) × Bool × Int × (List Int) × Bool × (List Int) × (List (List Aj)))) (y1 : QmM) : ST := ⟨196, [(4, ol (.ptr 4 0)), (6, ol (.ptr 6 0)), (7, ol (.ptr 7 0)), (8, ol (.ar 192 0)), (9, ol (.ptr 9 0))], [(4, .cells [.int .i64 (0 : Int), .sl (.sl (.nm 4)) true []]), (6, .cells [.int .i64 (0 : Int), .sl (.int .u32) true [], .bool false, .int .i64 (0 : Int), .sl (.int .u32) true [], .bool false]), (7, .cells [.int .i64 y1.C, .ar 1019 0]), (9, .cells [.int .i64 r5.1, .sl (.int .u32) true r5.2.1, .bool r5.2.2.1, .int .i64 r5.2.2.2.1, .sl (.int .u32) true r5.2.2.2.2.1, .bool r5.2.2.2.2.2.1]), (192, .arr 3 (.int .i64) r5.2.2.2.2.2.2.1 0 false), (1019, .rows 48 53 (.nm 4) r5.2.2.2.2.2.2.2 0 0 .opn)]⟩
noncomputable def Ag4 (a1 : Int) (v1 : Int) (v2 : Int) (v3 : List Int) (v4 : Bool) (v5 : Int) (v6 : List Int) (v7 : Bool) (v8 : List Int) (v9 : (List (List Aj))) (y1 : QmM) (v10 : Int) (v11 : Bool) : ST := ⟨196, [(1, oi a1), (4, ol (.ptr 4 0)), (6, ol (.ptr 6 0)), (7, ol (.ptr 7 0)), (8, ol (.ar 192 0)), (9, ol (.ptr 9 0)), (10, oi v1), (11, oi ((v8.length : Nat) : Int)), (12, oi v10), (25, ol (.ar 192 0)), (26, oi ((v8.length : Nat) : Int)), (27, ol (.ptr 7 1)), (28, ol (.ar 1019 0)), (29, oi ((v9.length : Nat) : Int)), (30, ol (.bool v11))], [(4, .cells [.int .i64 (0 : Int), .sl (.sl (.nm 4)) true []]), (6, .cells [.int .i64 (0 : Int), .sl (.int .u32) true [], .bool false, .int .i64 (0 : Int), .sl (.int .u32) true [], .bool false]), (7, .cells [.int .i64 y1.C, .ar 1019 0]), (9, .cells [.int .i64 v2, .sl (.int .u32) true v3, .bool v4, .int .i64 v5, .sl (.int .u32) true v6, .bool v7]), (192, .arr 3 (.int .i64) v8 0 false), (1019, .rows 48 53 (.nm 4) v9 0 0 .opn)]⟩
noncomputable def Agx (a1 : Int) (v1 : Int) (v8 : List Int) (v9 : (List (List Aj))) (r1 : (Int × Bool)) (y1 : QmM) (y5 : Aj) (v21 : Int) (v22 : Int) (v23 : Int) (v24 : List Int) (v25 : Bool) (v26 : Int) (v27 : List Int) (v28 : Bool) (v29 : (List (List Aj))) : ST := ⟨196, [(1, oi a1), (4, ol (.ptr 4 0)), (6, ol (.ptr 6 0)), (7, ol (.ptr 7 0)), (8, ol (.ar 192 0)), (9, ol (.ptr 9 0)), (10, oi v1), (11, oi ((v8.length : Nat) : Int)), (13, ol (.ptr 13 0)), (25, ol (.ar 192 0)), (26, oi ((v8.length : Nat) : Int)), (27, ol (.ptr 7 1)), (28, ol (.ar 1019 0)), (29, oi ((v9.length : Nat) : Int)), (30, ol (.bool r1.2)), (99, oi v21), (100, oi v22)], [(4, .cells [.int .i64 (0 : Int), .sl (.sl (.nm 4)) true []]), (6, .cells [.int .i64 (0 : Int), .sl (.int .u32) true [], .bool false, .int .i64 (0 : Int), .sl (.int .u32) true [], .bool false]), (7, .cells [.int .i64 y1.C, .ar 1019 0]), (9, .cells [.int .i64 y5.N.v, .sl (.int .u32) true y5.N.m, .bool y5.N.neg, .int .i64 y5.D.v, .sl (.int .u32) true y5.D.m, .bool y5.D.neg]), (13, .cells [.int .i64 v23, .sl (.int .u32) true v24, .bool v25, .int .i64 v26, .sl (.int .u32) true v27, .bool v28]), (192, .arr 3 (.int .i64) v8 0 false), (1019, .rows 48 53 (.nm 4) v29 0 0 .opn)]⟩
noncomputable def A4h (a1 : Int) (v1 : Int) (v8 : List Int) (v9 : (List (List Aj))) (v31 : Int) (v32 : (List (List Aj))) (r1 : (Int × Bool)) (r2 : (List (List Aj))) (y1 : QmM) (y5 : Aj) : ST := ⟨196, [(1, oi a1), (4, ol (.ptr 4 0)), (6, ol (.ptr 6 0)), (7, ol (.ptr 7 0)), (8, ol (.ar 192 0)), (9, ol (.ptr 9 0)), (10, oi v1), (11, oi ((v8.length : Nat) : Int)), (25, ol (.ar 192 0)), (26, oi ((v8.length : Nat) : Int)), (27, ol (.ptr 7 1)), (28, ol (.ar 1019 0)), (29, oi ((v9.length : Nat) : Int)), (30, ol (.bool r1.2)), (123, oi ((r2.length : Nat) : Int)), (124, oi v31)], [(4, .cells [.int .i64 (0 : Int), .sl (.sl (.nm 4)) true []]), (6, .cells [.int .i64 (0 : Int), .sl (.int .u32) true [], .bool false, .int .i64 (0 : Int), .sl (.int .u32) true [], .bool false]), (7, .cells [.int .i64 y1.C, .ar 1019 0]), (9, .cells [.int .i64 y5.N.v, .sl (.int .u32) true y5.N.m, .bool y5.N.neg, .int .i64 y5.D.v, .sl (.int .u32) true y5.D.m, .bool y5.D.neg]), (192, .arr 3 (.int .i64) v8 0 false), (1019, .rows 48 53 (.nm 4) v32 0 0 .opn)]⟩
noncomputable def A3t (a1 : Int) (v1 : Int) (v8 : List Int) (v9 : (List (List Aj))) (v31 : Int) (v32 : (List (List Aj))) (v33 : Aj) (v34 : Int) (v35 : Int) (v36 : List Int) (v37 : Bool) (v38 : Int) (v39 : List Int) (v40 : Bool) (v42 : (List (List Aj))) (r1 : (Int × Bool)) (r2 : (List (List Aj))) (y1 : QmM) (y5 : Aj) (y7 : Bool) : ST := ⟨196, [(1, oi a1), (4, ol (.ptr 4 0)), (6, ol (.ptr 6 0)), (7, ol (.ptr 7 0)), (8, ol (.ar 192 0)), (9, ol (.ptr 9 0)), (10, oi v1), (11, oi ((v8.length : Nat) : Int)), (15, oi v31), (16, ol (.ptr 16 0)), (25, ol (.ar 192 0)), (26, oi ((v8.length : Nat) : Int)), (27, ol (.ptr 7 1)), (28, ol (.ar 1019 0)), (29, oi ((v9.length : Nat) : Int)), (30, ol (.bool r1.2)), (123, oi ((r2.length : Nat) : Int)), (124, oi v31), (139, og (Dy v33)), (140, ol (.bool y7)), (147, oi (((List.getD v32 v31.toNat []).length : Nat) : Int)), (148, oi v34)], [(4, .cells [.int .i64 (0 : Int), .sl (.sl (.nm 4)) true []]), (6, .cells [.int .i64 (0 : Int), .sl (.int .u32) true [], .bool false, .int .i64 (0 : Int), .sl (.int .u32) true [], .bool false]), (7, .cells [.int .i64 y1.C, .ar 1019 0]), (9, .cells [.int .i64 y5.N.v, .sl (.int .u32) true y5.N.m, .bool y5.N.neg, .int .i64 y5.D.v, .sl (.int .u32) true y5.D.m, .bool y5.D.neg]), (16, .cells [.int .i64 v35, .sl (.int .u32) true v36, .bool v37, .int .i64 v38, .sl (.int .u32) true v39, .bool v40]), (192, .arr 3 (.int .i64) v8 0 false), (1019, .rows 48 53 (.nm 4) v42 0 0 .opn)]⟩
noncomputable def Aau (a1 : Int) (v1 : Int) (v8 : List Int) (v9 : (List (List Aj))) (v31 : Int) (v32 : (List (List Aj))) (r1 : (Int × Bool)) (r2 : (List (List Aj))) (y1 : QmM) (y5 : Aj) (y7 : Bool) (v33 : Aj) (v34 : Int) (v35 : Int) (v36 : List Int) (v37 : Bool) (v38 : Int) (v39 : List Int) (v40 : Bool) (v41 : (List (List Aj))) : ST := ⟨196, [(1, oi a1), (4, ol (.ptr 4 0)), (6, ol (.ptr 6 0)), (7, ol (.ptr 7 0)), (8, ol (.ar 192 0)), (9, ol (.ptr 9 0)), (10, oi v1), (11, oi ((v8.length : Nat) : Int)), (15, oi v31), (16, ol (.ptr 16 0)), (25, ol (.ar 192 0)), (26, oi ((v8.length : Nat) : Int)), (27, ol (.ptr 7 1)), (28, ol (.ar 1019 0)), (29, oi ((v9.length : Nat) : Int)), (30, ol (.bool r1.2)), (123, oi ((r2.length : Nat) : Int)), (124, oi v31), (139, og (Dy v33)), (140, ol (.bool y7)), (147, oi (((List.getD v32 v31.toNat []).length : Nat) : Int)), (148, oi v34)], [(4, .cells [.int .i64 (0 : Int), .sl (.sl (.nm 4)) true []]), (6, .cells [.int .i64 (0 : Int), .sl (.int .u32) true [], .bool false, .int .i64 (0 : Int), .sl (.int .u32) true [], .bool false]), (7, .cells [.int .i64 y1.C, .ar 1019 0]), (9, .cells [.int .i64 y5.N.v, .sl (.int .u32) true y5.N.m, .bool y5.N.neg, .int .i64 y5.D.v, .sl (.int .u32) true y5.D.m, .bool y5.D.neg]), (16, .cells [.int .i64 v35, .sl (.int .u32) true v36, .bool v37, .int .i64 v38, .sl (.int .u32) true v39, .bool v40]), (192, .arr 3 (.int .i64) v8 0 false), (1019, .rows 48 53 (.nm 4) v41 0 0 .opn)]⟩
noncomputable def Aaa (a1 : Int) (v1 : Int) (v8 : List Int) (v9 : (List (List Aj))) (r1 : (Int × Bool)) (r2 : (List (List Aj))) (y1 : QmM) (y5 : Aj) (v31 : Int) (v32 : (List (List Aj))) : ST := ⟨196, [(1, oi a1), (4, ol (.ptr 4 0)), (6, ol (.ptr 6 0)), (7, ol (.ptr 7 0)), (8, ol (.ar 192 0)), (9, ol (.ptr 9 0)), (10, oi v1), (11, oi ((v8.length : Nat) : Int)), (25, ol (.ar 192 0)), (26, oi ((v8.length : Nat) : Int)), (27, ol (.ptr 7 1)), (28, ol (.ar 1019 0)), (29, oi ((v9.length : Nat) : Int)), (30, ol (.bool r1.2)), (123, oi ((r2.length : Nat) : Int)), (124, oi v31)], [(4, .cells [.int .i64 (0 : Int), .sl (.sl (.nm 4)) true []]), (6, .cells [.int .i64 (0 : Int), .sl (.int .u32) true [], .bool false, .int .i64 (0 : Int), .sl (.int .u32) true [], .bool false]), (7, .cells [.int .i64 y1.C, .ar 1019 0]), (9, .cells [.int .i64 y5.N.v, .sl (.int .u32) true y5.N.m, .bool y5.N.neg, .int .i64 y5.D.v, .sl (.int .u32) true y5.D.m, .bool y5.D.neg]), (192, .arr 3 (.int .i64) v8 0 false), (1019, .rows 48 53 (.nm 4) v32 0 0 .opn)]⟩
noncomputable def A1r (a1 : Int) (v1 : Int) (v8 : List Int) (v9 : (List (List Aj))) (v14 : Int) (v15 : List Int) (v16 : Bool) (v17 : Int) (v18 : List Int) (v19 : Bool) (v20 : (List (List Aj))) (r1 : (Int × Bool)) (y1 : QmM) : ST := ⟨196, [(1, oi a1), (4, ol (.ptr 4 0)), (6, ol (.ptr 6 0)), (7, ol (.ptr 7 0)), (8, ol (.ar 192 0)), (9, ol (.ptr 9 0)), (10, oi v1), (11, oi ((v8.length : Nat) : Int)), (25, ol (.ar 192 0)), (26, oi ((v8.length : Nat) : Int)), (27, ol (.ptr 7 1)), (28, ol (.ar 1019 0)), (29, oi ((v9.length : Nat) : Int)), (30, ol (.bool r1.2))], [(4, .cells [.int .i64 (0 : Int), .sl (.sl (.nm 4)) true []]), (6, .cells [.int .i64 (0 : Int), .sl (.int .u32) true [], .bool false, .int .i64 (0 : Int), .sl (.int .u32) true [], .bool false]), (7, .cells [.int .i64 y1.C, .ar 1019 0]), (9, .cells [.int .i64 v14, .sl (.int .u32) true v15, .bool v16, .int .i64 v17, .sl (.int .u32) true v18, .bool v19]), (192, .arr 3 (.int .i64) v8 0 false), (1019, .rows 48 53 (.nm 4) v20 0 0 .opn)]⟩
noncomputable def Abw (a1 : Int) (y1 : QmM) (v1 : Int) (v2 : Int) (v3 : List Int) (v4 : Bool) (v5 : Int) (v6 : List Int) (v7 : Bool) (v8 : List Int) (v9 : (List (List Aj))) : ST := ⟨196, [(1, oi a1), (4, ol (.ptr 4 0)), (6, ol (.ptr 6 0)), (7, ol (.ptr 7 0)), (8, ol (.ar 192 0)), (9, ol (.ptr 9 0)), (10, oi v1)], [(4, .cells [.int .i64 (0 : Int), .sl (.sl (.nm 4)) true []]), (6, .cells [.int .i64 (0 : Int), .sl (.int .u32) true [], .bool false, .int .i64 (0 : Int), .sl (.int .u32) true [], .bool false]), (7, .cells [.int .i64 y1.C, .ar 1019 0]), (9, .cells [.int .i64 v2, .sl (.int .u32) true v3, .bool v4, .int .i64 v5, .sl (.int .u32) true v6, .bool v7]), (192, .arr 3 (.int .i64) v8 0 false), (1019, .rows 48 53 (.nm 4) v9 0 0 .opn)]⟩
noncomputable def A9r (a0 : QmM) (a1 : Int) : ST := ⟨196, [(0, og (Js a0)), (1, oi a1)], []⟩
theorem Atf (G : Ay E6 P) {y o r a1 v1 v2 v3 v4 v5 v6 v7 v8 v9 y1 v10 v11} (E : Zr C F y) (h : Jk a1 v1 v2 v3 v4 v5 v6 v7 v8 v9 y1 v10 v11 = some o)
   (hl : ∀ v', o = .inl v' -> Am E6 P C F Akm (Ag4 a1 v1 v2 v3 v4 v5 v6 v7 v8 v9 y1 v'.1 v'.2)) (hr : ∀ r', o = .inr r' -> r' = r)
   (K1 : ∀ r1, r = r1 -> Am E6 P C F Arq (Aji a1 v1 v2 v3 v4 v5 v6 v7 v8 v9 r1 y1)) : Am E6 P C F Akm (Ag4 a1 v1 v2 v3 v4 v5 v6 v7 v8 v9 y1 v10 v11) := by
 unfold Jk at h
 rcases Ad h with ⟨b3, h⟩ | ⟨b3, h⟩
 · obtain ⟨c3, c4, h⟩ := ns2 h
   obtain ⟨y3, c5, h⟩ := bind_some h
   rcases Ad h with ⟨b4, h⟩ | ⟨b4, h⟩
   · exact sg G [.reg [(5, oT), (14, .res ⟨[.bool], (y3, ())⟩), (15, oT)], bt, r0, en, wk [1, 4, 6, 7, 8, 9, 10, 11, 12, 25, 26, 27, 28, 29, 30] [4, 6, 7, 9, 192, 1019]] (aa b3 <| aa b3 <| aa b3 <| aa b3 <| aa c3 <| aa b3 <| aa b3 <| aa b3 <| aa c4 <| aa b3 <| aa b3 <| aa (ca c5) <| aa b3 <| aa b4 <| tt) (hl _ (si h))
   · exact sg G [.reg [(5, oT), (14, .res ⟨[.bool], (y3, ())⟩), (15, oT)], bf, au, wk [1, 4, 6, 7, 8, 9, 10, 11, 12, 25, 26, 27, 28, 29, 30] [4, 6, 7, 9, 192, 1019]] (aa b3 <| aa b3 <| aa b3 <| aa b3 <| aa c3 <| aa b3 <| aa b3 <| aa b3 <| aa c4 <| aa b3 <| aa b3 <| aa (ca c5) <| aa b3 <| aa b4 <| tt) (K1 _ (hr _ (si h)).symm)
 · exact sg G [.reg [(5, oF), (15, oF)], bf, au, wk [1, 4, 6, 7, 8, 9, 10, 11, 12, 25, 26, 27, 28, 29, 30] [4, 6, 7, 9, 192, 1019]] (aa b3 <| aa b3 <| aa b3 <| aa b3 <| aa b3 <| aa b3 <| aa b3 <| aa b3 <| aa b3 <| aa b3 <| aa (show false = false from rfl) <| tt) (K1 _ (hr _ (si h)).symm)
theorem Awn (G : Ay E6 P) {y o r a1 v1 v8 v9 r1 y1 y5 v21 v22 v23 v24 v25 v26 v27 v28 v29} (E : Zr C F y) (h : Jl a1 v1 v8 v9 r1 y1 y5 v21 v22 v23 v24 v25 v26 v27 v28 v29 = some o)
   (hl : ∀ v', o = .inl v' -> Am E6 P C F Ak6 (Agx a1 v1 v8 v9 r1 y1 y5 v'.1 v'.2.1 v'.2.2.1 v'.2.2.2.1 v'.2.2.2.2.1 v'.2.2.2.2.2.1 v'.2.2.2.2.2.2.1 v'.2.2.2.2.2.2.2.1 v'.2.2.2.2.2.2.2.2)) (hr : ∀ r', o = .inr r' -> r' = r)
   (K1 : ∀ r2, r = r2 -> Am E6 P C F Asx (Ak0 a1 v1 v8 v9 r1 r2 y1 y5)) : Am E6 P C F Ak6 (Agx a1 v1 v8 v9 r1 y1 y5 v21 v22 v23 v24 v25 v26 v27 v28 v29) := by
 unfold Jl at h
 rcases Ad h with ⟨b7, h⟩ | ⟨b7, h⟩
 · obtain ⟨c17, c18, c19, h⟩ := ns3 h
   obtain ⟨y6, c20, h⟩ := bind_some h
   obtain ⟨c21, h⟩ := Ao h
   exact sg G [r0, bt, r0, .reg [(15, .res ⟨[(.nm 4)], (y6, ())⟩)], r0, en, wk [1, 4, 6, 7, 8, 9, 10, 11, 13, 25, 26, 27, 28, 29, 30, 99, 100] [4, 6, 7, 9, 13, 192, 1019]] (aa b7 <| aa c17 <| aa c18 <| aa c19 <| aa (ca c20) <| aa c21 <| tt) (hl _ (si h))
 · exact sg G [r0, bf, au, wk [1, 4, 6, 7, 8, 9, 10, 11, 25, 26, 27, 28, 29, 30] [4, 6, 7, 9, 192, 1019]] (aa b7 <| tt) (K1 _ (hr _ (si h)).symm)
theorem Ajz (G : Ay E6 P) {y o r a1 v1 v8 v9 v31 v32 r1 r2 y1 y5} (E : Zr C F y) (h : Jj a1 v1 v8 v9 v31 v32 r1 r2 y1 y5 = some o)
   (hl : ∀ v', o = .inl v' -> Am E6 P C F Xd (Aaa a1 v1 v8 v9 r1 r2 y1 y5 v'.1 v'.2)) (hr : ∀ r', o = .inr r' -> r' = r)
   (K1 : ∀ r4, r = r4 -> Am E6 P C F Afd (Abe a1 v1 v8 v9 r1 r4 y1 y5)) : Am E6 P C F Ahq (A4h a1 v1 v8 v9 v31 v32 r1 r2 y1 y5) := by
 unfold Jj at h
 exact sg G [r0, en, wk [1, 4, 6, 7, 8, 9, 10, 11, 25, 26, 27, 28, 29, 30, 123, 124] [4, 6, 7, 9, 192, 1019]] tt (hl _ (si h))
theorem Akf (G : Ay E6 P) {y o r a1 v1 v8 v9 v31 v32 v33 v34 v35 v36 v37 v38 v39 v40 v42 r1 r2 y1 y5 y7} (E : Zr C F y) (h : H5 a1 v1 v8 v9 v31 v32 v33 v34 v35 v36 v37 v38 v39 v40 v42 r1 r2 y1 y5 y7 = some o)
   (hl : ∀ v', o = .inl v' -> Am E6 P C F Adn (Aau a1 v1 v8 v9 v31 v32 r1 r2 y1 y5 y7 v'.1 v'.2.1 v'.2.2.1 v'.2.2.2.1 v'.2.2.2.2.1 v'.2.2.2.2.2.1 v'.2.2.2.2.2.2.1 v'.2.2.2.2.2.2.2.1 v'.2.2.2.2.2.2.2.2)) (hr : ∀ r', o = .inr r' -> r' = r)
   (K1 : ∀ r3, r = r3 -> Am E6 P C F Ahq (Z6 a1 v1 v8 v9 v31 r1 r2 r3 y1 y5 y7)) : Am E6 P C F A32 (A3t a1 v1 v8 v9 v31 v32 v33 v34 v35 v36 v37 v38 v39 v40 v42 r1 r2 y1 y5 y7) := by
 unfold H5 at h
 exact sg G [r0, en, wk [1, 4, 6, 7, 8, 9, 10, 11, 15, 16, 25, 26, 27, 28, 29, 30, 123, 124, 139, 140, 147, 148] [4, 6, 7, 9, 16, 192, 1019]] tt (hl _ (si h))
theorem Aw5 (G : Ay E6 P) {y o r a1 v1 v8 v9 v31 v32 r1 r2 y1 y5 y7 v33 v34 v35 v36 v37 v38 v39 v40 v41} (E : Zr C F y) (h : Jh a1 v1 v8 v9 v31 v32 r1 r2 y1 y5 y7 v33 v34 v35 v36 v37 v38 v39 v40 v41 = some o)
   (hl : ∀ v', o = .inl v' -> Am E6 P C F Adn (Aau a1 v1 v8 v9 v31 v32 r1 r2 y1 y5 y7 v'.1 v'.2.1 v'.2.2.1 v'.2.2.2.1 v'.2.2.2.2.1 v'.2.2.2.2.2.1 v'.2.2.2.2.2.2.1 v'.2.2.2.2.2.2.2.1 v'.2.2.2.2.2.2.2.2)) (hr : ∀ r', o = .inr r' -> r' = r)
   (K1 : ∀ r3, r = r3 -> Am E6 P C F Ahq (Z6 a1 v1 v8 v9 v31 r1 r2 r3 y1 y5 y7)) : Am E6 P C F Adn (Aau a1 v1 v8 v9 v31 v32 r1 r2 y1 y5 y7 v33 v34 v35 v36 v37 v38 v39 v40 v41) := by
 unfold Jh at h
 rcases Ad h with ⟨b11, h⟩ | ⟨b11, h⟩
 · obtain ⟨c26, c27, h⟩ := ns2 h
   obtain ⟨y8, c28, h⟩ := bind_some h
   rcases Ad h with ⟨b12, h⟩ | ⟨b12, h⟩
   · obtain ⟨c29, c30, c31, c32, h⟩ := ns4 h
     obtain ⟨c33, h⟩ := Ao h
     obtain ⟨y9, c34, h⟩ := bind_some h
     obtain ⟨y10, c35, h⟩ := bind_some h
     obtain ⟨c36, h⟩ := Ao h
     exact sg G [r0, bt, r0, .reg [(8, .res ⟨[.bool], (y8, ())⟩)], bt, .reg [(23, .res ⟨[(.nm 4)], (y9, ())⟩), (24, .res ⟨[(.nm 4)], (y10, ())⟩)], au, wk [1, 4, 6, 7, 8, 9, 10, 11, 15, 16, 25, 26, 27, 28, 29, 30, 123, 124, 139, 140, 147, 148] [4, 6, 7, 9, 16, 192, 1019]] (aa b11 <| aa c26 <| aa c27 <| aa (ca c28) <| aa b12 <| aa c29 <| aa c30 <| aa c31 <| aa c32 <| aa c33 <| aa (ca c34) <| aa (ca c35) <| aa c36 <| tt) (Akf G E h hl hr K1)
   · exact sg G [r0, bt, r0, .reg [(8, .res ⟨[.bool], (y8, ())⟩)], bf, au, wk [1, 4, 6, 7, 8, 9, 10, 11, 15, 16, 25, 26, 27, 28, 29, 30, 123, 124, 139, 140, 147, 148] [4, 6, 7, 9, 16, 192, 1019]] (aa b11 <| aa c26 <| aa c27 <| aa (ca c28) <| aa b12 <| tt) (Akf G E h hl hr K1)
 · exact sg G [r0, bf, au, wk [1, 4, 6, 7, 8, 9, 10, 11, 25, 26, 27, 28, 29, 30, 123, 124, 139, 140] [4, 6, 7, 9, 192, 1019]] (aa b11 <| tt) (K1 _ (hr _ (si h)).symm)
theorem Awx (G : Ay E6 P) {y o r a1 v1 v8 v9 r1 r2 y1 y5 v31 v32} (E : Zr C F y) (h : Je a1 v1 v8 v9 r1 r2 y1 y5 v31 v32 = some o)
   (hl : ∀ v', o = .inl v' -> Am E6 P C F Xd (Aaa a1 v1 v8 v9 r1 r2 y1 y5 v'.1 v'.2)) (hr : ∀ r', o = .inr r' -> r' = r)
   (K1 : ∀ r4, r = r4 -> Am E6 P C F Afd (Abe a1 v1 v8 v9 r1 r4 y1 y5)) : Am E6 P C F Xd (Aaa a1 v1 v8 v9 r1 r2 y1 y5 v31 v32) := by
 unfold Je at h
 rcases Ad h with ⟨b8, h⟩ | ⟨b8, h⟩
 · obtain ⟨c22, c23, h⟩ := ns2 h
   rcases Ad h with ⟨b9, h⟩ | ⟨b9, h⟩
   · exact sg G [r0, bt, r0, r0, .reg [(3, oT), (6, oT)], bt, au, wk [1, 4, 6, 7, 8, 9, 10, 11, 25, 26, 27, 28, 29, 30, 123, 124] [4, 6, 7, 9, 192, 1019]] (aa b8 <| aa c22 <| aa c23 <| aa b9 <| aa b9 <| aa b9 <| aa (show true = true from rfl) <| tt) (Ajz G E h hl hr K1)
   · obtain ⟨y7, c24, h⟩ := bind_some h
     rcases Ad h with ⟨b10, h⟩ | ⟨b10, h⟩
     · exact sg G [r0, bt, r0, r0, .reg [(3, oF), (5, .res ⟨[.bool], (y7, ())⟩), (6, oF)], bt, au, wk [1, 4, 6, 7, 8, 9, 10, 11, 25, 26, 27, 28, 29, 30, 123, 124] [4, 6, 7, 9, 192, 1019]] (aa b8 <| aa c22 <| aa c23 <| aa b9 <| aa b9 <| aa (ca c24) <| aa b9 <| aa b10 <| tt) (Ajz G E h hl hr K1)
     · obtain ⟨c25, h⟩ := Ao h
       obtain ⟨r3, hi, h⟩ := bind_some h
       have K1 : ∀ q, r3 = q -> Am E6 P C F Ahq (Z6 a1 v1 v8 v9 v31 r1 r2 q y1 y5 y7) := by
         rintro q rfl
         exact sg G [r0, en, wk [1, 4, 6, 7, 8, 9, 10, 11, 25, 26, 27, 28, 29, 30, 123, 124] [4, 6, 7, 9, 192, 1019]] tt (hl _ (si h))
       exact sg G [r0, bt, r0, r0, .reg [(3, oF), (5, .res ⟨[.bool], (y7, ())⟩), (6, oF)], bf, r0, en, wk [1, 4, 6, 7, 8, 9, 10, 11, 15, 16, 25, 26, 27, 28, 29, 30, 123, 124, 139, 140, 147, 148] [4, 6, 7, 9, 16, 192, 1019]] (aa b8 <| aa c22 <| aa c23 <| aa b9 <| aa b9 <| aa (ca c24) <| aa b9 <| aa b10 <| aa c25 <| tt) (Az (V := E6) (F := F) (k := Adn) (S := λ v => Aau a1 v1 v8 v9 v31 v32 r1 r2 y1 y5 y7 v.1 v.2.1 v.2.2.1 v.2.2.2.1 v.2.2.2.2.1 v.2.2.2.2.2.1 v.2.2.2.2.2.2.1 v.2.2.2.2.2.2.2.1 v.2.2.2.2.2.2.2.2) (λ v o h hl hr => Aw5 G E h hl hr K1) _ hi)
 · exact sg G [r0, bf, au, wk [1, 4, 6, 7, 8, 9, 10, 25, 26, 27, 28, 29, 30] [4, 6, 7, 9, 192, 1019]] (aa b8 <| tt) (K1 _ (hr _ (si h)).symm)
theorem Ahm (G : Ay E6 P) {y o r a1 v1 v8 v9 v14 v15 v16 v17 v18 v19 v20 r1 y1} (E : Zr C F y) (h : H4 a1 v1 v8 v9 v14 v15 v16 v17 v18 v19 v20 r1 y1 = some o)
   (hl : ∀ v', o = .inl v' -> Am E6 P C F Yf (Abw a1 y1 v'.1 v'.2.1 v'.2.2.1 v'.2.2.2.1 v'.2.2.2.2.1 v'.2.2.2.2.2.1 v'.2.2.2.2.2.2.1 v'.2.2.2.2.2.2.2.1 v'.2.2.2.2.2.2.2.2)) (hr : ∀ r', o = .inr r' -> r' = r)
   (K1 : ∀ r5, r = r5 -> Am E6 P C F Afw (Aal r5 y1)) : Am E6 P C F Ayz (A1r a1 v1 v8 v9 v14 v15 v16 v17 v18 v19 v20 r1 y1) := by
 unfold H4 at h
 obtain ⟨c13, c14, h⟩ := ns2 h
 obtain ⟨y5, c15, h⟩ := bind_some h
 obtain ⟨c16, h⟩ := Ao h
 obtain ⟨r2, hi, h⟩ := bind_some h
 have K1 : ∀ q, r2 = q -> Am E6 P C F Asx (Ak0 a1 v1 v8 v9 r1 q y1 y5) := by
   rintro q rfl
   obtain ⟨r4, hi, h⟩ := bind_some h
   have K1 : ∀ q, r4 = q -> Am E6 P C F Afd (Abe a1 v1 v8 v9 r1 q y1 y5) := by
     rintro q rfl
     obtain ⟨c37, h⟩ := Ao h
     exact sg G [r0, r0, en, .weak [.re 192 192 0, .keep [1, 4, 6, 7, 8, 9, 10] [4, 6, 7, 9, 192, 1019]]] (aa c37 <| tt) (hl _ (si h))
   exact sg G [r0, en, wk [1, 4, 6, 7, 8, 9, 10, 11, 25, 26, 27, 28, 29, 30, 123, 124] [4, 6, 7, 9, 192, 1019]] tt (Az (V := E6) (F := F) (k := Xd) (S := λ v => Aaa a1 v1 v8 v9 r1 r2 y1 y5 v.1 v.2) (λ v o h hl hr => Awx G E h hl hr K1) _ hi)
 exact sg G [r0, .reg [(2, .res ⟨[(.nm 4)], (y5, ())⟩)], r0, en, wk [1, 4, 6, 7, 8, 9, 10, 11, 13, 25, 26, 27, 28, 29, 30, 99, 100] [4, 6, 7, 9, 13, 192, 1019]] (aa c13 <| aa c14 <| aa (ca c15) <| aa c16 <| tt) (Az (V := E6) (F := F) (k := Ak6) (S := λ v => Agx a1 v1 v8 v9 r1 y1 y5 v.1 v.2.1 v.2.2.1 v.2.2.2.1 v.2.2.2.2.1 v.2.2.2.2.2.1 v.2.2.2.2.2.2.1 v.2.2.2.2.2.2.2.1 v.2.2.2.2.2.2.2.2) (λ v o h hl hr => Awn G E h hl hr K1) _ hi)
theorem Awd (G : Ay E6 P) {y o r a1 y1 v1 v2 v3 v4 v5 v6 v7 v8 v9} (E : Zr C F y) (h : Lb a1 y1 v1 v2 v3 v4 v5 v6 v7 v8 v9 = some o)
   (hl : ∀ v', o = .inl v' -> Am E6 P C F Yf (Abw a1 y1 v'.1 v'.2.1 v'.2.2.1 v'.2.2.2.1 v'.2.2.2.2.1 v'.2.2.2.2.2.1 v'.2.2.2.2.2.2.1 v'.2.2.2.2.2.2.2.1 v'.2.2.2.2.2.2.2.2)) (hr : ∀ r', o = .inr r' -> r' = r)
   (K1 : ∀ r5, r = r5 -> Am E6 P C F Afw (Aal r5 y1)) : Am E6 P C F Yf (Abw a1 y1 v1 v2 v3 v4 v5 v6 v7 v8 v9) := by
 unfold Lb at h
 rcases Ad h with ⟨b1, h⟩ | ⟨b1, h⟩
 · rcases Ad h with ⟨b2, h⟩ | ⟨b2, h⟩
   · obtain ⟨r1, hi, h⟩ := bind_some h
     have K1 : ∀ q, r1 = q -> Am E6 P C F Arq (Aji a1 v1 v2 v3 v4 v5 v6 v7 v8 v9 q y1) := by
       rintro q rfl
       rcases Ad h with ⟨b5, h⟩ | ⟨b5, h⟩
       · exact sg G [r0, bt, r0, en, wk [1, 4, 6, 7, 8, 9, 10] [4, 6, 7, 9, 192, 1019]] (aa b5 <| tt) (hl _ (si h))
       · rcases Ad h with ⟨b6, h⟩ | ⟨b6, h⟩
         · obtain ⟨c6, c7, c8, c9, h⟩ := ns4 h
           obtain ⟨c10, c11, h⟩ := ns2 h
           obtain ⟨y4, c12, h⟩ := bind_some h
           exact sg G [r0, bf, r0, bt, r0, .reg [(1, .res ⟨[(.nm 4)], (y4, ())⟩)], au, .weak [.re 1019 1019 0, .keep [1, 4, 6, 7, 8, 9, 10, 11, 25, 26, 27, 28, 29, 30] [4, 6, 7, 9, 192, 1019]]] (aa b5 <| aa b6 <| aa c6 <| aa c7 <| aa c8 <| aa c9 <| aa c10 <| aa c11 <| aa (ca c12) <| tt) (Ahm G E h hl hr K1)
         · exact sg G [r0, bf, r0, bf, au, wk [1, 4, 6, 7, 8, 9, 10, 11, 25, 26, 27, 28, 29, 30] [4, 6, 7, 9, 192, 1019]] (aa b5 <| aa b6 <| tt) (Ahm G E h hl hr K1)
     exact sg G [.reg [(3, oT), (10, oT)], bt, r0, r0, en, wk [1, 4, 6, 7, 8, 9, 10, 11, 12, 25, 26, 27, 28, 29, 30] [4, 6, 7, 9, 192, 1019]] (aa b1 <| aa b1 <| aa b1 <| aa b1 <| aa b1 <| aa b1 <| aa b1 <| aa b2 <| tt) (Az (V := E6) (F := F) (k := Akm) (S := λ v => Ag4 a1 v1 v2 v3 v4 v5 v6 v7 v8 v9 y1 v.1 v.2) (λ v o h hl hr => Atf G E h hl hr K1) _ hi)
   · exact sg G [.reg [(3, oT), (10, oT)], bf, au, wk [4, 6, 7, 8, 9] [4, 6, 7, 9, 192, 1019]] (aa b1 <| aa b1 <| aa b1 <| aa b1 <| aa b1 <| aa b1 <| aa b1 <| aa b2 <| tt) (K1 _ (hr _ (si h)).symm)
 · exact sg G [.reg [(3, oF), (10, oF)], bf, au, wk [4, 6, 7, 8, 9] [4, 6, 7, 9, 192, 1019]] (aa b1 <| aa b1 <| aa b1 <| aa b1 <| aa b1 <| aa b1 <| aa b1 <| aa (show false = false from rfl) <| tt) (K1 _ (hr _ (si h)).symm)
theorem A55 (G : Ay E6 P) {y a0 a1} (E : Zr C F y) (h : Iw a0 a1 = some y) : Am E6 P C F Azh (A9r a0 a1) := by
 unfold Iw at h
 obtain ⟨y1, c1, h⟩ := bind_some h
 obtain ⟨y2, c2, h⟩ := bind_some h
 obtain ⟨r5, hi, h⟩ := bind_some h
 have K1 : ∀ q, r5 = q -> Am E6 P C F Afw (Aal q y1) := by
   rintro q rfl
   have e := sj h; subst e
   exact se G E [r0, au, .weak [.fix (.cell 4), .fix (.slot 5)]] tt
 exact sg G [r0, .reg [(1, .res ⟨[(.nm 5)], (y1, ())⟩)], r0, .reg [(0, .res ⟨[(.nm 4)], (y2, ())⟩)], r0, en, .weak [.own (.slot 8) 0 192 3 0, .keep [1, 4, 6, 7, 8, 9, 10] [4, 6, 7, 9, 192, 1019]]] (aa (ca c1) <| aa (ca c2) <| tt) (Az (V := E6) (F := F) (k := Yf) (S := λ v => Abw a1 y1 v.1 v.2.1 v.2.2.1 v.2.2.2.1 v.2.2.2.2.1 v.2.2.2.2.2.1 v.2.2.2.2.2.2.1 v.2.2.2.2.2.2.2.1 v.2.2.2.2.2.2.2.2) (λ v o h hl hr => Awd G E h hl hr K1) _ hi)
noncomputable def Ash : FS yaE := ⟨[(.nm 5), (.int .i64)], [(.nm 5), (.sl (.int .i64)), (.nm 4)], [], [], λ x => Option.map (λ r => (r.1, r.2.1, r.2.2, ())) (Iw x.1 x.2.1)⟩
theorem Ad1 : MT 52 Ash := show Bh E6 _ _ _ from mt (fn := Try.f52) (S := λ x => A9r x.1 x.2.1) (GB ⟨G8, Rr, Uv, U2, W8, Wh, Aok, trivial⟩ trivial) λ G _ _ _ _ E h => A55 G E h
noncomputable abbrev Xj : Env := EV [] [] false
noncomputable def A0n : List Item := [.code (Try.f77.body.getD .skip)]
noncomputable def Aia := ctl [.reg, .reg, .reg, .enter] A0n
noncomputable def Axf := ctl [.reg, .br false, .auto] Aia
abbrev Bbk (C : Ctx) (F : Act -> World -> Prop) (y : QmM) : Prop := Bz Xj C F Try.f77.results.toList [[(0, 0), (48, 53)]] [(.nm 5)] (y, ())
noncomputable def Akv (a0 : QmM) (a1 : QmM) (r1 : (List (List Aj))) : ST := ⟨38, [(4, ol (.ptr 4 0)), (5, ol (.ptr 5 0))], [(4, .cells [.int .i64 (0 : Int), .ar 8000401 0]), (5, .cells [.int .i64 (IntKind.wrap .i64 (a0.C + a1.C)), .ar 8000501 0]), (8000401, .rows 48 53 (.nm 4) [] 0 0 .opn), (8000501, .rows 48 53 (.nm 4) r1 0 0 .opn)]⟩
noncomputable def Afy (a0 : QmM) (a1 : QmM) (v1 : Int) (v2 : (List (List Aj))) : ST := ⟨38, [(2, ol (.ptr 2 0)), (3, ol (.ptr 3 0)), (4, ol (.ptr 4 0)), (5, ol (.ptr 5 0)), (15, oi ((a0.V.length : Nat) : Int)), (16, oi v1)], [(2, .cells [.int .i64 a0.C, .sl (.sl (.nm 4)) false a0.V]), (3, .cells [.int .i64 a1.C, .sl (.sl (.nm 4)) false a1.V]), (4, .cells [.int .i64 (0 : Int), .ar 8000401 0]), (5, .cells [.int .i64 (IntKind.wrap .i64 (a0.C + a1.C)), .ar 8000501 0]), (8000401, .rows 48 53 (.nm 4) [] 0 0 .opn), (8000501, .rows 48 53 (.nm 4) v2 0 0 .opn)]⟩
noncomputable def A44 (a0 : QmM) (a1 : QmM) : ST := ⟨38, [(0, og (Js a0)), (1, og (Js a1))], []⟩
theorem Aww (G : Ay Xj P) {y o r a0 a1 v1 v2} (E : Bbk C F y) (h : Ln a0 a1 v1 v2 = some o)
   (hl : ∀ v', o = .inl v' -> Am Xj P C F Aia (Afy a0 a1 v'.1 v'.2)) (hr : ∀ r', o = .inr r' -> r' = r)
   (K1 : ∀ r1, r = r1 -> Am Xj P C F Axf (Akv a0 a1 r1)) : Am Xj P C F Aia (Afy a0 a1 v1 v2) := by
 unfold Ln at h
 rcases Ad h with ⟨b1, h⟩ | ⟨b1, h⟩
 · obtain ⟨c1, c2, c3, c4, h⟩ := ns4 h
   obtain ⟨c5, h⟩ := Ao h
   exact sg G [r0, bt, r0, .reg [(14, .own)], r0, en, .weak [.re 8000501 8000501 0, .keep [2, 3, 4, 5, 15, 16] [2, 3, 4, 5, 8000401, 8000501]]] (aa b1 <| aa c1 <| aa c2 <| aa c3 <| aa c4 <| aa c5 <| tt) (hl _ (si h))
 · exact sg G [r0, bf, au, wk [4, 5] [4, 5, 8000401, 8000501]] (aa b1 <| tt) (K1 _ (hr _ (si h)).symm)
theorem A7s (G : Ay Xj P) {y a0 a1} (E : Bbk C F y) (h : J5 a0 a1 = some y) : Am Xj P C F A0n (A44 a0 a1) := by
 unfold J5 at h
 obtain ⟨r1, hi, h⟩ := bind_some h
 have K1 : ∀ q, r1 = q -> Am Xj P C F Axf (Akv a0 a1 q) := by
   rintro q rfl
   have e := sj h; subst e
   exact se G E [r0, au] tt
 exact sg G [r0, .weak [.own (.cell 4) 1 8000401 48 53], r0, .weak [.own (.cell 5) 1 8000501 48 53], r0, en, wk [2, 3, 4, 5, 15, 16] [2, 3, 4, 5, 8000401, 8000501]] tt (Az (V := Xj) (F := F) (k := Aia) (S := λ v => Afy a0 a1 v.1 v.2) (λ v o h hl hr => Aww G E h hl hr K1) _ hi)
noncomputable def Azp : FS yaE := ⟨[(.nm 5), (.nm 5)], [(.nm 5)], [], [[(0, 0), (48, 53)]], λ x => Option.map (λ r => (r, ())) (J5 x.1 x.2.1)⟩
theorem An7 : MT 77 Azp := show Bh Xj _ _ _ from mt (fn := Try.f77) (S := λ x => A44 x.1 x.2.1) (GB trivial trivial) λ G _ _ _ _ E h => A7s G E h
noncomputable abbrev Xi : Env := EV [] [] false
noncomputable def A06 : List Item := [.code (Try.f78.body.getD .skip)]
noncomputable def Aho := ctl [.reg, .reg, .reg, .enter] A06
noncomputable def Ayb := ctl [.reg, .br false, .auto] Aho
abbrev A5g (C : Ctx) (F : Act -> World -> Prop) (y : QmM) : Prop := Bz Xi C F Try.f78.results.toList [] [(.nm 5)] (y, ())
noncomputable def Ahv (r1 : (List (List Aj))) : ST := ⟨22, [(2, ol (.ptr 2 0)), (3, ol (.ptr 3 0))], [(2, .cells [.int .i64 (0 : Int), .sl (.sl (.nm 4)) true []]), (3, .cells [.int .i64 (1 : Int), .ar 18 0]), (18, .arr 48 (.sl (.nm 4)) r1 0 false)]⟩
noncomputable def Af7 (a0 : List Aj) (v1 : Int) (v2 : (List (List Aj))) : ST := ⟨22, [(2, ol (.ptr 2 0)), (3, ol (.ptr 3 0)), (7, ol (.sl (.nm 4) false a0)), (8, oi ((a0.length : Nat) : Int)), (9, oi v1)], [(2, .cells [.int .i64 (0 : Int), .sl (.sl (.nm 4)) true []]), (3, .cells [.int .i64 (1 : Int), .ar 18 0]), (18, .arr 48 (.sl (.nm 4)) v2 0 false)]⟩
noncomputable def A87 (a0 : List Aj) : ST := ⟨22, [(0, ol (.sl (.nm 4) false a0))], []⟩
theorem Avi (G : Ay Xi P) {y o r a0 v1 v2} (E : A5g C F y) (h : M8 a0 v1 v2 = some o)
   (hl : ∀ v', o = .inl v' -> Am Xi P C F Aho (Af7 a0 v'.1 v'.2)) (hr : ∀ r', o = .inr r' -> r' = r)
   (K1 : ∀ r1, r = r1 -> Am Xi P C F Ayb (Ahv r1)) : Am Xi P C F Aho (Af7 a0 v1 v2) := by
 unfold M8 at h
 rcases Ad h with ⟨b1, h⟩ | ⟨b1, h⟩
 · obtain ⟨c1, h⟩ := Ao h
   obtain ⟨c2, h⟩ := Ao h
   exact sg G [r0, bt, r0, r0, r0, en, .weak [.re 18 18 0, .keep [2, 3, 7, 8, 9] [2, 3, 18]]] (aa b1 <| aa c1 <| aa c2 <| tt) (hl _ (si h))
 · exact sg G [r0, bf, au, wk [2, 3] [2, 3, 18]] (aa b1 <| tt) (K1 _ (hr _ (si h)).symm)
theorem A4l (G : Ay Xi P) {y a0} (E : A5g C F y) (h : Mi a0 = some y) : Am Xi P C F A06 (A87 a0) := by
 unfold Mi at h
 obtain ⟨r1, hi, h⟩ := bind_some h
 have K1 : ∀ q, r1 = q -> Am Xi P C F Ayb (Ahv q) := by
   rintro q rfl
   have e := sj h; subst e
   exact se G E [r0, au, .weak [.fix (.cell 2)]] tt
 exact sg G [r0, r0, r0, en, .weak [.own (.cell 3) 1 18 48 0, .keep [2, 3, 7, 8, 9] [2, 3, 18]]] tt (Az (V := Xi) (F := F) (k := Aho) (S := λ v => Af7 a0 v.1 v.2) (λ v o h hl hr => Avi G E h hl hr K1) _ hi)
noncomputable def A0m : FS yaE := ⟨[(.sl (.nm 4))], [(.nm 5)], [], [], λ x => Option.map (λ r => (r, ())) (Mi x.1)⟩
theorem Aoo : MT 78 A0m := show Bh Xi _ _ _ from mt (fn := Try.f78) (S := λ x => A87 x.1) (GB trivial trivial) λ G _ _ _ _ E h => A4l G E h
noncomputable abbrev Ii : Env := EV [(17, Om), (48, Ajv)] [] false
noncomputable def A03 : List Item := [.code (Try.f79.body.getD .skip)]
noncomputable def Ak9 := ctl [.reg, .reg, .reg, .enter] A03
noncomputable def Aom := ctl [.reg, .br false, .auto] Ak9
noncomputable def Aee := ctl [.reg, .reg, .enter] Aom
noncomputable def Ald := ctl [.reg, .br true, .reg, .reg, .br false, .reg, .reg, .enter] Aee
noncomputable def Aqc := ctl [.reg, .br false, .auto] Ald
noncomputable def Akl := ctl [.reg, .reg, .enter] Aqc
noncomputable def A05 := ctl [.reg, .br false, .auto] Akl
noncomputable def Ax7 := ctl [.reg, .br false, .auto] Aee
abbrev Ape (C : Ctx) (F : Act -> World -> Prop) (y : (List (List Aj))) : Prop := Bz Ii C F Try.f79.results.toList [] [(.sl (.sl (.nm 4)))] (y, ())
noncomputable def Ama (a0 : QmM) (a1 : List Int) (a2 : Int) (r1 : List Bool) : ST := ⟨78, [(1, ol (.sl (.int .i64) false a1)), (2, oi a2), (3, ol (.ptr 3 0)), (7, ol (.ar 17 0))], [(3, .cells [.int .i64 a0.C, .sl (.sl (.nm 4)) false a0.V]), (17, .arr 4 .bool r1 0 false)]⟩
noncomputable def Ai8 (a0 : QmM) (a1 : List Int) (a2 : Int) (v4 : Int) (v5 : (List (List Aj))) (r1 : List Bool) (r2 : List Aj) : ST := ⟨78, [(1, ol (.sl (.int .i64) false a1)), (2, oi a2), (3, ol (.ptr 3 0)), (7, ol (.ar 17 0)), (10, ol (.ar 7001000 0)), (11, oi v4), (12, ol (.ar 37 0)), (28, oi a2), (29, oi v4)], [(3, .cells [.int .i64 a0.C, .sl (.sl (.nm 4)) false a0.V]), (17, .arr 4 .bool r1 0 false), (37, .arr 53 (.nm 4) r2 0 false), (7001000, .rows 48 53 (.nm 4) v5 0 0 .opn)]⟩
noncomputable def Ah4 (a0 : QmM) (a1 : List Int) (a2 : Int) (v4 : Int) (v5 : (List (List Aj))) (r1 : List Bool) (r3 : List Aj) : ST := ⟨78, [(1, ol (.sl (.int .i64) false a1)), (2, oi a2), (3, ol (.ptr 3 0)), (7, ol (.ar 17 0)), (10, ol (.ar 7001000 0)), (12, ol (.ar 37 0)), (28, oi a2), (29, oi v4)], [(3, .cells [.int .i64 a0.C, .sl (.sl (.nm 4)) false a0.V]), (17, .arr 4 .bool r1 0 false), (37, .arr 53 (.nm 4) r3 0 false), (7001000, .rows 48 53 (.nm 4) v5 0 0 .opn)]⟩
noncomputable def Alh (r4 : (List (List Aj))) : ST := ⟨78, [(10, ol (.ar 7001000 0))], [(7001000, .rows 48 53 (.nm 4) r4 0 0 .opn)]⟩
noncomputable def Ae2 (a0 : QmM) (a1 : List Int) (a2 : Int) (v1 : Int) (v2 : List Bool) : ST := ⟨78, [(1, ol (.sl (.int .i64) false a1)), (2, oi a2), (3, ol (.ptr 3 0)), (7, ol (.ar 17 0)), (18, ol (.sl (.int .i64) false a1)), (19, oi ((a1.length : Nat) : Int)), (20, oi v1)], [(3, .cells [.int .i64 a0.C, .sl (.sl (.nm 4)) false a0.V]), (17, .arr 4 .bool v2 0 false)]⟩
noncomputable def Ag1 (a0 : QmM) (a1 : List Int) (a2 : Int) (v4 : Int) (v5 : (List (List Aj))) (r1 : List Bool) (v6 : Int) (v7 : Int) (v8 : List Aj) : ST := ⟨78, [(1, ol (.sl (.int .i64) false a1)), (2, oi a2), (3, ol (.ptr 3 0)), (7, ol (.ar 17 0)), (10, ol (.ar 7001000 0)), (11, oi v4), (12, ol (.ar 37 0)), (28, oi a2), (29, oi v4), (39, oi v6), (40, oi v7)], [(3, .cells [.int .i64 a0.C, .sl (.sl (.nm 4)) false a0.V]), (17, .arr 4 .bool r1 0 false), (37, .arr 53 (.nm 4) v8 0 false), (7001000, .rows 48 53 (.nm 4) v5 0 0 .opn)]⟩
noncomputable def Afe (a0 : QmM) (a1 : List Int) (a2 : Int) (v4 : Int) (v5 : (List (List Aj))) (r1 : List Bool) (v10 : Int) (v11 : List Aj) : ST := ⟨78, [(1, ol (.sl (.int .i64) false a1)), (2, oi a2), (3, ol (.ptr 3 0)), (7, ol (.ar 17 0)), (10, ol (.ar 7001000 0)), (11, oi v4), (12, ol (.ar 37 0)), (28, oi a2), (29, oi v4), (52, ol (.sl (.int .i64) false a1)), (53, oi ((a1.length : Nat) : Int)), (54, oi v10)], [(3, .cells [.int .i64 a0.C, .sl (.sl (.nm 4)) false a0.V]), (17, .arr 4 .bool r1 0 false), (37, .arr 53 (.nm 4) v11 0 false), (7001000, .rows 48 53 (.nm 4) v5 0 0 .opn)]⟩
noncomputable def Af1 (a0 : QmM) (a1 : List Int) (a2 : Int) (r1 : List Bool) (v4 : Int) (v5 : (List (List Aj))) : ST := ⟨78, [(1, ol (.sl (.int .i64) false a1)), (2, oi a2), (3, ol (.ptr 3 0)), (7, ol (.ar 17 0)), (10, ol (.ar 7001000 0)), (28, oi a2), (29, oi v4)], [(3, .cells [.int .i64 a0.C, .sl (.sl (.nm 4)) false a0.V]), (17, .arr 4 .bool r1 0 false), (7001000, .rows 48 53 (.nm 4) v5 0 0 .opn)]⟩
noncomputable def Bao (a0 : QmM) (a1 : List Int) (a2 : Int) : ST := ⟨78, [(0, og (Js a0)), (1, ol (.sl (.int .i64) false a1)), (2, oi a2)], []⟩
theorem Atk (G : Ay Ii P) {y o r a0 a1 a2 v1 v2} (E : Ape C F y) (h : M9 a0 a1 a2 v1 v2 = some o)
   (hl : ∀ v', o = .inl v' -> Am Ii P C F Ak9 (Ae2 a0 a1 a2 v'.1 v'.2)) (hr : ∀ r', o = .inr r' -> r' = r)
   (K1 : ∀ r1, r = r1 -> Am Ii P C F Aom (Ama a0 a1 a2 r1)) : Am Ii P C F Ak9 (Ae2 a0 a1 a2 v1 v2) := by
 unfold M9 at h
 rcases Ad h with ⟨b1, h⟩ | ⟨b1, h⟩
 · obtain ⟨c4, h⟩ := Ao h
   obtain ⟨c5, h⟩ := Ao h
   exact sg G [r0, bt, r0, r0, r0, en, wk [1, 2, 3, 7, 18, 19, 20] [3, 17]] (aa b1 <| aa c4 <| aa c5 <| tt) (hl _ (si h))
 · exact sg G [r0, bf, au, wk [1, 2, 3, 7] [3, 17]] (aa b1 <| tt) (K1 _ (hr _ (si h)).symm)
theorem Aum (G : Ay Ii P) {y o r a0 a1 a2 v4 v5 r1 v6 v7 v8} (E : Ape C F y) (h : Qk a0 a1 a2 v4 v5 r1 v6 v7 v8 = some o)
   (hl : ∀ v', o = .inl v' -> Am Ii P C F Ald (Ag1 a0 a1 a2 v4 v5 r1 v'.1 v'.2.1 v'.2.2)) (hr : ∀ r', o = .inr r' -> r' = r)
   (K1 : ∀ r2, r = r2 -> Am Ii P C F Aqc (Ai8 a0 a1 a2 v4 v5 r1 r2)) : Am Ii P C F Ald (Ag1 a0 a1 a2 v4 v5 r1 v6 v7 v8) := by
 unfold Qk at h
 rcases Ad h with ⟨b4, h⟩ | ⟨b4, h⟩
 · obtain ⟨y1, c10, h⟩ := bind_some h
   obtain ⟨c11, h⟩ := Ao h
   exact sg G [r0, bt, r0, .reg [(2, .res ⟨[(.nm 4)], (y1, ())⟩)], r0, en, wk [1, 2, 3, 7, 10, 11, 12, 28, 29, 39, 40] [3, 17, 37, 7001000]] (aa b4 <| aa (ca c10) <| aa c11 <| tt) (hl _ (si h))
 · exact sg G [r0, bf, au, wk [1, 2, 3, 7, 10, 11, 12, 28, 29] [3, 17, 37, 7001000]] (aa b4 <| tt) (K1 _ (hr _ (si h)).symm)
theorem Atq (G : Ay Ii P) {y o r a0 a1 a2 v4 v5 r1 v10 v11} (E : Ape C F y) (h : Qf a0 a1 a2 v4 v5 r1 v10 v11 = some o)
   (hl : ∀ v', o = .inl v' -> Am Ii P C F Akl (Afe a0 a1 a2 v4 v5 r1 v'.1 v'.2)) (hr : ∀ r', o = .inr r' -> r' = r)
   (K1 : ∀ r3, r = r3 -> Am Ii P C F A05 (Ah4 a0 a1 a2 v4 v5 r1 r3)) : Am Ii P C F Akl (Afe a0 a1 a2 v4 v5 r1 v10 v11) := by
 unfold Qf at h
 rcases Ad h with ⟨b5, h⟩ | ⟨b5, h⟩
 · obtain ⟨c14, h⟩ := Ao h
   obtain ⟨c15, c16, h⟩ := ns2 h
   obtain ⟨y3, c17, h⟩ := bind_some h
   obtain ⟨c18, h⟩ := Ao h
   exact sg G [r0, bt, r0, .reg [(10, .res ⟨[(.nm 4)], (y3, ())⟩)], r0, en, wk [1, 2, 3, 7, 10, 11, 12, 28, 29, 52, 53, 54] [3, 17, 37, 7001000]] (aa b5 <| aa c14 <| aa c15 <| aa c16 <| aa (ca c17) <| aa c18 <| tt) (hl _ (si h))
 · exact sg G [r0, bf, au, wk [1, 2, 3, 7, 10, 12, 28, 29] [3, 17, 37, 7001000]] (aa b5 <| tt) (K1 _ (hr _ (si h)).symm)
theorem Auo (G : Ay Ii P) {y o r a0 a1 a2 r1 v4 v5} (E : Ape C F y) (h : Mt a0 a1 a2 r1 v4 v5 = some o)
   (hl : ∀ v', o = .inl v' -> Am Ii P C F Aee (Af1 a0 a1 a2 r1 v'.1 v'.2)) (hr : ∀ r', o = .inr r' -> r' = r)
   (K1 : ∀ r4, r = r4 -> Am Ii P C F Ax7 (Alh r4)) : Am Ii P C F Aee (Af1 a0 a1 a2 r1 v4 v5) := by
 unfold Mt at h
 rcases Ad h with ⟨b2, h⟩ | ⟨b2, h⟩
 · obtain ⟨c6, h⟩ := Ao h
   rcases Ad h with ⟨b3, h⟩ | ⟨b3, h⟩
   · exact sg G [r0, bt, r0, r0, bt, r0, en, wk [1, 2, 3, 7, 10, 28, 29] [3, 17, 7001000]] (aa b2 <| aa c6 <| aa b3 <| tt) (hl _ (si h))
   · obtain ⟨c7, c8, c9, h⟩ := ns3 h
     obtain ⟨r2, hi, h⟩ := bind_some h
     have K1 : ∀ q, r2 = q -> Am Ii P C F Aqc (Ai8 a0 a1 a2 v4 v5 r1 q) := by
       rintro q rfl
       obtain ⟨y2, c12, h⟩ := bind_some h
       obtain ⟨c13, h⟩ := Ao h
       obtain ⟨r3, hi, h⟩ := bind_some h
       have K1 : ∀ q, r3 = q -> Am Ii P C F A05 (Ah4 a0 a1 a2 v4 v5 r1 q) := by
         rintro q rfl
         obtain ⟨c19, h⟩ := Ao h
         exact sg G [.reg [(2, .own)], r0, en, .weak [.re 7001000 7001000 0, .keep [1, 2, 3, 7, 10, 28, 29] [3, 17, 7001000]]] (aa c19 <| tt) (hl _ (si h))
       exact sg G [.reg [(2, .res ⟨[(.nm 4)], (y2, ())⟩)], r0, en, wk [1, 2, 3, 7, 10, 11, 12, 28, 29, 52, 53, 54] [3, 17, 37, 7001000]] (aa (ca c12) <| aa c13 <| tt) (Az (V := Ii) (F := F) (k := Akl) (S := λ v => Afe a0 a1 a2 v4 v5 r1 v.1 v.2) (λ v o h hl hr => Atq G E h hl hr K1) _ hi)
     exact sg G [r0, bt, r0, r0, bf, r0, r0, en, wk [1, 2, 3, 7, 10, 11, 12, 28, 29, 39, 40] [3, 17, 37, 7001000]] (aa b2 <| aa c6 <| aa b3 <| aa c7 <| aa c8 <| aa c9 <| tt) (Az (V := Ii) (F := F) (k := Ald) (S := λ v => Ag1 a0 a1 a2 v4 v5 r1 v.1 v.2.1 v.2.2) (λ v o h hl hr => Aum G E h hl hr K1) _ hi)
 · exact sg G [r0, bf, au, wk [10] [7001000]] (aa b2 <| tt) (K1 _ (hr _ (si h)).symm)
theorem A4q (G : Ay Ii P) {y a0 a1 a2} (E : Ape C F y) (h : L3 a0 a1 a2 = some y) : Am Ii P C F A03 (Bao a0 a1 a2) := by
 unfold L3 at h
 obtain ⟨c1, c2, c3, h⟩ := ns3 h
 obtain ⟨r1, hi, h⟩ := bind_some h
 have K1 : ∀ q, r1 = q -> Am Ii P C F Aom (Ama a0 a1 a2 q) := by
   rintro q rfl
   obtain ⟨r4, hi, h⟩ := bind_some h
   have K1 : ∀ q, r4 = q -> Am Ii P C F Ax7 (Alh q) := by
     rintro q rfl
     have e := sj h; subst e
     exact se G E [r0, au, .weak [.fix (.slot 6)]] tt
   exact sg G [r0, .weak [.own (.slot 10) 0 7001000 48 53], r0, en, wk [1, 2, 3, 7, 10, 28, 29] [3, 17, 7001000]] tt (Az (V := Ii) (F := F) (k := Aee) (S := λ v => Af1 a0 a1 a2 r1 v.1 v.2) (λ v o h hl hr => Auo G E h hl hr K1) _ hi)
 exact sg G [r0, r0, r0, en, wk [1, 2, 3, 7, 18, 19, 20] [3, 17]] (aa c1 <| aa c2 <| aa c3 <| tt) (Az (V := Ii) (F := F) (k := Ak9) (S := λ v => Ae2 a0 a1 a2 v.1 v.2) (λ v o h hl hr => Atk G E h hl hr K1) _ hi)
noncomputable def A0o : FS yaE := ⟨[(.nm 5), (.sl (.int .i64)), (.int .i64)], [(.sl (.sl (.nm 4)))], [], [], λ x => Option.map (λ r => (r, ())) (L3 x.1 x.2.1 x.2.2.1)⟩
theorem Arp : MT 79 A0o := show Bh Ii _ _ _ from mt (fn := Try.f79) (S := λ x => Bao x.1 x.2.1 x.2.2.1) (GB ⟨G8, Wh, trivial⟩ trivial) λ G _ _ _ _ E h => A4q G E h
end
end Go.Ab
