/- The functions compute what the plain functions tell. Conditions: none beyond those that each theorem names. -/
import Derived.Test.YtjdgmcngpiookaaS18
namespace Go.Ab
open Go Go.Proofs
set_option linter.unusedVariables false
section
variable {P : Program} {C : Ctx} {F : Act -> World -> Prop}
noncomputable abbrev Gk : Env := EV [(24, Azk), (25, A0g), (33, Az3), (34, Axv), (35, Ayl), (36, Ayk), (37, Axt), (38, A0u), (39, Aq8)] [] false
noncomputable def Apl : List Item := [.code (Try.f10.body.getD .skip)]
noncomputable def A4w := ctl [.reg, .reg, .reg, .br false, .reg, .br true, .auto] Apl
noncomputable def Vn := ctl [.reg, .reg, .reg, .br false, .reg, .br false, .reg, .reg, .enter] Apl
noncomputable def Az6 := ctl [.reg, .br true, .reg, .reg, .br false, .auto] Vn
noncomputable def A9m := ctl [.reg, .br false, .reg, .reg, .br true, .reg, .reg, .auto] Az6
noncomputable def Ack := ctl [.reg, .br false, .auto] Vn
noncomputable def Acw := ctl [.reg, .enter] Ack
noncomputable def Yu := ctl [.reg, .br true, .reg, .enter] Acw
noncomputable def A8h := ctl [.reg, .br true, .reg, .br true, .auto] Yu
noncomputable def Arl := ctl [.reg, .br false, .auto] Yu
noncomputable def Ar1 := ctl [.reg, .br false, .auto] Acw
abbrev Acz (C : Ctx) (F : Act -> World -> Prop) (y : (Ah × Int)) : Prop := Bz Gk C F Try.f10.results.toList [] [(.nm 2), (.int .i64)] (y.1, y.2, ())
noncomputable def Ui (a0 : Ah) (a1 : Int) (r1 : ((List Int) × Bool × (List Int) × Bool × (List Ag) × (List Aq))) : ST := ⟨179, [(1, oi a1), (2, ol (.ptr 2 0)), (4, ol (.ptr 4 0)), (7, ol (.ptr 7 0)), (8, ol (.ar 44 0)), (9, ol (.ptr 9 0))], [(2, .cells [.int .i64 a0.Nodes, .sl (.nm 1) false a0.Arms]), (4, .cells [.int .i64 (0 : Int), .sl (.nm 1) true []]), (7, .cells [.int .i64 (IntKind.wrap .i64 (a0.Nodes - (1 : Int))), .ar 82 0]), (9, .cells [.sl (.int .u32) false r1.1, .bool r1.2.1, .sl (.int .u32) false r1.2.2.1, .bool r1.2.2.2.1]), (44, .arr 66 (.nm 7) r1.2.2.2.2.1 0 false), (82, .arr 28 (.nm 1) r1.2.2.2.2.2 0 false)]⟩
noncomputable def Z4 (a0 : Ah) (a1 : Int) (v19 : Int) (r1 : ((List Int) × Bool × (List Int) × Bool × (List Ag) × (List Aq))) (r2 : List Aq) : ST := ⟨179, [(1, oi a1), (2, ol (.ptr 2 0)), (4, ol (.ptr 4 0)), (7, ol (.ptr 7 0)), (8, ol (.ar 44 0)), (9, ol (.ptr 9 0)), (14, oi v19)], [(2, .cells [.int .i64 a0.Nodes, .sl (.nm 1) false a0.Arms]), (4, .cells [.int .i64 (0 : Int), .sl (.nm 1) true []]), (7, .cells [.int .i64 (IntKind.wrap .i64 (a0.Nodes - (1 : Int))), .ar 82 0]), (9, .cells [.sl (.int .u32) false r1.1, .bool r1.2.1, .sl (.int .u32) false r1.2.2.1, .bool r1.2.2.2.1]), (44, .arr 66 (.nm 7) r1.2.2.2.2.1 0 false), (82, .arr 28 (.nm 1) r2 0 false)]⟩
noncomputable def Ahu (a0 : Ah) (r4 : List Aq) : ST := ⟨179, [(4, ol (.ptr 4 0)), (7, ol (.ptr 7 0))], [(4, .cells [.int .i64 (0 : Int), .sl (.nm 1) true []]), (7, .cells [.int .i64 (IntKind.wrap .i64 (a0.Nodes - (1 : Int))), .ar 82 0]), (82, .arr 28 (.nm 1) r4 0 false)]⟩
noncomputable def A12 : ST := ⟨179, [(4, ol (.ptr 4 0))], [(4, .cells [.int .i64 (0 : Int), .sl (.nm 1) true []])]⟩
noncomputable def A25 (a0 : Ah) (a1 : Int) (v1 : Int) (v7 : List Aq) (v8 : List Int) (v9 : Bool) (v10 : List Int) (v11 : Bool) (v12 : List Ag) : ST := ⟨179, [(1, oi a1), (2, ol (.ptr 2 0)), (4, ol (.ptr 4 0)), (7, ol (.ptr 7 0)), (8, ol (.ar 44 0)), (9, ol (.ptr 9 0)), (10, oi v1)], [(2, .cells [.int .i64 a0.Nodes, .sl (.nm 1) false a0.Arms]), (4, .cells [.int .i64 (0 : Int), .sl (.nm 1) true []]), (7, .cells [.int .i64 (IntKind.wrap .i64 (a0.Nodes - (1 : Int))), .ar 82 0]), (9, .cells [.sl (.int .u32) false v8, .bool v9, .sl (.int .u32) false v10, .bool v11]), (44, .arr 66 (.nm 7) v12 0 false), (82, .arr 28 (.nm 1) v7 0 false)]⟩
noncomputable def A1k (a0 : Ah) (a1 : Int) (v1 : Int) (v2 : List Int) (v3 : Bool) (v4 : List Int) (v5 : Bool) (v6 : List Ag) (v7 : List Aq) : ST := ⟨179, [(1, oi a1), (2, ol (.ptr 2 0)), (4, ol (.ptr 4 0)), (7, ol (.ptr 7 0)), (8, ol (.ar 44 0)), (9, ol (.ptr 9 0)), (10, oi v1), (11, ol (.ptr 11 0))], [(2, .cells [.int .i64 a0.Nodes, .sl (.nm 1) false a0.Arms]), (4, .cells [.int .i64 (0 : Int), .sl (.nm 1) true []]), (7, .cells [.int .i64 (IntKind.wrap .i64 (a0.Nodes - (1 : Int))), .ar 82 0]), (9, .cells [.sl (.int .u32) false v2, .bool v3, .sl (.int .u32) false v4, .bool v5]), (11, .cells [.int .i64 ((List.getD a0.Arms v1.toNat Aa).A), .int .i64 ((List.getD a0.Arms v1.toNat Aa).B), .int .i64 (((List.getD a0.Arms v1.toNat Aa).R).N), .int .i64 (((List.getD a0.Arms v1.toNat Aa).R).D), .int .i64 (((List.getD a0.Arms v1.toNat Aa).E).N), .int .i64 (((List.getD a0.Arms v1.toNat Aa).E).D)]), (44, .arr 66 (.nm 7) v6 0 false), (82, .arr 28 (.nm 1) v7 0 false)]⟩
noncomputable def Wc (a0 : Ah) (a1 : Int) (v1 : Int) (v2 : List Int) (v3 : Bool) (v4 : List Int) (v5 : Bool) (v6 : List Ag) (v7 : List Aq) : ST := ⟨179, [(1, oi a1), (2, ol (.ptr 2 0)), (4, ol (.ptr 4 0)), (7, ol (.ptr 7 0)), (8, ol (.ar 44 0)), (9, ol (.ptr 9 0)), (10, oi v1)], [(2, .cells [.int .i64 a0.Nodes, .sl (.nm 1) false a0.Arms]), (4, .cells [.int .i64 (0 : Int), .sl (.nm 1) true []]), (7, .cells [.int .i64 (IntKind.wrap .i64 (a0.Nodes - (1 : Int))), .ar 82 0]), (9, .cells [.sl (.int .u32) false v2, .bool v3, .sl (.int .u32) false v4, .bool v5]), (44, .arr 66 (.nm 7) v6 0 false), (82, .arr 28 (.nm 1) v7 0 false)]⟩
noncomputable def A1v (a0 : Ah) (a1 : Int) (v19 : Int) (v21 : Int) (v22 : List Aq) (r1 : ((List Int) × Bool × (List Int) × Bool × (List Ag) × (List Aq))) : ST := ⟨179, [(1, oi a1), (2, ol (.ptr 2 0)), (4, ol (.ptr 4 0)), (7, ol (.ptr 7 0)), (8, ol (.ar 44 0)), (9, ol (.ptr 9 0)), (14, oi v19), (15, oi v21)], [(2, .cells [.int .i64 a0.Nodes, .sl (.nm 1) false a0.Arms]), (4, .cells [.int .i64 (0 : Int), .sl (.nm 1) true []]), (7, .cells [.int .i64 (IntKind.wrap .i64 (a0.Nodes - (1 : Int))), .ar 82 0]), (9, .cells [.sl (.int .u32) false r1.1, .bool r1.2.1, .sl (.int .u32) false r1.2.2.1, .bool r1.2.2.2.1]), (44, .arr 66 (.nm 7) r1.2.2.2.2.1 0 false), (82, .arr 28 (.nm 1) v22 0 false)]⟩
noncomputable def Ab7 (a0 : Ah) (a1 : Int) (v19 : Int) (r1 : ((List Int) × Bool × (List Int) × Bool × (List Ag) × (List Aq))) (v21 : Int) (v22 : List Aq) : ST := ⟨179, [(1, oi a1), (2, ol (.ptr 2 0)), (4, ol (.ptr 4 0)), (7, ol (.ptr 7 0)), (8, ol (.ar 44 0)), (9, ol (.ptr 9 0)), (14, oi v19), (15, oi v21)], [(2, .cells [.int .i64 a0.Nodes, .sl (.nm 1) false a0.Arms]), (4, .cells [.int .i64 (0 : Int), .sl (.nm 1) true []]), (7, .cells [.int .i64 (IntKind.wrap .i64 (a0.Nodes - (1 : Int))), .ar 82 0]), (9, .cells [.sl (.int .u32) false r1.1, .bool r1.2.1, .sl (.int .u32) false r1.2.2.1, .bool r1.2.2.2.1]), (44, .arr 66 (.nm 7) r1.2.2.2.2.1 0 false), (82, .arr 28 (.nm 1) v22 0 false)]⟩
noncomputable def Ahf (a0 : Ah) (a1 : Int) (r1 : ((List Int) × Bool × (List Int) × Bool × (List Ag) × (List Aq))) (v19 : Int) (v20 : List Aq) : ST := ⟨179, [(1, oi a1), (2, ol (.ptr 2 0)), (4, ol (.ptr 4 0)), (7, ol (.ptr 7 0)), (8, ol (.ar 44 0)), (9, ol (.ptr 9 0)), (14, oi v19)], [(2, .cells [.int .i64 a0.Nodes, .sl (.nm 1) false a0.Arms]), (4, .cells [.int .i64 (0 : Int), .sl (.nm 1) true []]), (7, .cells [.int .i64 (IntKind.wrap .i64 (a0.Nodes - (1 : Int))), .ar 82 0]), (9, .cells [.sl (.int .u32) false r1.1, .bool r1.2.1, .sl (.int .u32) false r1.2.2.1, .bool r1.2.2.2.1]), (44, .arr 66 (.nm 7) r1.2.2.2.2.1 0 false), (82, .arr 28 (.nm 1) v20 0 false)]⟩
noncomputable def A70 (a0 : Ah) (a1 : Int) : ST := ⟨179, [(0, og (Ce a0)), (1, oi a1)], []⟩
theorem Aac (G : Ay Gk P) {y} (E : Acz C F y) (h : Dm = some y) : Am Gk P C F A4w A12 := by
 unfold Dm at h
 have e := sj h; subst e
 exact se G E [r0, au] tt
theorem Ajf (G : Ay Gk P) {y o r a0 a1 v1 v7 v8 v9 v10 v11 v12} (E : Acz C F y) (h : El a0 a1 v1 v7 v8 v9 v10 v11 v12 = some o)
   (hl : ∀ v', o = .inl v' -> Am Gk P C F Vn (Wc a0 a1 v'.1 v'.2.1 v'.2.2.1 v'.2.2.2.1 v'.2.2.2.2.1 v'.2.2.2.2.2.1 v'.2.2.2.2.2.2)) (hr : ∀ r', o = .inr r' -> r' = r)
   (K1 : ∀ r1, r = (.inl r1) -> Am Gk P C F Ack (Ui a0 a1 r1))
   (KR : ∀ r', r = (.inr r') -> r' = y) : Am Gk P C F A9m (A25 a0 a1 v1 v7 v8 v9 v10 v11 v12) := by
 unfold El at h
 exact sg G [r0, en, wk [1, 2, 4, 7, 8, 9, 10] [2, 4, 7, 9, 44, 82]] tt (hl _ (si h))
theorem Ajh (G : Ay Gk P) {y o r a0 a1 v1 v2 v3 v4 v5 v6 v7} (E : Acz C F y) (h : Dr a0 a1 v1 v2 v3 v4 v5 v6 v7 = some o)
   (hl : ∀ v', o = .inl v' -> Am Gk P C F Vn (Wc a0 a1 v'.1 v'.2.1 v'.2.2.1 v'.2.2.2.1 v'.2.2.2.2.1 v'.2.2.2.2.2.1 v'.2.2.2.2.2.2)) (hr : ∀ r', o = .inr r' -> r' = r)
   (K1 : ∀ r1, r = (.inl r1) -> Am Gk P C F Ack (Ui a0 a1 r1))
   (KR : ∀ r', r = (.inr r') -> r' = y) : Am Gk P C F Az6 (A1k a0 a1 v1 v2 v3 v4 v5 v6 v7) := by
 unfold Dr at h
 rcases Ad h with ⟨b8, h⟩ | ⟨b8, h⟩
 · have e := KR _ (hr _ (si h)).symm; subst e
   exact se G E [r0, bt, r0, au] (aa b8 <| tt)
 · rcases Ad h with ⟨b9, h⟩ | ⟨b9, h⟩
   · obtain ⟨y4, c9, h⟩ := bind_some h
     obtain ⟨y5, c10, h⟩ := bind_some h
     obtain ⟨c11, h⟩ := Ao h
     obtain ⟨y6, c12, h⟩ := bind_some h
     obtain ⟨y7, c13, h⟩ := bind_some h
     obtain ⟨c14, h⟩ := Ao h
     exact sg G [r0, bf, r0, r0, bt, .reg [(2, .res ⟨[(.nm 7)], (y4, ())⟩), (3, .res ⟨[(.nm 7)], (y5, ())⟩)], .reg [(7, .res ⟨[(.nm 7)], (y6, ())⟩), (10, .res ⟨[(.nm 7)], (y7, ())⟩)], au, wk [1, 2, 4, 7, 8, 9, 10] [2, 4, 7, 9, 44, 82]] (aa b8 <| aa b9 <| aa (ca c9) <| aa (ca c10) <| aa c11 <| aa (ca c12) <| aa (ca c13) <| aa c14 <| tt) (Ajf G E h hl hr K1 KR)
   · exact sg G [r0, bf, r0, r0, bf, au, wk [1, 2, 4, 7, 8, 9, 10] [2, 4, 7, 9, 44, 82]] (aa b8 <| aa b9 <| tt) (Ajf G E h hl hr K1 KR)
theorem As3 (G : Ay Gk P) {y o r a0 a1 v1 v2 v3 v4 v5 v6 v7} (E : Acz C F y) (h : Ek a0 a1 v1 v2 v3 v4 v5 v6 v7 = some o)
   (hl : ∀ v', o = .inl v' -> Am Gk P C F Vn (Wc a0 a1 v'.1 v'.2.1 v'.2.2.1 v'.2.2.2.1 v'.2.2.2.2.1 v'.2.2.2.2.2.1 v'.2.2.2.2.2.2)) (hr : ∀ r', o = .inr r' -> r' = r)
   (K1 : ∀ r1, r = (.inl r1) -> Am Gk P C F Ack (Ui a0 a1 r1))
   (KR : ∀ r', r = (.inr r') -> r' = y) : Am Gk P C F Vn (Wc a0 a1 v1 v2 v3 v4 v5 v6 v7) := by
 unfold Ek at h
 rcases Ad h with ⟨b5, h⟩ | ⟨b5, h⟩
 · obtain ⟨c5, h⟩ := Ao h
   rcases Ad h with ⟨b6, h⟩ | ⟨b6, h⟩
   · rcases Ad h with ⟨b7, h⟩ | ⟨b7, h⟩
     · obtain ⟨y2, c6, h⟩ := bind_some h
       obtain ⟨y3, c7, h⟩ := bind_some h
       obtain ⟨c8, h⟩ := Ao h
       exact sg G [r0, bt, r0, .reg [(4, oT), (9, oT)], bt, .reg [(3, .res ⟨[(.int .i64)], (y2, ())⟩), (7, .res ⟨[(.int .i64)], (y3, ())⟩)], r0, r0, en, .weak [.re 82 82 0, .keep [1, 2, 4, 7, 8, 9, 10] [2, 4, 7, 9, 44, 82]]] (aa b5 <| aa c5 <| aa b6 <| aa b6 <| aa b6 <| aa b6 <| aa b6 <| aa b7 <| aa (ca c6) <| aa (ca c7) <| aa c8 <| tt) (hl _ (si h))
     · exact sg G [r0, bt, r0, .reg [(4, oT), (9, oT)], bf, au, wk [1, 2, 4, 7, 8, 9, 10, 11] [2, 4, 7, 9, 11, 44, 82]] (aa b5 <| aa c5 <| aa b6 <| aa b6 <| aa b6 <| aa b6 <| aa b6 <| aa b7 <| tt) (Ajh G E h hl hr K1 KR)
   · exact sg G [r0, bt, r0, .reg [(4, oF), (9, oF)], bf, au, wk [1, 2, 4, 7, 8, 9, 10, 11] [2, 4, 7, 9, 11, 44, 82]] (aa b5 <| aa c5 <| aa b6 <| aa b6 <| aa b6 <| aa b6 <| aa b6 <| aa (show false = false from rfl) <| tt) (Ajh G E h hl hr K1 KR)
 · exact sg G [r0, bf, au, wk [1, 2, 4, 7, 8, 9] [2, 4, 7, 9, 44, 82]] (aa b5 <| tt) (K1 _ (hr _ (si h)).symm)
theorem Ah7 (G : Ay Gk P) {y o r a0 a1 v19 v21 v22 r1} (E : Acz C F y) (h : Ds a0 a1 v19 v21 v22 r1 = some o)
   (hl : ∀ v', o = .inl v' -> Am Gk P C F Yu (Ab7 a0 a1 v19 r1 v'.1 v'.2)) (hr : ∀ r', o = .inr r' -> r' = r)
   (K1 : ∀ r2, r = (.inl r2) -> Am Gk P C F Arl (Z4 a0 a1 v19 r1 r2))
   (KR : ∀ r', r = (.inr r') -> r' = y) : Am Gk P C F A8h (A1v a0 a1 v19 v21 v22 r1) := by
 unfold Ds at h
 exact sg G [r0, en, wk [1, 2, 4, 7, 8, 9, 14, 15] [2, 4, 7, 9, 44, 82]] tt (hl _ (si h))
theorem Auz (G : Ay Gk P) {y o r a0 a1 v19 r1 v21 v22} (E : Acz C F y) (h : En a0 a1 v19 r1 v21 v22 = some o)
   (hl : ∀ v', o = .inl v' -> Am Gk P C F Yu (Ab7 a0 a1 v19 r1 v'.1 v'.2)) (hr : ∀ r', o = .inr r' -> r' = r)
   (K1 : ∀ r2, r = (.inl r2) -> Am Gk P C F Arl (Z4 a0 a1 v19 r1 r2))
   (KR : ∀ r', r = (.inr r') -> r' = y) : Am Gk P C F Yu (Ab7 a0 a1 v19 r1 v21 v22) := by
 unfold En at h
 rcases Ad h with ⟨b11, h⟩ | ⟨b11, h⟩
 · obtain ⟨c15, h⟩ := Ao h
   obtain ⟨y8, c16, h⟩ := bind_some h
   rcases Ad h with ⟨b12, h⟩ | ⟨b12, h⟩
   · exact sg G [r0, bt, .reg [(4, .res ⟨[.bool], (y8, ())⟩), (5, oT), (11, oT)], bt, au, wk [1, 2, 4, 7, 8, 9, 14, 15] [2, 4, 7, 9, 44, 82]] (aa b11 <| aa c15 <| aa (ca c16) <| aa b12 <| aa b12 <| aa b12 <| aa b12 <| aa b12 <| aa b12 <| aa (show true = true from rfl) <| tt) (Ah7 G E h hl hr K1 KR)
   · obtain ⟨c17, h⟩ := Ao h
     obtain ⟨y9, c18, h⟩ := bind_some h
     rcases Ad h with ⟨b13, h⟩ | ⟨b13, h⟩
     · exact sg G [r0, bt, .reg [(4, .res ⟨[.bool], (y8, ())⟩), (5, oF), (10, .res ⟨[.bool], (y9, ())⟩), (11, oF)], bt, au, wk [1, 2, 4, 7, 8, 9, 14, 15] [2, 4, 7, 9, 44, 82]] (aa b11 <| aa c15 <| aa (ca c16) <| aa b12 <| aa b12 <| aa b12 <| aa c17 <| aa b12 <| aa b12 <| aa (ca c18) <| aa b12 <| aa b13 <| tt) (Ah7 G E h hl hr K1 KR)
     · obtain ⟨c19, c20, h⟩ := ns2 h
       obtain ⟨y10, c21, h⟩ := bind_some h
       obtain ⟨y11, c22, h⟩ := bind_some h
       obtain ⟨y12, c23, h⟩ := bind_some h
       rcases Ad h with ⟨b14, h⟩ | ⟨b14, h⟩
       · have e := KR _ (hr _ (si h)).symm; subst e
         exact se G E [r0, bt, .reg [(4, .res ⟨[.bool], (y8, ())⟩), (5, oF), (10, .res ⟨[.bool], (y9, ())⟩), (11, oF)], bf, .reg [(9, .res ⟨[(.nm 7)], (y10, ())⟩), (10, .res ⟨[(.nm 7)], (y11, ())⟩), (11, .res ⟨[(.nm 0), .bool], (y12.1, y12.2, ())⟩)], r0, bt, r0, au] (aa b11 <| aa c15 <| aa (ca c16) <| aa b12 <| aa b12 <| aa b12 <| aa c17 <| aa b12 <| aa b12 <| aa (ca c18) <| aa b12 <| aa b13 <| aa c19 <| aa c20 <| aa (ca c21) <| aa (ca c22) <| aa (cb c23) <| aa b14 <| tt)
       · obtain ⟨y13, c24, h⟩ := bind_some h
         obtain ⟨y14, c25, h⟩ := bind_some h
         obtain ⟨c26, h⟩ := Ao h
         exact sg G [r0, bt, .reg [(4, .res ⟨[.bool], (y8, ())⟩), (5, oF), (10, .res ⟨[.bool], (y9, ())⟩), (11, oF)], bf, .reg [(9, .res ⟨[(.nm 7)], (y10, ())⟩), (10, .res ⟨[(.nm 7)], (y11, ())⟩), (11, .res ⟨[(.nm 0), .bool], (y12.1, y12.2, ())⟩)], r0, bf, .reg [(4, .res ⟨[(.int .i64)], (y13, ())⟩), (7, .res ⟨[(.int .i64)], (y14, ())⟩)], r0, en, .weak [.re 82 82 0, .keep [1, 2, 4, 7, 8, 9, 14, 15] [2, 4, 7, 9, 44, 82]]] (aa b11 <| aa c15 <| aa (ca c16) <| aa b12 <| aa b12 <| aa b12 <| aa c17 <| aa b12 <| aa b12 <| aa (ca c18) <| aa b12 <| aa b13 <| aa c19 <| aa c20 <| aa (ca c21) <| aa (ca c22) <| aa (cb c23) <| aa b14 <| aa (ca c24) <| aa (ca c25) <| aa c26 <| tt) (hl _ (si h))
 · exact sg G [r0, bf, au, wk [1, 2, 4, 7, 8, 9, 14] [2, 4, 7, 9, 44, 82]] (aa b11 <| tt) (K1 _ (hr _ (si h)).symm)
theorem Av0 (G : Ay Gk P) {y o r a0 a1 r1 v19 v20} (E : Acz C F y) (h : Ej a0 a1 r1 v19 v20 = some o)
   (hl : ∀ v', o = .inl v' -> Am Gk P C F Acw (Ahf a0 a1 r1 v'.1 v'.2)) (hr : ∀ r', o = .inr r' -> r' = r)
   (K1 : ∀ r4, r = (.inl r4) -> Am Gk P C F Ar1 (Ahu a0 r4))
   (KR : ∀ r', r = (.inr r') -> r' = y) : Am Gk P C F Acw (Ahf a0 a1 r1 v19 v20) := by
 unfold Ej at h
 rcases Ad h with ⟨b10, h⟩ | ⟨b10, h⟩
 · obtain ⟨r, hi, h⟩ := bind_some h
   have K1 : ∀ r2, r = (.inl r2) -> Am Gk P C F Arl (Z4 a0 a1 v19 r1 r2) := by
     rintro r2 rfl
     exact sg G [r0, en, wk [1, 2, 4, 7, 8, 9, 14] [2, 4, 7, 9, 44, 82]] tt (hl _ (si h))
   have KR : ∀ r3, r = (.inr r3) -> r3 = y := by
     rintro r3 rfl
     exact KR _ (hr _ (si h)).symm
   exact sg G [r0, bt, r0, en, wk [1, 2, 4, 7, 8, 9, 14, 15] [2, 4, 7, 9, 44, 82]] (aa b10 <| tt) (Az (V := Gk) (F := F) (k := Yu) (S := λ v => Ab7 a0 a1 v19 r1 v.1 v.2) (λ v o h hl hr => Auz G E h hl hr K1 KR) _ hi)
 · exact sg G [r0, bf, au, wk [4, 7] [4, 7, 82]] (aa b10 <| tt) (K1 _ (hr _ (si h)).symm)
theorem Baa (G : Ay Gk P) {y a0 a1} (E : Acz C F y) (h : Eb a0 a1 = some y) : Am Gk P C F Apl (A70 a0 a1) := by
 unfold Eb at h
 obtain ⟨y1, c1, h⟩ := bind_some h
 rcases Ad h with ⟨b1, h⟩ | ⟨b1, h⟩
 · have e := sj h; subst e
   exact se G E [r0, .reg [(1, .res ⟨[(.int .i64)], (y1, ())⟩)], r0, bt, r0, au] (aa (ca c1) <| aa b1 <| tt)
 · rcases Ad h with ⟨b2, h⟩ | ⟨b2, h⟩
   · exact sg G [r0, .reg [(1, .res ⟨[(.int .i64)], (y1, ())⟩)], r0, bf, .reg [(2, oT), (7, oT), (8, oT), (12, oT)], bt, au, wk [4] [4]] (aa (ca c1) <| aa b1 <| aa b2 <| aa b2 <| aa b2 <| aa b2 <| aa b2 <| aa (show true = true from rfl) <| aa (show true = true from rfl) <| aa (show true = true from rfl) <| aa (show true = true from rfl) <| aa (show true = true from rfl) <| tt) (Aac G E h)
   · rcases Ad h with ⟨b3, h⟩ | ⟨b3, h⟩
     · exact sg G [r0, .reg [(1, .res ⟨[(.int .i64)], (y1, ())⟩)], r0, bf, .reg [(2, oF), (7, oF), (8, oT), (12, oT)], bt, au, wk [4] [4]] (aa (ca c1) <| aa b1 <| aa b2 <| aa b2 <| aa b2 <| aa b2 <| aa b2 <| aa b3 <| aa b3 <| aa b3 <| aa b3 <| aa (show true = true from rfl) <| tt) (Aac G E h)
     · rcases Ad h with ⟨b4, h⟩ | ⟨b4, h⟩
       · exact sg G [r0, .reg [(1, .res ⟨[(.int .i64)], (y1, ())⟩)], r0, bf, .reg [(2, oF), (7, oF), (8, oF), (12, oF)], bt, au, wk [4] [4]] (aa (ca c1) <| aa b1 <| aa b2 <| aa b2 <| aa b2 <| aa b2 <| aa b2 <| aa b3 <| aa b3 <| aa b3 <| aa b3 <| aa b4 <| tt) (Aac G E h)
       · obtain ⟨c2, c3, c4, h⟩ := ns3 h
         obtain ⟨r, hi, h⟩ := bind_some h
         have K1 : ∀ r1, r = (.inl r1) -> Am Gk P C F Ack (Ui a0 a1 r1) := by
           rintro r1 rfl
           obtain ⟨r, hi, h⟩ := bind_some h
           have K1 : ∀ r4, r = (.inl r4) -> Am Gk P C F Ar1 (Ahu a0 r4) := by
             rintro r4 rfl
             rcases Ad h with ⟨b15, h⟩ | ⟨b15, h⟩
             · have e := sj h; subst e
               exact se G E [r0, bt, r0, au] (aa b15 <| tt)
             · have e := sj h; subst e
               exact se G E [r0, bf, r0, au, .weak [.fix (.cell 4)]] (aa b15 <| tt)
           have KR : ∀ r5, r = (.inr r5) -> r5 = y := by
             rintro r5 rfl
             exact Option.some.inj h
           exact sg G [r0, en, wk [1, 2, 4, 7, 8, 9, 14] [2, 4, 7, 9, 44, 82]] tt (Az (V := Gk) (F := F) (k := Acw) (S := λ v => Ahf a0 a1 r1 v.1 v.2) (λ v o h hl hr => Av0 G E h hl hr K1 KR) _ hi)
         have KR : ∀ r6, r = (.inr r6) -> r6 = y := by
           rintro r6 rfl
           exact Option.some.inj h
         exact sg G [r0, .reg [(1, .res ⟨[(.int .i64)], (y1, ())⟩)], r0, bf, .reg [(2, oF), (7, oF), (8, oF), (12, oF)], bf, r0, r0, en, .weak [.own (.cell 7) 1 82 28 0, .st (.cell 9), .keep [1, 2, 4, 7, 8, 9, 10] [2, 4, 7, 9, 44, 82]]] (aa (ca c1) <| aa b1 <| aa b2 <| aa b2 <| aa b2 <| aa b2 <| aa b2 <| aa b3 <| aa b3 <| aa b3 <| aa b3 <| aa b4 <| aa c2 <| aa c3 <| aa c4 <| tt) (Az (V := Gk) (F := F) (k := Vn) (S := λ v => Wc a0 a1 v.1 v.2.1 v.2.2.1 v.2.2.2.1 v.2.2.2.2.1 v.2.2.2.2.2.1 v.2.2.2.2.2.2) (λ v o h hl hr => As3 G E h hl hr K1 KR) _ hi)
noncomputable def Ayd : FS yaE := ⟨[(.nm 2), (.int .i64)], [(.nm 2), (.int .i64)], [], [], λ x => Option.map (λ r => (r.1, r.2, ())) (Eb x.1 x.2.1)⟩
theorem An4 : MT 10 Ayd := show Bh Gk _ _ _ from mt (fn := Try.f10) (S := λ x => A70 x.1 x.2.1) (GB ⟨Aqd, Anu, Apv, Ap2, Aoi, Asq, Apf, Asy, Adw, trivial⟩ trivial) λ G _ _ _ _ E h => Baa G E h
noncomputable abbrev Xy : Env := EV [] [] false
noncomputable def Azd : List Item := [.code (Try.f11.body.getD .skip)]
noncomputable def Ak8 := ctl [.reg, .reg, .enter] Azd
noncomputable def A02 := ctl [.reg, .br false, .auto] Ak8
abbrev Bcl (C : Ctx) (F : Act -> World -> Prop) (y : Bool) : Prop := Bz Xy C F Try.f11.results.toList [] [.bool] (y, ())
noncomputable def Ai4 (a0 : Ah) (a1 : Ah) : ST := ⟨45, [(2, ol (.ptr 2 0)), (3, ol (.ptr 3 0))], [(2, .cells [.int .i64 a0.Nodes, .sl (.nm 1) false a0.Arms]), (3, .cells [.int .i64 a1.Nodes, .sl (.nm 1) false a1.Arms])]⟩
noncomputable def Ae9 (a0 : Ah) (a1 : Ah) (v1 : Int) : ST := ⟨45, [(2, ol (.ptr 2 0)), (3, ol (.ptr 3 0)), (5, oi v1)], [(2, .cells [.int .i64 a0.Nodes, .sl (.nm 1) false a0.Arms]), (3, .cells [.int .i64 a1.Nodes, .sl (.nm 1) false a1.Arms])]⟩
noncomputable def A71 (a0 : Ah) (a1 : Ah) : ST := ⟨45, [(0, og (Ce a0)), (1, og (Ce a1))], []⟩
theorem Awa (G : Ay Xy P) {y o r a0 a1 v1} (E : Bcl C F y) (h : Ee a0 a1 v1 = some o)
   (hl : ∀ v', o = .inl v' -> Am Xy P C F Ak8 (Ae9 a0 a1 v')) (hr : ∀ r', o = .inr r' -> r' = r)
   (K1 : ∀ r1, r = (.inl r1) -> Am Xy P C F A02 (Ai4 a0 a1))
   (KR : ∀ r', r = (.inr r') -> r' = y) : Am Xy P C F Ak8 (Ae9 a0 a1 v1) := by
 unfold Ee at h
 rcases Ad h with ⟨b1, h⟩ | ⟨b1, h⟩
 · rcases Ad h with ⟨b2, h⟩ | ⟨b2, h⟩
   · obtain ⟨c1, c2, h⟩ := ns2 h
     rcases Ad h with ⟨b3, h⟩ | ⟨b3, h⟩
     · have e := KR _ (hr _ (si h)).symm; subst e
       exact se G E [.reg [(5, oT), (11, oT)], bt, r0, bt, r0, au] (aa b1 <| aa b1 <| aa b1 <| aa b1 <| aa b1 <| aa b1 <| aa b2 <| aa c1 <| aa c2 <| aa b3 <| tt)
     · exact sg G [.reg [(5, oT), (11, oT)], bt, r0, bf, r0, en, wk [2, 3, 5] [2, 3]] (aa b1 <| aa b1 <| aa b1 <| aa b1 <| aa b1 <| aa b1 <| aa b2 <| aa c1 <| aa c2 <| aa b3 <| tt) (hl _ (si h))
   · exact sg G [.reg [(5, oT), (11, oT)], bf, au, wk [2, 3] [2, 3]] (aa b1 <| aa b1 <| aa b1 <| aa b1 <| aa b1 <| aa b1 <| aa b2 <| tt) (K1 _ (hr _ (si h)).symm)
 · exact sg G [.reg [(5, oF), (11, oF)], bf, au, wk [2, 3] [2, 3]] (aa b1 <| aa b1 <| aa b1 <| aa b1 <| aa b1 <| aa b1 <| aa (show false = false from rfl) <| tt) (K1 _ (hr _ (si h)).symm)
theorem A7z (G : Ay Xy P) {y a0 a1} (E : Bcl C F y) (h : Cx a0 a1 = some y) : Am Xy P C F Azd (A71 a0 a1) := by
 unfold Cx at h
 obtain ⟨r, hi, h⟩ := bind_some h
 have K1 : ∀ r1, r = (.inl r1) -> Am Xy P C F A02 (Ai4 a0 a1) := by
   rintro r1 rfl
   rcases Ad h with ⟨b4, h⟩ | ⟨b4, h⟩
   · have e := sj h; subst e
     exact se G E [.reg [(5, oT), (13, oT)], au] (aa b4 <| aa b4 <| aa b4 <| aa b4 <| aa b4 <| aa b4 <| aa b4 <| aa b4 <| tt)
   · have e := sj h; subst e
     exact se G E [.reg [(5, oF), (13, oF)], au] (aa b4 <| aa b4 <| aa b4 <| aa b4 <| aa b4 <| aa b4 <| aa b4 <| aa b4 <| tt)
 have KR : ∀ r2, r = (.inr r2) -> r2 = y := by
   rintro r2 rfl
   exact Option.some.inj h
 exact sg G [r0, r0, en, wk [2, 3, 5] [2, 3]] tt (Az (V := Xy) (F := F) (k := Ak8) (S := λ v => Ae9 a0 a1 v) (λ v o h hl hr => Awa G E h hl hr K1 KR) _ hi)
noncomputable def Ayu : FS yaE := ⟨[(.nm 2), (.nm 2)], [.bool], [], [], λ x => Option.map (λ r => (r, ())) (Cx x.1 x.2.1)⟩
theorem Aoj : MT 11 Ayu := show Bh Xy _ _ _ from mt (fn := Try.f11) (S := λ x => A71 x.1 x.2.1) (GB trivial trivial) λ G _ _ _ _ E h => A7z G E h
noncomputable abbrev w4V : Env := EV [(5, A4v), (6, A3p), (9, A5i), (10, Ayd), (11, Ayu)] [] false
noncomputable def Awe : List Item := [.code (Try.f4.body.getD .skip)]
noncomputable def Bc4 := ctl [.reg, .reg, .reg, .reg, .br true, .auto] Awe
noncomputable def Bd1 := ctl [.reg, .reg, .reg, .reg, .br false, .reg, .br true, .auto] Awe
noncomputable def A8o := ctl [.reg, .reg, .reg, .reg, .br false, .reg, .br false, .reg, .reg, .br true, .reg, .auto] Awe
noncomputable def Bbg := ctl [.reg, .br true, .reg, .auto] A8o
noncomputable def Bd6 := ctl [.reg, .reg, .br true, .auto] Bbg
abbrev w4E (C : Ctx) (F : Act -> World -> Prop) (y : Bool) : Prop := Bz w4V C F Try.f4.results.toList [] [.bool] (y, ())
noncomputable def Bam : ST := ⟨111, [], []⟩
noncomputable def A9g : ST := ⟨111, [], []⟩
noncomputable def A9f : ST := ⟨111, [], []⟩
noncomputable def A68 (v1 : Int) (v2 : Int) (y1 : (Ah × Int)) (y5 : (A7 × Int)) : ST := ⟨111, [(2, oi v1), (3, oi v2), (9, ol (.ptr 9 0)), (10, oi y5.2), (13, ol (.ptr 13 0))], [(9, .cells [.int .i64 y1.1.Nodes, .sl (.nm 1) false y1.1.Arms]), (13, .cells [.int .i64 y5.1.N, .int .i64 y5.1.D])]⟩
noncomputable def Baj (a1 : Int) (a3 : Int) (v1 : Int) (y1 : (Ah × Int)) (y5 : (A7 × Int)) : ST := ⟨111, [(1, oi a1), (2, oi v1), (3, oi a3), (9, ol (.ptr 9 0)), (10, oi y5.2), (13, ol (.ptr 13 0))], [(9, .cells [.int .i64 y1.1.Nodes, .sl (.nm 1) false y1.1.Arms]), (13, .cells [.int .i64 y5.1.N, .int .i64 y5.1.D])]⟩
noncomputable def w4S (a0 : Ah) (a1 : Int) (a2 : Int) (a3 : Int) : ST := ⟨111, [(0, og (Ce a0)), (1, oi a1), (2, oi a2), (3, oi a3)], []⟩
theorem Asu (G : Ay w4V P) {y} (E : w4E C F y) (h : Ec = some y) : Am w4V P C F Bc4 Bam := by
 unfold Ec at h
 have e := sj h; subst e
 exact se G E [r0, au] tt
theorem P9 (G : Ay w4V P) {y} (E : w4E C F y) (h : Bl = some y) : Am w4V P C F Bd1 A9g := by
 unfold Bl at h
 obtain ⟨y4, c4, h⟩ := bind_some h
 have e := sj h; subst e
 exact se G E [.reg [(0, .res ⟨[.bool], (y4, ())⟩)], au] (aa (ca c4) <| tt)
theorem An3 (G : Ay w4V P) {y} (E : w4E C F y) (h : Ck = some y) : Am w4V P C F Bd6 A9f := by
 unfold Ck at h
 obtain ⟨y7, c7, h⟩ := bind_some h
 have e := sj h; subst e
 exact se G E [.reg [(0, .res ⟨[.bool], (y7, ())⟩)], au] (aa (ca c7) <| tt)
theorem Aog (G : Ay w4V P) {y v1 v2 y1 y5} (E : w4E C F y) (h : Cj v1 v2 y1 y5 = some y) : Am w4V P C F Bbg (A68 v1 v2 y1 y5) := by
 unfold Cj at h
 obtain ⟨y6, c6, h⟩ := bind_some h
 rcases Ad h with ⟨b12, h⟩ | ⟨b12, h⟩
 · exact sg G [.reg [(3, .res ⟨[(.nm 0), (.int .i64)], (y6.1, y6.2, ())⟩)], .reg [(2, oT), (5, oT)], bt, au, wk [] []] (aa (cb c6) <| aa b12 <| aa b12 <| aa b12 <| aa (show true = true from rfl) <| tt) (An3 G E h)
 · rcases Ad h with ⟨b13, h⟩ | ⟨b13, h⟩
   · exact sg G [.reg [(3, .res ⟨[(.nm 0), (.int .i64)], (y6.1, y6.2, ())⟩)], .reg [(2, oF), (5, oF)], bt, au, wk [] []] (aa (cb c6) <| aa b12 <| aa b12 <| aa b12 <| aa b13 <| tt) (An3 G E h)
   · rcases Ad h with ⟨b14, h⟩ | ⟨b14, h⟩
     · rcases Ad h with ⟨b15, h⟩ | ⟨b15, h⟩
       · obtain ⟨y8, c8, h⟩ := bind_some h
         have e := sj h; subst e
         exact se G E [.reg [(3, .res ⟨[(.nm 0), (.int .i64)], (y6.1, y6.2, ())⟩)], .reg [(2, oF), (5, oF)], bf, .reg [(3, oT), (7, oT), (8, oT), (9, .res ⟨[.bool], (y8, ())⟩), (10, oT)], au] (aa (cb c6) <| aa b12 <| aa b12 <| aa b12 <| aa b13 <| aa b14 <| aa b14 <| aa b14 <| aa b14 <| aa b15 <| aa (ca c8) <| aa b15 <| tt)
       · have e := sj h; subst e
         exact se G E [.reg [(3, .res ⟨[(.nm 0), (.int .i64)], (y6.1, y6.2, ())⟩)], .reg [(2, oF), (5, oF)], bf, .reg [(3, oT), (7, oT), (8, oF), (10, oF)], au] (aa (cb c6) <| aa b12 <| aa b12 <| aa b12 <| aa b13 <| aa b14 <| aa b14 <| aa b14 <| aa b14 <| aa b15 <| aa b15 <| tt)
     · have e := sj h; subst e
       exact se G E [.reg [(3, .res ⟨[(.nm 0), (.int .i64)], (y6.1, y6.2, ())⟩)], .reg [(2, oF), (5, oF)], bf, .reg [(3, oF), (7, oF), (8, oF), (10, oF)], au] (aa (cb c6) <| aa b12 <| aa b12 <| aa b12 <| aa b13 <| aa b14 <| aa b14 <| aa b14 <| aa b14 <| aa (show false = false from rfl) <| aa (show false = false from rfl) <| tt)
theorem Ar2 (G : Ay w4V P) {y a1 a3 v1 y1 y5} (E : w4E C F y) (h : Ci a1 a3 v1 y1 y5 = some y) : Am w4V P C F A8o (Baj a1 a3 v1 y1 y5) := by
 unfold Ci at h
 rcases Ad h with ⟨b11, h⟩ | ⟨b11, h⟩
 · exact sg G [r0, bt, r0, au, wk [2, 3, 9, 10, 13] [9, 13]] (aa b11 <| tt) (Aog G E h)
 · exact sg G [r0, bf, au, wk [2, 3, 9, 10, 13] [9, 13]] (aa b11 <| tt) (Aog G E h)
theorem Bc8 (G : Ay w4V P) {y a0 a1 a2 a3} (E : w4E C F y) (h : Cw a0 a1 a2 a3 = some y) : Am w4V P C F Awe (w4S a0 a1 a2 a3) := by
 unfold Cw at h
 obtain ⟨y1, c1, h⟩ := bind_some h
 obtain ⟨y2, c2, h⟩ := bind_some h
 rcases Ad h with ⟨b1, h⟩ | ⟨b1, h⟩
 · exact sg G [r0, .reg [(2, .res ⟨[(.nm 2), (.int .i64)], (y1.1, y1.2, ())⟩)], .reg [(2, .res ⟨[(.nm 2), (.int .i64)], (y2.1, y2.2, ())⟩)], .reg [(3, oT), (8, oT)], bt, au, wk [] []] (aa (cb c1) <| aa (cb c2) <| aa b1 <| aa b1 <| aa b1 <| aa b1 <| aa b1 <| aa (show true = true from rfl) <| tt) (Asu G E h)
 · obtain ⟨y3, c3, h⟩ := bind_some h
   rcases Ad h with ⟨b2, h⟩ | ⟨b2, h⟩
   · exact sg G [r0, .reg [(2, .res ⟨[(.nm 2), (.int .i64)], (y1.1, y1.2, ())⟩)], .reg [(2, .res ⟨[(.nm 2), (.int .i64)], (y2.1, y2.2, ())⟩)], .reg [(3, oF), (6, .res ⟨[.bool], (y3, ())⟩), (8, oF)], bt, au, wk [] []] (aa (cb c1) <| aa (cb c2) <| aa b1 <| aa b1 <| aa b1 <| aa (ca c3) <| aa b1 <| aa b1 <| aa b2 <| tt) (Asu G E h)
   · rcases Ad h with ⟨b3, h⟩ | ⟨b3, h⟩
     · exact sg G [r0, .reg [(2, .res ⟨[(.nm 2), (.int .i64)], (y1.1, y1.2, ())⟩)], .reg [(2, .res ⟨[(.nm 2), (.int .i64)], (y2.1, y2.2, ())⟩)], .reg [(3, oF), (6, .res ⟨[.bool], (y3, ())⟩), (8, oF)], bf, .reg [(2, oT), (6, oT), (7, oT), (11, oT), (12, oT), (15, oT), (16, oT), (19, oT), (20, oT), (25, oT), (26, oT), (31, oT)], bt, au, wk [] []] (aa (cb c1) <| aa (cb c2) <| aa b1 <| aa b1 <| aa b1 <| aa (ca c3) <| aa b1 <| aa b1 <| aa b2 <| aa b3 <| aa b3 <| aa b3 <| aa b3 <| aa (show true = true from rfl) <| aa (show true = true from rfl) <| aa (show true = true from rfl) <| aa (show true = true from rfl) <| aa (show true = true from rfl) <| aa (show true = true from rfl) <| aa (show true = true from rfl) <| aa (show true = true from rfl) <| aa (show true = true from rfl) <| aa (show true = true from rfl) <| aa (show true = true from rfl) <| aa (show true = true from rfl) <| aa (show true = true from rfl) <| aa (show true = true from rfl) <| aa (show true = true from rfl) <| aa (show true = true from rfl) <| aa (show true = true from rfl) <| aa (show true = true from rfl) <| aa (show true = true from rfl) <| aa (show true = true from rfl) <| aa (show true = true from rfl) <| tt) (P9 G E h)
     · rcases Ad h with ⟨b4, h⟩ | ⟨b4, h⟩
       · exact sg G [r0, .reg [(2, .res ⟨[(.nm 2), (.int .i64)], (y1.1, y1.2, ())⟩)], .reg [(2, .res ⟨[(.nm 2), (.int .i64)], (y2.1, y2.2, ())⟩)], .reg [(3, oF), (6, .res ⟨[.bool], (y3, ())⟩), (8, oF)], bf, .reg [(2, oF), (6, oF), (7, oT), (11, oT), (12, oT), (15, oT), (16, oT), (19, oT), (20, oT), (25, oT), (26, oT), (31, oT)], bt, au, wk [] []] (aa (cb c1) <| aa (cb c2) <| aa b1 <| aa b1 <| aa b1 <| aa (ca c3) <| aa b1 <| aa b1 <| aa b2 <| aa b3 <| aa b3 <| aa b3 <| aa b3 <| aa b4 <| aa b4 <| aa b4 <| aa b4 <| aa (show true = true from rfl) <| aa (show true = true from rfl) <| aa (show true = true from rfl) <| aa (show true = true from rfl) <| aa (show true = true from rfl) <| aa (show true = true from rfl) <| aa (show true = true from rfl) <| aa (show true = true from rfl) <| aa (show true = true from rfl) <| aa (show true = true from rfl) <| aa (show true = true from rfl) <| aa (show true = true from rfl) <| aa (show true = true from rfl) <| aa (show true = true from rfl) <| aa (show true = true from rfl) <| aa (show true = true from rfl) <| aa (show true = true from rfl) <| tt) (P9 G E h)
       · rcases Ad h with ⟨b5, h⟩ | ⟨b5, h⟩
         · exact sg G [r0, .reg [(2, .res ⟨[(.nm 2), (.int .i64)], (y1.1, y1.2, ())⟩)], .reg [(2, .res ⟨[(.nm 2), (.int .i64)], (y2.1, y2.2, ())⟩)], .reg [(3, oF), (6, .res ⟨[.bool], (y3, ())⟩), (8, oF)], bf, .reg [(2, oF), (6, oF), (7, oF), (11, oF), (12, oT), (15, oT), (16, oT), (19, oT), (20, oT), (25, oT), (26, oT), (31, oT)], bt, au, wk [] []] (aa (cb c1) <| aa (cb c2) <| aa b1 <| aa b1 <| aa b1 <| aa (ca c3) <| aa b1 <| aa b1 <| aa b2 <| aa b3 <| aa b3 <| aa b3 <| aa b3 <| aa b4 <| aa b4 <| aa b4 <| aa b4 <| aa b5 <| aa b5 <| aa b5 <| aa (show true = true from rfl) <| aa (show true = true from rfl) <| aa (show true = true from rfl) <| aa (show true = true from rfl) <| aa (show true = true from rfl) <| aa (show true = true from rfl) <| aa (show true = true from rfl) <| aa (show true = true from rfl) <| aa (show true = true from rfl) <| aa (show true = true from rfl) <| aa (show true = true from rfl) <| aa (show true = true from rfl) <| aa (show true = true from rfl) <| aa (show true = true from rfl) <| tt) (P9 G E h)
         · rcases Ad h with ⟨b6, h⟩ | ⟨b6, h⟩
           · exact sg G [r0, .reg [(2, .res ⟨[(.nm 2), (.int .i64)], (y1.1, y1.2, ())⟩)], .reg [(2, .res ⟨[(.nm 2), (.int .i64)], (y2.1, y2.2, ())⟩)], .reg [(3, oF), (6, .res ⟨[.bool], (y3, ())⟩), (8, oF)], bf, .reg [(2, oF), (6, oF), (7, oF), (11, oF), (12, oF), (15, oF), (16, oT), (19, oT), (20, oT), (25, oT), (26, oT), (31, oT)], bt, au, wk [] []] (aa (cb c1) <| aa (cb c2) <| aa b1 <| aa b1 <| aa b1 <| aa (ca c3) <| aa b1 <| aa b1 <| aa b2 <| aa b3 <| aa b3 <| aa b3 <| aa b3 <| aa b4 <| aa b4 <| aa b4 <| aa b4 <| aa b5 <| aa b5 <| aa b5 <| aa b6 <| aa b6 <| aa b6 <| aa (show true = true from rfl) <| aa (show true = true from rfl) <| aa (show true = true from rfl) <| aa (show true = true from rfl) <| aa (show true = true from rfl) <| aa (show true = true from rfl) <| aa (show true = true from rfl) <| aa (show true = true from rfl) <| aa (show true = true from rfl) <| aa (show true = true from rfl) <| aa (show true = true from rfl) <| tt) (P9 G E h)
           · rcases Ad h with ⟨b7, h⟩ | ⟨b7, h⟩
             · exact sg G [r0, .reg [(2, .res ⟨[(.nm 2), (.int .i64)], (y1.1, y1.2, ())⟩)], .reg [(2, .res ⟨[(.nm 2), (.int .i64)], (y2.1, y2.2, ())⟩)], .reg [(3, oF), (6, .res ⟨[.bool], (y3, ())⟩), (8, oF)], bf, .reg [(2, oF), (6, oF), (7, oF), (11, oF), (12, oF), (15, oF), (16, oF), (19, oF), (20, oT), (25, oT), (26, oT), (31, oT)], bt, au, wk [] []] (aa (cb c1) <| aa (cb c2) <| aa b1 <| aa b1 <| aa b1 <| aa (ca c3) <| aa b1 <| aa b1 <| aa b2 <| aa b3 <| aa b3 <| aa b3 <| aa b3 <| aa b4 <| aa b4 <| aa b4 <| aa b4 <| aa b5 <| aa b5 <| aa b5 <| aa b6 <| aa b6 <| aa b6 <| aa b7 <| aa b7 <| aa b7 <| aa b7 <| aa b7 <| aa (show true = true from rfl) <| aa (show true = true from rfl) <| aa (show true = true from rfl) <| aa (show true = true from rfl) <| aa (show true = true from rfl) <| aa (show true = true from rfl) <| tt) (P9 G E h)
             · rcases Ad h with ⟨b8, h⟩ | ⟨b8, h⟩
               · exact sg G [r0, .reg [(2, .res ⟨[(.nm 2), (.int .i64)], (y1.1, y1.2, ())⟩)], .reg [(2, .res ⟨[(.nm 2), (.int .i64)], (y2.1, y2.2, ())⟩)], .reg [(3, oF), (6, .res ⟨[.bool], (y3, ())⟩), (8, oF)], bf, .reg [(2, oF), (6, oF), (7, oF), (11, oF), (12, oF), (15, oF), (16, oF), (19, oF), (20, oF), (25, oF), (26, oT), (31, oT)], bt, au, wk [] []] (aa (cb c1) <| aa (cb c2) <| aa b1 <| aa b1 <| aa b1 <| aa (ca c3) <| aa b1 <| aa b1 <| aa b2 <| aa b3 <| aa b3 <| aa b3 <| aa b3 <| aa b4 <| aa b4 <| aa b4 <| aa b4 <| aa b5 <| aa b5 <| aa b5 <| aa b6 <| aa b6 <| aa b6 <| aa b7 <| aa b7 <| aa b7 <| aa b7 <| aa b7 <| aa b8 <| aa b8 <| aa b8 <| aa b8 <| aa b8 <| aa (show true = true from rfl) <| tt) (P9 G E h)
               · rcases Ad h with ⟨b9, h⟩ | ⟨b9, h⟩
                 · exact sg G [r0, .reg [(2, .res ⟨[(.nm 2), (.int .i64)], (y1.1, y1.2, ())⟩)], .reg [(2, .res ⟨[(.nm 2), (.int .i64)], (y2.1, y2.2, ())⟩)], .reg [(3, oF), (6, .res ⟨[.bool], (y3, ())⟩), (8, oF)], bf, .reg [(2, oF), (6, oF), (7, oF), (11, oF), (12, oF), (15, oF), (16, oF), (19, oF), (20, oF), (25, oF), (26, oF), (31, oF)], bt, au, wk [] []] (aa (cb c1) <| aa (cb c2) <| aa b1 <| aa b1 <| aa b1 <| aa (ca c3) <| aa b1 <| aa b1 <| aa b2 <| aa b3 <| aa b3 <| aa b3 <| aa b3 <| aa b4 <| aa b4 <| aa b4 <| aa b4 <| aa b5 <| aa b5 <| aa b5 <| aa b6 <| aa b6 <| aa b6 <| aa b7 <| aa b7 <| aa b7 <| aa b7 <| aa b7 <| aa b8 <| aa b8 <| aa b8 <| aa b8 <| aa b8 <| aa b9 <| tt) (P9 G E h)
                 · obtain ⟨y5, c5, h⟩ := bind_some h
                   rcases Ad h with ⟨b10, h⟩ | ⟨b10, h⟩
                   · exact sg G [r0, .reg [(2, .res ⟨[(.nm 2), (.int .i64)], (y1.1, y1.2, ())⟩)], .reg [(2, .res ⟨[(.nm 2), (.int .i64)], (y2.1, y2.2, ())⟩)], .reg [(3, oF), (6, .res ⟨[.bool], (y3, ())⟩), (8, oF)], bf, .reg [(2, oF), (6, oF), (7, oF), (11, oF), (12, oF), (15, oF), (16, oF), (19, oF), (20, oF), (25, oF), (26, oF), (31, oF)], bf, .reg [(3, .res ⟨[(.nm 0), (.int .i64)], (y5.1, y5.2, ())⟩)], r0, bt, r0, au, wk [1, 2, 3, 9, 10, 13] [9, 13]] (aa (cb c1) <| aa (cb c2) <| aa b1 <| aa b1 <| aa b1 <| aa (ca c3) <| aa b1 <| aa b1 <| aa b2 <| aa b3 <| aa b3 <| aa b3 <| aa b3 <| aa b4 <| aa b4 <| aa b4 <| aa b4 <| aa b5 <| aa b5 <| aa b5 <| aa b6 <| aa b6 <| aa b6 <| aa b7 <| aa b7 <| aa b7 <| aa b7 <| aa b7 <| aa b8 <| aa b8 <| aa b8 <| aa b8 <| aa b8 <| aa b9 <| aa (cb c5) <| aa b10 <| tt) (Ar2 G E h)
                   · exact sg G [r0, .reg [(2, .res ⟨[(.nm 2), (.int .i64)], (y1.1, y1.2, ())⟩)], .reg [(2, .res ⟨[(.nm 2), (.int .i64)], (y2.1, y2.2, ())⟩)], .reg [(3, oF), (6, .res ⟨[.bool], (y3, ())⟩), (8, oF)], bf, .reg [(2, oF), (6, oF), (7, oF), (11, oF), (12, oF), (15, oF), (16, oF), (19, oF), (20, oF), (25, oF), (26, oF), (31, oF)], bf, .reg [(3, .res ⟨[(.nm 0), (.int .i64)], (y5.1, y5.2, ())⟩)], r0, bf, au, wk [1, 2, 3, 9, 10, 13] [9, 13]] (aa (cb c1) <| aa (cb c2) <| aa b1 <| aa b1 <| aa b1 <| aa (ca c3) <| aa b1 <| aa b1 <| aa b2 <| aa b3 <| aa b3 <| aa b3 <| aa b3 <| aa b4 <| aa b4 <| aa b4 <| aa b4 <| aa b5 <| aa b5 <| aa b5 <| aa b6 <| aa b6 <| aa b6 <| aa b7 <| aa b7 <| aa b7 <| aa b7 <| aa b7 <| aa b8 <| aa b8 <| aa b8 <| aa b8 <| aa b8 <| aa b9 <| aa (cb c5) <| aa b10 <| tt) (Ar2 G E h)
noncomputable def Bd2 : FS yaE := ⟨[(.nm 2), (.int .i64), (.int .i64), (.int .i64)], [.bool], [], [], λ x => Option.map (λ r => (r, ())) (Cw x.1 x.2.1 x.2.2.1 x.2.2.2.1)⟩
theorem Avz : MT 4 Bd2 := show Bh w4V _ _ _ from mt (fn := Try.f4) (S := λ x => w4S x.1 x.2.1 x.2.2.1 x.2.2.2.1) (GB ⟨At2, Aly, Ato, An4, Aoj, trivial⟩ trivial) λ G _ _ _ _ E h => Bc8 G E h
end
end Go.Ab
