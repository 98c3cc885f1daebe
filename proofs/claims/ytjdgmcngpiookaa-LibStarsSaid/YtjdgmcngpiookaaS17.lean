/- The functions compute what the plain functions tell. Conditions: none beyond those that each theorem names. -/
import Derived.Test.YtjdgmcngpiookaaS16
namespace Go.Ab
open Go Go.Proofs
set_option linter.unusedVariables false
section
variable {P : Program} {C : Ctx} {F : Act -> World -> Prop}
noncomputable abbrev w9V : Env := EC [(15, Aeg), (17, Om), (18, Yz), (21, Ahz), (29, Amb), (30, Ajb), (31, Ah5), (32, Amf)] [] [(28, Axi)] false
noncomputable def A1u : List Item := [.code (Try.f9.body.getD .skip)]
noncomputable def Bdp := ctl [.reg, .reg, .reg, .br false, .reg, .br true, .auto] A1u
noncomputable def Aw1 := ctl [.reg, .reg, .reg, .br false, .reg, .br false, .reg, .reg, .reg, .reg, .enter] A1u
noncomputable def A2p := ctl [.reg, .br false, .auto] Aw1
noncomputable def Anl := ctl [.reg, .reg, .enter] A2p
noncomputable def Bdc := ctl [.reg, .br true, .reg, .reg, .br false, .auto] Anl
noncomputable def As2 := ctl [.reg, .br false, .auto] Anl
noncomputable def Aqe := ctl [.reg, .enter] As2
noncomputable def Amr := ctl [.reg, .br true, .reg, .reg, .enter] Aqe
noncomputable def Bd5 := ctl [.reg, .br true, .reg, .br true, .auto] Amr
noncomputable def An5 := ctl [.reg, .br false, .auto] Amr
noncomputable def A0s := ctl [.reg, .br false, .auto] Aqe
abbrev w9E (C : Ctx) (F : Act -> World -> Prop) (y : (Ah × Int)) : Prop := Bz w9V C F Try.f9.results.toList [] [(.nm 2), (.int .i64)] (y.1, y.2, ())
noncomputable def Aq6 (a0 : Ah) (a1 : Int) (r1 : List Aj) : ST := ⟨190, [(2, ol (.ptr 2 0)), (3, ol (.ptr 3 0)), (4, ol (.ptr 4 0)), (7, ol (.ptr 7 0)), (8, ol (.clo 28 [.ptr 3 0])), (9, ol (.ar 46 0))], [(2, .cells [.int .i64 a0.Nodes, .sl (.nm 1) false a0.Arms]), (3, .cells [.int .i64 a1]), (4, .cells [.int .i64 (0 : Int), .sl (.nm 1) true []]), (7, .cells [.int .i64 (IntKind.wrap .i64 (a0.Nodes - (1 : Int))), .sl (.nm 1) true []]), (46, .arr 53 (.nm 4) r1 0 false)]⟩
noncomputable def Af8 (a0 : Ah) (a1 : Int) (r2 : (Int × (List Int) × Bool × Int × (List Int) × Bool × (List Aj) × (List Aq))) : ST := ⟨190, [(4, ol (.ptr 4 0)), (7, ol (.ptr 7 0)), (8, ol (.clo 28 [.ptr 3 0])), (9, ol (.ar 46 0)), (11, ol (.ptr 11 0))], [(3, .cells [.int .i64 a1]), (4, .cells [.int .i64 (0 : Int), .sl (.nm 1) true []]), (7, .cells [.int .i64 (IntKind.wrap .i64 (a0.Nodes - (1 : Int))), .ar 91 0]), (11, .cells [.int .i64 r2.1, .sl (.int .u32) true r2.2.1, .bool r2.2.2.1, .int .i64 r2.2.2.2.1, .sl (.int .u32) true r2.2.2.2.2.1, .bool r2.2.2.2.2.2.1]), (46, .arr 53 (.nm 4) r2.2.2.2.2.2.2.1 0 false), (91, .arr 28 (.nm 1) r2.2.2.2.2.2.2.2 0 false)]⟩
noncomputable def Age (a0 : Ah) (a1 : Int) (v22 : Int) (r2 : (Int × (List Int) × Bool × Int × (List Int) × Bool × (List Aj) × (List Aq))) (r3 : List Aq) : ST := ⟨190, [(4, ol (.ptr 4 0)), (7, ol (.ptr 7 0)), (8, ol (.clo 28 [.ptr 3 0])), (9, ol (.ar 46 0)), (11, ol (.ptr 11 0)), (126, oi ((r2.2.2.2.2.2.2.1.length : Nat) : Int)), (127, oi v22)], [(3, .cells [.int .i64 a1]), (4, .cells [.int .i64 (0 : Int), .sl (.nm 1) true []]), (7, .cells [.int .i64 (IntKind.wrap .i64 (a0.Nodes - (1 : Int))), .ar 91 0]), (11, .cells [.int .i64 r2.1, .sl (.int .u32) true r2.2.1, .bool r2.2.2.1, .int .i64 r2.2.2.2.1, .sl (.int .u32) true r2.2.2.2.2.1, .bool r2.2.2.2.2.2.1]), (46, .arr 53 (.nm 4) r2.2.2.2.2.2.2.1 0 false), (91, .arr 28 (.nm 1) r3 0 false)]⟩
noncomputable def Arr (a0 : Ah) (r5 : List Aq) : ST := ⟨190, [(4, ol (.ptr 4 0)), (7, ol (.ptr 7 0))], [(4, .cells [.int .i64 (0 : Int), .sl (.nm 1) true []]), (7, .cells [.int .i64 (IntKind.wrap .i64 (a0.Nodes - (1 : Int))), .ar 91 0]), (91, .arr 28 (.nm 1) r5 0 false)]⟩
noncomputable def A4p : ST := ⟨190, [(4, ol (.ptr 4 0))], [(4, .cells [.int .i64 (0 : Int), .sl (.nm 1) true []])]⟩
noncomputable def Ask (a0 : Ah) (a1 : Int) (v1 : Int) (v2 : Int) (v3 : List Aj) : ST := ⟨190, [(2, ol (.ptr 2 0)), (3, ol (.ptr 3 0)), (4, ol (.ptr 4 0)), (7, ol (.ptr 7 0)), (8, ol (.clo 28 [.ptr 3 0])), (9, ol (.ar 46 0)), (48, oi v1), (49, oi v2)], [(2, .cells [.int .i64 a0.Nodes, .sl (.nm 1) false a0.Arms]), (3, .cells [.int .i64 a1]), (4, .cells [.int .i64 (0 : Int), .sl (.nm 1) true []]), (7, .cells [.int .i64 (IntKind.wrap .i64 (a0.Nodes - (1 : Int))), .sl (.nm 1) true []]), (46, .arr 53 (.nm 4) v3 0 false)]⟩
noncomputable def A6r (a0 : Ah) (a1 : Int) (v5 : Int) (v6 : Int) (v7 : List Int) (v8 : Bool) (v9 : Int) (v10 : List Int) (v11 : Bool) (v12 : List Aj) (v13 : List Aq) : ST := ⟨190, [(3, ol (.ptr 3 0)), (4, ol (.ptr 4 0)), (7, ol (.ptr 7 0)), (8, ol (.clo 28 [.ptr 3 0])), (9, ol (.ar 46 0)), (11, ol (.ptr 11 0)), (13, ol (.ptr 13 0)), (59, ol (.sl (.nm 1) false a0.Arms)), (60, oi ((a0.Arms.length : Nat) : Int)), (61, oi v5)], [(3, .cells [.int .i64 a1]), (4, .cells [.int .i64 (0 : Int), .sl (.nm 1) true []]), (7, .cells [.int .i64 (IntKind.wrap .i64 (a0.Nodes - (1 : Int))), .ar 91 0]), (11, .cells [.int .i64 v6, .sl (.int .u32) true v7, .bool v8, .int .i64 v9, .sl (.int .u32) true v10, .bool v11]), (13, .cells [.int .i64 ((List.getD a0.Arms v5.toNat Aa).A), .int .i64 ((List.getD a0.Arms v5.toNat Aa).B), .int .i64 (((List.getD a0.Arms v5.toNat Aa).R).N), .int .i64 (((List.getD a0.Arms v5.toNat Aa).R).D), .int .i64 (((List.getD a0.Arms v5.toNat Aa).E).N), .int .i64 (((List.getD a0.Arms v5.toNat Aa).E).D)]), (46, .arr 53 (.nm 4) v12 0 false), (91, .arr 28 (.nm 1) v13 0 false)]⟩
noncomputable def Aio (a0 : Ah) (a1 : Int) (v5 : Int) (v6 : Int) (v7 : List Int) (v8 : Bool) (v9 : Int) (v10 : List Int) (v11 : Bool) (v12 : List Aj) (v13 : List Aq) : ST := ⟨190, [(3, ol (.ptr 3 0)), (4, ol (.ptr 4 0)), (7, ol (.ptr 7 0)), (8, ol (.clo 28 [.ptr 3 0])), (9, ol (.ar 46 0)), (11, ol (.ptr 11 0)), (59, ol (.sl (.nm 1) false a0.Arms)), (60, oi ((a0.Arms.length : Nat) : Int)), (61, oi v5)], [(3, .cells [.int .i64 a1]), (4, .cells [.int .i64 (0 : Int), .sl (.nm 1) true []]), (7, .cells [.int .i64 (IntKind.wrap .i64 (a0.Nodes - (1 : Int))), .ar 91 0]), (11, .cells [.int .i64 v6, .sl (.int .u32) true v7, .bool v8, .int .i64 v9, .sl (.int .u32) true v10, .bool v11]), (46, .arr 53 (.nm 4) v12 0 false), (91, .arr 28 (.nm 1) v13 0 false)]⟩
noncomputable def A7l (a0 : Ah) (a1 : Int) (v22 : Int) (v24 : Int) (v25 : List Aq) (r2 : (Int × (List Int) × Bool × Int × (List Int) × Bool × (List Aj) × (List Aq))) : ST := ⟨190, [(4, ol (.ptr 4 0)), (7, ol (.ptr 7 0)), (8, ol (.clo 28 [.ptr 3 0])), (9, ol (.ar 46 0)), (11, ol (.ptr 11 0)), (15, oi v22), (16, oi v24), (126, oi ((r2.2.2.2.2.2.2.1.length : Nat) : Int)), (127, oi v22)], [(3, .cells [.int .i64 a1]), (4, .cells [.int .i64 (0 : Int), .sl (.nm 1) true []]), (7, .cells [.int .i64 (IntKind.wrap .i64 (a0.Nodes - (1 : Int))), .ar 91 0]), (11, .cells [.int .i64 r2.1, .sl (.int .u32) true r2.2.1, .bool r2.2.2.1, .int .i64 r2.2.2.2.1, .sl (.int .u32) true r2.2.2.2.2.1, .bool r2.2.2.2.2.2.1]), (46, .arr 53 (.nm 4) r2.2.2.2.2.2.2.1 0 false), (91, .arr 28 (.nm 1) v25 0 false)]⟩
noncomputable def Ahs (a0 : Ah) (a1 : Int) (v22 : Int) (r2 : (Int × (List Int) × Bool × Int × (List Int) × Bool × (List Aj) × (List Aq))) (v24 : Int) (v25 : List Aq) : ST := ⟨190, [(4, ol (.ptr 4 0)), (7, ol (.ptr 7 0)), (8, ol (.clo 28 [.ptr 3 0])), (9, ol (.ar 46 0)), (11, ol (.ptr 11 0)), (15, oi v22), (16, oi v24), (126, oi ((r2.2.2.2.2.2.2.1.length : Nat) : Int)), (127, oi v22)], [(3, .cells [.int .i64 a1]), (4, .cells [.int .i64 (0 : Int), .sl (.nm 1) true []]), (7, .cells [.int .i64 (IntKind.wrap .i64 (a0.Nodes - (1 : Int))), .ar 91 0]), (11, .cells [.int .i64 r2.1, .sl (.int .u32) true r2.2.1, .bool r2.2.2.1, .int .i64 r2.2.2.2.1, .sl (.int .u32) true r2.2.2.2.2.1, .bool r2.2.2.2.2.2.1]), (46, .arr 53 (.nm 4) r2.2.2.2.2.2.2.1 0 false), (91, .arr 28 (.nm 1) v25 0 false)]⟩
noncomputable def As1 (a0 : Ah) (a1 : Int) (r2 : (Int × (List Int) × Bool × Int × (List Int) × Bool × (List Aj) × (List Aq))) (v22 : Int) (v23 : List Aq) : ST := ⟨190, [(4, ol (.ptr 4 0)), (7, ol (.ptr 7 0)), (8, ol (.clo 28 [.ptr 3 0])), (9, ol (.ar 46 0)), (11, ol (.ptr 11 0)), (126, oi ((r2.2.2.2.2.2.2.1.length : Nat) : Int)), (127, oi v22)], [(3, .cells [.int .i64 a1]), (4, .cells [.int .i64 (0 : Int), .sl (.nm 1) true []]), (7, .cells [.int .i64 (IntKind.wrap .i64 (a0.Nodes - (1 : Int))), .ar 91 0]), (11, .cells [.int .i64 r2.1, .sl (.int .u32) true r2.2.1, .bool r2.2.2.1, .int .i64 r2.2.2.2.1, .sl (.int .u32) true r2.2.2.2.2.1, .bool r2.2.2.2.2.2.1]), (46, .arr 53 (.nm 4) r2.2.2.2.2.2.2.1 0 false), (91, .arr 28 (.nm 1) v23 0 false)]⟩
noncomputable def w9S (a0 : Ah) (a1 : Int) : ST := ⟨190, [(0, og (Ce a0)), (1, oi a1)], []⟩
theorem Ahh (G : Ay w9V P) {y} (E : w9E C F y) (h : Jy = some y) : Am w9V P C F Bdp A4p := by
 unfold Jy at h
 have e := sj h; subst e
 exact se G E [r0, au] tt
theorem A2f (G : Ay w9V P) {y o r a0 a1 v1 v2 v3} (E : w9E C F y) (h : Tf a0 a1 v1 v2 v3 = some o)
   (hl : ∀ v', o = .inl v' -> Am w9V P C F Aw1 (Ask a0 a1 v'.1 v'.2.1 v'.2.2)) (hr : ∀ r', o = .inr r' -> r' = r)
   (K1 : ∀ r1, r = r1 -> Am w9V P C F A2p (Aq6 a0 a1 r1)) : Am w9V P C F Aw1 (Ask a0 a1 v1 v2 v3) := by
 unfold Tf at h
 rcases Ad h with ⟨b5, h⟩ | ⟨b5, h⟩
 · obtain ⟨y2, c5, h⟩ := bind_some h
   obtain ⟨c6, h⟩ := Ao h
   exact sg G [r0, bt, r0, .reg [(2, .res ⟨[(.nm 4)], (y2, ())⟩)], r0, en, wk [2, 3, 4, 7, 8, 9, 48, 49] [2, 3, 4, 7, 46]] (aa b5 <| aa (ca c5) <| aa c6 <| tt) (hl _ (si h))
 · exact sg G [r0, bf, au, wk [2, 3, 4, 7, 8, 9] [2, 3, 4, 7, 46]] (aa b5 <| tt) (K1 _ (hr _ (si h)).symm)
theorem Ao4 (G : Ay w9V P) {y o r a0 a1 v5 v6 v7 v8 v9 v10 v11 v12 v13} (E : w9E C F y) (h : Kd a0 a1 v5 v6 v7 v8 v9 v10 v11 v12 v13 = some o)
   (hl : ∀ v', o = .inl v' -> Am w9V P C F Anl (Aio a0 a1 v'.1 v'.2.1 v'.2.2.1 v'.2.2.2.1 v'.2.2.2.2.1 v'.2.2.2.2.2.1 v'.2.2.2.2.2.2.1 v'.2.2.2.2.2.2.2.1 v'.2.2.2.2.2.2.2.2)) (hr : ∀ r', o = .inr r' -> r' = r)
   (K1 : ∀ r2, r = (.inl r2) -> Am w9V P C F As2 (Af8 a0 a1 r2))
   (KR : ∀ r', r = (.inr r') -> r' = y) : Am w9V P C F Bdc (A6r a0 a1 v5 v6 v7 v8 v9 v10 v11 v12 v13) := by
 unfold Kd at h
 rcases Ad h with ⟨b9, h⟩ | ⟨b9, h⟩
 · have e := KR _ (hr _ (si h)).symm; subst e
   exact se G E [r0, bt, r0, au] (aa b9 <| tt)
 · rcases Ad h with ⟨b10, h⟩ | ⟨b10, h⟩
   · exact sg G [r0, bf, r0, bt, r0, en, wk [3, 4, 7, 8, 9, 11, 59, 60, 61] [3, 4, 7, 11, 46, 91]] (aa b9 <| aa b10 <| tt) (hl _ (si h))
   · obtain ⟨c12, h⟩ := Ao h
     obtain ⟨y6, c13, h⟩ := bind_some h
     obtain ⟨y7, c14, h⟩ := bind_some h
     obtain ⟨c15, h⟩ := Ao h
     obtain ⟨y8, c16, h⟩ := bind_some h
     obtain ⟨y9, c17, h⟩ := bind_some h
     exact sg G [r0, bf, r0, bf, r0, .reg [(7, .res ⟨[(.nm 4)], (y6, ())⟩), (8, .res ⟨[(.nm 4)], (y7, ())⟩)], .reg [(2, .res ⟨[(.nm 4)], (y8, ())⟩), (3, .res ⟨[(.nm 4)], (y9, ())⟩)], r0, en, wk [3, 4, 7, 8, 9, 11, 59, 60, 61] [3, 4, 7, 11, 46, 91]] (aa b9 <| aa b10 <| aa c12 <| aa (ca c13) <| aa (ca c14) <| aa c15 <| aa (ca c16) <| aa (ca c17) <| tt) (hl _ (si h))
theorem A3v (G : Ay w9V P) {y o r a0 a1 v5 v6 v7 v8 v9 v10 v11 v12 v13} (E : w9E C F y) (h : L7 a0 a1 v5 v6 v7 v8 v9 v10 v11 v12 v13 = some o)
   (hl : ∀ v', o = .inl v' -> Am w9V P C F Anl (Aio a0 a1 v'.1 v'.2.1 v'.2.2.1 v'.2.2.2.1 v'.2.2.2.2.1 v'.2.2.2.2.2.1 v'.2.2.2.2.2.2.1 v'.2.2.2.2.2.2.2.1 v'.2.2.2.2.2.2.2.2)) (hr : ∀ r', o = .inr r' -> r' = r)
   (K1 : ∀ r2, r = (.inl r2) -> Am w9V P C F As2 (Af8 a0 a1 r2))
   (KR : ∀ r', r = (.inr r') -> r' = y) : Am w9V P C F Anl (Aio a0 a1 v5 v6 v7 v8 v9 v10 v11 v12 v13) := by
 unfold L7 at h
 rcases Ad h with ⟨b6, h⟩ | ⟨b6, h⟩
 · obtain ⟨c8, h⟩ := Ao h
   rcases Ad h with ⟨b7, h⟩ | ⟨b7, h⟩
   · rcases Ad h with ⟨b8, h⟩ | ⟨b8, h⟩
     · obtain ⟨y4, c9, h⟩ := bind_some h
       obtain ⟨y5, c10, h⟩ := bind_some h
       obtain ⟨c11, h⟩ := Ao h
       exact sg G [r0, bt, r0, .reg [(4, oT), (9, oT)], bt, .reg [(5, .res ⟨[(.int .i64)], (y4, ())⟩), (9, .res ⟨[(.int .i64)], (y5, ())⟩)], r0, en, .weak [.re 91 91 0, .keep [3, 4, 7, 8, 9, 11, 59, 60, 61] [3, 4, 7, 11, 46, 91]]] (aa b6 <| aa c8 <| aa b7 <| aa b7 <| aa b7 <| aa b7 <| aa b7 <| aa b8 <| aa (ca c9) <| aa (ca c10) <| aa c11 <| tt) (hl _ (si h))
     · exact sg G [r0, bt, r0, .reg [(4, oT), (9, oT)], bf, au, wk [3, 4, 7, 8, 9, 11, 13, 59, 60, 61] [3, 4, 7, 11, 13, 46, 91]] (aa b6 <| aa c8 <| aa b7 <| aa b7 <| aa b7 <| aa b7 <| aa b7 <| aa b8 <| tt) (Ao4 G E h hl hr K1 KR)
   · exact sg G [r0, bt, r0, .reg [(4, oF), (9, oF)], bf, au, wk [3, 4, 7, 8, 9, 11, 13, 59, 60, 61] [3, 4, 7, 11, 13, 46, 91]] (aa b6 <| aa c8 <| aa b7 <| aa b7 <| aa b7 <| aa b7 <| aa b7 <| aa (show false = false from rfl) <| tt) (Ao4 G E h hl hr K1 KR)
 · exact sg G [r0, bf, au, wk [4, 7, 8, 9, 11] [3, 4, 7, 11, 46, 91]] (aa b6 <| tt) (K1 _ (hr _ (si h)).symm)
theorem Ast (G : Ay w9V P) {y o r a0 a1 v22 v24 v25 r2} (E : w9E C F y) (h : Kg a0 a1 v22 v24 v25 r2 = some o)
   (hl : ∀ v', o = .inl v' -> Am w9V P C F Amr (Ahs a0 a1 v22 r2 v'.1 v'.2)) (hr : ∀ r', o = .inr r' -> r' = r)
   (K1 : ∀ r3, r = (.inl r3) -> Am w9V P C F An5 (Age a0 a1 v22 r2 r3))
   (KR : ∀ r', r = (.inr r') -> r' = y) : Am w9V P C F Bd5 (A7l a0 a1 v22 v24 v25 r2) := by
 unfold Kg at h
 exact sg G [r0, en, wk [4, 7, 8, 9, 11, 15, 16, 126, 127] [3, 4, 7, 11, 46, 91]] tt (hl _ (si h))
theorem A33 (G : Ay w9V P) {y o r a0 a1 v22 r2 v24 v25} (E : w9E C F y) (h : L5 a0 a1 v22 r2 v24 v25 = some o)
   (hl : ∀ v', o = .inl v' -> Am w9V P C F Amr (Ahs a0 a1 v22 r2 v'.1 v'.2)) (hr : ∀ r', o = .inr r' -> r' = r)
   (K1 : ∀ r3, r = (.inl r3) -> Am w9V P C F An5 (Age a0 a1 v22 r2 r3))
   (KR : ∀ r', r = (.inr r') -> r' = y) : Am w9V P C F Amr (Ahs a0 a1 v22 r2 v24 v25) := by
 unfold L5 at h
 rcases Ad h with ⟨b12, h⟩ | ⟨b12, h⟩
 · obtain ⟨c18, h⟩ := Ao h
   obtain ⟨y10, c19, h⟩ := bind_some h
   rcases Ad h with ⟨b13, h⟩ | ⟨b13, h⟩
   · exact sg G [r0, bt, .reg [(4, .res ⟨[.bool], (y10, ())⟩), (5, oT), (11, oT)], bt, au, wk [4, 7, 8, 9, 11, 15, 16, 126, 127] [3, 4, 7, 11, 46, 91]] (aa b12 <| aa c18 <| aa (ca c19) <| aa b13 <| aa b13 <| aa b13 <| aa b13 <| aa b13 <| aa b13 <| aa (show true = true from rfl) <| tt) (Ast G E h hl hr K1 KR)
   · obtain ⟨c20, h⟩ := Ao h
     obtain ⟨y11, c21, h⟩ := bind_some h
     rcases Ad h with ⟨b14, h⟩ | ⟨b14, h⟩
     · exact sg G [r0, bt, .reg [(4, .res ⟨[.bool], (y10, ())⟩), (5, oF), (10, .res ⟨[.bool], (y11, ())⟩), (11, oF)], bt, au, wk [4, 7, 8, 9, 11, 15, 16, 126, 127] [3, 4, 7, 11, 46, 91]] (aa b12 <| aa c18 <| aa (ca c19) <| aa b13 <| aa b13 <| aa b13 <| aa c20 <| aa b13 <| aa b13 <| aa (ca c21) <| aa b13 <| aa b14 <| tt) (Ast G E h hl hr K1 KR)
     · obtain ⟨c22, c23, h⟩ := ns2 h
       obtain ⟨y12, c24, h⟩ := bind_some h
       obtain ⟨y13, c25, h⟩ := bind_some h
       obtain ⟨y14, c26, h⟩ := bind_some h
       rcases Ad h with ⟨b15, h⟩ | ⟨b15, h⟩
       · have e := KR _ (hr _ (si h)).symm; subst e
         exact se G E [r0, bt, .reg [(4, .res ⟨[.bool], (y10, ())⟩), (5, oF), (10, .res ⟨[.bool], (y11, ())⟩), (11, oF)], bf, .reg [(9, .res ⟨[(.nm 4)], (y12, ())⟩), (10, .res ⟨[(.nm 4)], (y13, ())⟩), (11, .res ⟨[(.nm 0), (.int .i64)], (y14.1, y14.2, ())⟩)], r0, bt, r0, au] (aa b12 <| aa c18 <| aa (ca c19) <| aa b13 <| aa b13 <| aa b13 <| aa c20 <| aa b13 <| aa b13 <| aa (ca c21) <| aa b13 <| aa b14 <| aa c22 <| aa c23 <| aa (ca c24) <| aa (ca c25) <| aa (cb c26) <| aa b15 <| tt)
       · obtain ⟨y15, c27, h⟩ := bind_some h
         obtain ⟨y16, c28, h⟩ := bind_some h
         obtain ⟨c29, h⟩ := Ao h
         exact sg G [r0, bt, .reg [(4, .res ⟨[.bool], (y10, ())⟩), (5, oF), (10, .res ⟨[.bool], (y11, ())⟩), (11, oF)], bf, .reg [(9, .res ⟨[(.nm 4)], (y12, ())⟩), (10, .res ⟨[(.nm 4)], (y13, ())⟩), (11, .res ⟨[(.nm 0), (.int .i64)], (y14.1, y14.2, ())⟩)], r0, bf, .reg [(4, .res ⟨[(.int .i64)], (y15, ())⟩), (7, .res ⟨[(.int .i64)], (y16, ())⟩)], r0, en, .weak [.re 91 91 0, .keep [4, 7, 8, 9, 11, 15, 16, 126, 127] [3, 4, 7, 11, 46, 91]]] (aa b12 <| aa c18 <| aa (ca c19) <| aa b13 <| aa b13 <| aa b13 <| aa c20 <| aa b13 <| aa b13 <| aa (ca c21) <| aa b13 <| aa b14 <| aa c22 <| aa c23 <| aa (ca c24) <| aa (ca c25) <| aa (cb c26) <| aa b15 <| aa (ca c27) <| aa (ca c28) <| aa c29 <| tt) (hl _ (si h))
 · exact sg G [r0, bf, au, wk [4, 7, 8, 9, 11, 126, 127] [3, 4, 7, 11, 46, 91]] (aa b12 <| tt) (K1 _ (hr _ (si h)).symm)
theorem A38 (G : Ay w9V P) {y o r a0 a1 r2 v22 v23} (E : w9E C F y) (h : Mf a0 a1 r2 v22 v23 = some o)
   (hl : ∀ v', o = .inl v' -> Am w9V P C F Aqe (As1 a0 a1 r2 v'.1 v'.2)) (hr : ∀ r', o = .inr r' -> r' = r)
   (K1 : ∀ r5, r = (.inl r5) -> Am w9V P C F A0s (Arr a0 r5))
   (KR : ∀ r', r = (.inr r') -> r' = y) : Am w9V P C F Aqe (As1 a0 a1 r2 v22 v23) := by
 unfold Mf at h
 rcases Ad h with ⟨b11, h⟩ | ⟨b11, h⟩
 · obtain ⟨r, hi, h⟩ := bind_some h
   have K1 : ∀ r3, r = (.inl r3) -> Am w9V P C F An5 (Age a0 a1 v22 r2 r3) := by
     rintro r3 rfl
     exact sg G [r0, en, wk [4, 7, 8, 9, 11, 126, 127] [3, 4, 7, 11, 46, 91]] tt (hl _ (si h))
   have KR : ∀ r4, r = (.inr r4) -> r4 = y := by
     rintro r4 rfl
     exact KR _ (hr _ (si h)).symm
   exact sg G [r0, bt, r0, r0, en, wk [4, 7, 8, 9, 11, 15, 16, 126, 127] [3, 4, 7, 11, 46, 91]] (aa b11 <| tt) (Az (V := w9V) (F := F) (k := Amr) (S := λ v => Ahs a0 a1 v22 r2 v.1 v.2) (λ v o h hl hr => A33 G E h hl hr K1 KR) _ hi)
 · exact sg G [r0, bf, au, wk [4, 7] [4, 7, 91]] (aa b11 <| tt) (K1 _ (hr _ (si h)).symm)
theorem Bea (G : Ay w9V P) {y a0 a1} (E : w9E C F y) (h : O7 a0 a1 = some y) : Am w9V P C F A1u (w9S a0 a1) := by
 unfold O7 at h
 obtain ⟨y1, c1, h⟩ := bind_some h
 rcases Ad h with ⟨b1, h⟩ | ⟨b1, h⟩
 · have e := sj h; subst e
   exact se G E [r0, .reg [(1, .res ⟨[(.int .i64)], (y1, ())⟩)], r0, bt, r0, au] (aa (ca c1) <| aa b1 <| tt)
 · rcases Ad h with ⟨b2, h⟩ | ⟨b2, h⟩
   · exact sg G [r0, .reg [(1, .res ⟨[(.int .i64)], (y1, ())⟩)], r0, bf, .reg [(2, oT), (7, oT), (8, oT), (12, oT)], bt, au, wk [4] [4]] (aa (ca c1) <| aa b1 <| aa b2 <| aa b2 <| aa b2 <| aa b2 <| aa b2 <| aa (show true = true from rfl) <| aa (show true = true from rfl) <| aa (show true = true from rfl) <| aa (show true = true from rfl) <| aa (show true = true from rfl) <| tt) (Ahh G E h)
   · rcases Ad h with ⟨b3, h⟩ | ⟨b3, h⟩
     · exact sg G [r0, .reg [(1, .res ⟨[(.int .i64)], (y1, ())⟩)], r0, bf, .reg [(2, oF), (7, oF), (8, oT), (12, oT)], bt, au, wk [4] [4]] (aa (ca c1) <| aa b1 <| aa b2 <| aa b2 <| aa b2 <| aa b2 <| aa b2 <| aa b3 <| aa b3 <| aa b3 <| aa b3 <| aa (show true = true from rfl) <| tt) (Ahh G E h)
     · rcases Ad h with ⟨b4, h⟩ | ⟨b4, h⟩
       · exact sg G [r0, .reg [(1, .res ⟨[(.int .i64)], (y1, ())⟩)], r0, bf, .reg [(2, oF), (7, oF), (8, oF), (12, oF)], bt, au, wk [4] [4]] (aa (ca c1) <| aa b1 <| aa b2 <| aa b2 <| aa b2 <| aa b2 <| aa b2 <| aa b3 <| aa b3 <| aa b3 <| aa b3 <| aa b4 <| tt) (Ahh G E h)
       · obtain ⟨c2, c3, c4, h⟩ := ns3 h
         obtain ⟨r1, hi, h⟩ := bind_some h
         have K1 : ∀ q, r1 = q -> Am w9V P C F A2p (Aq6 a0 a1 q) := by
           rintro q rfl
           obtain ⟨y3, c7, h⟩ := bind_some h
           obtain ⟨r, hi, h⟩ := bind_some h
           have K1 : ∀ r2, r = (.inl r2) -> Am w9V P C F As2 (Af8 a0 a1 r2) := by
             rintro r2 rfl
             obtain ⟨r, hi, h⟩ := bind_some h
             have K1 : ∀ r5, r = (.inl r5) -> Am w9V P C F A0s (Arr a0 r5) := by
               rintro r5 rfl
               rcases Ad h with ⟨b16, h⟩ | ⟨b16, h⟩
               · have e := sj h; subst e
                 exact se G E [r0, bt, r0, au] (aa b16 <| tt)
               · have e := sj h; subst e
                 exact se G E [r0, bf, r0, au, .weak [.fix (.cell 4)]] (aa b16 <| tt)
             have KR : ∀ r6, r = (.inr r6) -> r6 = y := by
               rintro r6 rfl
               exact Option.some.inj h
             exact sg G [r0, en, wk [4, 7, 8, 9, 11, 126, 127] [3, 4, 7, 11, 46, 91]] tt (Az (V := w9V) (F := F) (k := Aqe) (S := λ v => As1 a0 a1 r2 v.1 v.2) (λ v o h hl hr => A38 G E h hl hr K1 KR) _ hi)
           have KR : ∀ r7, r = (.inr r7) -> r7 = y := by
             rintro r7 rfl
             exact Option.some.inj h
           exact sg G [.reg [(0, .res ⟨[(.nm 4)], (y3, ())⟩)], r0, en, .weak [.own (.cell 7) 1 91 28 0, .keep [3, 4, 7, 8, 9, 11, 59, 60, 61] [3, 4, 7, 11, 46, 91]]] (aa (ca c7) <| tt) (Az (V := w9V) (F := F) (k := Anl) (S := λ v => Aio a0 a1 v.1 v.2.1 v.2.2.1 v.2.2.2.1 v.2.2.2.2.1 v.2.2.2.2.2.1 v.2.2.2.2.2.2.1 v.2.2.2.2.2.2.2.1 v.2.2.2.2.2.2.2.2) (λ v o h hl hr => A3v G E h hl hr K1 KR) _ hi)
         exact sg G [r0, .reg [(1, .res ⟨[(.int .i64)], (y1, ())⟩)], r0, bf, .reg [(2, oF), (7, oF), (8, oF), (12, oF)], bf, r0, r0, r0, r0, en, wk [2, 3, 4, 7, 8, 9, 48, 49] [2, 3, 4, 7, 46]] (aa (ca c1) <| aa b1 <| aa b2 <| aa b2 <| aa b2 <| aa b2 <| aa b2 <| aa b3 <| aa b3 <| aa b3 <| aa b3 <| aa b4 <| aa c2 <| aa c3 <| aa c4 <| tt) (Az (V := w9V) (F := F) (k := Aw1) (S := λ v => Ask a0 a1 v.1 v.2.1 v.2.2) (λ v o h hl hr => A2f G E h hl hr K1) _ hi)
noncomputable def A5i : FS yaE := ⟨[(.nm 2), (.int .i64)], [(.nm 2), (.int .i64)], [], [], λ x => Option.map (λ r => (r.1, r.2, ())) (O7 x.1 x.2.1)⟩
theorem Ato : MT 9 A5i := show Bh w9V _ _ _ from mt (fn := Try.f9) (S := λ x => w9S x.1 x.2.1) (GC ⟨Ry, G8, Oh, U1, W0, Uv, U2, W8, trivial⟩ trivial ⟨Asp, trivial⟩) λ G _ _ _ _ E h => Bea G E h
noncomputable abbrev Av9 : Env := EV [] [] false
noncomputable def A7t : List Item := [.code (Try.f56.body.getD .skip)]
abbrev Bc9 (C : Ctx) (F : Act -> World -> Prop) (y : Bool) : Prop := Bz Av9 C F Try.f56.results.toList [] [.bool] (y, ())
noncomputable def Bb4 (a0 : Af) : ST := ⟨19, [(0, og (Bf a0))], []⟩
theorem Bas (G : Ay Av9 P) {y a0} (E : Bc9 C F y) (h : B4 a0 = some y) : Am Av9 P C F A7t (Bb4 a0) := by
 unfold B4 at h
 rcases Ad h with ⟨b1, h⟩ | ⟨b1, h⟩
 · obtain ⟨c1, h⟩ := Ao h
   rcases Ad h with ⟨b2, h⟩ | ⟨b2, h⟩
   · have e := sj h; subst e
     exact se G E [r0, .reg [(4, oT), (10, oT), (11, oT), (15, oT)], au] (aa b1 <| aa b1 <| aa b1 <| aa c1 <| aa b1 <| aa b1 <| aa b1 <| aa b2 <| aa b2 <| aa b2 <| aa b2 <| tt)
   · have e := sj h; subst e
     exact se G E [r0, .reg [(4, oT), (10, oT), (11, oF), (15, oF)], au] (aa b1 <| aa b1 <| aa b1 <| aa c1 <| aa b1 <| aa b1 <| aa b1 <| aa b2 <| aa b2 <| aa b2 <| aa b2 <| tt)
 · have e := sj h; subst e
   exact se G E [r0, .reg [(4, oF), (10, oF), (11, oF), (15, oF)], au] (aa b1 <| aa b1 <| aa b1 <| aa b1 <| aa b1 <| aa b1 <| aa (show false = false from rfl) <| aa (show false = false from rfl) <| aa (show false = false from rfl) <| aa (show false = false from rfl) <| tt)
noncomputable def Aii : FS yaE := ⟨[(.nm 6)], [.bool], [], [], λ x => Option.map (λ r => (r, ())) (B4 x.1)⟩
theorem Wf : MT 56 Aii := show Bh Av9 _ _ _ from mt (fn := Try.f56) (S := λ x => Bb4 x.1) (GB trivial trivial) λ G _ _ _ _ E h => Bas G E h
noncomputable abbrev Atl : Env := EV [] [] false
noncomputable def Bbo : List Item := [.code (Try.f65.body.getD .skip)]
abbrev Bdw (C : Ctx) (F : Act -> World -> Prop) (y : Bool) : Prop := Bz Atl C F Try.f65.results.toList [] [.bool] (y, ())
noncomputable def Bbe (a0 : Af) : ST := ⟨7, [(0, og (Bf a0))], []⟩
theorem A5p (G : Ay Atl P) {y a0} (E : Bdw C F y) (h : Bp a0 = some y) : Am Atl P C F Bbo (Bbe a0) := by
 unfold Bp at h
 have e := sj h; subst e
 exact se G E [r0, r0, au] tt
noncomputable def Akk : FS yaE := ⟨[(.nm 6)], [.bool], [], [], λ x => Option.map (λ r => (r, ())) (Bp x.1)⟩
theorem Wo : MT 65 Akk := show Bh Atl _ _ _ from mt (fn := Try.f65) (S := λ x => Bbe x.1) (GB trivial trivial) λ G _ _ _ _ E h => A5p G E h
noncomputable abbrev Atr : Env := EV [] [] false
noncomputable def Bcm : List Item := [.code (Try.f85.body.getD .skip)]
abbrev Bed (C : Ctx) (F : Act -> World -> Prop) (y : Af) : Prop := Bz Atr C F Try.f85.results.toList [] [(.nm 6)] (y, ())
noncomputable def Bb6 (a0 : List Int) (a1 : Bool) : ST := ⟨13, [(0, ol (.sl (.int .u32) false a0)), (1, ol (.bool a1))], []⟩
theorem Bcx (G : Ay Atr P) {y a0 a1} (E : Bed C F y) (h : Bu a0 a1 = some y) : Am Atr P C F Bcm (Bb6 a0 a1) := by
 unfold Bu at h
 rcases Ad h with ⟨b1, h⟩ | ⟨b1, h⟩
 · have e := sj h; subst e
   exact se G E [r0, .reg [(2, oT), (6, oT)], au] (aa b1 <| aa b1 <| aa b1 <| aa b1 <| tt)
 · have e := sj h; subst e
   exact se G E [r0, .reg [(2, oF), (6, oF)], au] (aa b1 <| aa b1 <| aa b1 <| aa b1 <| tt)
noncomputable def Ado : FS yaE := ⟨[(.sl (.int .u32)), .bool], [(.nm 6)], [], [], λ x => Option.map (λ r => (r, ())) (Bu x.1 x.2.1)⟩
theorem Ro : MT 85 Ado := show Bh Atr _ _ _ from mt (fn := Try.f85) (S := λ x => Bb6 x.1 x.2.1) (GB trivial trivial) λ G _ _ _ _ E h => Bcx G E h
noncomputable abbrev Au3 : Env := EV [(85, Ado)] [] false
noncomputable def A5h : List Item := [.code (Try.f82.body.getD .skip)]
abbrev Bdv (C : Ctx) (F : Act -> World -> Prop) (y : Af) : Prop := Bz Au3 C F Try.f82.results.toList [] [(.nm 6)] (y, ())
noncomputable def A65 (a0 : Af) : ST := ⟨9, [(0, og (Bf a0))], []⟩
theorem A5r (G : Ay Au3 P) {y a0} (E : Bdv C F y) (h : Cf a0 = some y) : Am Au3 P C F A5h (A65 a0) := by
 unfold Cf at h
 obtain ⟨y1, c1, h⟩ := bind_some h
 have e := sj h; subst e
 exact se G E [r0, .reg [(5, .res ⟨[(.nm 6)], (y1, ())⟩)], au] (aa (ca c1) <| tt)
noncomputable def Azt : FS yaE := ⟨[(.nm 6)], [(.nm 6)], [], [], λ x => Option.map (λ r => (r, ())) (Cf x.1)⟩
theorem Aq3 : MT 82 Azt := show Bh Au3 _ _ _ from mt (fn := Try.f82) (S := λ x => A65 x.1) (GB ⟨Ro, trivial⟩ trivial) λ G _ _ _ _ E h => A5r G E h
noncomputable abbrev Xv : Env := EV [] [] false
noncomputable def Ax0 : List Item := [.code (Try.f86.body.getD .skip)]
noncomputable def Al4 := ctl [.reg, .enter] Ax0
noncomputable def Ayj := ctl [.reg, .br false, .auto] Al4
abbrev Bbp (C : Ctx) (F : Act -> World -> Prop) (y : List Int) : Prop := Bz Xv C F Try.f86.results.toList [[(115, 0)]] [(.sl (.int .u32))] (y, ())
noncomputable def Amd (r1 : List Int) : ST := ⟨21, [(0, ol (.ar 1000000 0))], [(1000000, .arr 115 (.int .u32) r1 0 false)]⟩
noncomputable def Afp (v1 : List Int) : ST := ⟨21, [(0, ol (.ar 1000000 0))], [(1000000, .arr 115 (.int .u32) v1 0 false)]⟩
noncomputable def Bbx (a0 : List Int) : ST := ⟨21, [(0, ol (.ar 1000000 0))], [(1000000, .arr 115 (.int .u32) a0 0 false)]⟩
theorem Avq (G : Ay Xv P) {y o r v1} (E : Bbp C F y) (h : Fi v1 = some o)
   (hl : ∀ v', o = .inl v' -> Am Xv P C F Al4 (Afp v')) (hr : ∀ r', o = .inr r' -> r' = r)
   (K1 : ∀ r1, r = r1 -> Am Xv P C F Ayj (Amd r1)) : Am Xv P C F Al4 (Afp v1) := by
 unfold Fi at h
 rcases Ad h with ⟨b1, h⟩ | ⟨b1, h⟩
 · obtain ⟨c1, h⟩ := Ao h
   rcases Ad h with ⟨b2, h⟩ | ⟨b2, h⟩
   · obtain ⟨c2, c3, h⟩ := ns2 h
     exact sg G [.reg [(3, oT), (11, oT)], bt, r0, en, .weak [.re 1000000 1000000 0, .keep [0] [1000000]]] (aa b1 <| aa b1 <| aa b1 <| aa b1 <| aa b1 <| aa c1 <| aa b1 <| aa b1 <| aa b1 <| aa b2 <| aa c2 <| aa c3 <| tt) (hl _ (si h))
   · exact sg G [.reg [(3, oT), (11, oT)], bf, au, wk [0] [1000000]] (aa b1 <| aa b1 <| aa b1 <| aa b1 <| aa b1 <| aa c1 <| aa b1 <| aa b1 <| aa b1 <| aa b2 <| tt) (K1 _ (hr _ (si h)).symm)
 · exact sg G [.reg [(3, oF), (11, oF)], bf, au, wk [0] [1000000]] (aa b1 <| aa b1 <| aa b1 <| aa b1 <| aa b1 <| aa b1 <| aa b1 <| aa b1 <| aa (show false = false from rfl) <| tt) (K1 _ (hr _ (si h)).symm)
theorem Bbt (G : Ay Xv P) {y a0} (E : Bbp C F y) (h : Bq a0 = some y) : Am Xv P C F Ax0 (Bbx a0) := by
 unfold Bq at h
 obtain ⟨r1, hi, h⟩ := bind_some h
 have K1 : ∀ q, r1 = q -> Am Xv P C F Ayj (Amd q) := by
   rintro q rfl
   have e := sj h; subst e
   exact se G E [r0, au] tt
 exact sg G [r0, en, wk [0] [1000000]] tt (Az (V := Xv) (F := F) (k := Al4) (S := λ v => Afp v) (λ v o h hl hr => Avq G E h hl hr K1) _ hi)
noncomputable def Y6 : FS yaE := ⟨[(.sl (.int .u32))], [(.sl (.int .u32))], [115], [[(115, 0)]], λ x => Option.map (λ r => (r, ())) (Bq x.1)⟩
theorem Oy : MT 86 Y6 := show Bh Xv _ _ _ from mt (fn := Try.f86) (S := λ x => Bbx x.1) (GB trivial trivial) λ G _ _ _ _ E h => Bbt G E h
noncomputable abbrev Xt : Env := EV [] [] false
noncomputable def Axm : List Item := [.code (Try.f89.body.getD .skip)]
noncomputable def Aiu := ctl [.reg, .reg, .br false, .reg, .enter] Axm
noncomputable def A0e := ctl [.reg, .br false, .auto] Aiu
abbrev A9i (C : Ctx) (F : Act -> World -> Prop) (y : Int) : Prop := Bz Xt C F Try.f89.results.toList [] [(.int .i64)] (y, ())
noncomputable def Alx : ST := ⟨41, [], []⟩
noncomputable def Agm (a0 : List Int) (a1 : List Int) (v1 : Int) : ST := ⟨41, [(0, ol (.sl (.int .u32) false a0)), (1, ol (.sl (.int .u32) false a1)), (5, oi v1)], []⟩
noncomputable def A9t (a0 : List Int) (a1 : List Int) : ST := ⟨41, [(0, ol (.sl (.int .u32) false a0)), (1, ol (.sl (.int .u32) false a1))], []⟩
theorem Awf (G : Ay Xt P) {y o r a0 a1 v1} (E : A9i C F y) (h : E9 a0 a1 v1 = some o)
   (hl : ∀ v', o = .inl v' -> Am Xt P C F Aiu (Agm a0 a1 v')) (hr : ∀ r', o = .inr r' -> r' = r)
   (K1 : ∀ r1, r = (.inl r1) -> Am Xt P C F A0e Alx)
   (KR : ∀ r', r = (.inr r') -> r' = y) : Am Xt P C F Aiu (Agm a0 a1 v1) := by
 unfold E9 at h
 rcases Ad h with ⟨b3, h⟩ | ⟨b3, h⟩
 · obtain ⟨c1, c2, h⟩ := ns2 h
   rcases Ad h with ⟨b4, h⟩ | ⟨b4, h⟩
   · have e := KR _ (hr _ (si h)).symm; subst e
     exact se G E [r0, bt, r0, bt, r0, au] (aa b3 <| aa c1 <| aa c2 <| aa b4 <| tt)
   · obtain ⟨c3, c4, h⟩ := ns2 h
     rcases Ad h with ⟨b5, h⟩ | ⟨b5, h⟩
     · have e := KR _ (hr _ (si h)).symm; subst e
       exact se G E [r0, bt, r0, bf, r0, bt, r0, au] (aa b3 <| aa c1 <| aa c2 <| aa b4 <| aa c3 <| aa c4 <| aa b5 <| tt)
     · exact sg G [r0, bt, r0, bf, r0, bf, r0, en, wk [0, 1, 5] []] (aa b3 <| aa c1 <| aa c2 <| aa b4 <| aa c3 <| aa c4 <| aa b5 <| tt) (hl _ (si h))
 · exact sg G [r0, bf, au, wk [] []] (aa b3 <| tt) (K1 _ (hr _ (si h)).symm)
theorem Bcb (G : Ay Xt P) {y a0 a1} (E : A9i C F y) (h : C2 a0 a1 = some y) : Am Xt P C F Axm (A9t a0 a1) := by
 unfold C2 at h
 rcases Ad h with ⟨b1, h⟩ | ⟨b1, h⟩
 · rcases Ad h with ⟨b2, h⟩ | ⟨b2, h⟩
   · have e := sj h; subst e
     exact se G E [r0, r0, bt, r0, bt, r0, au] (aa b1 <| aa b2 <| tt)
   · have e := sj h; subst e
     exact se G E [r0, r0, bt, r0, bf, r0, au] (aa b1 <| aa b2 <| tt)
 · obtain ⟨r, hi, h⟩ := bind_some h
   have K1 : ∀ r1, r = (.inl r1) -> Am Xt P C F A0e Alx := by
     rintro r1 rfl
     have e := sj h; subst e
     exact se G E [r0, au] tt
   have KR : ∀ r2, r = (.inr r2) -> r2 = y := by
     rintro r2 rfl
     exact Option.some.inj h
   exact sg G [r0, r0, bf, r0, en, wk [0, 1, 5] []] (aa b1 <| tt) (Az (V := Xt) (F := F) (k := Aiu) (S := λ v => Agm a0 a1 v) (λ v o h hl hr => Awf G E h hl hr K1 KR) _ hi)
noncomputable def Aoq : FS yaE := ⟨[(.sl (.int .u32)), (.sl (.int .u32))], [(.int .i64)], [], [], λ x => Option.map (λ r => (r, ())) (C2 x.1 x.2.1)⟩
theorem Ad8 : MT 89 Aoq := show Bh Xt _ _ _ from mt (fn := Try.f89) (S := λ x => A9t x.1 x.2.1) (GB trivial trivial) λ G _ _ _ _ E h => Bcb G E h
noncomputable abbrev Xx : Env := EV [] [] false
noncomputable def Ayn : List Item := [.code (Try.f96.body.getD .skip)]
noncomputable def Aln := ctl [.reg, .reg, .reg, .enter] Ayn
noncomputable def Axw := ctl [.reg, .br false, .auto] Aln
abbrev A6j (C : Ctx) (F : Act -> World -> Prop) (y : List Int) : Prop := Bz Xx C F Try.f96.results.toList [[(115, 0)]] [(.sl (.int .u32))] (y, ())
noncomputable def Akt (r1 : List Int) : ST := ⟨41, [(5, ol (.ar 11 0))], [(11, .arr 115 (.int .u32) r1 0 false)]⟩
noncomputable def Agr (a0 : List Int) (a1 : Int) (v1 : Int) (v2 : List Int) : ST := ⟨41, [(0, ol (.sl (.int .u32) false a0)), (1, ol (.int .u64 a1)), (5, ol (.ar 11 0)), (6, oi v1)], [(11, .arr 115 (.int .u32) v2 0 false)]⟩
noncomputable def A9c (a0 : List Int) (a1 : Int) : ST := ⟨41, [(0, ol (.sl (.int .u32) false a0)), (1, ol (.int .u64 a1))], []⟩
theorem At4 (G : Ay Xx P) {y o r a0 a1 v1 v2} (E : A6j C F y) (h : Et a0 a1 v1 v2 = some o)
   (hl : ∀ v', o = .inl v' -> Am Xx P C F Aln (Agr a0 a1 v'.1 v'.2)) (hr : ∀ r', o = .inr r' -> r' = r)
   (K1 : ∀ r1, r = r1 -> Am Xx P C F Axw (Akt r1)) : Am Xx P C F Aln (Agr a0 a1 v1 v2) := by
 unfold Et at h
 rcases Ad h with ⟨b1, h⟩ | ⟨b1, h⟩
 · obtain ⟨c4, c5, h⟩ := ns2 h
   obtain ⟨c6, c7, h⟩ := ns2 h
   obtain ⟨c8, c9, h⟩ := ns2 h
   exact sg G [r0, bt, r0, r0, r0, r0, en, wk [0, 1, 5, 6] [11]] (aa b1 <| aa c4 <| aa c5 <| aa c6 <| aa c7 <| aa c8 <| aa c9 <| tt) (hl _ (si h))
 · exact sg G [r0, bf, au, wk [5] [11]] (aa b1 <| tt) (K1 _ (hr _ (si h)).symm)
theorem A67 (G : Ay Xx P) {y a0 a1} (E : A6j C F y) (h : Cl a0 a1 = some y) : Am Xx P C F Ayn (A9c a0 a1) := by
 unfold Cl at h
 obtain ⟨c1, c2, c3, h⟩ := ns3 h
 obtain ⟨r1, hi, h⟩ := bind_some h
 have K1 : ∀ q, r1 = q -> Am Xx P C F Axw (Akt q) := by
   rintro q rfl
   have e := sj h; subst e
   exact se G E [r0, au] tt
 exact sg G [r0, r0, r0, en, wk [0, 1, 5, 6] [11]] (aa c1 <| aa c2 <| aa c3 <| tt) (Az (V := Xx) (F := F) (k := Aln) (S := λ v => Agr a0 a1 v.1 v.2) (λ v o h hl hr => At4 G E h hl hr K1) _ hi)
noncomputable def Axh : FS yaE := ⟨[(.sl (.int .u32)), (.int .u64)], [(.sl (.int .u32))], [], [[(115, 0)]], λ x => Option.map (λ r => (r, ())) (Cl x.1 x.2.1)⟩
theorem An2 : MT 96 Axh := show Bh Xx _ _ _ from mt (fn := Try.f96) (S := λ x => A9c x.1 x.2.1) (GB trivial trivial) λ G _ _ _ _ E h => A67 G E h
noncomputable abbrev Hv : Env := EV [] [] true
noncomputable def A0i : List Item := [.code (Try.f97.body.getD .skip)]
noncomputable def Amc := ctl [.reg, .reg, .reg, .reg, .reg, .enter] A0i
noncomputable def Ar6 := ctl [.reg, .br false, .auto] Amc
noncomputable def Yx := ctl [.reg, .reg, .enter] Ar6
noncomputable def A81 := ctl [.reg, .br true, .reg, .br true, .reg, .auto] Yx
noncomputable def Aie := ctl [.reg, .br false, .auto] Yx
noncomputable def Y1 := ctl [.reg, .br false, .reg, .reg, .enter] Aie
noncomputable def A54 := ctl [.reg, .br true, .reg, .reg, .br true, .reg, .auto] Y1
noncomputable def Aqf := ctl [.reg, .br false, .auto] Y1
abbrev Am9 (wi wn : Int) (C : Ctx) (F : Act -> World -> Prop) (y : (List Int × Int)) : Prop := Aij Hv C F Try.f97.results.toList 115 (.int .u32) wi wn [(.int .u32)] y.1 (y.2, ())
noncomputable def Ahx (a0 : List Int) (a1 : List Int) (r1 : Int) (wi : Int) (wn : Int) : ST := ⟨137, [(0, ol (.win 1000000 0 wi wn)), (1, ol (.sl (.int .u32) false a1)), (9, oi ((a1.length : Nat) : Int)), (11, ol (.int .u64 r1))], [(1000000, .arr 115 (.int .u32) a0 0 false)]⟩
noncomputable def Zi (a1 : List Int) (r1 : Int) (r2 : (Int × (List Int))) (wi : Int) (wn : Int) : ST := ⟨137, [(0, ol (.win 1000000 0 wi wn)), (1, ol (.sl (.int .u32) false a1)), (9, oi ((a1.length : Nat) : Int)), (11, ol (.int .u64 r1)), (13, ol (.int .u64 r2.1))], [(1000000, .arr 115 (.int .u32) r2.2 0 false)]⟩
noncomputable def Aa6 (r1 : Int) (r3 : List Int) (wi : Int) (wn : Int) : ST := ⟨137, [(0, ol (.win 1000000 0 wi wn)), (11, ol (.int .u64 r1))], [(1000000, .arr 115 (.int .u32) r3 0 false)]⟩
noncomputable def Afv (a0 : List Int) (a1 : List Int) (a2 : Int) (a3 : Int) (wi : Int) (wn : Int) (v1 : Int) (v2 : Int) : ST := ⟨137, [(0, ol (.win 1000000 0 wi wn)), (1, ol (.sl (.int .u32) false a1)), (2, ol (.int .u64 a2)), (3, ol (.int .u64 a3)), (9, oi ((a1.length : Nat) : Int)), (11, ol (.int .u64 v1)), (12, ol (.int .u64 v2))], [(1000000, .arr 115 (.int .u32) a0 0 false)]⟩
noncomputable def A1m (a1 : List Int) (v4 : Int) (v6 : Int) (v7 : List Int) (v8 : Int) (r1 : Int) (wi : Int) (wn : Int) : ST := ⟨137, [(0, ol (.win 1000000 0 wi wn)), (1, ol (.sl (.int .u32) false a1)), (9, oi ((a1.length : Nat) : Int)), (11, ol (.int .u64 r1)), (13, ol (.int .u64 v4)), (14, ol (.int .u64 v8)), (15, oi v6)], [(1000000, .arr 115 (.int .u32) v7 0 false)]⟩
noncomputable def Aa1 (a1 : List Int) (r1 : Int) (wi : Int) (wn : Int) (v4 : Int) (v5 : Int) (v6 : Int) (v7 : List Int) : ST := ⟨137, [(0, ol (.win 1000000 0 wi wn)), (1, ol (.sl (.int .u32) false a1)), (9, oi ((a1.length : Nat) : Int)), (11, ol (.int .u64 r1)), (13, ol (.int .u64 v4)), (14, ol (.int .u64 v5)), (15, oi v6)], [(1000000, .arr 115 (.int .u32) v7 0 false)]⟩
noncomputable def A2m (a1 : List Int) (v12 : Int) (v13 : List Int) (v14 : Int) (r1 : Int) (wi : Int) (wn : Int) : ST := ⟨137, [(0, ol (.win 1000000 0 wi wn)), (1, ol (.sl (.int .u32) false a1)), (9, oi ((a1.length : Nat) : Int)), (11, ol (.int .u64 r1)), (14, ol (.int .u64 v14)), (17, oi v12)], [(1000000, .arr 115 (.int .u32) v13 0 false)]⟩
noncomputable def Zu (a1 : List Int) (r1 : Int) (wi : Int) (wn : Int) (v11 : Int) (v12 : Int) (v13 : List Int) : ST := ⟨137, [(0, ol (.win 1000000 0 wi wn)), (1, ol (.sl (.int .u32) false a1)), (9, oi ((a1.length : Nat) : Int)), (11, ol (.int .u64 r1)), (14, ol (.int .u64 v11)), (17, oi v12)], [(1000000, .arr 115 (.int .u32) v13 0 false)]⟩
noncomputable def A64 (a0 : List Int) (wi : Int) (wn : Int) (a1 : List Int) (a2 : Int) (a3 : Int) : ST := ⟨137, [(0, ol (.win 1000000 0 wi wn)), (1, ol (.sl (.int .u32) false a1)), (2, ol (.int .u64 a2)), (3, ol (.int .u64 a3))], [(1000000, .arr 115 (.int .u32) a0 0 false)]⟩
theorem Auh (G : Ay Hv P) {y o r a0 a1 a2 a3 wi wn v1 v2} (E : Am9 wi wn C F y) (h : Ep a0 a1 a2 a3 wi wn v1 v2 = some o)
   (hl : ∀ v', o = .inl v' -> Am Hv P C F Amc (Afv a0 a1 a2 a3 wi wn v'.1 v'.2)) (hr : ∀ r', o = .inr r' -> r' = r)
   (K1 : ∀ r1, r = r1 -> Am Hv P C F Ar6 (Ahx a0 a1 r1 wi wn)) : Am Hv P C F Amc (Afv a0 a1 a2 a3 wi wn v1 v2) := by
 unfold Ep at h
 rcases Ad h with ⟨b1, h⟩ | ⟨b1, h⟩
 · obtain ⟨c7, c8, c9, h⟩ := ns3 h
   rcases Ad h with ⟨b2, h⟩ | ⟨b2, h⟩
   · exact sg G [.reg [(2, oT), (16, oT)], bt, r0, r0, en, wk [0, 1, 2, 3, 9, 11, 12] [1000000]] (aa b1 <| aa b1 <| aa b1 <| aa b1 <| aa b1 <| aa c7 <| aa b1 <| aa b1 <| aa b1 <| aa b1 <| aa c8 <| aa c9 <| aa b1 <| aa b1 <| aa b1 <| aa b1 <| aa b1 <| aa b2 <| tt) (hl _ (si h))
   · exact sg G [.reg [(2, oT), (16, oT)], bf, au, wk [0, 1, 9, 11] [1000000]] (aa b1 <| aa b1 <| aa b1 <| aa b1 <| aa b1 <| aa c7 <| aa b1 <| aa b1 <| aa b1 <| aa b1 <| aa c8 <| aa c9 <| aa b1 <| aa b1 <| aa b1 <| aa b1 <| aa b1 <| aa b2 <| tt) (K1 _ (hr _ (si h)).symm)
 · exact sg G [.reg [(2, oF), (16, oF)], bf, au, wk [0, 1, 9, 11] [1000000]] (aa b1 <| aa b1 <| aa b1 <| aa b1 <| aa b1 <| aa b1 <| aa b1 <| aa b1 <| aa b1 <| aa b1 <| aa b1 <| aa b1 <| aa b1 <| aa b1 <| aa (show false = false from rfl) <| tt) (K1 _ (hr _ (si h)).symm)
theorem Ai2 (G : Ay Hv P) {y o r a1 v4 v6 v7 v8 r1 wi wn} (E : Am9 wi wn C F y) (h : Dl a1 v4 v6 v7 v8 r1 wi wn = some o)
   (hl : ∀ v', o = .inl v' -> Am Hv P C F Yx (Aa1 a1 r1 wi wn v'.1 v'.2.1 v'.2.2.1 v'.2.2.2)) (hr : ∀ r', o = .inr r' -> r' = r)
   (K1 : ∀ r2, r = r2 -> Am Hv P C F Aie (Zi a1 r1 r2 wi wn)) : Am Hv P C F A81 (A1m a1 v4 v6 v7 v8 r1 wi wn) := by
 unfold Dl at h
 obtain ⟨c11, c12, h⟩ := ns2 h
 obtain ⟨c13, c14, h⟩ := ns2 h
 obtain ⟨c15, h⟩ := Ao h
 obtain ⟨c16, h⟩ := Ao h
 exact sg G [r0, r0, r0, r0, r0, en, wk [0, 1, 9, 11, 13, 14, 15] [1000000]] (aa c11 <| aa c12 <| aa c13 <| aa c14 <| aa c15 <| aa c16 <| tt) (hl _ (si h))
theorem Avh (G : Ay Hv P) {y o r a1 r1 wi wn v4 v5 v6 v7} (E : Am9 wi wn C F y) (h : Er a1 r1 wi wn v4 v5 v6 v7 = some o)
   (hl : ∀ v', o = .inl v' -> Am Hv P C F Yx (Aa1 a1 r1 wi wn v'.1 v'.2.1 v'.2.2.1 v'.2.2.2)) (hr : ∀ r', o = .inr r' -> r' = r)
   (K1 : ∀ r2, r = r2 -> Am Hv P C F Aie (Zi a1 r1 r2 wi wn)) : Am Hv P C F Yx (Aa1 a1 r1 wi wn v4 v5 v6 v7) := by
 unfold Er at h
 rcases Ad h with ⟨b3, h⟩ | ⟨b3, h⟩
 · rcases Ad h with ⟨b4, h⟩ | ⟨b4, h⟩
   · obtain ⟨c10, h⟩ := Ao h
     exact sg G [r0, bt, r0, bt, r0, au, wk [0, 1, 9, 11, 13, 14, 15] [1000000]] (aa b3 <| aa b4 <| aa c10 <| tt) (Ai2 G E h hl hr K1)
   · exact sg G [r0, bt, r0, bf, au, wk [0, 1, 9, 11, 13, 14, 15] [1000000]] (aa b3 <| aa b4 <| tt) (Ai2 G E h hl hr K1)
 · exact sg G [r0, bf, au, wk [0, 1, 9, 11, 13] [1000000]] (aa b3 <| tt) (K1 _ (hr _ (si h)).symm)
theorem Al3 (G : Ay Hv P) {y o r a1 v12 v13 v14 r1 wi wn} (E : Am9 wi wn C F y) (h : Dv a1 v12 v13 v14 r1 wi wn = some o)
   (hl : ∀ v', o = .inl v' -> Am Hv P C F Y1 (Zu a1 r1 wi wn v'.1 v'.2.1 v'.2.2)) (hr : ∀ r', o = .inr r' -> r' = r)
   (K1 : ∀ r3, r = r3 -> Am Hv P C F Aqf (Aa6 r1 r3 wi wn)) : Am Hv P C F A54 (A2m a1 v12 v13 v14 r1 wi wn) := by
 unfold Dv at h
 obtain ⟨c20, c21, h⟩ := ns2 h
 obtain ⟨c22, h⟩ := Ao h
 exact sg G [r0, r0, r0, en, wk [0, 1, 9, 11, 14, 17] [1000000]] (aa c20 <| aa c21 <| aa c22 <| tt) (hl _ (si h))
theorem Au2 (G : Ay Hv P) {y o r a1 r1 wi wn v11 v12 v13} (E : Am9 wi wn C F y) (h : Em a1 r1 wi wn v11 v12 v13 = some o)
   (hl : ∀ v', o = .inl v' -> Am Hv P C F Y1 (Zu a1 r1 wi wn v'.1 v'.2.1 v'.2.2)) (hr : ∀ r', o = .inr r' -> r' = r)
   (K1 : ∀ r3, r = r3 -> Am Hv P C F Aqf (Aa6 r1 r3 wi wn)) : Am Hv P C F Y1 (Zu a1 r1 wi wn v11 v12 v13) := by
 unfold Em at h
 rcases Ad h with ⟨b6, h⟩ | ⟨b6, h⟩
 · obtain ⟨c17, c18, h⟩ := ns2 h
   rcases Ad h with ⟨b7, h⟩ | ⟨b7, h⟩
   · obtain ⟨c19, h⟩ := Ao h
     exact sg G [r0, bt, r0, r0, bt, r0, au, wk [0, 1, 9, 11, 14, 17] [1000000]] (aa b6 <| aa c17 <| aa c18 <| aa b7 <| aa c19 <| tt) (Al3 G E h hl hr K1)
   · exact sg G [r0, bt, r0, r0, bf, au, wk [0, 1, 9, 11, 14, 17] [1000000]] (aa b6 <| aa c17 <| aa c18 <| aa b7 <| tt) (Al3 G E h hl hr K1)
 · exact sg G [r0, bf, au, wk [0, 11] [1000000]] (aa b6 <| tt) (K1 _ (hr _ (si h)).symm)
theorem Bap (G : Ay Hv P) {y a0 wi wn a1 a2 a3} (E : Am9 wi wn C F y) (h : Dk a0 wi wn a1 a2 a3 = some y) : Am Hv P C F A0i (A64 a0 wi wn a1 a2 a3) := by
 unfold Dk at h
 obtain ⟨c1, c2, c3, c4, h⟩ := ns4 h
 obtain ⟨c5, h⟩ := Ao h
 obtain ⟨c6, h⟩ := Ao h
 obtain ⟨r1, hi, h⟩ := bind_some h
 have K1 : ∀ q, r1 = q -> Am Hv P C F Ar6 (Ahx a0 a1 q wi wn) := by
   rintro q rfl
   obtain ⟨r2, hi, h⟩ := bind_some h
   have K1 : ∀ q, r2 = q -> Am Hv P C F Aie (Zi a1 r1 q wi wn) := by
     rintro q rfl
     rcases Ad h with ⟨b5, h⟩ | ⟨b5, h⟩
     · have e := sj h; subst e
       exact sw G E [r0, bt, r0, au] (aa b5 <| tt)
     · obtain ⟨r3, hi, h⟩ := bind_some h
       have K1 : ∀ q, r3 = q -> Am Hv P C F Aqf (Aa6 r1 q wi wn) := by
         rintro q rfl
         have e := sj h; subst e
         exact sw G E [r0, au] tt
       exact sg G [r0, bf, r0, r0, en, wk [0, 1, 9, 11, 14, 17] [1000000]] (aa b5 <| tt) (Az (V := Hv) (F := F) (k := Y1) (S := λ v => Zu a1 r1 wi wn v.1 v.2.1 v.2.2) (λ v o h hl hr => Au2 G E h hl hr K1) _ hi)
   exact sg G [r0, r0, en, wk [0, 1, 9, 11, 13, 14, 15] [1000000]] tt (Az (V := Hv) (F := F) (k := Yx) (S := λ v => Aa1 a1 r1 wi wn v.1 v.2.1 v.2.2.1 v.2.2.2) (λ v o h hl hr => Avh G E h hl hr K1) _ hi)
 exact sg G [r0, r0, r0, r0, r0, en, wk [0, 1, 2, 3, 9, 11, 12] [1000000]] (aa c1 <| aa c2 <| aa c3 <| aa c4 <| aa c5 <| aa c6 <| tt) (Az (V := Hv) (F := F) (k := Amc) (S := λ v => Afv a0 a1 a2 a3 wi wn v.1 v.2) (λ v o h hl hr => Auh G E h hl hr K1) _ hi)
noncomputable def Arf : FW yaE := ⟨115, (.int .u32), [(.sl (.int .u32)), (.int .u64), (.int .u64)], [(.int .u32)], λ xs i n x => Option.map (λ r => (r.1, (r.2, ()))) (Dk xs i n x.1 x.2.1 x.2.2.1)⟩
theorem Aqs : Ze yaT T6 Nx Try.prog 97 Arf :=
 And (V := Hv) (GB trivial trivial) rfl (c := Try.f97.body.getD .skip) (fn := Try.f97) (by kernel_rfl) (by kernel_rfl) (by kernel_rfl) (by kernel_rfl) λ xs i n x ys y h C F E => by
   obtain ⟨a1, a2, a3, u⟩ := x
   have h : Option.map (λ r => (r.1, (r.2, ()))) (Dk xs i n a1 a2 a3) = some (ys, y) := h
   obtain ⟨z, hz, e⟩ := Option.map_eq_some_iff.1 h
   cases e
   rw [show R6 Hv Try.f97.ntmps Arf xs i n (a1, a2, a3, u) = A64 xs i n a1 a2 a3 by kernel_rfl]
   exact Bap (GB trivial trivial) E hz
noncomputable abbrev Jf : Env := EV [(86, Y6), (89, Aoq), (95, Asr), (96, Axh)] [(97, Arf)] false
noncomputable def Api : List Item := [.code (Try.f84.body.getD .skip)]
noncomputable def Alw := ctl [.reg, .reg, .br false, .reg, .br true, .reg, .reg, .reg, .enter] Api
noncomputable def Axd := ctl [.reg, .br false, .auto] Alw
noncomputable def Alk := ctl [.reg, .reg, .br false, .reg, .br false, .reg, .reg, .reg, .reg, .reg, .enter] Api
noncomputable def Ar4 := ctl [.reg, .br false, .auto] Alk
noncomputable def Zc := ctl [.reg, .reg, .enter] Ar4
noncomputable def Bay := ctl [.reg, .br true, .reg, .reg, .br true, .reg, .auto] Zc
noncomputable def Apu := ctl [.reg, .br false, .auto] Zc
abbrev Aro (C : Ctx) (F : Act -> World -> Prop) (y : ((List Int) × (List Int))) : Prop := Bz Jf C F Try.f84.results.toList [] [(.sl (.int .u32)), (.sl (.int .u32))] (y.1, y.2, ())
noncomputable def Aip (r1 : (Int × (List Int))) : ST := ⟨164, [(6, ol (.ar 29 0)), (7, ol (.int .u64 r1.1))], [(29, .arr 115 (.int .u32) r1.2 0 false)]⟩
noncomputable def Ah1 (r2 : ((List Int) × (List Int))) (y4 : Int) : ST := ⟨164, [(10, ol (.int .u64 (IntKind.wrap .u64 y4))), (11, ol (.ar 77 0)), (13, ol (.ar 87 0))], [(77, .arr 115 (.int .u32) r2.1 0 false), (87, .arr 115 (.int .u32) r2.2 0 false)]⟩
noncomputable def Z7 (r2 : ((List Int) × (List Int))) (r3 : List Int) : ST := ⟨164, [(13, ol (.ar 87 0)), (17, ol (.ar 125 0))], [(87, .arr 115 (.int .u32) r2.2 0 false), (125, .arr 115 (.int .u32) r3 0 false)]⟩
noncomputable def Ae6 (a0 : List Int) (a1 : List Int) (v1 : Int) (v2 : Int) (v3 : List Int) : ST := ⟨164, [(0, ol (.sl (.int .u32) false a0)), (1, ol (.sl (.int .u32) false a1)), (6, ol (.ar 29 0)), (7, ol (.int .u64 v1)), (8, oi v2)], [(29, .arr 115 (.int .u32) v3 0 false)]⟩
noncomputable def Ae7 (y4 : Int) (y7 : List Int) (v6 : Int) (v7 : Int) (v8 : Int) (v9 : List Int) (v10 : List Int) : ST := ⟨164, [(10, ol (.int .u64 (IntKind.wrap .u64 y4))), (11, ol (.ar 77 0)), (12, ol (.sl (.int .u32) false y7)), (13, ol (.ar 87 0)), (14, ol (.int .u64 v6)), (15, ol (.int .u64 v7)), (16, oi v8)], [(77, .arr 115 (.int .u32) v9 0 false), (87, .arr 115 (.int .u32) v10 0 false)]⟩
noncomputable def A3a (v13 : Int) (v15 : List Int) (r2 : ((List Int) × (List Int))) (y4 : Int) : ST := ⟨164, [(10, ol (.int .u64 (IntKind.wrap .u64 y4))), (13, ol (.ar 87 0)), (17, ol (.ar 125 0)), (18, oi v13)], [(87, .arr 115 (.int .u32) r2.2 0 false), (125, .arr 115 (.int .u32) v15 0 false)]⟩
noncomputable def Z2 (r2 : ((List Int) × (List Int))) (y4 : Int) (v13 : Int) (v14 : List Int) : ST := ⟨164, [(10, ol (.int .u64 (IntKind.wrap .u64 y4))), (13, ol (.ar 87 0)), (17, ol (.ar 125 0)), (18, oi v13)], [(87, .arr 115 (.int .u32) r2.2 0 false), (125, .arr 115 (.int .u32) v14 0 false)]⟩
noncomputable def A41 (a0 : List Int) (a1 : List Int) : ST := ⟨164, [(0, ol (.sl (.int .u32) false a0)), (1, ol (.sl (.int .u32) false a1))], []⟩
theorem Awz (G : Ay Jf P) {y o r a0 a1 v1 v2 v3} (E : Aro C F y) (h : D4 a0 a1 v1 v2 v3 = some o)
   (hl : ∀ v', o = .inl v' -> Am Jf P C F Alw (Ae6 a0 a1 v'.1 v'.2.1 v'.2.2)) (hr : ∀ r', o = .inr r' -> r' = r)
   (K1 : ∀ r1, r = r1 -> Am Jf P C F Axd (Aip r1)) : Am Jf P C F Alw (Ae6 a0 a1 v1 v2 v3) := by
 unfold D4 at h
 rcases Ad h with ⟨b3, h⟩ | ⟨b3, h⟩
 · obtain ⟨c5, c6, h⟩ := ns2 h
   obtain ⟨c7, c8, c9, h⟩ := ns3 h
   obtain ⟨c10, c11, h⟩ := ns2 h
   exact sg G [r0, bt, r0, r0, r0, r0, en, wk [0, 1, 6, 7, 8] [29]] (aa b3 <| aa c5 <| aa c6 <| aa c7 <| aa c8 <| aa c9 <| aa c10 <| aa c11 <| tt) (hl _ (si h))
 · exact sg G [r0, bf, au, wk [6, 7] [29]] (aa b3 <| tt) (K1 _ (hr _ (si h)).symm)
theorem Auy (G : Ay Jf P) {y o r y4 y7 v6 v7 v8 v9 v10} (E : Aro C F y) (h : D7 y4 y7 v6 v7 v8 v9 v10 = some o)
   (hl : ∀ v', o = .inl v' -> Am Jf P C F Alk (Ae7 y4 y7 v'.1 v'.2.1 v'.2.2.1 v'.2.2.2.1 v'.2.2.2.2)) (hr : ∀ r', o = .inr r' -> r' = r)
   (K1 : ∀ r2, r = r2 -> Am Jf P C F Ar4 (Ah1 r2 y4)) : Am Jf P C F Alk (Ae7 y4 y7 v6 v7 v8 v9 v10) := by
 unfold D7 at h
 rcases Ad h with ⟨b4, h⟩ | ⟨b4, h⟩
 · obtain ⟨c24, c25, c26, h⟩ := ns3 h
   obtain ⟨y8, c27, h⟩ := bind_some h
   obtain ⟨c28, c29, h⟩ := ns2 h
   exact sg G [r0, bt, .reg [(13, .res ⟨[(.sl (.int .u32)), (.int .u32)], (y8.1, (y8.2, ()))⟩)], r0, en, wk [10, 11, 12, 13, 14, 15, 16] [77, 87]] (aa b4 <| aa c24 <| aa c25 <| aa c26 <| aa (congrArg (Option.map (λ r => (r.1, (r.2, ())))) c27) <| aa c28 <| aa c29 <| tt) (hl _ (si h))
 · exact sg G [r0, bf, au, wk [10, 11, 13] [77, 87]] (aa b4 <| tt) (K1 _ (hr _ (si h)).symm)
theorem Al8 (G : Ay Jf P) {y o r v13 v15 r2 y4} (E : Aro C F y) (h : C6 v13 v15 r2 y4 = some o)
   (hl : ∀ v', o = .inl v' -> Am Jf P C F Zc (Z2 r2 y4 v'.1 v'.2)) (hr : ∀ r', o = .inr r' -> r' = r)
   (K1 : ∀ r3, r = r3 -> Am Jf P C F Apu (Z7 r2 r3)) : Am Jf P C F Bay (A3a v13 v15 r2 y4) := by
 unfold C6 at h
 exact sg G [r0, en, wk [10, 13, 17, 18] [87, 125]] tt (hl _ (si h))
theorem Aub (G : Ay Jf P) {y o r r2 y4 v13 v14} (E : Aro C F y) (h : D3 r2 y4 v13 v14 = some o)
   (hl : ∀ v', o = .inl v' -> Am Jf P C F Zc (Z2 r2 y4 v'.1 v'.2)) (hr : ∀ r', o = .inr r' -> r' = r)
   (K1 : ∀ r3, r = r3 -> Am Jf P C F Apu (Z7 r2 r3)) : Am Jf P C F Zc (Z2 r2 y4 v13 v14) := by
 unfold D3 at h
 rcases Ad h with ⟨b5, h⟩ | ⟨b5, h⟩
 · obtain ⟨c31, c32, c33, h⟩ := ns3 h
   rcases Ad h with ⟨b6, h⟩ | ⟨b6, h⟩
   · obtain ⟨c34, c35, c36, c37, h⟩ := ns4 h
     exact sg G [r0, bt, r0, r0, bt, r0, au, wk [10, 13, 17, 18] [87, 125]] (aa b5 <| aa c31 <| aa c32 <| aa c33 <| aa b6 <| aa c34 <| aa c35 <| aa c36 <| aa c37 <| tt) (Al8 G E h hl hr K1)
   · exact sg G [r0, bt, r0, r0, bf, au, wk [10, 13, 17, 18] [87, 125]] (aa b5 <| aa c31 <| aa c32 <| aa c33 <| aa b6 <| tt) (Al8 G E h hl hr K1)
 · exact sg G [r0, bf, au, wk [13, 17] [87, 125]] (aa b5 <| tt) (K1 _ (hr _ (si h)).symm)
theorem Bcv (G : Ay Jf P) {y a0 a1} (E : Aro C F y) (h : Cn a0 a1 = some y) : Am Jf P C F Api (A41 a0 a1) := by
 unfold Cn at h
 obtain ⟨y1, c1, h⟩ := bind_some h
 rcases Ad h with ⟨b1, h⟩ | ⟨b1, h⟩
 · have e := sj h; subst e
   exact se G E [r0, .reg [(2, .res ⟨[(.int .i64)], (y1, ())⟩)], bt, r0, au] (aa (ca c1) <| aa b1 <| tt)
 · rcases Ad h with ⟨b2, h⟩ | ⟨b2, h⟩
   · obtain ⟨c2, c3, c4, h⟩ := ns3 h
     obtain ⟨r1, hi, h⟩ := bind_some h
     have K1 : ∀ q, r1 = q -> Am Jf P C F Axd (Aip q) := by
       rintro q rfl
       obtain ⟨y2, c12, h⟩ := bind_some h
       obtain ⟨y3, c13, h⟩ := bind_some h
       have e := sj h; subst e
       exact se G E [.reg [(1, .res ⟨[(.sl (.int .u32))], (y2, ())⟩), (4, .lit), (5, .res ⟨[(.sl (.int .u32))], (y3, ())⟩)], au, .weak [.fix (.slot 4), .fix (.slot 5)]] (aa (ca c12) <| aa (ca c13) <| tt)
     exact sg G [r0, .reg [(2, .res ⟨[(.int .i64)], (y1, ())⟩)], bf, r0, bt, r0, r0, r0, en, wk [0, 1, 6, 7, 8] [29]] (aa (ca c1) <| aa b1 <| aa b2 <| aa c2 <| aa c3 <| aa c4 <| tt) (Az (V := Jf) (F := F) (k := Alw) (S := λ v => Ae6 a0 a1 v.1 v.2.1 v.2.2) (λ v o h hl hr => Awz G E h hl hr K1) _ hi)
   · obtain ⟨c14, h⟩ := Ao h
     obtain ⟨y4, c15, h⟩ := bind_some h
     obtain ⟨y5, c16, h⟩ := bind_some h
     obtain ⟨y6, c17, h⟩ := bind_some h
     obtain ⟨y7, c18, h⟩ := bind_some h
     obtain ⟨c19, c20, c21, h⟩ := ns3 h
     obtain ⟨c22, c23, h⟩ := ns2 h
     obtain ⟨r2, hi, h⟩ := bind_some h
     have K1 : ∀ q, r2 = q -> Am Jf P C F Ar4 (Ah1 q y4) := by
       rintro q rfl
       obtain ⟨y9, c30, h⟩ := bind_some h
       obtain ⟨r3, hi, h⟩ := bind_some h
       have K1 : ∀ q, r3 = q -> Am Jf P C F Apu (Z7 r2 q) := by
         rintro q rfl
         obtain ⟨y10, c38, h⟩ := bind_some h
         obtain ⟨y11, c39, h⟩ := bind_some h
         have e := sj h; subst e
         exact se G E [.reg [(1, .res ⟨[(.sl (.int .u32))], (y10, ())⟩), (3, .res ⟨[(.sl (.int .u32))], (y11, ())⟩)], au, .weak [.fix (.slot 4), .fix (.slot 5)]] (aa (ca c38) <| aa (ca c39) <| tt)
       exact sg G [.reg [(1, .res ⟨[(.sl (.int .u32))], (y9, ())⟩)], r0, en, wk [10, 13, 17, 18] [87, 125]] (aa (ca c30) <| tt) (Az (V := Jf) (F := F) (k := Zc) (S := λ v => Z2 r2 y4 v.1 v.2) (λ v o h hl hr => Aub G E h hl hr K1) _ hi)
     exact sg G [r0, .reg [(2, .res ⟨[(.int .i64)], (y1, ())⟩)], bf, r0, bf, .reg [(6, .res ⟨[(.int .i64)], (y4, ())⟩)], .reg [(2, .res ⟨[(.sl (.int .u32))], (y5, ())⟩), (5, .res ⟨[(.sl (.int .u32))], (y6, ())⟩), (6, .res ⟨[(.sl (.int .u32))], (y7, ())⟩)], r0, r0, r0, en, .weak [.fix (.slot 12), .keep [10, 11, 12, 13, 14, 15, 16] [77, 87]]] (aa (ca c1) <| aa b1 <| aa b2 <| aa c14 <| aa (ca c15) <| aa (ca c16) <| aa (ca c17) <| aa (ca c18) <| aa c19 <| aa c20 <| aa c21 <| aa c22 <| aa c23 <| tt) (Az (V := Jf) (F := F) (k := Alk) (S := λ v => Ae7 y4 y7 v.1 v.2.1 v.2.2.1 v.2.2.2.1 v.2.2.2.2) (λ v o h hl hr => Auy G E h hl hr K1) _ hi)
noncomputable def Asf : FS yaE := ⟨[(.sl (.int .u32)), (.sl (.int .u32))], [(.sl (.int .u32)), (.sl (.int .u32))], [], [], λ x => Option.map (λ r => (r.1, r.2, ())) (Cn x.1 x.2.1)⟩
theorem Aen : MT 84 Asf := show Bh Jf _ _ _ from mt (fn := Try.f84) (S := λ x => A41 x.1 x.2.1) (GB ⟨Oy, Ad8, Ad7, An2, trivial⟩ ⟨Aqs, trivial⟩) λ G _ _ _ _ E h => Bcv G E h
noncomputable abbrev Xm : Env := EV [(84, Asf)] [] false
noncomputable def Aya : List Item := [.code (Try.f83.body.getD .skip)]
noncomputable def Ai3 := ctl [.reg, .enter] Aya
noncomputable def Axl := ctl [.reg, .br false, .auto] Ai3
abbrev Bcn (C : Ctx) (F : Act -> World -> Prop) (y : List Int) : Prop := Bz Xm C F Try.f83.results.toList [] [(.sl (.int .u32))] (y, ())
noncomputable def Aiz (r1 : List Int) : ST := ⟨19, [(0, ol (.sl (.int .u32) false r1))], []⟩
noncomputable def Afo (v1 : List Int) (v2 : List Int) : ST := ⟨19, [(0, ol (.sl (.int .u32) false v1)), (1, ol (.sl (.int .u32) false v2))], []⟩
noncomputable def Bb9 (a0 : List Int) (a1 : List Int) : ST := ⟨19, [(0, ol (.sl (.int .u32) false a0)), (1, ol (.sl (.int .u32) false a1))], []⟩
theorem Auf (G : Ay Xm P) {y o r v1 v2} (E : Bcn C F y) (h : Eu v1 v2 = some o)
   (hl : ∀ v', o = .inl v' -> Am Xm P C F Ai3 (Afo v'.1 v'.2)) (hr : ∀ r', o = .inr r' -> r' = r)
   (K1 : ∀ r1, r = r1 -> Am Xm P C F Axl (Aiz r1)) : Am Xm P C F Ai3 (Afo v1 v2) := by
 unfold Eu at h
 rcases Ad h with ⟨b1, h⟩ | ⟨b1, h⟩
 · obtain ⟨y1, c1, h⟩ := bind_some h
   exact sg G [r0, bt, .reg [(2, .res ⟨[(.sl (.int .u32)), (.sl (.int .u32))], (y1.1, y1.2, ())⟩)], r0, en, wk [0, 1] []] (aa b1 <| aa (cb c1) <| tt) (hl _ (si h))
 · exact sg G [r0, bf, au, wk [0] []] (aa b1 <| tt) (K1 _ (hr _ (si h)).symm)
theorem A60 (G : Ay Xm P) {y a0 a1} (E : Bcn C F y) (h : C4 a0 a1 = some y) : Am Xm P C F Aya (Bb9 a0 a1) := by
 unfold C4 at h
 obtain ⟨r1, hi, h⟩ := bind_some h
 have K1 : ∀ q, r1 = q -> Am Xm P C F Axl (Aiz q) := by
   rintro q rfl
   have e := sj h; subst e
   exact se G E [r0, au] tt
 exact sg G [r0, en, wk [0, 1] []] tt (Az (V := Xm) (F := F) (k := Ai3) (S := λ v => Afo v.1 v.2) (λ v o h hl hr => Auf G E h hl hr K1) _ hi)
noncomputable def Axn : FS yaE := ⟨[(.sl (.int .u32)), (.sl (.int .u32))], [(.sl (.int .u32))], [], [], λ x => Option.map (λ r => (r, ())) (C4 x.1 x.2.1)⟩
theorem Aop : MT 83 Axn := show Bh Xm _ _ _ from mt (fn := Try.f83) (S := λ x => Bb9 x.1 x.2.1) (GB ⟨Aen, trivial⟩ trivial) λ G _ _ _ _ E h => A60 G E h
noncomputable abbrev Xl : Env := EV [(56, Aii), (65, Akk), (82, Azt), (83, Axn), (84, Asf), (85, Ado)] [] false
noncomputable def Axe : List Item := [.code (Try.f53.body.getD .skip)]
noncomputable def Ay3 := ctl [.reg, .reg, .br false, .reg, .br true, .reg, .auto] Axe
noncomputable def Axg := ctl [.reg, .br false, .reg, .reg, .br true, .auto] Ay3
noncomputable def A7k := ctl [.reg, .reg, .reg, .auto] Axg
abbrev Avm (C : Ctx) (F : Act -> World -> Prop) (y : Ag) : Prop := Bz Xl C F Try.f53.results.toList [] [(.nm 7)] (y, ())
noncomputable def A3e (v5 : List Int) (v6 : Bool) (v7 : List Int) (v8 : Bool) : ST := ⟨61, [(2, ol (.ptr 2 0)), (3, ol (.ptr 3 0)), (4, ol (.ptr 4 0))], [(2, .cells [.sl (.int .u32) false v5, .bool v6]), (3, .cells [.sl (.int .u32) false v7, .bool v8]), (4, .cells [.sl (.int .u32) true [], .bool false, .sl (.int .u32) true [], .bool false])]⟩
noncomputable def A22 (v1 : List Int) (v2 : Bool) (v3 : List Int) (v4 : Bool) (y5 : List Int) : ST := ⟨61, [(2, ol (.ptr 2 0)), (3, ol (.ptr 3 0)), (4, ol (.ptr 4 0)), (5, ol (.sl (.int .u32) false y5))], [(2, .cells [.sl (.int .u32) false v1, .bool v2]), (3, .cells [.sl (.int .u32) false v3, .bool v4]), (4, .cells [.sl (.int .u32) true [], .bool false, .sl (.int .u32) true [], .bool false])]⟩
noncomputable def A3f (v1 : List Int) (v2 : Bool) (v3 : List Int) (v4 : Bool) : ST := ⟨61, [(2, ol (.ptr 2 0)), (3, ol (.ptr 3 0)), (4, ol (.ptr 4 0))], [(2, .cells [.sl (.int .u32) false v1, .bool v2]), (3, .cells [.sl (.int .u32) false v3, .bool v4]), (4, .cells [.sl (.int .u32) true [], .bool false, .sl (.int .u32) true [], .bool false])]⟩
noncomputable def A7g (a0 : Af) (a1 : Af) : ST := ⟨61, [(0, og (Bf a0)), (1, og (Bf a1))], []⟩
theorem Aj1 (G : Ay Xl P) {y v5 v6 v7 v8} (E : Avm C F y) (h : Db v5 v6 v7 v8 = some y) : Am Xl P C F A7k (A3e v5 v6 v7 v8) := by
 unfold Db at h
 have e := sj h; subst e
 exact se G E [r0, au] tt
theorem Aky (G : Ay Xl P) {y v1 v2 v3 v4 y5} (E : Avm C F y) (h : C5 v1 v2 v3 v4 y5 = some y) : Am Xl P C F Axg (A22 v1 v2 v3 v4 y5) := by
 unfold C5 at h
 obtain ⟨y6, c7, h⟩ := bind_some h
 obtain ⟨y7, c8, h⟩ := bind_some h
 obtain ⟨y8, c9, h⟩ := bind_some h
 obtain ⟨y9, c10, h⟩ := bind_some h
 exact sg G [.reg [(3, .res ⟨[(.sl (.int .u32)), (.sl (.int .u32))], (y6.1, y6.2, ())⟩)], .reg [(3, .res ⟨[(.sl (.int .u32)), (.sl (.int .u32))], (y7.1, y7.2, ())⟩)], .reg [(3, .res ⟨[(.nm 6)], (y8, ())⟩), (5, .res ⟨[(.nm 6)], (y9, ())⟩)], au, wk [2, 3, 4] [2, 3, 4]] (aa (cb c7) <| aa (cb c8) <| aa (ca c9) <| aa (ca c10) <| tt) (Aj1 G E h)
theorem Ajo (G : Ay Xl P) {y v1 v2 v3 v4} (E : Avm C F y) (h : Da v1 v2 v3 v4 = some y) : Am Xl P C F Ay3 (A3f v1 v2 v3 v4) := by
 unfold Da at h
 obtain ⟨y4, c4, h⟩ := bind_some h
 rcases Ad h with ⟨b3, h⟩ | ⟨b3, h⟩
 · have e := sj h; subst e
   exact se G E [.reg [(1, .res ⟨[.bool], (y4, ())⟩)], bt, r0, au] (aa (ca c4) <| aa b3 <| tt)
 · obtain ⟨y5, c5, h⟩ := bind_some h
   rcases Ad h with ⟨b4, h⟩ | ⟨b4, h⟩
   · exact sg G [.reg [(1, .res ⟨[.bool], (y4, ())⟩)], bf, .reg [(4, .res ⟨[(.sl (.int .u32))], (y5, ())⟩)], .reg [(3, oT), (8, oT)], bt, au, wk [2, 3, 4, 5] [2, 3, 4]] (aa (ca c4) <| aa b3 <| aa (ca c5) <| aa b4 <| aa b4 <| aa b4 <| aa b4 <| aa b4 <| aa (show true = true from rfl) <| tt) (Aky G E h)
   · obtain ⟨c6, h⟩ := Ao h
     rcases Ad h with ⟨b5, h⟩ | ⟨b5, h⟩
     · exact sg G [.reg [(1, .res ⟨[.bool], (y4, ())⟩)], bf, .reg [(4, .res ⟨[(.sl (.int .u32))], (y5, ())⟩)], .reg [(3, oF), (8, oF)], bt, au, wk [2, 3, 4, 5] [2, 3, 4]] (aa (ca c4) <| aa b3 <| aa (ca c5) <| aa b4 <| aa b4 <| aa c6 <| aa b4 <| aa b4 <| aa b4 <| aa b5 <| tt) (Aky G E h)
     · exact sg G [.reg [(1, .res ⟨[.bool], (y4, ())⟩)], bf, .reg [(4, .res ⟨[(.sl (.int .u32))], (y5, ())⟩)], .reg [(3, oF), (8, oF)], bf, au, wk [2, 3, 4] [2, 3, 4]] (aa (ca c4) <| aa b3 <| aa (ca c5) <| aa b4 <| aa b4 <| aa c6 <| aa b4 <| aa b4 <| aa b4 <| aa b5 <| tt) (Aj1 G E h)
theorem A62 (G : Ay Xl P) {y a0 a1} (E : Avm C F y) (h : Ca a0 a1 = some y) : Am Xl P C F Axe (A7g a0 a1) := by
 unfold Ca at h
 obtain ⟨y1, c1, h⟩ := bind_some h
 rcases Ad h with ⟨b1, h⟩ | ⟨b1, h⟩
 · have e := sj h; subst e
   exact se G E [r0, .reg [(1, .res ⟨[.bool], (y1, ())⟩)], bt, r0, au] (aa (ca c1) <| aa b1 <| tt)
 · rcases Ad h with ⟨b2, h⟩ | ⟨b2, h⟩
   · obtain ⟨y2, c2, h⟩ := bind_some h
     obtain ⟨y3, c3, h⟩ := bind_some h
     exact sg G [r0, .reg [(1, .res ⟨[.bool], (y1, ())⟩)], bf, r0, bt, .reg [(1, .res ⟨[(.nm 6)], (y2, ())⟩), (3, .res ⟨[(.nm 6)], (y3, ())⟩)], au, wk [2, 3, 4] [2, 3, 4]] (aa (ca c1) <| aa b1 <| aa b2 <| aa (ca c2) <| aa (ca c3) <| tt) (Ajo G E h)
   · exact sg G [r0, .reg [(1, .res ⟨[.bool], (y1, ())⟩)], bf, r0, bf, au, wk [2, 3, 4] [2, 3, 4]] (aa (ca c1) <| aa b1 <| aa b2 <| tt) (Ajo G E h)
noncomputable def Aez : FS yaE := ⟨[(.nm 6), (.nm 6)], [(.nm 7)], [], [], λ x => Option.map (λ r => (r, ())) (Ca x.1 x.2.1)⟩
theorem R0 : MT 53 Aez := show Bh Xl _ _ _ from mt (fn := Try.f53) (S := λ x => A7g x.1 x.2.1) (GB ⟨Wf, Wo, Aq3, Aop, Aen, Ro, trivial⟩ trivial) λ G _ _ _ _ E h => A62 G E h
noncomputable abbrev Aml : Env := EV [(86, Y6)] [] false
noncomputable def Aye : List Item := [.code (Try.f54.body.getD .skip)]
noncomputable def A9h := ctl [.reg, .reg, .reg, .br true, .reg, .auto] Aye
abbrev Bb7 (C : Ctx) (F : Act -> World -> Prop) (y : Af) : Prop := Bz Aml C F Try.f54.results.toList [] [(.nm 6)] (y, ())
noncomputable def A1l (a0 : Int) (v1 : Int) : ST := ⟨20, [(0, oi a0), (2, ol (.ptr 2 0)), (3, ol (.int .u64 v1))], [(2, .cells [.sl (.int .u32) true [], .bool false])]⟩
noncomputable def A83 (a0 : Int) : ST := ⟨20, [(0, oi a0)], []⟩
theorem Akb (G : Ay Aml P) {y a0 v1} (E : Bb7 C F y) (h : C9 a0 v1 = some y) : Am Aml P C F A9h (A1l a0 v1) := by
 unfold C9 at h
 obtain ⟨c1, h⟩ := Ao h
 obtain ⟨y1, c2, h⟩ := bind_some h
 have e := sj h; subst e
 exact se G E [.reg [(5, .lit), (6, .res ⟨[(.sl (.int .u32))], (y1, ())⟩)], au, .weak [.fix (.cell 2)]] (aa c1 <| aa (ca c2) <| tt)
theorem A91 (G : Ay Aml P) {y a0} (E : Bb7 C F y) (h : Co a0 = some y) : Am Aml P C F Aye (A83 a0) := by
 unfold Co at h
 rcases Ad h with ⟨b1, h⟩ | ⟨b1, h⟩
 · exact sg G [r0, r0, r0, bt, r0, au, wk [0, 2, 3] [2]] (aa b1 <| tt) (Akb G E h)
 · exact sg G [r0, r0, r0, bf, au, wk [0, 2, 3] [2]] (aa b1 <| tt) (Akb G E h)
noncomputable def Ase : FS yaE := ⟨[(.int .i64)], [(.nm 6)], [], [], λ x => Option.map (λ r => (r, ())) (Co x.1)⟩
theorem Ac0 : MT 54 Ase := show Bh Aml _ _ _ from mt (fn := Try.f54) (S := λ x => A83 x.1) (GB ⟨Oy, trivial⟩ trivial) λ G _ _ _ _ E h => A91 G E h
noncomputable abbrev Au5 : Env := EV [(53, Aez), (54, Ase)] [] false
noncomputable def Bah : List Item := [.code (Try.f24.body.getD .skip)]
abbrev Bd9 (C : Ctx) (F : Act -> World -> Prop) (y : Ag) : Prop := Bz Au5 C F Try.f24.results.toList [] [(.nm 7)] (y, ())
noncomputable def A88 (a0 : A7) : ST := ⟨10, [(0, og (Gn a0))], []⟩
theorem A46 (G : Ay Au5 P) {y a0} (E : Bd9 C F y) (h : Dw a0 = some y) : Am Au5 P C F Bah (A88 a0) := by
 unfold Dw at h
 obtain ⟨y1, c1, h⟩ := bind_some h
 obtain ⟨y2, c2, h⟩ := bind_some h
 obtain ⟨y3, c3, h⟩ := bind_some h
 have e := sj h; subst e
 exact se G E [r0, .reg [(2, .res ⟨[(.nm 6)], (y1, ())⟩), (5, .res ⟨[(.nm 6)], (y2, ())⟩), (6, .res ⟨[(.nm 7)], (y3, ())⟩)], au] (aa (ca c1) <| aa (ca c2) <| aa (ca c3) <| tt)
noncomputable def Azk : FS yaE := ⟨[(.nm 0)], [(.nm 7)], [], [], λ x => Option.map (λ r => (r, ())) (Dw x.1)⟩
theorem Aqd : MT 24 Azk := show Bh Au5 _ _ _ from mt (fn := Try.f24) (S := λ x => A88 x.1) (GB ⟨R0, Ac0, trivial⟩ trivial) λ G _ _ _ _ E h => A46 G E h
noncomputable abbrev Avl : Env := EV [] [] false
noncomputable def A9o : List Item := [.code (Try.f87.body.getD .skip)]
abbrev Bdj (C : Ctx) (F : Act -> World -> Prop) (y : Af) : Prop := Bz Avl C F Try.f87.results.toList [] [(.nm 6)] (y, ())
noncomputable def Bch : ST := ⟨3, [], []⟩
theorem Bcz (G : Ay Avl P) {y} (E : Bdj C F y) (h : C8 = some y) : Am Avl P C F A9o Bch := by
 unfold C8 at h
 have e := sj h; subst e
 exact se G E [r0, r0, au] tt
noncomputable def Ap6 : FS yaE := ⟨[], [(.nm 6)], [], [], λ x => Option.map (λ r => (r, ())) C8⟩
theorem Aeo : MT 87 Ap6 := show Bh Avl _ _ _ from mt (fn := Try.f87) (S := λ _ => Bch) (GB trivial trivial) λ G _ _ _ _ E h => Bcz G E h
end
end Go.Ab
