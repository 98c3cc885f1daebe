/- The functions compute what the plain functions tell. Conditions: none beyond those that each theorem names. -/
import Derived.Test.YtjdgmcngpiookaaK14
namespace Go.Ab
open Go Go.Proofs
set_option linter.unusedVariables false
section
variable {P : Program} {C : Ctx} {F : Act → World → Prop}
noncomputable abbrev w52V : Env := EV [(17, w17FS), (19, w19FS), (30, w30FS), (31, w31FS), (32, w32FS), (48, w48FS), (81, w81FS)] [] false
noncomputable def w52P0 : List Item := [.code (Try.f52.body.getD .skip)]
noncomputable def w52P1 : List Item := ctl [.reg, .reg, .reg, .reg, .reg, .enter] w52P0
noncomputable def w52P2 : List Item := ctl [.reg, .br true, .reg, .reg, .enter] w52P1
noncomputable def w52P3 : List Item := ctl [.reg, .br false, .auto] w52P2
noncomputable def w52P4 : List Item := ctl [.reg, .br false, .reg, .br true, .reg, .reg, .auto] w52P3
noncomputable def w52P5 : List Item := ctl [.reg, .reg, .reg, .enter] w52P4
noncomputable def w52P6 : List Item := ctl [.reg, .br false, .auto] w52P5
noncomputable def w52P7 : List Item := ctl [.reg, .enter] w52P6
noncomputable def w52P8 : List Item := ctl [.reg, .br true, .reg, .reg, .reg, .br true, .auto] w52P7
noncomputable def w52P9 : List Item := ctl [.reg, .br true, .reg, .reg, .reg, .br false, .reg, .enter] w52P7
noncomputable def w52P10 : List Item := ctl [.reg, .br true, .reg, .reg, .br true, .reg, .auto] w52P9
noncomputable def w52P11 : List Item := ctl [.reg, .br false, .auto] w52P7
noncomputable def w52P12 : List Item := ctl [.reg, .br false, .auto] w52P1
noncomputable def w52L2S (a1 : Int) (v1 : Int) (v2 : Int) (v3 : (List Int)) (v4 : Bool) (v5 : Int) (v6 : (List Int)) (v7 : Bool) (v8 : (List Int)) (v9 : (List (List NumQ))) (y1 : QmM) (v10 : Int) (v11 : Bool) : Ab.St yaE := ⟨196, [(1, oi a1), (4, ol (.ptr 4 0)), (6, ol (.ptr 6 0)), (7, ol (.ptr 7 0)), (8, ol (.ar 192 0)), (9, ol (.ptr 9 0)), (10, oi v1), (11, oi ((v8.length : Nat) : Int)), (12, oi v10), (25, ol (.ar 192 0)), (26, oi ((v8.length : Nat) : Int)), (27, ol (.ptr 7 1)), (28, ol (.ar 1019 0)), (29, oi ((v9.length : Nat) : Int)), (30, ol (.bool v11))], [(4, .cells [.int .i64 (0 : Int), .sl (.sl (.nm 4)) true []]), (6, .cells [.int .i64 (0 : Int), .sl (.int .u32) true [], .bool false, .int .i64 (0 : Int), .sl (.int .u32) true [], .bool false]), (7, .cells [.int .i64 y1.C, .ar 1019 0]), (9, .cells [.int .i64 v2, .sl (.int .u32) true v3, .bool v4, .int .i64 v5, .sl (.int .u32) true v6, .bool v7]), (192, .arr 3 (.int .i64) v8 0 false), (1019, .rows 48 53 (.nm 4) v9 0 0 .opn)]⟩
noncomputable def w52L3S (a1 : Int) (v1 : Int) (v8 : (List Int)) (v9 : (List (List NumQ))) (r1 : (Int × Bool)) (y1 : QmM) (y5 : NumQ) (v21 : Int) (v22 : Int) (v23 : Int) (v24 : (List Int)) (v25 : Bool) (v26 : Int) (v27 : (List Int)) (v28 : Bool) (v29 : (List (List NumQ))) : Ab.St yaE := ⟨196, [(1, oi a1), (4, ol (.ptr 4 0)), (6, ol (.ptr 6 0)), (7, ol (.ptr 7 0)), (8, ol (.ar 192 0)), (9, ol (.ptr 9 0)), (10, oi v1), (11, oi ((v8.length : Nat) : Int)), (13, ol (.ptr 13 0)), (25, ol (.ar 192 0)), (26, oi ((v8.length : Nat) : Int)), (27, ol (.ptr 7 1)), (28, ol (.ar 1019 0)), (29, oi ((v9.length : Nat) : Int)), (30, ol (.bool r1.2)), (99, oi v21), (100, oi v22)], [(4, .cells [.int .i64 (0 : Int), .sl (.sl (.nm 4)) true []]), (6, .cells [.int .i64 (0 : Int), .sl (.int .u32) true [], .bool false, .int .i64 (0 : Int), .sl (.int .u32) true [], .bool false]), (7, .cells [.int .i64 y1.C, .ar 1019 0]), (9, .cells [.int .i64 y5.N.v, .sl (.int .u32) true y5.N.m, .bool y5.N.neg, .int .i64 y5.D.v, .sl (.int .u32) true y5.D.m, .bool y5.D.neg]), (13, .cells [.int .i64 v23, .sl (.int .u32) true v24, .bool v25, .int .i64 v26, .sl (.int .u32) true v27, .bool v28]), (192, .arr 3 (.int .i64) v8 0 false), (1019, .rows 48 53 (.nm 4) v29 0 0 .opn)]⟩
noncomputable def w52J2S (a1 : Int) (v1 : Int) (v8 : (List Int)) (v9 : (List (List NumQ))) (v31 : Int) (v32 : (List (List NumQ))) (r1 : (Int × Bool)) (r2 : (List (List NumQ))) (y1 : QmM) (y5 : NumQ) : Ab.St yaE := ⟨196, [(1, oi a1), (4, ol (.ptr 4 0)), (6, ol (.ptr 6 0)), (7, ol (.ptr 7 0)), (8, ol (.ar 192 0)), (9, ol (.ptr 9 0)), (10, oi v1), (11, oi ((v8.length : Nat) : Int)), (25, ol (.ar 192 0)), (26, oi ((v8.length : Nat) : Int)), (27, ol (.ptr 7 1)), (28, ol (.ar 1019 0)), (29, oi ((v9.length : Nat) : Int)), (30, ol (.bool r1.2)), (123, oi ((r2.length : Nat) : Int)), (124, oi v31)], [(4, .cells [.int .i64 (0 : Int), .sl (.sl (.nm 4)) true []]), (6, .cells [.int .i64 (0 : Int), .sl (.int .u32) true [], .bool false, .int .i64 (0 : Int), .sl (.int .u32) true [], .bool false]), (7, .cells [.int .i64 y1.C, .ar 1019 0]), (9, .cells [.int .i64 y5.N.v, .sl (.int .u32) true y5.N.m, .bool y5.N.neg, .int .i64 y5.D.v, .sl (.int .u32) true y5.D.m, .bool y5.D.neg]), (192, .arr 3 (.int .i64) v8 0 false), (1019, .rows 48 53 (.nm 4) v32 0 0 .opn)]⟩
noncomputable def w52J3S (a1 : Int) (v1 : Int) (v8 : (List Int)) (v9 : (List (List NumQ))) (v31 : Int) (v32 : (List (List NumQ))) (v33 : NumQ) (v34 : Int) (v35 : Int) (v36 : (List Int)) (v37 : Bool) (v38 : Int) (v39 : (List Int)) (v40 : Bool) (v42 : (List (List NumQ))) (r1 : (Int × Bool)) (r2 : (List (List NumQ))) (y1 : QmM) (y5 : NumQ) (y7 : Bool) : Ab.St yaE := ⟨196, [(1, oi a1), (4, ol (.ptr 4 0)), (6, ol (.ptr 6 0)), (7, ol (.ptr 7 0)), (8, ol (.ar 192 0)), (9, ol (.ptr 9 0)), (10, oi v1), (11, oi ((v8.length : Nat) : Int)), (15, oi v31), (16, ol (.ptr 16 0)), (25, ol (.ar 192 0)), (26, oi ((v8.length : Nat) : Int)), (27, ol (.ptr 7 1)), (28, ol (.ar 1019 0)), (29, oi ((v9.length : Nat) : Int)), (30, ol (.bool r1.2)), (123, oi ((r2.length : Nat) : Int)), (124, oi v31), (139, og (yaToNumQ v33)), (140, ol (.bool y7)), (147, oi (((List.getD v32 v31.toNat []).length : Nat) : Int)), (148, oi v34)], [(4, .cells [.int .i64 (0 : Int), .sl (.sl (.nm 4)) true []]), (6, .cells [.int .i64 (0 : Int), .sl (.int .u32) true [], .bool false, .int .i64 (0 : Int), .sl (.int .u32) true [], .bool false]), (7, .cells [.int .i64 y1.C, .ar 1019 0]), (9, .cells [.int .i64 y5.N.v, .sl (.int .u32) true y5.N.m, .bool y5.N.neg, .int .i64 y5.D.v, .sl (.int .u32) true y5.D.m, .bool y5.D.neg]), (16, .cells [.int .i64 v35, .sl (.int .u32) true v36, .bool v37, .int .i64 v38, .sl (.int .u32) true v39, .bool v40]), (192, .arr 3 (.int .i64) v8 0 false), (1019, .rows 48 53 (.nm 4) v42 0 0 .opn)]⟩
noncomputable def w52L5S (a1 : Int) (v1 : Int) (v8 : (List Int)) (v9 : (List (List NumQ))) (v31 : Int) (v32 : (List (List NumQ))) (r1 : (Int × Bool)) (r2 : (List (List NumQ))) (y1 : QmM) (y5 : NumQ) (y7 : Bool) (v33 : NumQ) (v34 : Int) (v35 : Int) (v36 : (List Int)) (v37 : Bool) (v38 : Int) (v39 : (List Int)) (v40 : Bool) (v41 : (List (List NumQ))) : Ab.St yaE := ⟨196, [(1, oi a1), (4, ol (.ptr 4 0)), (6, ol (.ptr 6 0)), (7, ol (.ptr 7 0)), (8, ol (.ar 192 0)), (9, ol (.ptr 9 0)), (10, oi v1), (11, oi ((v8.length : Nat) : Int)), (15, oi v31), (16, ol (.ptr 16 0)), (25, ol (.ar 192 0)), (26, oi ((v8.length : Nat) : Int)), (27, ol (.ptr 7 1)), (28, ol (.ar 1019 0)), (29, oi ((v9.length : Nat) : Int)), (30, ol (.bool r1.2)), (123, oi ((r2.length : Nat) : Int)), (124, oi v31), (139, og (yaToNumQ v33)), (140, ol (.bool y7)), (147, oi (((List.getD v32 v31.toNat []).length : Nat) : Int)), (148, oi v34)], [(4, .cells [.int .i64 (0 : Int), .sl (.sl (.nm 4)) true []]), (6, .cells [.int .i64 (0 : Int), .sl (.int .u32) true [], .bool false, .int .i64 (0 : Int), .sl (.int .u32) true [], .bool false]), (7, .cells [.int .i64 y1.C, .ar 1019 0]), (9, .cells [.int .i64 y5.N.v, .sl (.int .u32) true y5.N.m, .bool y5.N.neg, .int .i64 y5.D.v, .sl (.int .u32) true y5.D.m, .bool y5.D.neg]), (16, .cells [.int .i64 v35, .sl (.int .u32) true v36, .bool v37, .int .i64 v38, .sl (.int .u32) true v39, .bool v40]), (192, .arr 3 (.int .i64) v8 0 false), (1019, .rows 48 53 (.nm 4) v41 0 0 .opn)]⟩
noncomputable def w52L4S (a1 : Int) (v1 : Int) (v8 : (List Int)) (v9 : (List (List NumQ))) (r1 : (Int × Bool)) (r2 : (List (List NumQ))) (y1 : QmM) (y5 : NumQ) (v31 : Int) (v32 : (List (List NumQ))) : Ab.St yaE := ⟨196, [(1, oi a1), (4, ol (.ptr 4 0)), (6, ol (.ptr 6 0)), (7, ol (.ptr 7 0)), (8, ol (.ar 192 0)), (9, ol (.ptr 9 0)), (10, oi v1), (11, oi ((v8.length : Nat) : Int)), (25, ol (.ar 192 0)), (26, oi ((v8.length : Nat) : Int)), (27, ol (.ptr 7 1)), (28, ol (.ar 1019 0)), (29, oi ((v9.length : Nat) : Int)), (30, ol (.bool r1.2)), (123, oi ((r2.length : Nat) : Int)), (124, oi v31)], [(4, .cells [.int .i64 (0 : Int), .sl (.sl (.nm 4)) true []]), (6, .cells [.int .i64 (0 : Int), .sl (.int .u32) true [], .bool false, .int .i64 (0 : Int), .sl (.int .u32) true [], .bool false]), (7, .cells [.int .i64 y1.C, .ar 1019 0]), (9, .cells [.int .i64 y5.N.v, .sl (.int .u32) true y5.N.m, .bool y5.N.neg, .int .i64 y5.D.v, .sl (.int .u32) true y5.D.m, .bool y5.D.neg]), (192, .arr 3 (.int .i64) v8 0 false), (1019, .rows 48 53 (.nm 4) v32 0 0 .opn)]⟩
noncomputable def w52J1S (a1 : Int) (v1 : Int) (v8 : (List Int)) (v9 : (List (List NumQ))) (v14 : Int) (v15 : (List Int)) (v16 : Bool) (v17 : Int) (v18 : (List Int)) (v19 : Bool) (v20 : (List (List NumQ))) (r1 : (Int × Bool)) (y1 : QmM) : Ab.St yaE := ⟨196, [(1, oi a1), (4, ol (.ptr 4 0)), (6, ol (.ptr 6 0)), (7, ol (.ptr 7 0)), (8, ol (.ar 192 0)), (9, ol (.ptr 9 0)), (10, oi v1), (11, oi ((v8.length : Nat) : Int)), (25, ol (.ar 192 0)), (26, oi ((v8.length : Nat) : Int)), (27, ol (.ptr 7 1)), (28, ol (.ar 1019 0)), (29, oi ((v9.length : Nat) : Int)), (30, ol (.bool r1.2))], [(4, .cells [.int .i64 (0 : Int), .sl (.sl (.nm 4)) true []]), (6, .cells [.int .i64 (0 : Int), .sl (.int .u32) true [], .bool false, .int .i64 (0 : Int), .sl (.int .u32) true [], .bool false]), (7, .cells [.int .i64 y1.C, .ar 1019 0]), (9, .cells [.int .i64 v14, .sl (.int .u32) true v15, .bool v16, .int .i64 v17, .sl (.int .u32) true v18, .bool v19]), (192, .arr 3 (.int .i64) v8 0 false), (1019, .rows 48 53 (.nm 4) v20 0 0 .opn)]⟩
noncomputable def w52L1S (a1 : Int) (y1 : QmM) (v1 : Int) (v2 : Int) (v3 : (List Int)) (v4 : Bool) (v5 : Int) (v6 : (List Int)) (v7 : Bool) (v8 : (List Int)) (v9 : (List (List NumQ))) : Ab.St yaE := ⟨196, [(1, oi a1), (4, ol (.ptr 4 0)), (6, ol (.ptr 6 0)), (7, ol (.ptr 7 0)), (8, ol (.ar 192 0)), (9, ol (.ptr 9 0)), (10, oi v1)], [(4, .cells [.int .i64 (0 : Int), .sl (.sl (.nm 4)) true []]), (6, .cells [.int .i64 (0 : Int), .sl (.int .u32) true [], .bool false, .int .i64 (0 : Int), .sl (.int .u32) true [], .bool false]), (7, .cells [.int .i64 y1.C, .ar 1019 0]), (9, .cells [.int .i64 v2, .sl (.int .u32) true v3, .bool v4, .int .i64 v5, .sl (.int .u32) true v6, .bool v7]), (192, .arr 3 (.int .i64) v8 0 false), (1019, .rows 48 53 (.nm 4) v9 0 0 .opn)]⟩
noncomputable def w52S (a0 : QmM) (a1 : Int) : Ab.St yaE := ⟨196, [(0, og (yaToQmM a0)), (1, oi a1)], []⟩
theorem w52L2_w (G : Good w52V P) {y : (QmM × (List Int) × NumQ)} {o} {r} {a1} {v1} {v2} {v3} {v4} {v5} {v6} {v7} {v8} {v9} {y1} {v10} {v11} (E : Ends w52V C F Try.f52.results.toList [] [(.nm 5), (.sl (.int .i64)), (.nm 4)] (y.1, y.2.1, y.2.2, ())) (h : qmMReduceL2 a1 v1 v2 v3 v4 v5 v6 v7 v8 v9 y1 v10 v11 = some o)
    (hl : ∀ v', o = .inl v' → Goes w52V P C F w52P2 (w52L2S a1 v1 v2 v3 v4 v5 v6 v7 v8 v9 y1 v'.1 v'.2)) (hr : ∀ r', o = .inr r' → r' = r)
    (K1 : ∀ r1, r = r1 → Goes w52V P C F w52P3 (⟨196, [(1, oi a1), (4, ol (.ptr 4 0)), (6, ol (.ptr 6 0)), (7, ol (.ptr 7 0)), (8, ol (.ar 192 0)), (9, ol (.ptr 9 0)), (10, oi v1), (11, oi ((v8.length : Nat) : Int)), (12, oi r1.1), (25, ol (.ar 192 0)), (26, oi ((v8.length : Nat) : Int)), (27, ol (.ptr 7 1)), (28, ol (.ar 1019 0)), (29, oi ((v9.length : Nat) : Int)), (30, ol (.bool r1.2))], [(4, .cells [.int .i64 (0 : Int), .sl (.sl (.nm 4)) true []]), (6, .cells [.int .i64 (0 : Int), .sl (.int .u32) true [], .bool false, .int .i64 (0 : Int), .sl (.int .u32) true [], .bool false]), (7, .cells [.int .i64 y1.C, .ar 1019 0]), (9, .cells [.int .i64 v2, .sl (.int .u32) true v3, .bool v4, .int .i64 v5, .sl (.int .u32) true v6, .bool v7]), (192, .arr 3 (.int .i64) v8 0 false), (1019, .rows 48 53 (.nm 4) v9 0 0 .opn)]⟩ : Ab.St yaE)) : Goes w52V P C F w52P2 (w52L2S a1 v1 v2 v3 v4 v5 v6 v7 v8 v9 y1 v10 v11) := by
  unfold qmMReduceL2 at h
  rcases ite_some h with ⟨b3, h⟩ | ⟨b3, h⟩
  · obtain ⟨c3, h⟩ := need_some h
    obtain ⟨c4, h⟩ := need_some h
    obtain ⟨y3, c5, h⟩ := bind_some h
    rcases ite_some h with ⟨b4, h⟩ | ⟨b4, h⟩
    · exact sg G [.reg [(5, .bit true), (14, .res ⟨[.bool], (y3, ())⟩), (15, .bit true)], .br true, .reg [], .enter, .weak [.keep [1, 4, 6, 7, 8, 9, 10, 11, 12, 25, 26, 27, 28, 29, 30] [4, 6, 7, 9, 192, 1019]]] (aa b3 <| aa b3 <| aa b3 <| aa b3 <| aa c3 <| aa b3 <| aa b3 <| aa b3 <| aa c4 <| aa b3 <| aa b3 <| aa (ca c5) <| aa b3 <| aa b4 <| tt) (hl _ (si h))
    · exact sg G [.reg [(5, .bit true), (14, .res ⟨[.bool], (y3, ())⟩), (15, .bit true)], .br false, .auto, .weak [.keep [1, 4, 6, 7, 8, 9, 10, 11, 12, 25, 26, 27, 28, 29, 30] [4, 6, 7, 9, 192, 1019]]] (aa b3 <| aa b3 <| aa b3 <| aa b3 <| aa c3 <| aa b3 <| aa b3 <| aa b3 <| aa c4 <| aa b3 <| aa b3 <| aa (ca c5) <| aa b3 <| aa b4 <| tt) (K1 _ (hr _ (si h)).symm)
  · exact sg G [.reg [(5, .bit false), (15, .bit false)], .br false, .auto, .weak [.keep [1, 4, 6, 7, 8, 9, 10, 11, 12, 25, 26, 27, 28, 29, 30] [4, 6, 7, 9, 192, 1019]]] (aa b3 <| aa b3 <| aa b3 <| aa b3 <| aa b3 <| aa b3 <| aa b3 <| aa b3 <| aa b3 <| aa b3 <| aa (show false = false from rfl) <| tt) (K1 _ (hr _ (si h)).symm)
theorem w52L3_w (G : Good w52V P) {y : (QmM × (List Int) × NumQ)} {o} {r} {a1} {v1} {v8} {v9} {r1} {y1} {y5} {v21} {v22} {v23} {v24} {v25} {v26} {v27} {v28} {v29} (E : Ends w52V C F Try.f52.results.toList [] [(.nm 5), (.sl (.int .i64)), (.nm 4)] (y.1, y.2.1, y.2.2, ())) (h : qmMReduceL3 a1 v1 v8 v9 r1 y1 y5 v21 v22 v23 v24 v25 v26 v27 v28 v29 = some o)
    (hl : ∀ v', o = .inl v' → Goes w52V P C F w52P5 (w52L3S a1 v1 v8 v9 r1 y1 y5 v'.1 v'.2.1 v'.2.2.1 v'.2.2.2.1 v'.2.2.2.2.1 v'.2.2.2.2.2.1 v'.2.2.2.2.2.2.1 v'.2.2.2.2.2.2.2.1 v'.2.2.2.2.2.2.2.2)) (hr : ∀ r', o = .inr r' → r' = r)
    (K1 : ∀ r2, r = r2 → Goes w52V P C F w52P6 (⟨196, [(1, oi a1), (4, ol (.ptr 4 0)), (6, ol (.ptr 6 0)), (7, ol (.ptr 7 0)), (8, ol (.ar 192 0)), (9, ol (.ptr 9 0)), (10, oi v1), (11, oi ((v8.length : Nat) : Int)), (25, ol (.ar 192 0)), (26, oi ((v8.length : Nat) : Int)), (27, ol (.ptr 7 1)), (28, ol (.ar 1019 0)), (29, oi ((v9.length : Nat) : Int)), (30, ol (.bool r1.2))], [(4, .cells [.int .i64 (0 : Int), .sl (.sl (.nm 4)) true []]), (6, .cells [.int .i64 (0 : Int), .sl (.int .u32) true [], .bool false, .int .i64 (0 : Int), .sl (.int .u32) true [], .bool false]), (7, .cells [.int .i64 y1.C, .ar 1019 0]), (9, .cells [.int .i64 y5.N.v, .sl (.int .u32) true y5.N.m, .bool y5.N.neg, .int .i64 y5.D.v, .sl (.int .u32) true y5.D.m, .bool y5.D.neg]), (192, .arr 3 (.int .i64) v8 0 false), (1019, .rows 48 53 (.nm 4) r2 0 0 .opn)]⟩ : Ab.St yaE)) : Goes w52V P C F w52P5 (w52L3S a1 v1 v8 v9 r1 y1 y5 v21 v22 v23 v24 v25 v26 v27 v28 v29) := by
  unfold qmMReduceL3 at h
  rcases ite_some h with ⟨b7, h⟩ | ⟨b7, h⟩
  · obtain ⟨c17, h⟩ := need_some h
    obtain ⟨c18, h⟩ := need_some h
    obtain ⟨c19, h⟩ := need_some h
    obtain ⟨y6, c20, h⟩ := bind_some h
    obtain ⟨c21, h⟩ := need_some h
    exact sg G [.reg [], .br true, .reg [], .reg [(15, .res ⟨[(.nm 4)], (y6, ())⟩)], .reg [], .enter, .weak [.keep [1, 4, 6, 7, 8, 9, 10, 11, 13, 25, 26, 27, 28, 29, 30, 99, 100] [4, 6, 7, 9, 13, 192, 1019]]] (aa b7 <| aa c17 <| aa c18 <| aa c19 <| aa (ca c20) <| aa c21 <| tt) (hl _ (si h))
  · exact sg G [.reg [], .br false, .auto, .weak [.keep [1, 4, 6, 7, 8, 9, 10, 11, 25, 26, 27, 28, 29, 30] [4, 6, 7, 9, 192, 1019]]] (aa b7 <| tt) (K1 _ (hr _ (si h)).symm)
theorem w52J2_w (G : Good w52V P) {y : (QmM × (List Int) × NumQ)} {o} {r} {a1} {v1} {v8} {v9} {v31} {v32} {r1} {r2} {y1} {y5} (E : Ends w52V C F Try.f52.results.toList [] [(.nm 5), (.sl (.int .i64)), (.nm 4)] (y.1, y.2.1, y.2.2, ())) (h : qmMReduceJ2 a1 v1 v8 v9 v31 v32 r1 r2 y1 y5 = some o)
    (hl : ∀ v', o = .inl v' → Goes w52V P C F w52P7 (w52L4S a1 v1 v8 v9 r1 r2 y1 y5 v'.1 v'.2)) (hr : ∀ r', o = .inr r' → r' = r)
    (K1 : ∀ r4, r = r4 → Goes w52V P C F w52P11 (⟨196, [(1, oi a1), (4, ol (.ptr 4 0)), (6, ol (.ptr 6 0)), (7, ol (.ptr 7 0)), (8, ol (.ar 192 0)), (9, ol (.ptr 9 0)), (10, oi v1), (25, ol (.ar 192 0)), (26, oi ((v8.length : Nat) : Int)), (27, ol (.ptr 7 1)), (28, ol (.ar 1019 0)), (29, oi ((v9.length : Nat) : Int)), (30, ol (.bool r1.2))], [(4, .cells [.int .i64 (0 : Int), .sl (.sl (.nm 4)) true []]), (6, .cells [.int .i64 (0 : Int), .sl (.int .u32) true [], .bool false, .int .i64 (0 : Int), .sl (.int .u32) true [], .bool false]), (7, .cells [.int .i64 y1.C, .ar 1019 0]), (9, .cells [.int .i64 y5.N.v, .sl (.int .u32) true y5.N.m, .bool y5.N.neg, .int .i64 y5.D.v, .sl (.int .u32) true y5.D.m, .bool y5.D.neg]), (192, .arr 3 (.int .i64) v8 0 false), (1019, .rows 48 53 (.nm 4) r4 0 0 .opn)]⟩ : Ab.St yaE)) : Goes w52V P C F w52P8 (w52J2S a1 v1 v8 v9 v31 v32 r1 r2 y1 y5) := by
  unfold qmMReduceJ2 at h
  exact sg G [.reg [], .enter, .weak [.keep [1, 4, 6, 7, 8, 9, 10, 11, 25, 26, 27, 28, 29, 30, 123, 124] [4, 6, 7, 9, 192, 1019]]] tt (hl _ (si h))
theorem w52J3_w (G : Good w52V P) {y : (QmM × (List Int) × NumQ)} {o} {r} {a1} {v1} {v8} {v9} {v31} {v32} {v33} {v34} {v35} {v36} {v37} {v38} {v39} {v40} {v42} {r1} {r2} {y1} {y5} {y7} (E : Ends w52V C F Try.f52.results.toList [] [(.nm 5), (.sl (.int .i64)), (.nm 4)] (y.1, y.2.1, y.2.2, ())) (h : qmMReduceJ3 a1 v1 v8 v9 v31 v32 v33 v34 v35 v36 v37 v38 v39 v40 v42 r1 r2 y1 y5 y7 = some o)
    (hl : ∀ v', o = .inl v' → Goes w52V P C F w52P9 (w52L5S a1 v1 v8 v9 v31 v32 r1 r2 y1 y5 y7 v'.1 v'.2.1 v'.2.2.1 v'.2.2.2.1 v'.2.2.2.2.1 v'.2.2.2.2.2.1 v'.2.2.2.2.2.2.1 v'.2.2.2.2.2.2.2.1 v'.2.2.2.2.2.2.2.2)) (hr : ∀ r', o = .inr r' → r' = r)
    (K1 : ∀ r3, r = r3 → Goes w52V P C F w52P8 (⟨196, [(1, oi a1), (4, ol (.ptr 4 0)), (6, ol (.ptr 6 0)), (7, ol (.ptr 7 0)), (8, ol (.ar 192 0)), (9, ol (.ptr 9 0)), (10, oi v1), (11, oi ((v8.length : Nat) : Int)), (25, ol (.ar 192 0)), (26, oi ((v8.length : Nat) : Int)), (27, ol (.ptr 7 1)), (28, ol (.ar 1019 0)), (29, oi ((v9.length : Nat) : Int)), (30, ol (.bool r1.2)), (123, oi ((r2.length : Nat) : Int)), (124, oi v31), (139, og (yaToNumQ r3.1)), (140, ol (.bool y7))], [(4, .cells [.int .i64 (0 : Int), .sl (.sl (.nm 4)) true []]), (6, .cells [.int .i64 (0 : Int), .sl (.int .u32) true [], .bool false, .int .i64 (0 : Int), .sl (.int .u32) true [], .bool false]), (7, .cells [.int .i64 y1.C, .ar 1019 0]), (9, .cells [.int .i64 y5.N.v, .sl (.int .u32) true y5.N.m, .bool y5.N.neg, .int .i64 y5.D.v, .sl (.int .u32) true y5.D.m, .bool y5.D.neg]), (192, .arr 3 (.int .i64) v8 0 false), (1019, .rows 48 53 (.nm 4) r3.2 0 0 .opn)]⟩ : Ab.St yaE)) : Goes w52V P C F w52P10 (w52J3S a1 v1 v8 v9 v31 v32 v33 v34 v35 v36 v37 v38 v39 v40 v42 r1 r2 y1 y5 y7) := by
  unfold qmMReduceJ3 at h
  exact sg G [.reg [], .enter, .weak [.keep [1, 4, 6, 7, 8, 9, 10, 11, 15, 16, 25, 26, 27, 28, 29, 30, 123, 124, 139, 140, 147, 148] [4, 6, 7, 9, 16, 192, 1019]]] tt (hl _ (si h))
theorem w52L5_w (G : Good w52V P) {y : (QmM × (List Int) × NumQ)} {o} {r} {a1} {v1} {v8} {v9} {v31} {v32} {r1} {r2} {y1} {y5} {y7} {v33} {v34} {v35} {v36} {v37} {v38} {v39} {v40} {v41} (E : Ends w52V C F Try.f52.results.toList [] [(.nm 5), (.sl (.int .i64)), (.nm 4)] (y.1, y.2.1, y.2.2, ())) (h : qmMReduceL5 a1 v1 v8 v9 v31 v32 r1 r2 y1 y5 y7 v33 v34 v35 v36 v37 v38 v39 v40 v41 = some o)
    (hl : ∀ v', o = .inl v' → Goes w52V P C F w52P9 (w52L5S a1 v1 v8 v9 v31 v32 r1 r2 y1 y5 y7 v'.1 v'.2.1 v'.2.2.1 v'.2.2.2.1 v'.2.2.2.2.1 v'.2.2.2.2.2.1 v'.2.2.2.2.2.2.1 v'.2.2.2.2.2.2.2.1 v'.2.2.2.2.2.2.2.2)) (hr : ∀ r', o = .inr r' → r' = r)
    (K1 : ∀ r3, r = r3 → Goes w52V P C F w52P8 (⟨196, [(1, oi a1), (4, ol (.ptr 4 0)), (6, ol (.ptr 6 0)), (7, ol (.ptr 7 0)), (8, ol (.ar 192 0)), (9, ol (.ptr 9 0)), (10, oi v1), (11, oi ((v8.length : Nat) : Int)), (25, ol (.ar 192 0)), (26, oi ((v8.length : Nat) : Int)), (27, ol (.ptr 7 1)), (28, ol (.ar 1019 0)), (29, oi ((v9.length : Nat) : Int)), (30, ol (.bool r1.2)), (123, oi ((r2.length : Nat) : Int)), (124, oi v31), (139, og (yaToNumQ r3.1)), (140, ol (.bool y7))], [(4, .cells [.int .i64 (0 : Int), .sl (.sl (.nm 4)) true []]), (6, .cells [.int .i64 (0 : Int), .sl (.int .u32) true [], .bool false, .int .i64 (0 : Int), .sl (.int .u32) true [], .bool false]), (7, .cells [.int .i64 y1.C, .ar 1019 0]), (9, .cells [.int .i64 y5.N.v, .sl (.int .u32) true y5.N.m, .bool y5.N.neg, .int .i64 y5.D.v, .sl (.int .u32) true y5.D.m, .bool y5.D.neg]), (192, .arr 3 (.int .i64) v8 0 false), (1019, .rows 48 53 (.nm 4) r3.2 0 0 .opn)]⟩ : Ab.St yaE)) : Goes w52V P C F w52P9 (w52L5S a1 v1 v8 v9 v31 v32 r1 r2 y1 y5 y7 v33 v34 v35 v36 v37 v38 v39 v40 v41) := by
  unfold qmMReduceL5 at h
  rcases ite_some h with ⟨b11, h⟩ | ⟨b11, h⟩
  · obtain ⟨c26, h⟩ := need_some h
    obtain ⟨c27, h⟩ := need_some h
    obtain ⟨y8, c28, h⟩ := bind_some h
    rcases ite_some h with ⟨b12, h⟩ | ⟨b12, h⟩
    · obtain ⟨c29, h⟩ := need_some h
      obtain ⟨c30, h⟩ := need_some h
      obtain ⟨c31, h⟩ := need_some h
      obtain ⟨c32, h⟩ := need_some h
      obtain ⟨c33, h⟩ := need_some h
      obtain ⟨y9, c34, h⟩ := bind_some h
      obtain ⟨y10, c35, h⟩ := bind_some h
      obtain ⟨c36, h⟩ := need_some h
      exact sg G [.reg [], .br true, .reg [], .reg [(8, .res ⟨[.bool], (y8, ())⟩)], .br true, .reg [(23, .res ⟨[(.nm 4)], (y9, ())⟩), (24, .res ⟨[(.nm 4)], (y10, ())⟩)], .auto, .weak [.keep [1, 4, 6, 7, 8, 9, 10, 11, 15, 16, 25, 26, 27, 28, 29, 30, 123, 124, 139, 140, 147, 148] [4, 6, 7, 9, 16, 192, 1019]]] (aa b11 <| aa c26 <| aa c27 <| aa (ca c28) <| aa b12 <| aa c29 <| aa c30 <| aa c31 <| aa c32 <| aa c33 <| aa (ca c34) <| aa (ca c35) <| aa c36 <| tt) (w52J3_w G E h hl hr K1)
    · exact sg G [.reg [], .br true, .reg [], .reg [(8, .res ⟨[.bool], (y8, ())⟩)], .br false, .auto, .weak [.keep [1, 4, 6, 7, 8, 9, 10, 11, 15, 16, 25, 26, 27, 28, 29, 30, 123, 124, 139, 140, 147, 148] [4, 6, 7, 9, 16, 192, 1019]]] (aa b11 <| aa c26 <| aa c27 <| aa (ca c28) <| aa b12 <| tt) (w52J3_w G E h hl hr K1)
  · exact sg G [.reg [], .br false, .auto, .weak [.keep [1, 4, 6, 7, 8, 9, 10, 11, 25, 26, 27, 28, 29, 30, 123, 124, 139, 140] [4, 6, 7, 9, 192, 1019]]] (aa b11 <| tt) (K1 _ (hr _ (si h)).symm)
theorem w52L4_w (G : Good w52V P) {y : (QmM × (List Int) × NumQ)} {o} {r} {a1} {v1} {v8} {v9} {r1} {r2} {y1} {y5} {v31} {v32} (E : Ends w52V C F Try.f52.results.toList [] [(.nm 5), (.sl (.int .i64)), (.nm 4)] (y.1, y.2.1, y.2.2, ())) (h : qmMReduceL4 a1 v1 v8 v9 r1 r2 y1 y5 v31 v32 = some o)
    (hl : ∀ v', o = .inl v' → Goes w52V P C F w52P7 (w52L4S a1 v1 v8 v9 r1 r2 y1 y5 v'.1 v'.2)) (hr : ∀ r', o = .inr r' → r' = r)
    (K1 : ∀ r4, r = r4 → Goes w52V P C F w52P11 (⟨196, [(1, oi a1), (4, ol (.ptr 4 0)), (6, ol (.ptr 6 0)), (7, ol (.ptr 7 0)), (8, ol (.ar 192 0)), (9, ol (.ptr 9 0)), (10, oi v1), (25, ol (.ar 192 0)), (26, oi ((v8.length : Nat) : Int)), (27, ol (.ptr 7 1)), (28, ol (.ar 1019 0)), (29, oi ((v9.length : Nat) : Int)), (30, ol (.bool r1.2))], [(4, .cells [.int .i64 (0 : Int), .sl (.sl (.nm 4)) true []]), (6, .cells [.int .i64 (0 : Int), .sl (.int .u32) true [], .bool false, .int .i64 (0 : Int), .sl (.int .u32) true [], .bool false]), (7, .cells [.int .i64 y1.C, .ar 1019 0]), (9, .cells [.int .i64 y5.N.v, .sl (.int .u32) true y5.N.m, .bool y5.N.neg, .int .i64 y5.D.v, .sl (.int .u32) true y5.D.m, .bool y5.D.neg]), (192, .arr 3 (.int .i64) v8 0 false), (1019, .rows 48 53 (.nm 4) r4 0 0 .opn)]⟩ : Ab.St yaE)) : Goes w52V P C F w52P7 (w52L4S a1 v1 v8 v9 r1 r2 y1 y5 v31 v32) := by
  unfold qmMReduceL4 at h
  rcases ite_some h with ⟨b8, h⟩ | ⟨b8, h⟩
  · obtain ⟨c22, h⟩ := need_some h
    obtain ⟨c23, h⟩ := need_some h
    rcases ite_some h with ⟨b9, h⟩ | ⟨b9, h⟩
    · exact sg G [.reg [], .br true, .reg [], .reg [], .reg [(3, .bit true), (6, .bit true)], .br true, .auto, .weak [.keep [1, 4, 6, 7, 8, 9, 10, 11, 25, 26, 27, 28, 29, 30, 123, 124] [4, 6, 7, 9, 192, 1019]]] (aa b8 <| aa c22 <| aa c23 <| aa b9 <| aa b9 <| aa b9 <| aa (show true = true from rfl) <| tt) (w52J2_w G E h hl hr K1)
    · obtain ⟨y7, c24, h⟩ := bind_some h
      rcases ite_some h with ⟨b10, h⟩ | ⟨b10, h⟩
      · exact sg G [.reg [], .br true, .reg [], .reg [], .reg [(3, .bit false), (5, .res ⟨[.bool], (y7, ())⟩), (6, .bit false)], .br true, .auto, .weak [.keep [1, 4, 6, 7, 8, 9, 10, 11, 25, 26, 27, 28, 29, 30, 123, 124] [4, 6, 7, 9, 192, 1019]]] (aa b8 <| aa c22 <| aa c23 <| aa b9 <| aa b9 <| aa (ca c24) <| aa b9 <| aa b10 <| tt) (w52J2_w G E h hl hr K1)
      · obtain ⟨c25, h⟩ := need_some h
        obtain ⟨r3, hi, h⟩ := bind_some h
        have K1 : ∀ q, r3 = q → Goes w52V P C F w52P8 (⟨196, [(1, oi a1), (4, ol (.ptr 4 0)), (6, ol (.ptr 6 0)), (7, ol (.ptr 7 0)), (8, ol (.ar 192 0)), (9, ol (.ptr 9 0)), (10, oi v1), (11, oi ((v8.length : Nat) : Int)), (25, ol (.ar 192 0)), (26, oi ((v8.length : Nat) : Int)), (27, ol (.ptr 7 1)), (28, ol (.ar 1019 0)), (29, oi ((v9.length : Nat) : Int)), (30, ol (.bool r1.2)), (123, oi ((r2.length : Nat) : Int)), (124, oi v31), (139, og (yaToNumQ q.1)), (140, ol (.bool y7))], [(4, .cells [.int .i64 (0 : Int), .sl (.sl (.nm 4)) true []]), (6, .cells [.int .i64 (0 : Int), .sl (.int .u32) true [], .bool false, .int .i64 (0 : Int), .sl (.int .u32) true [], .bool false]), (7, .cells [.int .i64 y1.C, .ar 1019 0]), (9, .cells [.int .i64 y5.N.v, .sl (.int .u32) true y5.N.m, .bool y5.N.neg, .int .i64 y5.D.v, .sl (.int .u32) true y5.D.m, .bool y5.D.neg]), (192, .arr 3 (.int .i64) v8 0 false), (1019, .rows 48 53 (.nm 4) q.2 0 0 .opn)]⟩ : Ab.St yaE) := by
          rintro q rfl
          exact sg G [.reg [], .enter, .weak [.keep [1, 4, 6, 7, 8, 9, 10, 11, 25, 26, 27, 28, 29, 30, 123, 124] [4, 6, 7, 9, 192, 1019]]] tt (hl _ (si h))
        exact sg G [.reg [], .br true, .reg [], .reg [], .reg [(3, .bit false), (5, .res ⟨[.bool], (y7, ())⟩), (6, .bit false)], .br false, .reg [], .enter, .weak [.keep [1, 4, 6, 7, 8, 9, 10, 11, 15, 16, 25, 26, 27, 28, 29, 30, 123, 124, 139, 140, 147, 148] [4, 6, 7, 9, 16, 192, 1019]]] (aa b8 <| aa c22 <| aa c23 <| aa b9 <| aa b9 <| aa (ca c24) <| aa b9 <| aa b10 <| aa c25 <| tt) (loop_goes (V := w52V) (F := F) (k := w52P9) (S := fun v => w52L5S a1 v1 v8 v9 v31 v32 r1 r2 y1 y5 y7 v.1 v.2.1 v.2.2.1 v.2.2.2.1 v.2.2.2.2.1 v.2.2.2.2.2.1 v.2.2.2.2.2.2.1 v.2.2.2.2.2.2.2.1 v.2.2.2.2.2.2.2.2) (fun v o h hl hr => w52L5_w G E h hl hr K1) _ hi)
  · exact sg G [.reg [], .br false, .auto, .weak [.keep [1, 4, 6, 7, 8, 9, 10, 25, 26, 27, 28, 29, 30] [4, 6, 7, 9, 192, 1019]]] (aa b8 <| tt) (K1 _ (hr _ (si h)).symm)
theorem w52J1_w (G : Good w52V P) {y : (QmM × (List Int) × NumQ)} {o} {r} {a1} {v1} {v8} {v9} {v14} {v15} {v16} {v17} {v18} {v19} {v20} {r1} {y1} (E : Ends w52V C F Try.f52.results.toList [] [(.nm 5), (.sl (.int .i64)), (.nm 4)] (y.1, y.2.1, y.2.2, ())) (h : qmMReduceJ1 a1 v1 v8 v9 v14 v15 v16 v17 v18 v19 v20 r1 y1 = some o)
    (hl : ∀ v', o = .inl v' → Goes w52V P C F w52P1 (w52L1S a1 y1 v'.1 v'.2.1 v'.2.2.1 v'.2.2.2.1 v'.2.2.2.2.1 v'.2.2.2.2.2.1 v'.2.2.2.2.2.2.1 v'.2.2.2.2.2.2.2.1 v'.2.2.2.2.2.2.2.2)) (hr : ∀ r', o = .inr r' → r' = r)
    (K1 : ∀ r5, r = r5 → Goes w52V P C F w52P12 (⟨196, [(4, ol (.ptr 4 0)), (6, ol (.ptr 6 0)), (7, ol (.ptr 7 0)), (8, ol (.ar 192 0)), (9, ol (.ptr 9 0))], [(4, .cells [.int .i64 (0 : Int), .sl (.sl (.nm 4)) true []]), (6, .cells [.int .i64 (0 : Int), .sl (.int .u32) true [], .bool false, .int .i64 (0 : Int), .sl (.int .u32) true [], .bool false]), (7, .cells [.int .i64 y1.C, .ar 1019 0]), (9, .cells [.int .i64 r5.1, .sl (.int .u32) true r5.2.1, .bool r5.2.2.1, .int .i64 r5.2.2.2.1, .sl (.int .u32) true r5.2.2.2.2.1, .bool r5.2.2.2.2.2.1]), (192, .arr 3 (.int .i64) r5.2.2.2.2.2.2.1 0 false), (1019, .rows 48 53 (.nm 4) r5.2.2.2.2.2.2.2 0 0 .opn)]⟩ : Ab.St yaE)) : Goes w52V P C F w52P4 (w52J1S a1 v1 v8 v9 v14 v15 v16 v17 v18 v19 v20 r1 y1) := by
  unfold qmMReduceJ1 at h
  obtain ⟨c13, h⟩ := need_some h
  obtain ⟨c14, h⟩ := need_some h
  obtain ⟨y5, c15, h⟩ := bind_some h
  obtain ⟨c16, h⟩ := need_some h
  obtain ⟨r2, hi, h⟩ := bind_some h
  have K1 : ∀ q, r2 = q → Goes w52V P C F w52P6 (⟨196, [(1, oi a1), (4, ol (.ptr 4 0)), (6, ol (.ptr 6 0)), (7, ol (.ptr 7 0)), (8, ol (.ar 192 0)), (9, ol (.ptr 9 0)), (10, oi v1), (11, oi ((v8.length : Nat) : Int)), (25, ol (.ar 192 0)), (26, oi ((v8.length : Nat) : Int)), (27, ol (.ptr 7 1)), (28, ol (.ar 1019 0)), (29, oi ((v9.length : Nat) : Int)), (30, ol (.bool r1.2))], [(4, .cells [.int .i64 (0 : Int), .sl (.sl (.nm 4)) true []]), (6, .cells [.int .i64 (0 : Int), .sl (.int .u32) true [], .bool false, .int .i64 (0 : Int), .sl (.int .u32) true [], .bool false]), (7, .cells [.int .i64 y1.C, .ar 1019 0]), (9, .cells [.int .i64 y5.N.v, .sl (.int .u32) true y5.N.m, .bool y5.N.neg, .int .i64 y5.D.v, .sl (.int .u32) true y5.D.m, .bool y5.D.neg]), (192, .arr 3 (.int .i64) v8 0 false), (1019, .rows 48 53 (.nm 4) q 0 0 .opn)]⟩ : Ab.St yaE) := by
    rintro q rfl
    obtain ⟨r4, hi, h⟩ := bind_some h
    have K1 : ∀ q, r4 = q → Goes w52V P C F w52P11 (⟨196, [(1, oi a1), (4, ol (.ptr 4 0)), (6, ol (.ptr 6 0)), (7, ol (.ptr 7 0)), (8, ol (.ar 192 0)), (9, ol (.ptr 9 0)), (10, oi v1), (25, ol (.ar 192 0)), (26, oi ((v8.length : Nat) : Int)), (27, ol (.ptr 7 1)), (28, ol (.ar 1019 0)), (29, oi ((v9.length : Nat) : Int)), (30, ol (.bool r1.2))], [(4, .cells [.int .i64 (0 : Int), .sl (.sl (.nm 4)) true []]), (6, .cells [.int .i64 (0 : Int), .sl (.int .u32) true [], .bool false, .int .i64 (0 : Int), .sl (.int .u32) true [], .bool false]), (7, .cells [.int .i64 y1.C, .ar 1019 0]), (9, .cells [.int .i64 y5.N.v, .sl (.int .u32) true y5.N.m, .bool y5.N.neg, .int .i64 y5.D.v, .sl (.int .u32) true y5.D.m, .bool y5.D.neg]), (192, .arr 3 (.int .i64) v8 0 false), (1019, .rows 48 53 (.nm 4) q 0 0 .opn)]⟩ : Ab.St yaE) := by
      rintro q rfl
      obtain ⟨c37, h⟩ := need_some h
      exact sg G [.reg [], .reg [], .enter, .weak [.re 192 192 0, .keep [1, 4, 6, 7, 8, 9, 10] [4, 6, 7, 9, 192, 1019]]] (aa c37 <| tt) (hl _ (si h))
    exact sg G [.reg [], .enter, .weak [.keep [1, 4, 6, 7, 8, 9, 10, 11, 25, 26, 27, 28, 29, 30, 123, 124] [4, 6, 7, 9, 192, 1019]]] tt (loop_goes (V := w52V) (F := F) (k := w52P7) (S := fun v => w52L4S a1 v1 v8 v9 r1 r2 y1 y5 v.1 v.2) (fun v o h hl hr => w52L4_w G E h hl hr K1) _ hi)
  exact sg G [.reg [], .reg [(2, .res ⟨[(.nm 4)], (y5, ())⟩)], .reg [], .enter, .weak [.keep [1, 4, 6, 7, 8, 9, 10, 11, 13, 25, 26, 27, 28, 29, 30, 99, 100] [4, 6, 7, 9, 13, 192, 1019]]] (aa c13 <| aa c14 <| aa (ca c15) <| aa c16 <| tt) (loop_goes (V := w52V) (F := F) (k := w52P5) (S := fun v => w52L3S a1 v1 v8 v9 r1 y1 y5 v.1 v.2.1 v.2.2.1 v.2.2.2.1 v.2.2.2.2.1 v.2.2.2.2.2.1 v.2.2.2.2.2.2.1 v.2.2.2.2.2.2.2.1 v.2.2.2.2.2.2.2.2) (fun v o h hl hr => w52L3_w G E h hl hr K1) _ hi)
theorem w52L1_w (G : Good w52V P) {y : (QmM × (List Int) × NumQ)} {o} {r} {a1} {y1} {v1} {v2} {v3} {v4} {v5} {v6} {v7} {v8} {v9} (E : Ends w52V C F Try.f52.results.toList [] [(.nm 5), (.sl (.int .i64)), (.nm 4)] (y.1, y.2.1, y.2.2, ())) (h : qmMReduceL1 a1 y1 v1 v2 v3 v4 v5 v6 v7 v8 v9 = some o)
    (hl : ∀ v', o = .inl v' → Goes w52V P C F w52P1 (w52L1S a1 y1 v'.1 v'.2.1 v'.2.2.1 v'.2.2.2.1 v'.2.2.2.2.1 v'.2.2.2.2.2.1 v'.2.2.2.2.2.2.1 v'.2.2.2.2.2.2.2.1 v'.2.2.2.2.2.2.2.2)) (hr : ∀ r', o = .inr r' → r' = r)
    (K1 : ∀ r5, r = r5 → Goes w52V P C F w52P12 (⟨196, [(4, ol (.ptr 4 0)), (6, ol (.ptr 6 0)), (7, ol (.ptr 7 0)), (8, ol (.ar 192 0)), (9, ol (.ptr 9 0))], [(4, .cells [.int .i64 (0 : Int), .sl (.sl (.nm 4)) true []]), (6, .cells [.int .i64 (0 : Int), .sl (.int .u32) true [], .bool false, .int .i64 (0 : Int), .sl (.int .u32) true [], .bool false]), (7, .cells [.int .i64 y1.C, .ar 1019 0]), (9, .cells [.int .i64 r5.1, .sl (.int .u32) true r5.2.1, .bool r5.2.2.1, .int .i64 r5.2.2.2.1, .sl (.int .u32) true r5.2.2.2.2.1, .bool r5.2.2.2.2.2.1]), (192, .arr 3 (.int .i64) r5.2.2.2.2.2.2.1 0 false), (1019, .rows 48 53 (.nm 4) r5.2.2.2.2.2.2.2 0 0 .opn)]⟩ : Ab.St yaE)) : Goes w52V P C F w52P1 (w52L1S a1 y1 v1 v2 v3 v4 v5 v6 v7 v8 v9) := by
  unfold qmMReduceL1 at h
  rcases ite_some h with ⟨b1, h⟩ | ⟨b1, h⟩
  · rcases ite_some h with ⟨b2, h⟩ | ⟨b2, h⟩
    · obtain ⟨r1, hi, h⟩ := bind_some h
      have K1 : ∀ q, r1 = q → Goes w52V P C F w52P3 (⟨196, [(1, oi a1), (4, ol (.ptr 4 0)), (6, ol (.ptr 6 0)), (7, ol (.ptr 7 0)), (8, ol (.ar 192 0)), (9, ol (.ptr 9 0)), (10, oi v1), (11, oi ((v8.length : Nat) : Int)), (12, oi q.1), (25, ol (.ar 192 0)), (26, oi ((v8.length : Nat) : Int)), (27, ol (.ptr 7 1)), (28, ol (.ar 1019 0)), (29, oi ((v9.length : Nat) : Int)), (30, ol (.bool q.2))], [(4, .cells [.int .i64 (0 : Int), .sl (.sl (.nm 4)) true []]), (6, .cells [.int .i64 (0 : Int), .sl (.int .u32) true [], .bool false, .int .i64 (0 : Int), .sl (.int .u32) true [], .bool false]), (7, .cells [.int .i64 y1.C, .ar 1019 0]), (9, .cells [.int .i64 v2, .sl (.int .u32) true v3, .bool v4, .int .i64 v5, .sl (.int .u32) true v6, .bool v7]), (192, .arr 3 (.int .i64) v8 0 false), (1019, .rows 48 53 (.nm 4) v9 0 0 .opn)]⟩ : Ab.St yaE) := by
        rintro q rfl
        rcases ite_some h with ⟨b5, h⟩ | ⟨b5, h⟩
        · exact sg G [.reg [], .br true, .reg [], .enter, .weak [.keep [1, 4, 6, 7, 8, 9, 10] [4, 6, 7, 9, 192, 1019]]] (aa b5 <| tt) (hl _ (si h))
        · rcases ite_some h with ⟨b6, h⟩ | ⟨b6, h⟩
          · obtain ⟨c6, h⟩ := need_some h
            obtain ⟨c7, h⟩ := need_some h
            obtain ⟨c8, h⟩ := need_some h
            obtain ⟨c9, h⟩ := need_some h
            obtain ⟨c10, h⟩ := need_some h
            obtain ⟨c11, h⟩ := need_some h
            obtain ⟨y4, c12, h⟩ := bind_some h
            exact sg G [.reg [], .br false, .reg [], .br true, .reg [], .reg [(1, .res ⟨[(.nm 4)], (y4, ())⟩)], .auto, .weak [.re 1019 1019 0, .keep [1, 4, 6, 7, 8, 9, 10, 11, 25, 26, 27, 28, 29, 30] [4, 6, 7, 9, 192, 1019]]] (aa b5 <| aa b6 <| aa c6 <| aa c7 <| aa c8 <| aa c9 <| aa c10 <| aa c11 <| aa (ca c12) <| tt) (w52J1_w G E h hl hr K1)
          · exact sg G [.reg [], .br false, .reg [], .br false, .auto, .weak [.keep [1, 4, 6, 7, 8, 9, 10, 11, 25, 26, 27, 28, 29, 30] [4, 6, 7, 9, 192, 1019]]] (aa b5 <| aa b6 <| tt) (w52J1_w G E h hl hr K1)
      exact sg G [.reg [(3, .bit true), (10, .bit true)], .br true, .reg [], .reg [], .enter, .weak [.keep [1, 4, 6, 7, 8, 9, 10, 11, 12, 25, 26, 27, 28, 29, 30] [4, 6, 7, 9, 192, 1019]]] (aa b1 <| aa b1 <| aa b1 <| aa b1 <| aa b1 <| aa b1 <| aa b1 <| aa b2 <| tt) (loop_goes (V := w52V) (F := F) (k := w52P2) (S := fun v => w52L2S a1 v1 v2 v3 v4 v5 v6 v7 v8 v9 y1 v.1 v.2) (fun v o h hl hr => w52L2_w G E h hl hr K1) _ hi)
    · exact sg G [.reg [(3, .bit true), (10, .bit true)], .br false, .auto, .weak [.keep [4, 6, 7, 8, 9] [4, 6, 7, 9, 192, 1019]]] (aa b1 <| aa b1 <| aa b1 <| aa b1 <| aa b1 <| aa b1 <| aa b1 <| aa b2 <| tt) (K1 _ (hr _ (si h)).symm)
  · exact sg G [.reg [(3, .bit false), (10, .bit false)], .br false, .auto, .weak [.keep [4, 6, 7, 8, 9] [4, 6, 7, 9, 192, 1019]]] (aa b1 <| aa b1 <| aa b1 <| aa b1 <| aa b1 <| aa b1 <| aa b1 <| aa (show false = false from rfl) <| tt) (K1 _ (hr _ (si h)).symm)
theorem w52_w (G : Good w52V P) {y : (QmM × (List Int) × NumQ)} {a0} {a1} (E : Ends w52V C F Try.f52.results.toList [] [(.nm 5), (.sl (.int .i64)), (.nm 4)] (y.1, y.2.1, y.2.2, ())) (h : qmMReduce a0 a1 = some y) : Goes w52V P C F w52P0 (w52S a0 a1) := by
  unfold qmMReduce at h
  obtain ⟨y1, c1, h⟩ := bind_some h
  obtain ⟨y2, c2, h⟩ := bind_some h
  obtain ⟨r5, hi, h⟩ := bind_some h
  have K1 : ∀ q, r5 = q → Goes w52V P C F w52P12 (⟨196, [(4, ol (.ptr 4 0)), (6, ol (.ptr 6 0)), (7, ol (.ptr 7 0)), (8, ol (.ar 192 0)), (9, ol (.ptr 9 0))], [(4, .cells [.int .i64 (0 : Int), .sl (.sl (.nm 4)) true []]), (6, .cells [.int .i64 (0 : Int), .sl (.int .u32) true [], .bool false, .int .i64 (0 : Int), .sl (.int .u32) true [], .bool false]), (7, .cells [.int .i64 y1.C, .ar 1019 0]), (9, .cells [.int .i64 q.1, .sl (.int .u32) true q.2.1, .bool q.2.2.1, .int .i64 q.2.2.2.1, .sl (.int .u32) true q.2.2.2.2.1, .bool q.2.2.2.2.2.1]), (192, .arr 3 (.int .i64) q.2.2.2.2.2.2.1 0 false), (1019, .rows 48 53 (.nm 4) q.2.2.2.2.2.2.2 0 0 .opn)]⟩ : Ab.St yaE) := by
    rintro q rfl
    have e := sj h; subst e
    exact se G E [.reg [], .auto, .weak [.fix (.cell 4), .fix (.slot 5)]] tt
  exact sg G [.reg [], .reg [(1, .res ⟨[(.nm 5)], (y1, ())⟩)], .reg [], .reg [(0, .res ⟨[(.nm 4)], (y2, ())⟩)], .reg [], .enter, .weak [.own (.slot 8) 0 192 3 0, .keep [1, 4, 6, 7, 8, 9, 10] [4, 6, 7, 9, 192, 1019]]] (aa (ca c1) <| aa (ca c2) <| tt) (loop_goes (V := w52V) (F := F) (k := w52P1) (S := fun v => w52L1S a1 y1 v.1 v.2.1 v.2.2.1 v.2.2.2.1 v.2.2.2.2.1 v.2.2.2.2.2.1 v.2.2.2.2.2.2.1 v.2.2.2.2.2.2.2.1 v.2.2.2.2.2.2.2.2) (fun v o h hl hr => w52L1_w G E h hl hr K1) _ hi)
noncomputable def w52FS : FS yaE := ⟨[(.nm 5), (.int .i64)], [(.nm 5), (.sl (.int .i64)), (.nm 4)], [], [], fun x => Option.map (fun r => (r.1, r.2.1, r.2.2, ())) (qmMReduce x.1 x.2.1)⟩
theorem w52Meets : MT 52 w52FS := show Meets w52V _ _ _ from mt (fn := Try.f52) (S := fun x => w52S x.1 x.2.1) (GB ⟨w17Meets, w19Meets, w30Meets, w31Meets, w32Meets, w48Meets, w81Meets, trivial⟩ trivial) fun G _ _ _ _ E h => w52_w G E h
noncomputable abbrev w77V : Env := EV [] [] false
noncomputable def w77P0 : List Item := [.code (Try.f77.body.getD .skip)]
noncomputable def w77P1 : List Item := ctl [.reg, .reg, .reg, .enter] w77P0
noncomputable def w77P2 : List Item := ctl [.reg, .br false, .auto] w77P1
noncomputable def w77L1S (a0 : QmM) (a1 : QmM) (v1 : Int) (v2 : (List (List NumQ))) : Ab.St yaE := ⟨38, [(2, ol (.ptr 2 0)), (3, ol (.ptr 3 0)), (4, ol (.ptr 4 0)), (5, ol (.ptr 5 0)), (15, oi ((a0.V.length : Nat) : Int)), (16, oi v1)], [(2, .cells [.int .i64 a0.C, .sl (.sl (.nm 4)) false a0.V]), (3, .cells [.int .i64 a1.C, .sl (.sl (.nm 4)) false a1.V]), (4, .cells [.int .i64 (0 : Int), .ar 8000401 0]), (5, .cells [.int .i64 (IntKind.wrap .i64 (a0.C + a1.C)), .ar 8000501 0]), (8000401, .rows 48 53 (.nm 4) [] 0 0 .opn), (8000501, .rows 48 53 (.nm 4) v2 0 0 .opn)]⟩
noncomputable def w77S (a0 : QmM) (a1 : QmM) : Ab.St yaE := ⟨38, [(0, og (yaToQmM a0)), (1, og (yaToQmM a1))], []⟩
theorem w77L1_w (G : Good w77V P) {y : QmM} {o} {r} {a0} {a1} {v1} {v2} (E : Ends w77V C F Try.f77.results.toList [[(0, 0), (48, 53)]] [(.nm 5)] (y, ())) (h : qmMBesideL1 a0 a1 v1 v2 = some o)
    (hl : ∀ v', o = .inl v' → Goes w77V P C F w77P1 (w77L1S a0 a1 v'.1 v'.2)) (hr : ∀ r', o = .inr r' → r' = r)
    (K1 : ∀ r1, r = r1 → Goes w77V P C F w77P2 (⟨38, [(4, ol (.ptr 4 0)), (5, ol (.ptr 5 0))], [(4, .cells [.int .i64 (0 : Int), .ar 8000401 0]), (5, .cells [.int .i64 (IntKind.wrap .i64 (a0.C + a1.C)), .ar 8000501 0]), (8000401, .rows 48 53 (.nm 4) [] 0 0 .opn), (8000501, .rows 48 53 (.nm 4) r1 0 0 .opn)]⟩ : Ab.St yaE)) : Goes w77V P C F w77P1 (w77L1S a0 a1 v1 v2) := by
  unfold qmMBesideL1 at h
  rcases ite_some h with ⟨b1, h⟩ | ⟨b1, h⟩
  · obtain ⟨c1, h⟩ := need_some h
    obtain ⟨c2, h⟩ := need_some h
    obtain ⟨c3, h⟩ := need_some h
    obtain ⟨c4, h⟩ := need_some h
    obtain ⟨c5, h⟩ := need_some h
    exact sg G [.reg [], .br true, .reg [], .reg [(14, .own)], .reg [], .enter, .weak [.re 8000501 8000501 0, .keep [2, 3, 4, 5, 15, 16] [2, 3, 4, 5, 8000401, 8000501]]] (aa b1 <| aa c1 <| aa c2 <| aa c3 <| aa c4 <| aa c5 <| tt) (hl _ (si h))
  · exact sg G [.reg [], .br false, .auto, .weak [.keep [4, 5] [4, 5, 8000401, 8000501]]] (aa b1 <| tt) (K1 _ (hr _ (si h)).symm)
theorem w77_w (G : Good w77V P) {y : QmM} {a0} {a1} (E : Ends w77V C F Try.f77.results.toList [[(0, 0), (48, 53)]] [(.nm 5)] (y, ())) (h : qmMBeside a0 a1 = some y) : Goes w77V P C F w77P0 (w77S a0 a1) := by
  unfold qmMBeside at h
  obtain ⟨r1, hi, h⟩ := bind_some h
  have K1 : ∀ q, r1 = q → Goes w77V P C F w77P2 (⟨38, [(4, ol (.ptr 4 0)), (5, ol (.ptr 5 0))], [(4, .cells [.int .i64 (0 : Int), .ar 8000401 0]), (5, .cells [.int .i64 (IntKind.wrap .i64 (a0.C + a1.C)), .ar 8000501 0]), (8000401, .rows 48 53 (.nm 4) [] 0 0 .opn), (8000501, .rows 48 53 (.nm 4) q 0 0 .opn)]⟩ : Ab.St yaE) := by
    rintro q rfl
    have e := sj h; subst e
    exact se G E [.reg [], .auto] tt
  exact sg G [.reg [], .weak [.own (.cell 4) 1 8000401 48 53], .reg [], .weak [.own (.cell 5) 1 8000501 48 53], .reg [], .enter, .weak [.keep [2, 3, 4, 5, 15, 16] [2, 3, 4, 5, 8000401, 8000501]]] tt (loop_goes (V := w77V) (F := F) (k := w77P1) (S := fun v => w77L1S a0 a1 v.1 v.2) (fun v o h hl hr => w77L1_w G E h hl hr K1) _ hi)
noncomputable def w77FS : FS yaE := ⟨[(.nm 5), (.nm 5)], [(.nm 5)], [], [[(0, 0), (48, 53)]], fun x => Option.map (fun r => (r, ())) (qmMBeside x.1 x.2.1)⟩
theorem w77Meets : MT 77 w77FS := show Meets w77V _ _ _ from mt (fn := Try.f77) (S := fun x => w77S x.1 x.2.1) (GB trivial trivial) fun G _ _ _ _ E h => w77_w G E h
noncomputable abbrev w78V : Env := EV [] [] false
noncomputable def w78P0 : List Item := [.code (Try.f78.body.getD .skip)]
noncomputable def w78P1 : List Item := ctl [.reg, .reg, .reg, .enter] w78P0
noncomputable def w78P2 : List Item := ctl [.reg, .br false, .auto] w78P1
noncomputable def w78L1S (a0 : (List NumQ)) (v1 : Int) (v2 : (List (List NumQ))) : Ab.St yaE := ⟨22, [(2, ol (.ptr 2 0)), (3, ol (.ptr 3 0)), (7, ol (.sl (.nm 4) false a0)), (8, oi ((a0.length : Nat) : Int)), (9, oi v1)], [(2, .cells [.int .i64 (0 : Int), .sl (.sl (.nm 4)) true []]), (3, .cells [.int .i64 (1 : Int), .ar 18 0]), (18, .arr 48 (.sl (.nm 4)) v2 0 false)]⟩
noncomputable def w78S (a0 : (List NumQ)) : Ab.St yaE := ⟨22, [(0, ol (.sl (.nm 4) false a0))], []⟩
theorem w78L1_w (G : Good w78V P) {y : QmM} {o} {r} {a0} {v1} {v2} (E : Ends w78V C F Try.f78.results.toList [] [(.nm 5)] (y, ())) (h : qmColumnL1 a0 v1 v2 = some o)
    (hl : ∀ v', o = .inl v' → Goes w78V P C F w78P1 (w78L1S a0 v'.1 v'.2)) (hr : ∀ r', o = .inr r' → r' = r)
    (K1 : ∀ r1, r = r1 → Goes w78V P C F w78P2 (⟨22, [(2, ol (.ptr 2 0)), (3, ol (.ptr 3 0))], [(2, .cells [.int .i64 (0 : Int), .sl (.sl (.nm 4)) true []]), (3, .cells [.int .i64 (1 : Int), .ar 18 0]), (18, .arr 48 (.sl (.nm 4)) r1 0 false)]⟩ : Ab.St yaE)) : Goes w78V P C F w78P1 (w78L1S a0 v1 v2) := by
  unfold qmColumnL1 at h
  rcases ite_some h with ⟨b1, h⟩ | ⟨b1, h⟩
  · obtain ⟨c1, h⟩ := need_some h
    obtain ⟨c2, h⟩ := need_some h
    exact sg G [.reg [], .br true, .reg [], .reg [], .reg [], .enter, .weak [.re 18 18 0, .keep [2, 3, 7, 8, 9] [2, 3, 18]]] (aa b1 <| aa c1 <| aa c2 <| tt) (hl _ (si h))
  · exact sg G [.reg [], .br false, .auto, .weak [.keep [2, 3] [2, 3, 18]]] (aa b1 <| tt) (K1 _ (hr _ (si h)).symm)
theorem w78_w (G : Good w78V P) {y : QmM} {a0} (E : Ends w78V C F Try.f78.results.toList [] [(.nm 5)] (y, ())) (h : qmColumn a0 = some y) : Goes w78V P C F w78P0 (w78S a0) := by
  unfold qmColumn at h
  obtain ⟨r1, hi, h⟩ := bind_some h
  have K1 : ∀ q, r1 = q → Goes w78V P C F w78P2 (⟨22, [(2, ol (.ptr 2 0)), (3, ol (.ptr 3 0))], [(2, .cells [.int .i64 (0 : Int), .sl (.sl (.nm 4)) true []]), (3, .cells [.int .i64 (1 : Int), .ar 18 0]), (18, .arr 48 (.sl (.nm 4)) q 0 false)]⟩ : Ab.St yaE) := by
    rintro q rfl
    have e := sj h; subst e
    exact se G E [.reg [], .auto, .weak [.fix (.cell 2)]] tt
  exact sg G [.reg [], .reg [], .reg [], .enter, .weak [.own (.cell 3) 1 18 48 0, .keep [2, 3, 7, 8, 9] [2, 3, 18]]] tt (loop_goes (V := w78V) (F := F) (k := w78P1) (S := fun v => w78L1S a0 v.1 v.2) (fun v o h hl hr => w78L1_w G E h hl hr K1) _ hi)
noncomputable def w78FS : FS yaE := ⟨[(.sl (.nm 4))], [(.nm 5)], [], [], fun x => Option.map (fun r => (r, ())) (qmColumn x.1)⟩
theorem w78Meets : MT 78 w78FS := show Meets w78V _ _ _ from mt (fn := Try.f78) (S := fun x => w78S x.1) (GB trivial trivial) fun G _ _ _ _ E h => w78_w G E h
noncomputable abbrev w79V : Env := EV [(17, w17FS), (48, w48FS)] [] false
noncomputable def w79P0 : List Item := [.code (Try.f79.body.getD .skip)]
noncomputable def w79P1 : List Item := ctl [.reg, .reg, .reg, .enter] w79P0
noncomputable def w79P2 : List Item := ctl [.reg, .br false, .auto] w79P1
noncomputable def w79P3 : List Item := ctl [.reg, .reg, .enter] w79P2
noncomputable def w79P4 : List Item := ctl [.reg, .br true, .reg, .reg, .br false, .reg, .reg, .enter] w79P3
noncomputable def w79P5 : List Item := ctl [.reg, .br false, .auto] w79P4
noncomputable def w79P6 : List Item := ctl [.reg, .reg, .enter] w79P5
noncomputable def w79P7 : List Item := ctl [.reg, .br false, .auto] w79P6
noncomputable def w79P8 : List Item := ctl [.reg, .br false, .auto] w79P3
noncomputable def w79L1S (a0 : QmM) (a1 : (List Int)) (a2 : Int) (v1 : Int) (v2 : (List Bool)) : Ab.St yaE := ⟨78, [(1, ol (.sl (.int .i64) false a1)), (2, oi a2), (3, ol (.ptr 3 0)), (7, ol (.ar 17 0)), (18, ol (.sl (.int .i64) false a1)), (19, oi ((a1.length : Nat) : Int)), (20, oi v1)], [(3, .cells [.int .i64 a0.C, .sl (.sl (.nm 4)) false a0.V]), (17, .arr 4 .bool v2 0 false)]⟩
noncomputable def w79L3S (a0 : QmM) (a1 : (List Int)) (a2 : Int) (v4 : Int) (v5 : (List (List NumQ))) (r1 : (List Bool)) (v6 : Int) (v7 : Int) (v8 : (List NumQ)) : Ab.St yaE := ⟨78, [(1, ol (.sl (.int .i64) false a1)), (2, oi a2), (3, ol (.ptr 3 0)), (7, ol (.ar 17 0)), (10, ol (.ar 7001000 0)), (11, oi v4), (12, ol (.ar 37 0)), (28, oi a2), (29, oi v4), (39, oi v6), (40, oi v7)], [(3, .cells [.int .i64 a0.C, .sl (.sl (.nm 4)) false a0.V]), (17, .arr 4 .bool r1 0 false), (37, .arr 53 (.nm 4) v8 0 false), (7001000, .rows 48 53 (.nm 4) v5 0 0 .opn)]⟩
noncomputable def w79L4S (a0 : QmM) (a1 : (List Int)) (a2 : Int) (v4 : Int) (v5 : (List (List NumQ))) (r1 : (List Bool)) (v10 : Int) (v11 : (List NumQ)) : Ab.St yaE := ⟨78, [(1, ol (.sl (.int .i64) false a1)), (2, oi a2), (3, ol (.ptr 3 0)), (7, ol (.ar 17 0)), (10, ol (.ar 7001000 0)), (11, oi v4), (12, ol (.ar 37 0)), (28, oi a2), (29, oi v4), (52, ol (.sl (.int .i64) false a1)), (53, oi ((a1.length : Nat) : Int)), (54, oi v10)], [(3, .cells [.int .i64 a0.C, .sl (.sl (.nm 4)) false a0.V]), (17, .arr 4 .bool r1 0 false), (37, .arr 53 (.nm 4) v11 0 false), (7001000, .rows 48 53 (.nm 4) v5 0 0 .opn)]⟩
noncomputable def w79L2S (a0 : QmM) (a1 : (List Int)) (a2 : Int) (r1 : (List Bool)) (v4 : Int) (v5 : (List (List NumQ))) : Ab.St yaE := ⟨78, [(1, ol (.sl (.int .i64) false a1)), (2, oi a2), (3, ol (.ptr 3 0)), (7, ol (.ar 17 0)), (10, ol (.ar 7001000 0)), (28, oi a2), (29, oi v4)], [(3, .cells [.int .i64 a0.C, .sl (.sl (.nm 4)) false a0.V]), (17, .arr 4 .bool r1 0 false), (7001000, .rows 48 53 (.nm 4) v5 0 0 .opn)]⟩
noncomputable def w79S (a0 : QmM) (a1 : (List Int)) (a2 : Int) : Ab.St yaE := ⟨78, [(0, og (yaToQmM a0)), (1, ol (.sl (.int .i64) false a1)), (2, oi a2)], []⟩
theorem w79L1_w (G : Good w79V P) {y : (List (List NumQ))} {o} {r} {a0} {a1} {a2} {v1} {v2} (E : Ends w79V C F Try.f79.results.toList [] [(.sl (.sl (.nm 4)))] (y, ())) (h : qmKernelL1 a0 a1 a2 v1 v2 = some o)
    (hl : ∀ v', o = .inl v' → Goes w79V P C F w79P1 (w79L1S a0 a1 a2 v'.1 v'.2)) (hr : ∀ r', o = .inr r' → r' = r)
    (K1 : ∀ r1, r = r1 → Goes w79V P C F w79P2 (⟨78, [(1, ol (.sl (.int .i64) false a1)), (2, oi a2), (3, ol (.ptr 3 0)), (7, ol (.ar 17 0))], [(3, .cells [.int .i64 a0.C, .sl (.sl (.nm 4)) false a0.V]), (17, .arr 4 .bool r1 0 false)]⟩ : Ab.St yaE)) : Goes w79V P C F w79P1 (w79L1S a0 a1 a2 v1 v2) := by
  unfold qmKernelL1 at h
  rcases ite_some h with ⟨b1, h⟩ | ⟨b1, h⟩
  · obtain ⟨c4, h⟩ := need_some h
    obtain ⟨c5, h⟩ := need_some h
    exact sg G [.reg [], .br true, .reg [], .reg [], .reg [], .enter, .weak [.keep [1, 2, 3, 7, 18, 19, 20] [3, 17]]] (aa b1 <| aa c4 <| aa c5 <| tt) (hl _ (si h))
  · exact sg G [.reg [], .br false, .auto, .weak [.keep [1, 2, 3, 7] [3, 17]]] (aa b1 <| tt) (K1 _ (hr _ (si h)).symm)
theorem w79L3_w (G : Good w79V P) {y : (List (List NumQ))} {o} {r} {a0} {a1} {a2} {v4} {v5} {r1} {v6} {v7} {v8} (E : Ends w79V C F Try.f79.results.toList [] [(.sl (.sl (.nm 4)))] (y, ())) (h : qmKernelL3 a0 a1 a2 v4 v5 r1 v6 v7 v8 = some o)
    (hl : ∀ v', o = .inl v' → Goes w79V P C F w79P4 (w79L3S a0 a1 a2 v4 v5 r1 v'.1 v'.2.1 v'.2.2)) (hr : ∀ r', o = .inr r' → r' = r)
    (K1 : ∀ r2, r = r2 → Goes w79V P C F w79P5 (⟨78, [(1, ol (.sl (.int .i64) false a1)), (2, oi a2), (3, ol (.ptr 3 0)), (7, ol (.ar 17 0)), (10, ol (.ar 7001000 0)), (11, oi v4), (12, ol (.ar 37 0)), (28, oi a2), (29, oi v4)], [(3, .cells [.int .i64 a0.C, .sl (.sl (.nm 4)) false a0.V]), (17, .arr 4 .bool r1 0 false), (37, .arr 53 (.nm 4) r2 0 false), (7001000, .rows 48 53 (.nm 4) v5 0 0 .opn)]⟩ : Ab.St yaE)) : Goes w79V P C F w79P4 (w79L3S a0 a1 a2 v4 v5 r1 v6 v7 v8) := by
  unfold qmKernelL3 at h
  rcases ite_some h with ⟨b4, h⟩ | ⟨b4, h⟩
  · obtain ⟨y1, c10, h⟩ := bind_some h
    obtain ⟨c11, h⟩ := need_some h
    exact sg G [.reg [], .br true, .reg [], .reg [(2, .res ⟨[(.nm 4)], (y1, ())⟩)], .reg [], .enter, .weak [.keep [1, 2, 3, 7, 10, 11, 12, 28, 29, 39, 40] [3, 17, 37, 7001000]]] (aa b4 <| aa (ca c10) <| aa c11 <| tt) (hl _ (si h))
  · exact sg G [.reg [], .br false, .auto, .weak [.keep [1, 2, 3, 7, 10, 11, 12, 28, 29] [3, 17, 37, 7001000]]] (aa b4 <| tt) (K1 _ (hr _ (si h)).symm)
theorem w79L4_w (G : Good w79V P) {y : (List (List NumQ))} {o} {r} {a0} {a1} {a2} {v4} {v5} {r1} {v10} {v11} (E : Ends w79V C F Try.f79.results.toList [] [(.sl (.sl (.nm 4)))] (y, ())) (h : qmKernelL4 a0 a1 a2 v4 v5 r1 v10 v11 = some o)
    (hl : ∀ v', o = .inl v' → Goes w79V P C F w79P6 (w79L4S a0 a1 a2 v4 v5 r1 v'.1 v'.2)) (hr : ∀ r', o = .inr r' → r' = r)
    (K1 : ∀ r3, r = r3 → Goes w79V P C F w79P7 (⟨78, [(1, ol (.sl (.int .i64) false a1)), (2, oi a2), (3, ol (.ptr 3 0)), (7, ol (.ar 17 0)), (10, ol (.ar 7001000 0)), (12, ol (.ar 37 0)), (28, oi a2), (29, oi v4)], [(3, .cells [.int .i64 a0.C, .sl (.sl (.nm 4)) false a0.V]), (17, .arr 4 .bool r1 0 false), (37, .arr 53 (.nm 4) r3 0 false), (7001000, .rows 48 53 (.nm 4) v5 0 0 .opn)]⟩ : Ab.St yaE)) : Goes w79V P C F w79P6 (w79L4S a0 a1 a2 v4 v5 r1 v10 v11) := by
  unfold qmKernelL4 at h
  rcases ite_some h with ⟨b5, h⟩ | ⟨b5, h⟩
  · obtain ⟨c14, h⟩ := need_some h
    obtain ⟨c15, h⟩ := need_some h
    obtain ⟨c16, h⟩ := need_some h
    obtain ⟨y3, c17, h⟩ := bind_some h
    obtain ⟨c18, h⟩ := need_some h
    exact sg G [.reg [], .br true, .reg [], .reg [(10, .res ⟨[(.nm 4)], (y3, ())⟩)], .reg [], .enter, .weak [.keep [1, 2, 3, 7, 10, 11, 12, 28, 29, 52, 53, 54] [3, 17, 37, 7001000]]] (aa b5 <| aa c14 <| aa c15 <| aa c16 <| aa (ca c17) <| aa c18 <| tt) (hl _ (si h))
  · exact sg G [.reg [], .br false, .auto, .weak [.keep [1, 2, 3, 7, 10, 12, 28, 29] [3, 17, 37, 7001000]]] (aa b5 <| tt) (K1 _ (hr _ (si h)).symm)
theorem w79L2_w (G : Good w79V P) {y : (List (List NumQ))} {o} {r} {a0} {a1} {a2} {r1} {v4} {v5} (E : Ends w79V C F Try.f79.results.toList [] [(.sl (.sl (.nm 4)))] (y, ())) (h : qmKernelL2 a0 a1 a2 r1 v4 v5 = some o)
    (hl : ∀ v', o = .inl v' → Goes w79V P C F w79P3 (w79L2S a0 a1 a2 r1 v'.1 v'.2)) (hr : ∀ r', o = .inr r' → r' = r)
    (K1 : ∀ r4, r = r4 → Goes w79V P C F w79P8 (⟨78, [(10, ol (.ar 7001000 0))], [(7001000, .rows 48 53 (.nm 4) r4 0 0 .opn)]⟩ : Ab.St yaE)) : Goes w79V P C F w79P3 (w79L2S a0 a1 a2 r1 v4 v5) := by
  unfold qmKernelL2 at h
  rcases ite_some h with ⟨b2, h⟩ | ⟨b2, h⟩
  · obtain ⟨c6, h⟩ := need_some h
    rcases ite_some h with ⟨b3, h⟩ | ⟨b3, h⟩
    · exact sg G [.reg [], .br true, .reg [], .reg [], .br true, .reg [], .enter, .weak [.keep [1, 2, 3, 7, 10, 28, 29] [3, 17, 7001000]]] (aa b2 <| aa c6 <| aa b3 <| tt) (hl _ (si h))
    · obtain ⟨c7, h⟩ := need_some h
      obtain ⟨c8, h⟩ := need_some h
      obtain ⟨c9, h⟩ := need_some h
      obtain ⟨r2, hi, h⟩ := bind_some h
      have K1 : ∀ q, r2 = q → Goes w79V P C F w79P5 (⟨78, [(1, ol (.sl (.int .i64) false a1)), (2, oi a2), (3, ol (.ptr 3 0)), (7, ol (.ar 17 0)), (10, ol (.ar 7001000 0)), (11, oi v4), (12, ol (.ar 37 0)), (28, oi a2), (29, oi v4)], [(3, .cells [.int .i64 a0.C, .sl (.sl (.nm 4)) false a0.V]), (17, .arr 4 .bool r1 0 false), (37, .arr 53 (.nm 4) q 0 false), (7001000, .rows 48 53 (.nm 4) v5 0 0 .opn)]⟩ : Ab.St yaE) := by
        rintro q rfl
        obtain ⟨y2, c12, h⟩ := bind_some h
        obtain ⟨c13, h⟩ := need_some h
        obtain ⟨r3, hi, h⟩ := bind_some h
        have K1 : ∀ q, r3 = q → Goes w79V P C F w79P7 (⟨78, [(1, ol (.sl (.int .i64) false a1)), (2, oi a2), (3, ol (.ptr 3 0)), (7, ol (.ar 17 0)), (10, ol (.ar 7001000 0)), (12, ol (.ar 37 0)), (28, oi a2), (29, oi v4)], [(3, .cells [.int .i64 a0.C, .sl (.sl (.nm 4)) false a0.V]), (17, .arr 4 .bool r1 0 false), (37, .arr 53 (.nm 4) q 0 false), (7001000, .rows 48 53 (.nm 4) v5 0 0 .opn)]⟩ : Ab.St yaE) := by
          rintro q rfl
          obtain ⟨c19, h⟩ := need_some h
          exact sg G [.reg [(2, .own)], .reg [], .enter, .weak [.re 7001000 7001000 0, .keep [1, 2, 3, 7, 10, 28, 29] [3, 17, 7001000]]] (aa c19 <| tt) (hl _ (si h))
        exact sg G [.reg [(2, .res ⟨[(.nm 4)], (y2, ())⟩)], .reg [], .enter, .weak [.keep [1, 2, 3, 7, 10, 11, 12, 28, 29, 52, 53, 54] [3, 17, 37, 7001000]]] (aa (ca c12) <| aa c13 <| tt) (loop_goes (V := w79V) (F := F) (k := w79P6) (S := fun v => w79L4S a0 a1 a2 v4 v5 r1 v.1 v.2) (fun v o h hl hr => w79L4_w G E h hl hr K1) _ hi)
      exact sg G [.reg [], .br true, .reg [], .reg [], .br false, .reg [], .reg [], .enter, .weak [.keep [1, 2, 3, 7, 10, 11, 12, 28, 29, 39, 40] [3, 17, 37, 7001000]]] (aa b2 <| aa c6 <| aa b3 <| aa c7 <| aa c8 <| aa c9 <| tt) (loop_goes (V := w79V) (F := F) (k := w79P4) (S := fun v => w79L3S a0 a1 a2 v4 v5 r1 v.1 v.2.1 v.2.2) (fun v o h hl hr => w79L3_w G E h hl hr K1) _ hi)
  · exact sg G [.reg [], .br false, .auto, .weak [.keep [10] [7001000]]] (aa b2 <| tt) (K1 _ (hr _ (si h)).symm)
theorem w79_w (G : Good w79V P) {y : (List (List NumQ))} {a0} {a1} {a2} (E : Ends w79V C F Try.f79.results.toList [] [(.sl (.sl (.nm 4)))] (y, ())) (h : qmKernel a0 a1 a2 = some y) : Goes w79V P C F w79P0 (w79S a0 a1 a2) := by
  unfold qmKernel at h
  obtain ⟨c1, h⟩ := need_some h
  obtain ⟨c2, h⟩ := need_some h
  obtain ⟨c3, h⟩ := need_some h
  obtain ⟨r1, hi, h⟩ := bind_some h
  have K1 : ∀ q, r1 = q → Goes w79V P C F w79P2 (⟨78, [(1, ol (.sl (.int .i64) false a1)), (2, oi a2), (3, ol (.ptr 3 0)), (7, ol (.ar 17 0))], [(3, .cells [.int .i64 a0.C, .sl (.sl (.nm 4)) false a0.V]), (17, .arr 4 .bool q 0 false)]⟩ : Ab.St yaE) := by
    rintro q rfl
    obtain ⟨r4, hi, h⟩ := bind_some h
    have K1 : ∀ q, r4 = q → Goes w79V P C F w79P8 (⟨78, [(10, ol (.ar 7001000 0))], [(7001000, .rows 48 53 (.nm 4) q 0 0 .opn)]⟩ : Ab.St yaE) := by
      rintro q rfl
      have e := sj h; subst e
      exact se G E [.reg [], .auto, .weak [.fix (.slot 6)]] tt
    exact sg G [.reg [], .weak [.own (.slot 10) 0 7001000 48 53], .reg [], .enter, .weak [.keep [1, 2, 3, 7, 10, 28, 29] [3, 17, 7001000]]] tt (loop_goes (V := w79V) (F := F) (k := w79P3) (S := fun v => w79L2S a0 a1 a2 r1 v.1 v.2) (fun v o h hl hr => w79L2_w G E h hl hr K1) _ hi)
  exact sg G [.reg [], .reg [], .reg [], .enter, .weak [.keep [1, 2, 3, 7, 18, 19, 20] [3, 17]]] (aa c1 <| aa c2 <| aa c3 <| tt) (loop_goes (V := w79V) (F := F) (k := w79P1) (S := fun v => w79L1S a0 a1 a2 v.1 v.2) (fun v o h hl hr => w79L1_w G E h hl hr K1) _ hi)
noncomputable def w79FS : FS yaE := ⟨[(.nm 5), (.sl (.int .i64)), (.int .i64)], [(.sl (.sl (.nm 4)))], [], [], fun x => Option.map (fun r => (r, ())) (qmKernel x.1 x.2.1 x.2.2.1)⟩
theorem w79Meets : MT 79 w79FS := show Meets w79V _ _ _ from mt (fn := Try.f79) (S := fun x => w79S x.1 x.2.1 x.2.2.1) (GB ⟨w17Meets, w48Meets, trivial⟩ trivial) fun G _ _ _ _ E h => w79_w G E h
noncomputable abbrev w50V : Env := EV [(17, w17FS), (30, w30FS), (52, w52FS), (77, w77FS), (78, w78FS), (79, w79FS)] [] false
noncomputable def w50P0 : List Item := [.code (Try.f50.body.getD .skip)]
noncomputable def w50P1 : List Item := ctl [.reg, .reg, .reg, .enter] w50P0
noncomputable def w50P2 : List Item := ctl [.reg, .br false, .auto] w50P1
noncomputable def w50P3 : List Item := ctl [.reg, .reg, .enter] w50P2
noncomputable def w50P4 : List Item := ctl [.reg, .br false, .auto] w50P3
noncomputable def w50P5 : List Item := ctl [.reg, .enter] w50P4
noncomputable def w50P6 : List Item := ctl [.reg, .br false, .auto] w50P5
noncomputable def w50L1S (a0 : QmM) (y3 : (QmM × (List Int) × NumQ)) (v1 : Int) : Ab.St yaE := ⟨85, [(2, ol (.ptr 2 0)), (7, ol (.ptr 7 0)), (8, ol (.sl (.int .i64) false y3.2.1)), (10, oi v1)], [(2, .cells [.int .i64 a0.C, .sl (.sl (.nm 4)) false a0.V]), (7, .cells [.int .i64 y3.1.C, .sl (.sl (.nm 4)) false y3.1.V])]⟩
noncomputable def w50L2S (a0 : QmM) (y3 : (QmM × (List Int) × NumQ)) (v2 : Int) (v3 : Int) (v4 : (List NumQ)) : Ab.St yaE := ⟨85, [(2, ol (.ptr 2 0)), (7, ol (.ptr 7 0)), (8, ol (.sl (.int .i64) false y3.2.1)), (11, ol (.ar 48 0)), (50, oi v2), (51, oi v3)], [(2, .cells [.int .i64 a0.C, .sl (.sl (.nm 4)) false a0.V]), (7, .cells [.int .i64 y3.1.C, .sl (.sl (.nm 4)) false y3.1.V]), (48, .arr 53 (.nm 4) v4 0 false)]⟩
noncomputable def w50L3S (a0 : QmM) (y3 : (QmM × (List Int) × NumQ)) (v6 : Int) (v7 : (List NumQ)) : Ab.St yaE := ⟨85, [(2, ol (.ptr 2 0)), (7, ol (.ptr 7 0)), (8, ol (.sl (.int .i64) false y3.2.1)), (11, ol (.ar 48 0)), (59, ol (.sl (.int .i64) false y3.2.1)), (60, oi ((y3.2.1.length : Nat) : Int)), (61, oi v6)], [(2, .cells [.int .i64 a0.C, .sl (.sl (.nm 4)) false a0.V]), (7, .cells [.int .i64 y3.1.C, .sl (.sl (.nm 4)) false y3.1.V]), (48, .arr 53 (.nm 4) v7 0 false)]⟩
noncomputable def w50S (a0 : QmM) (a1 : (List NumQ)) : Ab.St yaE := ⟨85, [(0, og (yaToQmM a0)), (1, ol (.sl (.nm 4) false a1))], []⟩
theorem w50L1_w (G : Good w50V P) {y : ((List NumQ) × (List (List NumQ)) × Bool)} {o} {r} {a0} {y3} {v1} (E : Ends w50V C F Try.f50.results.toList [] [(.sl (.nm 4)), (.sl (.sl (.nm 4))), .bool] (y.1, y.2.1, y.2.2, ())) (h : qmMSolveL1 a0 y3 v1 = some o)
    (hl : ∀ v', o = .inl v' → Goes w50V P C F w50P1 (w50L1S a0 y3 v')) (hr : ∀ r', o = .inr r' → r' = r)
    (K1 : ∀ r1, r = (.inl r1) → Goes w50V P C F w50P2 (⟨85, [(2, ol (.ptr 2 0)), (7, ol (.ptr 7 0)), (8, ol (.sl (.int .i64) false y3.2.1))], [(2, .cells [.int .i64 a0.C, .sl (.sl (.nm 4)) false a0.V]), (7, .cells [.int .i64 y3.1.C, .sl (.sl (.nm 4)) false y3.1.V])]⟩ : Ab.St yaE))
    (KR : ∀ r', r = (.inr r') → r' = y) : Goes w50V P C F w50P1 (w50L1S a0 y3 v1) := by
  unfold qmMSolveL1 at h
  rcases ite_some h with ⟨b1, h⟩ | ⟨b1, h⟩
  · obtain ⟨c4, h⟩ := need_some h
    obtain ⟨c5, h⟩ := need_some h
    obtain ⟨y4, c6, h⟩ := bind_some h
    rcases ite_some h with ⟨b2, h⟩ | ⟨b2, h⟩
    · have e := KR _ (hr _ (si h)).symm; subst e
      exact se G E [.reg [], .br true, .reg [(9, .res ⟨[.bool], (y4, ())⟩)], .br true, .reg [], .auto] (aa b1 <| aa c4 <| aa c5 <| aa (ca c6) <| aa b2 <| tt)
    · exact sg G [.reg [], .br true, .reg [(9, .res ⟨[.bool], (y4, ())⟩)], .br false, .reg [], .enter, .weak [.keep [2, 7, 8, 10] [2, 7]]] (aa b1 <| aa c4 <| aa c5 <| aa (ca c6) <| aa b2 <| tt) (hl _ (si h))
  · exact sg G [.reg [], .br false, .auto, .weak [.keep [2, 7, 8] [2, 7]]] (aa b1 <| tt) (K1 _ (hr _ (si h)).symm)
theorem w50L2_w (G : Good w50V P) {y : ((List NumQ) × (List (List NumQ)) × Bool)} {o} {r} {a0} {y3} {v2} {v3} {v4} (E : Ends w50V C F Try.f50.results.toList [] [(.sl (.nm 4)), (.sl (.sl (.nm 4))), .bool] (y.1, y.2.1, y.2.2, ())) (h : qmMSolveL2 a0 y3 v2 v3 v4 = some o)
    (hl : ∀ v', o = .inl v' → Goes w50V P C F w50P3 (w50L2S a0 y3 v'.1 v'.2.1 v'.2.2)) (hr : ∀ r', o = .inr r' → r' = r)
    (K1 : ∀ r2, r = r2 → Goes w50V P C F w50P4 (⟨85, [(2, ol (.ptr 2 0)), (7, ol (.ptr 7 0)), (8, ol (.sl (.int .i64) false y3.2.1)), (11, ol (.ar 48 0))], [(2, .cells [.int .i64 a0.C, .sl (.sl (.nm 4)) false a0.V]), (7, .cells [.int .i64 y3.1.C, .sl (.sl (.nm 4)) false y3.1.V]), (48, .arr 53 (.nm 4) r2 0 false)]⟩ : Ab.St yaE)) : Goes w50V P C F w50P3 (w50L2S a0 y3 v2 v3 v4) := by
  unfold qmMSolveL2 at h
  rcases ite_some h with ⟨b3, h⟩ | ⟨b3, h⟩
  · obtain ⟨y5, c10, h⟩ := bind_some h
    obtain ⟨c11, h⟩ := need_some h
    exact sg G [.reg [], .br true, .reg [], .reg [(2, .res ⟨[(.nm 4)], (y5, ())⟩)], .reg [], .enter, .weak [.keep [2, 7, 8, 11, 50, 51] [2, 7, 48]]] (aa b3 <| aa (ca c10) <| aa c11 <| tt) (hl _ (si h))
  · exact sg G [.reg [], .br false, .auto, .weak [.keep [2, 7, 8, 11] [2, 7, 48]]] (aa b3 <| tt) (K1 _ (hr _ (si h)).symm)
theorem w50L3_w (G : Good w50V P) {y : ((List NumQ) × (List (List NumQ)) × Bool)} {o} {r} {a0} {y3} {v6} {v7} (E : Ends w50V C F Try.f50.results.toList [] [(.sl (.nm 4)), (.sl (.sl (.nm 4))), .bool] (y.1, y.2.1, y.2.2, ())) (h : qmMSolveL3 a0 y3 v6 v7 = some o)
    (hl : ∀ v', o = .inl v' → Goes w50V P C F w50P5 (w50L3S a0 y3 v'.1 v'.2)) (hr : ∀ r', o = .inr r' → r' = r)
    (K1 : ∀ r3, r = r3 → Goes w50V P C F w50P6 (⟨85, [(2, ol (.ptr 2 0)), (7, ol (.ptr 7 0)), (8, ol (.sl (.int .i64) false y3.2.1)), (11, ol (.ar 48 0))], [(2, .cells [.int .i64 a0.C, .sl (.sl (.nm 4)) false a0.V]), (7, .cells [.int .i64 y3.1.C, .sl (.sl (.nm 4)) false y3.1.V]), (48, .arr 53 (.nm 4) r3 0 false)]⟩ : Ab.St yaE)) : Goes w50V P C F w50P5 (w50L3S a0 y3 v6 v7) := by
  unfold qmMSolveL3 at h
  rcases ite_some h with ⟨b4, h⟩ | ⟨b4, h⟩
  · obtain ⟨c12, h⟩ := need_some h
    obtain ⟨c13, h⟩ := need_some h
    obtain ⟨c14, h⟩ := need_some h
    obtain ⟨c15, h⟩ := need_some h
    exact sg G [.reg [], .br true, .reg [], .reg [], .reg [], .enter, .weak [.keep [2, 7, 8, 11, 59, 60, 61] [2, 7, 48]]] (aa b4 <| aa c12 <| aa c13 <| aa c14 <| aa c15 <| tt) (hl _ (si h))
  · exact sg G [.reg [], .br false, .auto, .weak [.keep [2, 7, 8, 11] [2, 7, 48]]] (aa b4 <| tt) (K1 _ (hr _ (si h)).symm)
theorem w50_w (G : Good w50V P) {y : ((List NumQ) × (List (List NumQ)) × Bool)} {a0} {a1} (E : Ends w50V C F Try.f50.results.toList [] [(.sl (.nm 4)), (.sl (.sl (.nm 4))), .bool] (y.1, y.2.1, y.2.2, ())) (h : qmMSolve a0 a1 = some y) : Goes w50V P C F w50P0 (w50S a0 a1) := by
  unfold qmMSolve at h
  obtain ⟨y1, c1, h⟩ := bind_some h
  obtain ⟨y2, c2, h⟩ := bind_some h
  obtain ⟨y3, c3, h⟩ := bind_some h
  obtain ⟨r, hi, h⟩ := bind_some h
  have K1 : ∀ r1, r = (.inl r1) → Goes w50V P C F w50P2 (⟨85, [(2, ol (.ptr 2 0)), (7, ol (.ptr 7 0)), (8, ol (.sl (.int .i64) false y3.2.1))], [(2, .cells [.int .i64 a0.C, .sl (.sl (.nm 4)) false a0.V]), (7, .cells [.int .i64 y3.1.C, .sl (.sl (.nm 4)) false y3.1.V])]⟩ : Ab.St yaE) := by
    rintro r1 rfl
    obtain ⟨c7, h⟩ := need_some h
    obtain ⟨c8, h⟩ := need_some h
    obtain ⟨c9, h⟩ := need_some h
    obtain ⟨r2, hi, h⟩ := bind_some h
    have K1 : ∀ q, r2 = q → Goes w50V P C F w50P4 (⟨85, [(2, ol (.ptr 2 0)), (7, ol (.ptr 7 0)), (8, ol (.sl (.int .i64) false y3.2.1)), (11, ol (.ar 48 0))], [(2, .cells [.int .i64 a0.C, .sl (.sl (.nm 4)) false a0.V]), (7, .cells [.int .i64 y3.1.C, .sl (.sl (.nm 4)) false y3.1.V]), (48, .arr 53 (.nm 4) q 0 false)]⟩ : Ab.St yaE) := by
      rintro q rfl
      obtain ⟨r3, hi, h⟩ := bind_some h
      have K1 : ∀ q, r3 = q → Goes w50V P C F w50P6 (⟨85, [(2, ol (.ptr 2 0)), (7, ol (.ptr 7 0)), (8, ol (.sl (.int .i64) false y3.2.1)), (11, ol (.ar 48 0))], [(2, .cells [.int .i64 a0.C, .sl (.sl (.nm 4)) false a0.V]), (7, .cells [.int .i64 y3.1.C, .sl (.sl (.nm 4)) false y3.1.V]), (48, .arr 53 (.nm 4) q 0 false)]⟩ : Ab.St yaE) := by
        rintro q rfl
        obtain ⟨y6, c16, h⟩ := bind_some h
        have e := sj h; subst e
        exact se G E [.reg [(5, .res ⟨[(.sl (.sl (.nm 4)))], (y6, ())⟩)], .auto, .weak [.fix (.slot 4)]] (aa (ca c16) <| tt)
      exact sg G [.reg [], .enter, .weak [.keep [2, 7, 8, 11, 59, 60, 61] [2, 7, 48]]] tt (loop_goes (V := w50V) (F := F) (k := w50P5) (S := fun v => w50L3S a0 y3 v.1 v.2) (fun v o h hl hr => w50L3_w G E h hl hr K1) _ hi)
    exact sg G [.reg [], .reg [], .enter, .weak [.keep [2, 7, 8, 11, 50, 51] [2, 7, 48]]] (aa c7 <| aa c8 <| aa c9 <| tt) (loop_goes (V := w50V) (F := F) (k := w50P3) (S := fun v => w50L2S a0 y3 v.1 v.2.1 v.2.2) (fun v o h hl hr => w50L2_w G E h hl hr K1) _ hi)
  have KR : ∀ r4, r = (.inr r4) → r4 = y := by
    rintro r4 rfl
    exact Option.some.inj h
  exact sg G [.reg [], .reg [(2, .res ⟨[(.nm 5)], (y1, ())⟩), (3, .res ⟨[(.nm 5)], (y2, ())⟩), (6, .res ⟨[(.nm 5), (.sl (.int .i64)), (.nm 4)], (y3.1, y3.2.1, y3.2.2, ())⟩)], .reg [], .enter, .weak [.keep [2, 7, 8, 10] [2, 7]]] (aa (ca c1) <| aa (ca c2) <| aa (congrArg (Option.map (fun r => (r.1, r.2.1, r.2.2, ()))) c3) <| tt) (loop_goes (V := w50V) (F := F) (k := w50P1) (S := fun v => w50L1S a0 y3 v) (fun v o h hl hr => w50L1_w G E h hl hr K1 KR) _ hi)
noncomputable def w50FS : FS yaE := ⟨[(.nm 5), (.sl (.nm 4))], [(.sl (.nm 4)), (.sl (.sl (.nm 4))), .bool], [], [], fun x => Option.map (fun r => (r.1, r.2.1, r.2.2, ())) (qmMSolve x.1 x.2.1)⟩
theorem w50Meets : MT 50 w50FS := show Meets w50V _ _ _ from mt (fn := Try.f50) (S := fun x => w50S x.1 x.2.1) (GB ⟨w17Meets, w30Meets, w52Meets, w77Meets, w78Meets, w79Meets, trivial⟩ trivial) fun G _ _ _ _ E h => w50_w G E h
end
end Go.Ab
