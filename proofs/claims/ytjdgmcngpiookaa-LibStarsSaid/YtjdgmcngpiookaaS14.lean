/- The functions compute what the plain functions tell. Conditions: none beyond those that each theorem names. -/
import Derived.Test.YtjdgmcngpiookaaS13
namespace Go.Ab
open Go Go.Proofs
set_option linter.unusedVariables false
section
variable {P : Program} {C : Ctx} {F : Act -> World -> Prop}
noncomputable abbrev B7 : Env := EV [(71, Aq7), (95, Asr)] [] false
noncomputable def Aqo : List Item := [.code (Try.f94.body.getD .skip)]
noncomputable def Aj2 := ctl [.reg, .reg, .br false, .reg, .br true, .reg, .reg, .reg, .enter] Aqo
noncomputable def A1d := ctl [.reg, .br false, .auto] Aj2
noncomputable def Y4 := ctl [.reg, .reg, .br false, .reg, .br false, .reg, .reg, .reg, .reg, .enter] Aqo
noncomputable def A73 := ctl [.reg, .br true, .reg, .reg, .reg, .br true, .reg, .auto] Y4
noncomputable def Aig := ctl [.reg, .br false, .auto] Y4
noncomputable def V5 := ctl [.reg, .enter] Aig
noncomputable def Az5 := ctl [.reg, .br true, .reg, .reg, .br true, .reg, .auto] V5
noncomputable def A5t := ctl [.reg, .br true, .reg, .auto] Az5
noncomputable def Ad4 := ctl [.reg, .br false, .auto] V5
noncomputable def Sy := ctl [.reg, .reg, .reg, .enter] Ad4
noncomputable def Sr := ctl [.reg, .br true, .reg, .reg, .enter] Sy
noncomputable def A2j := ctl [.reg, .br true, .auto] Sr
noncomputable def Zg := ctl [.reg, .br false, .auto] Sr
noncomputable def Ta := ctl [.reg, .reg, .enter] Zg
noncomputable def A3i := ctl [.reg, .br true, .reg, .reg, .reg, .reg, .reg, .reg, .reg, .br true, .reg, .auto] Ta
noncomputable def Ace := ctl [.reg, .br false, .auto] Ta
noncomputable def Zh := ctl [.reg, .reg, .reg, .br true, .reg, .reg, .reg, .enter] Ace
noncomputable def Afn := ctl [.reg, .br false, .auto] Zh
noncomputable def A4d := ctl [.reg, .auto] Afn
noncomputable def Abk := ctl [.reg, .br false, .auto] Sy
noncomputable def Sv := ctl [.reg, .reg, .enter] Abk
noncomputable def A4j := ctl [.reg, .br true, .reg, .reg, .reg, .br true, .reg, .auto] Sv
noncomputable def Aft := ctl [.reg, .br false, .auto] Sv
abbrev P2 (C : Ctx) (F : Act -> World -> Prop) (y : ((List Int) × (List Int))) : Prop := Bz B7 C F Try.f94.results.toList [] [(.sl (.int .u32)), (.sl (.int .u32))] (y.1, y.2, ())
noncomputable def Aif (r1 : (Int × (List Int))) : ST := ⟨392, [(6, ol (.ar 43 0)), (7, ol (.int .u64 r1.1))], [(43, .arr 115 (.int .u32) r1.2 0 false)]⟩
noncomputable def Aaw (a0 : List Int) (r2 : ((List Int) × (List Int))) (y2 : Int) : ST := ⟨392, [(0, ol (.sl (.int .u32) false a0)), (10, ol (.int .u64 (IntKind.wrap .u64 y2))), (11, ol (.ar 90 0)), (12, ol (.ar 93 0))], [(90, .arr 115 (.int .u32) r2.1 0 false), (93, .arr 115 (.int .u32) r2.2 0 false)]⟩
noncomputable def Us (a0 : List Int) (r2 : ((List Int) × (List Int))) (r3 : List Int) (y2 : Int) : ST := ⟨392, [(0, ol (.sl (.int .u32) false a0)), (10, ol (.int .u64 (IntKind.wrap .u64 y2))), (11, ol (.ar 90 0)), (12, ol (.ar 93 0))], [(90, .arr 115 (.int .u32) r3 0 false), (93, .arr 115 (.int .u32) r2.2 0 false)]⟩
noncomputable def Abn (v17 : Int) (v18 : List Int) (v19 : List Int) (r2 : ((List Int) × (List Int))) (r4 : Int) (y2 : Int) : ST := ⟨392, [(10, ol (.int .u64 (IntKind.wrap .u64 y2))), (11, ol (.ar 90 0)), (12, ol (.ar 93 0)), (15, oi ((r2.2.length : Nat) : Int)), (16, ol (.ar 175 0)), (17, oi v17), (19, ol (.int .u64 r4))], [(90, .arr 115 (.int .u32) v18 0 false), (93, .arr 115 (.int .u32) r2.2 0 false), (175, .arr 115 (.int .u32) v19 0 false)]⟩
noncomputable def Acf (v17 : Int) (v19 : List Int) (r2 : ((List Int) × (List Int))) (r4 : Int) (r5 : (Int × Int × (List Int))) (y2 : Int) : ST := ⟨392, [(10, ol (.int .u64 (IntKind.wrap .u64 y2))), (11, ol (.ar 90 0)), (12, ol (.ar 93 0)), (15, oi ((r2.2.length : Nat) : Int)), (16, ol (.ar 175 0)), (17, oi v17), (19, ol (.int .u64 r4)), (21, oi r5.1), (22, ol (.int .u64 r5.2.1))], [(90, .arr 115 (.int .u32) r5.2.2 0 false), (93, .arr 115 (.int .u32) r2.2 0 false), (175, .arr 115 (.int .u32) v19 0 false)]⟩
noncomputable def Ala (v17 : Int) (v19 : List Int) (r2 : ((List Int) × (List Int))) (r4 : Int) (r6 : (Int × (List Int))) (y2 : Int) : ST := ⟨392, [(10, ol (.int .u64 (IntKind.wrap .u64 y2))), (11, ol (.ar 90 0)), (12, ol (.ar 93 0)), (15, oi ((r2.2.length : Nat) : Int)), (16, ol (.ar 175 0)), (17, oi v17), (19, ol (.int .u64 (IntKind.wrap .u64 (r4 - (1 : Int))))), (27, ol (.int .u64 r6.1))], [(90, .arr 115 (.int .u32) r6.2 0 false), (93, .arr 115 (.int .u32) r2.2 0 false), (175, .arr 115 (.int .u32) v19 0 false)]⟩
noncomputable def Aay (r2 : ((List Int) × (List Int))) (r7 : ((List Int) × (List Int))) (y2 : Int) : ST := ⟨392, [(10, ol (.int .u64 (IntKind.wrap .u64 y2))), (11, ol (.ar 90 0)), (15, oi ((r2.2.length : Nat) : Int)), (16, ol (.ar 175 0))], [(90, .arr 115 (.int .u32) r7.1 0 false), (175, .arr 115 (.int .u32) r7.2 0 false)]⟩
noncomputable def Ab4 (r7 : ((List Int) × (List Int))) (r8 : List Int) : ST := ⟨392, [(16, ol (.ar 175 0)), (30, ol (.ar 359 0))], [(175, .arr 115 (.int .u32) r7.2 0 false), (359, .arr 115 (.int .u32) r8 0 false)]⟩
noncomputable def Ae3 (a0 : List Int) (a1 : List Int) (v1 : Int) (v2 : Int) (v3 : List Int) : ST := ⟨392, [(0, ol (.sl (.int .u32) false a0)), (1, ol (.sl (.int .u32) false a1)), (6, ol (.ar 43 0)), (7, ol (.int .u64 v1)), (8, oi v2)], [(43, .arr 115 (.int .u32) v3 0 false)]⟩
noncomputable def A2r (a0 : List Int) (a1 : List Int) (v6 : Int) (v7 : List Int) (v9 : List Int) (y2 : Int) : ST := ⟨392, [(0, ol (.sl (.int .u32) false a0)), (1, ol (.sl (.int .u32) false a1)), (10, ol (.int .u64 (IntKind.wrap .u64 y2))), (11, ol (.ar 90 0)), (12, ol (.ar 93 0)), (95, oi ((a1.length : Nat) : Int)), (96, oi v6)], [(90, .arr 115 (.int .u32) v7 0 false), (93, .arr 115 (.int .u32) v9 0 false)]⟩
noncomputable def Aa9 (a0 : List Int) (a1 : List Int) (y2 : Int) (v6 : Int) (v7 : List Int) (v8 : List Int) : ST := ⟨392, [(0, ol (.sl (.int .u32) false a0)), (1, ol (.sl (.int .u32) false a1)), (10, ol (.int .u64 (IntKind.wrap .u64 y2))), (11, ol (.ar 90 0)), (12, ol (.ar 93 0)), (95, oi ((a1.length : Nat) : Int)), (96, oi v6)], [(90, .arr 115 (.int .u32) v7 0 false), (93, .arr 115 (.int .u32) v8 0 false)]⟩
noncomputable def A1y (a0 : List Int) (v12 : Int) (v15 : List Int) (r2 : ((List Int) × (List Int))) (y2 : Int) : ST := ⟨392, [(0, ol (.sl (.int .u32) false a0)), (10, ol (.int .u64 (IntKind.wrap .u64 y2))), (11, ol (.ar 90 0)), (12, ol (.ar 93 0)), (130, oi ((r2.1.length : Nat) : Int)), (131, oi v12)], [(90, .arr 115 (.int .u32) v15 0 false), (93, .arr 115 (.int .u32) r2.2 0 false)]⟩
noncomputable def A2e (a0 : List Int) (v12 : Int) (v14 : List Int) (r2 : ((List Int) × (List Int))) (y2 : Int) : ST := ⟨392, [(0, ol (.sl (.int .u32) false a0)), (10, ol (.int .u64 (IntKind.wrap .u64 y2))), (11, ol (.ar 90 0)), (12, ol (.ar 93 0)), (14, oi v12), (130, oi ((r2.1.length : Nat) : Int)), (131, oi v12)], [(90, .arr 115 (.int .u32) v14 0 false), (93, .arr 115 (.int .u32) r2.2 0 false)]⟩
noncomputable def Uz (a0 : List Int) (r2 : ((List Int) × (List Int))) (y2 : Int) (v12 : Int) (v13 : List Int) : ST := ⟨392, [(0, ol (.sl (.int .u32) false a0)), (10, ol (.int .u64 (IntKind.wrap .u64 y2))), (11, ol (.ar 90 0)), (12, ol (.ar 93 0)), (130, oi ((r2.1.length : Nat) : Int)), (131, oi v12)], [(90, .arr 115 (.int .u32) v13 0 false), (93, .arr 115 (.int .u32) r2.2 0 false)]⟩
noncomputable def A34 (v17 : Int) (v18 : List Int) (v19 : List Int) (v20 : Int) (v21 : Int) (r2 : ((List Int) × (List Int))) (y2 : Int) : ST := ⟨392, [(10, ol (.int .u64 (IntKind.wrap .u64 y2))), (11, ol (.ar 90 0)), (12, ol (.ar 93 0)), (15, oi ((r2.2.length : Nat) : Int)), (16, ol (.ar 175 0)), (17, oi v17), (19, ol (.int .u64 v20)), (20, ol (.int .u64 v21))], [(90, .arr 115 (.int .u32) v18 0 false), (93, .arr 115 (.int .u32) r2.2 0 false), (175, .arr 115 (.int .u32) v19 0 false)]⟩
noncomputable def Aca (v17 : Int) (v18 : List Int) (v19 : List Int) (r2 : ((List Int) × (List Int))) (y2 : Int) (v20 : Int) (v21 : Int) : ST := ⟨392, [(10, ol (.int .u64 (IntKind.wrap .u64 y2))), (11, ol (.ar 90 0)), (12, ol (.ar 93 0)), (15, oi ((r2.2.length : Nat) : Int)), (16, ol (.ar 175 0)), (17, oi v17), (19, ol (.int .u64 v20)), (20, ol (.int .u64 v21))], [(90, .arr 115 (.int .u32) v18 0 false), (93, .arr 115 (.int .u32) r2.2 0 false), (175, .arr 115 (.int .u32) v19 0 false)]⟩
noncomputable def A1z (v17 : Int) (v19 : List Int) (v25 : Int) (v27 : Int) (v28 : Int) (v29 : List Int) (r2 : ((List Int) × (List Int))) (r4 : Int) (y2 : Int) : ST := ⟨392, [(10, ol (.int .u64 (IntKind.wrap .u64 y2))), (11, ol (.ar 90 0)), (12, ol (.ar 93 0)), (15, oi ((r2.2.length : Nat) : Int)), (16, ol (.ar 175 0)), (17, oi v17), (19, ol (.int .u64 r4)), (21, oi v27), (22, ol (.int .u64 v28)), (253, oi ((r2.2.length : Nat) : Int)), (254, oi v25)], [(90, .arr 115 (.int .u32) v29 0 false), (93, .arr 115 (.int .u32) r2.2 0 false), (175, .arr 115 (.int .u32) v19 0 false)]⟩
noncomputable def Aba (v17 : Int) (v19 : List Int) (r2 : ((List Int) × (List Int))) (r4 : Int) (y2 : Int) (v23 : Int) (v24 : Int) (v25 : Int) (v26 : List Int) : ST := ⟨392, [(10, ol (.int .u64 (IntKind.wrap .u64 y2))), (11, ol (.ar 90 0)), (12, ol (.ar 93 0)), (15, oi ((r2.2.length : Nat) : Int)), (16, ol (.ar 175 0)), (17, oi v17), (19, ol (.int .u64 r4)), (21, oi v23), (22, ol (.int .u64 v24)), (253, oi ((r2.2.length : Nat) : Int)), (254, oi v25)], [(90, .arr 115 (.int .u32) v26 0 false), (93, .arr 115 (.int .u32) r2.2 0 false), (175, .arr 115 (.int .u32) v19 0 false)]⟩
noncomputable def Afs (v17 : Int) (v19 : List Int) (r2 : ((List Int) × (List Int))) (r4 : Int) (y2 : Int) (v33 : Int) (v34 : Int) (v35 : List Int) : ST := ⟨392, [(10, ol (.int .u64 (IntKind.wrap .u64 y2))), (11, ol (.ar 90 0)), (12, ol (.ar 93 0)), (15, oi ((r2.2.length : Nat) : Int)), (16, ol (.ar 175 0)), (17, oi v17), (19, ol (.int .u64 (IntKind.wrap .u64 (r4 - (1 : Int))))), (27, ol (.int .u64 v33)), (314, oi ((r2.2.length : Nat) : Int)), (315, oi v34)], [(90, .arr 115 (.int .u32) v35 0 false), (93, .arr 115 (.int .u32) r2.2 0 false), (175, .arr 115 (.int .u32) v19 0 false)]⟩
noncomputable def A2v (v17 : Int) (v19 : List Int) (v38 : Int) (v39 : List Int) (r2 : ((List Int) × (List Int))) (y2 : Int) : ST := ⟨392, [(10, ol (.int .u64 (IntKind.wrap .u64 y2))), (11, ol (.ar 90 0)), (12, ol (.ar 93 0)), (15, oi ((r2.2.length : Nat) : Int)), (16, ol (.ar 175 0)), (17, oi v17), (19, ol (.int .u64 v38))], [(90, .arr 115 (.int .u32) v39 0 false), (93, .arr 115 (.int .u32) r2.2 0 false), (175, .arr 115 (.int .u32) v19 0 false)]⟩
noncomputable def Zk (r2 : ((List Int) × (List Int))) (y2 : Int) (v17 : Int) (v18 : List Int) (v19 : List Int) : ST := ⟨392, [(10, ol (.int .u64 (IntKind.wrap .u64 y2))), (11, ol (.ar 90 0)), (12, ol (.ar 93 0)), (15, oi ((r2.2.length : Nat) : Int)), (16, ol (.ar 175 0)), (17, oi v17)], [(90, .arr 115 (.int .u32) v18 0 false), (93, .arr 115 (.int .u32) r2.2 0 false), (175, .arr 115 (.int .u32) v19 0 false)]⟩
noncomputable def A17 (v42 : Int) (v44 : List Int) (r2 : ((List Int) × (List Int))) (r7 : ((List Int) × (List Int))) (y2 : Int) : ST := ⟨392, [(10, ol (.int .u64 (IntKind.wrap .u64 y2))), (11, ol (.ar 90 0)), (16, ol (.ar 175 0)), (30, ol (.ar 359 0)), (360, oi ((r2.2.length : Nat) : Int)), (361, oi v42)], [(90, .arr 115 (.int .u32) r7.1 0 false), (175, .arr 115 (.int .u32) r7.2 0 false), (359, .arr 115 (.int .u32) v44 0 false)]⟩
noncomputable def Acb (r2 : ((List Int) × (List Int))) (r7 : ((List Int) × (List Int))) (y2 : Int) (v42 : Int) (v43 : List Int) : ST := ⟨392, [(10, ol (.int .u64 (IntKind.wrap .u64 y2))), (11, ol (.ar 90 0)), (16, ol (.ar 175 0)), (30, ol (.ar 359 0)), (360, oi ((r2.2.length : Nat) : Int)), (361, oi v42)], [(90, .arr 115 (.int .u32) r7.1 0 false), (175, .arr 115 (.int .u32) r7.2 0 false), (359, .arr 115 (.int .u32) v43 0 false)]⟩
noncomputable def A89 (a0 : List Int) (a1 : List Int) : ST := ⟨392, [(0, ol (.sl (.int .u32) false a0)), (1, ol (.sl (.int .u32) false a1))], []⟩
theorem Awk (G : Ay B7 P) {y o r a0 a1 v1 v2 v3} (E : P2 C F y) (h : Gb a0 a1 v1 v2 v3 = some o)
   (hl : ∀ v', o = .inl v' -> Am B7 P C F Aj2 (Ae3 a0 a1 v'.1 v'.2.1 v'.2.2)) (hr : ∀ r', o = .inr r' -> r' = r)
   (K1 : ∀ r1, r = r1 -> Am B7 P C F A1d (Aif r1)) : Am B7 P C F Aj2 (Ae3 a0 a1 v1 v2 v3) := by
 unfold Gb at h
 rcases Ad h with ⟨b3, h⟩ | ⟨b3, h⟩
 · obtain ⟨c6, c7, h⟩ := ns2 h
   obtain ⟨c8, c9, c10, h⟩ := ns3 h
   obtain ⟨c11, c12, h⟩ := ns2 h
   exact sg G [r0, bt, r0, r0, r0, r0, en, wk [0, 1, 6, 7, 8] [43]] (aa b3 <| aa c6 <| aa c7 <| aa c8 <| aa c9 <| aa c10 <| aa c11 <| aa c12 <| tt) (hl _ (si h))
 · exact sg G [r0, bf, au, wk [6, 7] [43]] (aa b3 <| tt) (K1 _ (hr _ (si h)).symm)
theorem Zw (G : Ay B7 P) {y o r a0 a1 v6 v7 v9 y2} (E : P2 C F y) (h : Fc a0 a1 v6 v7 v9 y2 = some o)
   (hl : ∀ v', o = .inl v' -> Am B7 P C F Y4 (Aa9 a0 a1 y2 v'.1 v'.2.1 v'.2.2)) (hr : ∀ r', o = .inr r' -> r' = r)
   (K1 : ∀ r2, r = r2 -> Am B7 P C F Aig (Aaw a0 r2 y2)) : Am B7 P C F A73 (A2r a0 a1 v6 v7 v9 y2) := by
 unfold Fc at h
 exact sg G [r0, en, wk [0, 1, 10, 11, 12, 95, 96] [90, 93]] tt (hl _ (si h))
theorem Awi (G : Ay B7 P) {y o r a0 a1 y2 v6 v7 v8} (E : P2 C F y) (h : G9 a0 a1 y2 v6 v7 v8 = some o)
   (hl : ∀ v', o = .inl v' -> Am B7 P C F Y4 (Aa9 a0 a1 y2 v'.1 v'.2.1 v'.2.2)) (hr : ∀ r', o = .inr r' -> r' = r)
   (K1 : ∀ r2, r = r2 -> Am B7 P C F Aig (Aaw a0 r2 y2)) : Am B7 P C F Y4 (Aa9 a0 a1 y2 v6 v7 v8) := by
 unfold G9 at h
 rcases Ad h with ⟨b4, h⟩ | ⟨b4, h⟩
 · obtain ⟨c21, c22, c23, h⟩ := ns3 h
   rcases Ad h with ⟨b5, h⟩ | ⟨b5, h⟩
   · rcases Ad h with ⟨b6, h⟩ | ⟨b6, h⟩
     · obtain ⟨c24, c25, c26, c27, h⟩ := ns4 h
       exact sg G [r0, bt, r0, r0, .reg [(2, oT), (5, oT)], bt, r0, au, wk [0, 1, 10, 11, 12, 95, 96] [90, 93]] (aa b4 <| aa c21 <| aa c22 <| aa c23 <| aa b5 <| aa b5 <| aa b5 <| aa b6 <| aa c24 <| aa c25 <| aa c26 <| aa c27 <| tt) (Zw G E h hl hr K1)
     · exact sg G [r0, bt, r0, r0, .reg [(2, oT), (5, oT)], bf, au, wk [0, 1, 10, 11, 12, 95, 96] [90, 93]] (aa b4 <| aa c21 <| aa c22 <| aa c23 <| aa b5 <| aa b5 <| aa b5 <| aa b6 <| tt) (Zw G E h hl hr K1)
   · exact sg G [r0, bt, r0, r0, .reg [(2, oF), (5, oF)], bf, au, wk [0, 1, 10, 11, 12, 95, 96] [90, 93]] (aa b4 <| aa c21 <| aa c22 <| aa c23 <| aa b5 <| aa b5 <| aa b5 <| aa (show false = false from rfl) <| tt) (Zw G E h hl hr K1)
 · exact sg G [r0, bf, au, wk [0, 10, 11, 12] [90, 93]] (aa b4 <| tt) (K1 _ (hr _ (si h)).symm)
theorem Abl (G : Ay B7 P) {y o r a0 v12 v15 r2 y2} (E : P2 C F y) (h : Ev a0 v12 v15 r2 y2 = some o)
   (hl : ∀ v', o = .inl v' -> Am B7 P C F V5 (Uz a0 r2 y2 v'.1 v'.2)) (hr : ∀ r', o = .inr r' -> r' = r)
   (K1 : ∀ r3, r = r3 -> Am B7 P C F Ad4 (Us a0 r2 r3 y2)) : Am B7 P C F A5t (A1y a0 v12 v15 r2 y2) := by
 unfold Ev at h
 exact sg G [r0, en, wk [0, 10, 11, 12, 130, 131] [90, 93]] tt (hl _ (si h))
theorem Ak2 (G : Ay B7 P) {y o r a0 v12 v14 r2 y2} (E : P2 C F y) (h : Ga a0 v12 v14 r2 y2 = some o)
   (hl : ∀ v', o = .inl v' -> Am B7 P C F V5 (Uz a0 r2 y2 v'.1 v'.2)) (hr : ∀ r', o = .inr r' -> r' = r)
   (K1 : ∀ r3, r = r3 -> Am B7 P C F Ad4 (Us a0 r2 r3 y2)) : Am B7 P C F Az5 (A2e a0 v12 v14 r2 y2) := by
 unfold Ga at h
 rcases Ad h with ⟨b9, h⟩ | ⟨b9, h⟩
 · rcases Ad h with ⟨b10, h⟩ | ⟨b10, h⟩
   · obtain ⟨c31, c32, c33, c34, h⟩ := ns4 h
     exact sg G [.reg [(2, oT), (5, oT)], bt, r0, au, wk [0, 10, 11, 12, 130, 131] [90, 93]] (aa b9 <| aa b9 <| aa b9 <| aa b10 <| aa c31 <| aa c32 <| aa c33 <| aa c34 <| tt) (Abl G E h hl hr K1)
   · exact sg G [.reg [(2, oT), (5, oT)], bf, au, wk [0, 10, 11, 12, 130, 131] [90, 93]] (aa b9 <| aa b9 <| aa b9 <| aa b10 <| tt) (Abl G E h hl hr K1)
 · exact sg G [.reg [(2, oF), (5, oF)], bf, au, wk [0, 10, 11, 12, 130, 131] [90, 93]] (aa b9 <| aa b9 <| aa b9 <| aa (show false = false from rfl) <| tt) (Abl G E h hl hr K1)
theorem Av8 (G : Ay B7 P) {y o r a0 r2 y2 v12 v13} (E : P2 C F y) (h : Hi a0 r2 y2 v12 v13 = some o)
   (hl : ∀ v', o = .inl v' -> Am B7 P C F V5 (Uz a0 r2 y2 v'.1 v'.2)) (hr : ∀ r', o = .inr r' -> r' = r)
   (K1 : ∀ r3, r = r3 -> Am B7 P C F Ad4 (Us a0 r2 r3 y2)) : Am B7 P C F V5 (Uz a0 r2 y2 v12 v13) := by
 unfold Hi at h
 rcases Ad h with ⟨b7, h⟩ | ⟨b7, h⟩
 · rcases Ad h with ⟨b8, h⟩ | ⟨b8, h⟩
   · obtain ⟨c28, c29, c30, h⟩ := ns3 h
     exact sg G [r0, bt, r0, r0, bt, r0, au, wk [0, 10, 11, 12, 14, 130, 131] [90, 93]] (aa b7 <| aa b8 <| aa c28 <| aa c29 <| aa c30 <| tt) (Ak2 G E h hl hr K1)
   · exact sg G [r0, bt, r0, r0, bf, au, wk [0, 10, 11, 12, 14, 130, 131] [90, 93]] (aa b7 <| aa b8 <| tt) (Ak2 G E h hl hr K1)
 · exact sg G [r0, bf, au, wk [0, 10, 11, 12] [90, 93]] (aa b7 <| tt) (K1 _ (hr _ (si h)).symm)
theorem Alq (G : Ay B7 P) {y o r v17 v18 v19 v20 v21 r2 y2} (E : P2 C F y) (h : Gd v17 v18 v19 v20 v21 r2 y2 = some o)
   (hl : ∀ v', o = .inl v' -> Am B7 P C F Sr (Aca v17 v18 v19 r2 y2 v'.1 v'.2)) (hr : ∀ r', o = .inr r' -> r' = r)
   (K1 : ∀ r4, r = r4 -> Am B7 P C F Zg (Abn v17 v18 v19 r2 r4 y2)) : Am B7 P C F A2j (A34 v17 v18 v19 v20 v21 r2 y2) := by
 unfold Gd at h
 obtain ⟨c48, h⟩ := Ao h
 rcases Ad h with ⟨b14, h⟩ | ⟨b14, h⟩
 · exact sg G [r0, r0, r0, bt, au, wk [10, 11, 12, 15, 16, 17, 19] [90, 93, 175]] (aa c48 <| aa b14 <| tt) (K1 _ (hr _ (si h)).symm)
 · exact sg G [r0, r0, r0, bf, en, wk [10, 11, 12, 15, 16, 17, 19, 20] [90, 93, 175]] (aa c48 <| aa b14 <| tt) (hl _ (si h))
theorem Avg (G : Ay B7 P) {y o r v17 v18 v19 r2 y2 v20 v21} (E : P2 C F y) (h : Hc v17 v18 v19 r2 y2 v20 v21 = some o)
   (hl : ∀ v', o = .inl v' -> Am B7 P C F Sr (Aca v17 v18 v19 r2 y2 v'.1 v'.2)) (hr : ∀ r', o = .inr r' -> r' = r)
   (K1 : ∀ r4, r = r4 -> Am B7 P C F Zg (Abn v17 v18 v19 r2 r4 y2)) : Am B7 P C F Sr (Aca v17 v18 v19 r2 y2 v20 v21) := by
 unfold Hc at h
 rcases Ad h with ⟨b12, h⟩ | ⟨b12, h⟩
 · exact sg G [.reg [(2, oT), (23, oT)], bt, au, wk [10, 11, 12, 15, 16, 17, 19, 20] [90, 93, 175]] (aa b12 <| aa b12 <| aa b12 <| aa b12 <| aa b12 <| aa b12 <| aa b12 <| aa b12 <| aa b12 <| aa b12 <| aa b12 <| aa b12 <| aa b12 <| aa b12 <| aa b12 <| aa b12 <| aa b12 <| aa b12 <| aa b12 <| aa b12 <| aa b12 <| aa (show true = true from rfl) <| tt) (Alq G E h hl hr K1)
 · obtain ⟨c45, c46, c47, h⟩ := ns3 h
   rcases Ad h with ⟨b13, h⟩ | ⟨b13, h⟩
   · exact sg G [.reg [(2, oF), (23, oF)], bt, au, wk [10, 11, 12, 15, 16, 17, 19, 20] [90, 93, 175]] (aa b12 <| aa b12 <| aa b12 <| aa b12 <| aa b12 <| aa c45 <| aa b12 <| aa b12 <| aa b12 <| aa b12 <| aa b12 <| aa c46 <| aa b12 <| aa b12 <| aa b12 <| aa b12 <| aa b12 <| aa b12 <| aa c47 <| aa b12 <| aa b12 <| aa b12 <| aa b12 <| aa b12 <| aa b13 <| tt) (Alq G E h hl hr K1)
   · exact sg G [.reg [(2, oF), (23, oF)], bf, au, wk [10, 11, 12, 15, 16, 17, 19] [90, 93, 175]] (aa b12 <| aa b12 <| aa b12 <| aa b12 <| aa b12 <| aa c45 <| aa b12 <| aa b12 <| aa b12 <| aa b12 <| aa b12 <| aa c46 <| aa b12 <| aa b12 <| aa b12 <| aa b12 <| aa b12 <| aa b12 <| aa c47 <| aa b12 <| aa b12 <| aa b12 <| aa b12 <| aa b12 <| aa b13 <| tt) (K1 _ (hr _ (si h)).symm)
theorem Aim (G : Ay B7 P) {y o r v17 v19 v25 v27 v28 v29 r2 r4 y2} (E : P2 C F y) (h : Gc v17 v19 v25 v27 v28 v29 r2 r4 y2 = some o)
   (hl : ∀ v', o = .inl v' -> Am B7 P C F Ta (Aba v17 v19 r2 r4 y2 v'.1 v'.2.1 v'.2.2.1 v'.2.2.2)) (hr : ∀ r', o = .inr r' -> r' = r)
   (K1 : ∀ r5, r = r5 -> Am B7 P C F Ace (Acf v17 v19 r2 r4 r5 y2)) : Am B7 P C F A3i (A1z v17 v19 v25 v27 v28 v29 r2 r4 y2) := by
 unfold Gc at h
 exact sg G [r0, en, wk [10, 11, 12, 15, 16, 17, 19, 21, 22, 253, 254] [90, 93, 175]] tt (hl _ (si h))
theorem Atb (G : Ay B7 P) {y o r v17 v19 r2 r4 y2 v23 v24 v25 v26} (E : P2 C F y) (h : Hh v17 v19 r2 r4 y2 v23 v24 v25 v26 = some o)
   (hl : ∀ v', o = .inl v' -> Am B7 P C F Ta (Aba v17 v19 r2 r4 y2 v'.1 v'.2.1 v'.2.2.1 v'.2.2.2)) (hr : ∀ r', o = .inr r' -> r' = r)
   (K1 : ∀ r5, r = r5 -> Am B7 P C F Ace (Acf v17 v19 r2 r4 r5 y2)) : Am B7 P C F Ta (Aba v17 v19 r2 r4 y2 v23 v24 v25 v26) := by
 unfold Hh at h
 rcases Ad h with ⟨b15, h⟩ | ⟨b15, h⟩
 · obtain ⟨c49, h⟩ := Ao h
   obtain ⟨c50, h⟩ := Ao h
   obtain ⟨c51, h⟩ := Ao h
   obtain ⟨c52, h⟩ := Ao h
   rcases Ad h with ⟨b16, h⟩ | ⟨b16, h⟩
   · exact sg G [r0, bt, r0, r0, r0, r0, r0, r0, r0, bt, r0, au, wk [10, 11, 12, 15, 16, 17, 19, 21, 22, 253, 254] [90, 93, 175]] (aa b15 <| aa c49 <| aa c50 <| aa c51 <| aa c52 <| aa b16 <| tt) (Aim G E h hl hr K1)
   · exact sg G [r0, bt, r0, r0, r0, r0, r0, r0, r0, bf, au, wk [10, 11, 12, 15, 16, 17, 19, 21, 22, 253, 254] [90, 93, 175]] (aa b15 <| aa c49 <| aa c50 <| aa c51 <| aa c52 <| aa b16 <| tt) (Aim G E h hl hr K1)
 · exact sg G [r0, bf, au, wk [10, 11, 12, 15, 16, 17, 19, 21, 22] [90, 93, 175]] (aa b15 <| tt) (K1 _ (hr _ (si h)).symm)
theorem At8 (G : Ay B7 P) {y o r v17 v19 r2 r4 y2 v33 v34 v35} (E : P2 C F y) (h : Hf v17 v19 r2 r4 y2 v33 v34 v35 = some o)
   (hl : ∀ v', o = .inl v' -> Am B7 P C F Zh (Afs v17 v19 r2 r4 y2 v'.1 v'.2.1 v'.2.2)) (hr : ∀ r', o = .inr r' -> r' = r)
   (K1 : ∀ r6, r = r6 -> Am B7 P C F Afn (Ala v17 v19 r2 r4 r6 y2)) : Am B7 P C F Zh (Afs v17 v19 r2 r4 y2 v33 v34 v35) := by
 unfold Hf at h
 rcases Ad h with ⟨b18, h⟩ | ⟨b18, h⟩
 · obtain ⟨c55, c56, h⟩ := ns2 h
   obtain ⟨c57, h⟩ := Ao h
   obtain ⟨c58, h⟩ := Ao h
   exact sg G [r0, bt, r0, r0, r0, r0, r0, en, wk [10, 11, 12, 15, 16, 17, 19, 27, 314, 315] [90, 93, 175]] (aa b18 <| aa c55 <| aa c56 <| aa c57 <| aa c58 <| tt) (hl _ (si h))
 · exact sg G [r0, bf, au, wk [10, 11, 12, 15, 16, 17, 19, 27] [90, 93, 175]] (aa b18 <| tt) (K1 _ (hr _ (si h)).symm)
theorem Alz (G : Ay B7 P) {y o r v17 v19 v38 v39 r2 y2} (E : P2 C F y) (h : Gf v17 v19 v38 v39 r2 y2 = some o)
   (hl : ∀ v', o = .inl v' -> Am B7 P C F Sy (Zk r2 y2 v'.1 v'.2.1 v'.2.2)) (hr : ∀ r', o = .inr r' -> r' = r)
   (K1 : ∀ r7, r = r7 -> Am B7 P C F Abk (Aay r2 r7 y2)) : Am B7 P C F A4d (A2v v17 v19 v38 v39 r2 y2) := by
 unfold Gf at h
 obtain ⟨c61, h⟩ := Ao h
 exact sg G [r0, r0, en, wk [10, 11, 12, 15, 16, 17] [90, 93, 175]] (aa c61 <| tt) (hl _ (si h))
theorem Auq (G : Ay B7 P) {y o r r2 y2 v17 v18 v19} (E : P2 C F y) (h : Fb r2 y2 v17 v18 v19 = some o)
   (hl : ∀ v', o = .inl v' -> Am B7 P C F Sy (Zk r2 y2 v'.1 v'.2.1 v'.2.2)) (hr : ∀ r', o = .inr r' -> r' = r)
   (K1 : ∀ r7, r = r7 -> Am B7 P C F Abk (Aay r2 r7 y2)) : Am B7 P C F Sy (Zk r2 y2 v17 v18 v19) := by
 unfold Fb at h
 rcases Ad h with ⟨b11, h⟩ | ⟨b11, h⟩
 · obtain ⟨c38, c39, c40, h⟩ := ns3 h
   obtain ⟨c41, c42, c43, c44, h⟩ := ns4 h
   obtain ⟨r4, hi, h⟩ := bind_some h
   have K1 : ∀ q, r4 = q -> Am B7 P C F Zg (Abn v17 v18 v19 r2 q y2) := by
     rintro q rfl
     obtain ⟨r5, hi, h⟩ := bind_some h
     have K1 : ∀ q, r5 = q -> Am B7 P C F Ace (Acf v17 v19 r2 r4 q y2) := by
       rintro q rfl
       obtain ⟨c53, h⟩ := Ao h
       obtain ⟨c54, h⟩ := Ao h
       rcases Ad h with ⟨b17, h⟩ | ⟨b17, h⟩
       · obtain ⟨r6, hi, h⟩ := bind_some h
         have K1 : ∀ q, r6 = q -> Am B7 P C F Afn (Ala v17 v19 r2 r4 q y2) := by
           rintro q rfl
           obtain ⟨c59, c60, h⟩ := ns2 h
           exact sg G [r0, au, wk [10, 11, 12, 15, 16, 17, 19] [90, 93, 175]] (aa c59 <| aa c60 <| tt) (Alz G E h hl hr K1)
         exact sg G [r0, r0, r0, bt, r0, r0, r0, en, wk [10, 11, 12, 15, 16, 17, 19, 27, 314, 315] [90, 93, 175]] (aa c53 <| aa c54 <| aa b17 <| tt) (Az (V := B7) (F := F) (k := Zh) (S := λ v => Afs v17 v19 r2 r4 y2 v.1 v.2.1 v.2.2) (λ v o h hl hr => At8 G E h hl hr K1) _ hi)
       · exact sg G [r0, r0, r0, bf, au, wk [10, 11, 12, 15, 16, 17, 19] [90, 93, 175]] (aa c53 <| aa c54 <| aa b17 <| tt) (Alz G E h hl hr K1)
     exact sg G [r0, r0, en, wk [10, 11, 12, 15, 16, 17, 19, 21, 22, 253, 254] [90, 93, 175]] tt (Az (V := B7) (F := F) (k := Ta) (S := λ v => Aba v17 v19 r2 r4 y2 v.1 v.2.1 v.2.2.1 v.2.2.2) (λ v o h hl hr => Atb G E h hl hr K1) _ hi)
   exact sg G [r0, bt, r0, r0, en, wk [10, 11, 12, 15, 16, 17, 19, 20] [90, 93, 175]] (aa b11 <| aa c38 <| aa c39 <| aa c40 <| aa c41 <| aa c42 <| aa c43 <| aa c44 <| tt) (Az (V := B7) (F := F) (k := Sr) (S := λ v => Aca v17 v18 v19 r2 y2 v.1 v.2) (λ v o h hl hr => Avg G E h hl hr K1) _ hi)
 · exact sg G [r0, bf, au, wk [10, 11, 15, 16] [90, 175]] (aa b11 <| tt) (K1 _ (hr _ (si h)).symm)
theorem Aje (G : Ay B7 P) {y o r v42 v44 r2 r7 y2} (E : P2 C F y) (h : F8 v42 v44 r2 r7 y2 = some o)
   (hl : ∀ v', o = .inl v' -> Am B7 P C F Sv (Acb r2 r7 y2 v'.1 v'.2)) (hr : ∀ r', o = .inr r' -> r' = r)
   (K1 : ∀ r8, r = r8 -> Am B7 P C F Aft (Ab4 r7 r8)) : Am B7 P C F A4j (A17 v42 v44 r2 r7 y2) := by
 unfold F8 at h
 exact sg G [r0, en, wk [10, 11, 16, 30, 360, 361] [90, 175, 359]] tt (hl _ (si h))
theorem At6 (G : Ay B7 P) {y o r r2 r7 y2 v42 v43} (E : P2 C F y) (h : Hg r2 r7 y2 v42 v43 = some o)
   (hl : ∀ v', o = .inl v' -> Am B7 P C F Sv (Acb r2 r7 y2 v'.1 v'.2)) (hr : ∀ r', o = .inr r' -> r' = r)
   (K1 : ∀ r8, r = r8 -> Am B7 P C F Aft (Ab4 r7 r8)) : Am B7 P C F Sv (Acb r2 r7 y2 v42 v43) := by
 unfold Hg at h
 rcases Ad h with ⟨b19, h⟩ | ⟨b19, h⟩
 · obtain ⟨c65, c66, c67, h⟩ := ns3 h
   rcases Ad h with ⟨b20, h⟩ | ⟨b20, h⟩
   · obtain ⟨c68, c69, c70, c71, h⟩ := ns4 h
     exact sg G [r0, bt, r0, r0, r0, bt, r0, au, wk [10, 11, 16, 30, 360, 361] [90, 175, 359]] (aa b19 <| aa c65 <| aa c66 <| aa c67 <| aa b20 <| aa c68 <| aa c69 <| aa c70 <| aa c71 <| tt) (Aje G E h hl hr K1)
   · exact sg G [r0, bt, r0, r0, r0, bf, au, wk [10, 11, 16, 30, 360, 361] [90, 175, 359]] (aa b19 <| aa c65 <| aa c66 <| aa c67 <| aa b20 <| tt) (Aje G E h hl hr K1)
 · exact sg G [r0, bf, au, wk [16, 30] [175, 359]] (aa b19 <| tt) (K1 _ (hr _ (si h)).symm)
theorem A98 (G : Ay B7 P) {y a0 a1} (E : P2 C F y) (h : H3 a0 a1 = some y) : Am B7 P C F Aqo (A89 a0 a1) := by
 unfold H3 at h
 obtain ⟨y1, c1, h⟩ := bind_some h
 rcases Ad h with ⟨b1, h⟩ | ⟨b1, h⟩
 · obtain ⟨c2, h⟩ := Ao h
   have e := sj h; subst e
   exact se G E [r0, .reg [(2, .res ⟨[(.int .i64)], (y1, ())⟩)], bt, r0, au, .weak [.fix (.slot 5)]] (aa (ca c1) <| aa b1 <| aa c2 <| tt)
 · rcases Ad h with ⟨b2, h⟩ | ⟨b2, h⟩
   · obtain ⟨c3, c4, c5, h⟩ := ns3 h
     obtain ⟨r1, hi, h⟩ := bind_some h
     have K1 : ∀ q, r1 = q -> Am B7 P C F A1d (Aif q) := by
       rintro q rfl
       have e := sj h; subst e
       exact se G E [r0, au, .weak [.fix (.slot 4)]] tt
     exact sg G [r0, .reg [(2, .res ⟨[(.int .i64)], (y1, ())⟩)], bf, r0, bt, r0, r0, r0, en, wk [0, 1, 6, 7, 8] [43]] (aa (ca c1) <| aa b1 <| aa b2 <| aa c3 <| aa c4 <| aa c5 <| tt) (Az (V := B7) (F := F) (k := Aj2) (S := λ v => Ae3 a0 a1 v.1 v.2.1 v.2.2) (λ v o h hl hr => Awk G E h hl hr K1) _ hi)
   · obtain ⟨c13, h⟩ := Ao h
     obtain ⟨y2, c14, h⟩ := bind_some h
     obtain ⟨c15, c16, c17, h⟩ := ns3 h
     obtain ⟨c18, c19, c20, h⟩ := ns3 h
     obtain ⟨r2, hi, h⟩ := bind_some h
     have K1 : ∀ q, r2 = q -> Am B7 P C F Aig (Aaw a0 q y2) := by
       rintro q rfl
       obtain ⟨r3, hi, h⟩ := bind_some h
       have K1 : ∀ q, r3 = q -> Am B7 P C F Ad4 (Us a0 r2 q y2) := by
         rintro q rfl
         obtain ⟨c35, c36, c37, h⟩ := ns3 h
         obtain ⟨r7, hi, h⟩ := bind_some h
         have K1 : ∀ q, r7 = q -> Am B7 P C F Abk (Aay r2 q y2) := by
           rintro q rfl
           obtain ⟨c62, c63, c64, h⟩ := ns3 h
           obtain ⟨r8, hi, h⟩ := bind_some h
           have K1 : ∀ q, r8 = q -> Am B7 P C F Aft (Ab4 r7 q) := by
             rintro q rfl
             have e := sj h; subst e
             exact se G E [r0, au, .weak [.fix (.slot 4), .fix (.slot 5)]] tt
           exact sg G [r0, r0, en, wk [10, 11, 16, 30, 360, 361] [90, 175, 359]] (aa c62 <| aa c63 <| aa c64 <| tt) (Az (V := B7) (F := F) (k := Sv) (S := λ v => Acb r2 r7 y2 v.1 v.2) (λ v o h hl hr => At6 G E h hl hr K1) _ hi)
         exact sg G [r0, r0, r0, en, wk [10, 11, 12, 15, 16, 17] [90, 93, 175]] (aa c35 <| aa c36 <| aa c37 <| tt) (Az (V := B7) (F := F) (k := Sy) (S := λ v => Zk r2 y2 v.1 v.2.1 v.2.2) (λ v o h hl hr => Auq G E h hl hr K1) _ hi)
       exact sg G [r0, en, wk [0, 10, 11, 12, 130, 131] [90, 93]] tt (Az (V := B7) (F := F) (k := V5) (S := λ v => Uz a0 r2 y2 v.1 v.2) (λ v o h hl hr => Av8 G E h hl hr K1) _ hi)
     exact sg G [r0, .reg [(2, .res ⟨[(.int .i64)], (y1, ())⟩)], bf, r0, bf, .reg [(6, .res ⟨[(.int .i64)], (y2, ())⟩)], r0, r0, r0, en, wk [0, 1, 10, 11, 12, 95, 96] [90, 93]] (aa (ca c1) <| aa b1 <| aa b2 <| aa c13 <| aa (ca c14) <| aa c15 <| aa c16 <| aa c17 <| aa c18 <| aa c19 <| aa c20 <| tt) (Az (V := B7) (F := F) (k := Y4) (S := λ v => Aa9 a0 a1 y2 v.1 v.2.1 v.2.2) (λ v o h hl hr => Awi G E h hl hr K1) _ hi)
noncomputable def Ax2 : FS yaE := ⟨[(.sl (.int .u32)), (.sl (.int .u32))], [(.sl (.int .u32)), (.sl (.int .u32))], [], [], λ x => Option.map (λ r => (r.1, r.2, ())) (H3 x.1 x.2.1)⟩
theorem Arz : MT 94 Ax2 := show Bh B7 _ _ _ from mt (fn := Try.f94) (S := λ x => A89 x.1 x.2.1) (GB ⟨Acq, Ad7, trivial⟩ trivial) λ G _ _ _ _ E h => A98 G E h
noncomputable abbrev Amw : Env := EV [(68, Acn), (69, Aey), (94, Ax2)] [] false
noncomputable def Axu : List Item := [.code (Try.f75.body.getD .skip)]
noncomputable def A9d := ctl [.reg, .reg, .br false, .auto] Axu
abbrev A51 (C : Ctx) (F : Act -> World -> Prop) (y : (A6 × A6)) : Prop := Bz Amw C F Try.f75.results.toList [] [(.nm 3), (.nm 3)] (y.1, y.2, ())
noncomputable def A2z (a0 : A6) (a1 : A6) : ST := ⟨61, [(2, ol (.ptr 2 0)), (3, ol (.ptr 3 0)), (4, ol (.ptr 4 0)), (5, ol (.ptr 5 0))], [(2, .cells [.int .i64 a0.v, .sl (.int .u32) true a0.m, .bool a0.neg]), (3, .cells [.int .i64 a1.v, .sl (.int .u32) true a1.m, .bool a1.neg]), (4, .cells [.int .i64 (0 : Int), .sl (.int .u32) true [], .bool false]), (5, .cells [.int .i64 (0 : Int), .sl (.int .u32) true [], .bool false])]⟩
noncomputable def A4y (a0 : A6) (a1 : A6) : ST := ⟨61, [(0, og (Cs a0)), (1, og (Cs a1))], []⟩
theorem Aam (G : Ay Amw P) {y a0 a1} (E : A51 C F y) (h : Iv a0 a1 = some y) : Am Amw P C F A9d (A2z a0 a1) := by
 unfold Iv at h
 obtain ⟨y1, c3, h⟩ := bind_some h
 obtain ⟨y2, c4, h⟩ := bind_some h
 obtain ⟨y3, c5, h⟩ := bind_some h
 obtain ⟨y4, c6, h⟩ := bind_some h
 obtain ⟨y5, c7, h⟩ := bind_some h
 have e := sj h; subst e
 exact se G E [.reg [(1, .res ⟨[(.sl (.int .u32)), .bool], (y1.1, y1.2, ())⟩)], .reg [(1, .res ⟨[(.sl (.int .u32)), .bool], (y2.1, y2.2, ())⟩)], .reg [(2, .res ⟨[(.sl (.int .u32)), (.sl (.int .u32))], (y3.1, y3.2, ())⟩)], .reg [(4, .res ⟨[(.nm 3)], (y4, ())⟩), (7, .res ⟨[(.nm 3)], (y5, ())⟩)], au] (aa (cb c3) <| aa (cb c4) <| aa (cb c5) <| aa (ca c6) <| aa (ca c7) <| tt)
theorem Bbi (G : Ay Amw P) {y a0 a1} (E : A51 C F y) (h : Lk a0 a1 = some y) : Am Amw P C F Axu (A4y a0 a1) := by
 unfold Lk at h
 rcases Ad h with ⟨b1, h⟩ | ⟨b1, h⟩
 · rcases Ad h with ⟨b2, h⟩ | ⟨b2, h⟩
   · rcases Ad h with ⟨b3, h⟩ | ⟨b3, h⟩
     · obtain ⟨c1, c2, h⟩ := ns2 h
       have e := sj h; subst e
       exact se G E [r0, .reg [(3, oT), (7, oT), (8, oT), (12, oT)], bt, r0, au] (aa b1 <| aa b1 <| aa b1 <| aa b1 <| aa b2 <| aa b2 <| aa b2 <| aa b2 <| aa b3 <| aa c1 <| aa c2 <| tt)
     · exact sg G [r0, .reg [(3, oT), (7, oT), (8, oT), (12, oT)], bf, au, wk [2, 3, 4, 5] [2, 3, 4, 5]] (aa b1 <| aa b1 <| aa b1 <| aa b1 <| aa b2 <| aa b2 <| aa b2 <| aa b2 <| aa b3 <| tt) (Aam G E h)
   · exact sg G [r0, .reg [(3, oT), (7, oT), (8, oF), (12, oF)], bf, au, wk [2, 3, 4, 5] [2, 3, 4, 5]] (aa b1 <| aa b1 <| aa b1 <| aa b1 <| aa b2 <| aa b2 <| aa b2 <| aa b2 <| aa (show false = false from rfl) <| tt) (Aam G E h)
 · exact sg G [r0, .reg [(3, oF), (7, oF), (8, oF), (12, oF)], bf, au, wk [2, 3, 4, 5] [2, 3, 4, 5]] (aa b1 <| aa b1 <| aa b1 <| aa b1 <| aa (show false = false from rfl) <| aa (show false = false from rfl) <| aa (show false = false from rfl) <| aa (show false = false from rfl) <| aa (show false = false from rfl) <| tt) (Aam G E h)
noncomputable def Arm : FS yaE := ⟨[(.nm 3), (.nm 3)], [(.nm 3), (.nm 3)], [], [], λ x => Option.map (λ r => (r.1, r.2, ())) (Lk x.1 x.2.1)⟩
theorem Aek : MT 75 Arm := show Bh Amw _ _ _ from mt (fn := Try.f75) (S := λ x => A4y x.1 x.2.1) (GB ⟨Q6, Rk, Arz, trivial⟩ trivial) λ G _ _ _ _ E h => Bbi G E h
noncomputable abbrev Awl : Env := EV [(61, Yc), (73, Aem)] [] false
noncomputable def Bak : List Item := [.code (Try.f93.body.getD .skip)]
abbrev Bdd (C : Ctx) (F : Act -> World -> Prop) (y : A6) : Prop := Bz Awl C F Try.f93.results.toList [] [(.nm 3)] (y, ())
noncomputable def A74 (a0 : A6) : ST := ⟨9, [(0, og (Cs a0))], []⟩
theorem A63 (G : Ay Awl P) {y a0} (E : Bdd C F y) (h : Nc a0 = some y) : Am Awl P C F Bak (A74 a0) := by
 unfold Nc at h
 obtain ⟨y1, c1, h⟩ := bind_some h
 rcases Ad h with ⟨b1, h⟩ | ⟨b1, h⟩
 · obtain ⟨y2, c2, h⟩ := bind_some h
   have e := sj h; subst e
   exact se G E [r0, .reg [(1, .res ⟨[(.int .i64)], (y1, ())⟩)], bt, .reg [(1, .res ⟨[(.nm 3)], (y2, ())⟩)], au] (aa (ca c1) <| aa b1 <| aa (ca c2) <| tt)
 · have e := sj h; subst e
   exact se G E [r0, .reg [(1, .res ⟨[(.int .i64)], (y1, ())⟩)], bf, r0, au] (aa (ca c1) <| aa b1 <| tt)
noncomputable def Azw : FS yaE := ⟨[(.nm 3)], [(.nm 3)], [], [], λ x => Option.map (λ r => (r, ())) (Nc x.1)⟩
theorem Asi : MT 93 Azw := show Bh Awl _ _ _ from mt (fn := Try.f93) (S := λ x => A74 x.1) (GB ⟨Ow, Q1, trivial⟩ trivial) λ G _ _ _ _ E h => A63 G E h
noncomputable abbrev Mp : Env := EV [(61, Yc), (75, Arm), (93, Azw)] [] false
noncomputable def A0r : List Item := [.code (Try.f74.body.getD .skip)]
noncomputable def Vx := ctl [.reg, .reg, .enter] A0r
noncomputable def Aiy := ctl [.reg, .br true, .reg, .br true, .reg, .enter] Vx
noncomputable def Axa := ctl [.reg, .br false, .auto] Aiy
noncomputable def A8c := ctl [.reg, .br true, .reg, .br false, .auto] Vx
noncomputable def Aqi := ctl [.reg, .br false, .auto] Vx
abbrev Atx (C : Ctx) (F : Act -> World -> Prop) (y : A6) : Prop := Bz Mp C F Try.f74.results.toList [] [(.nm 3)] (y, ())
noncomputable def Ak4 (r1 : Int) : ST := ⟨45, [(4, ol (.ptr 4 0)), (5, oi r1)], [(4, .cells [.int .i64 (0 : Int), .sl (.int .u32) true [], .bool false])]⟩
noncomputable def Abp (r2 : (Int × (List Int) × Bool)) : ST := ⟨45, [(2, ol (.ptr 2 0)), (4, ol (.ptr 4 0))], [(2, .cells [.int .i64 r2.1, .sl (.int .u32) true r2.2.1, .bool r2.2.2]), (4, .cells [.int .i64 (0 : Int), .sl (.int .u32) true [], .bool false])]⟩
noncomputable def Ag7 (v7 : Int) (v8 : Int) : ST := ⟨45, [(4, ol (.ptr 4 0)), (5, oi v7), (6, oi v8)], [(4, .cells [.int .i64 (0 : Int), .sl (.int .u32) true [], .bool false])]⟩
noncomputable def A2o (v1 : Int) (v2 : List Int) (v3 : Bool) (v4 : Int) (v5 : List Int) (v6 : Bool) : ST := ⟨45, [(2, ol (.ptr 2 0)), (3, ol (.ptr 3 0)), (4, ol (.ptr 4 0))], [(2, .cells [.int .i64 v1, .sl (.int .u32) true v2, .bool v3]), (3, .cells [.int .i64 v4, .sl (.int .u32) true v5, .bool v6]), (4, .cells [.int .i64 (0 : Int), .sl (.int .u32) true [], .bool false])]⟩
noncomputable def Zs (v1 : Int) (v2 : List Int) (v3 : Bool) (v4 : Int) (v5 : List Int) (v6 : Bool) : ST := ⟨45, [(2, ol (.ptr 2 0)), (3, ol (.ptr 3 0)), (4, ol (.ptr 4 0))], [(2, .cells [.int .i64 v1, .sl (.int .u32) true v2, .bool v3]), (3, .cells [.int .i64 v4, .sl (.int .u32) true v5, .bool v6]), (4, .cells [.int .i64 (0 : Int), .sl (.int .u32) true [], .bool false])]⟩
noncomputable def A6a (a0 : A6) (a1 : A6) : ST := ⟨45, [(0, og (Cs a0)), (1, og (Cs a1))], []⟩
theorem Aud (G : Ay Mp P) {y o r v7 v8} (E : Atx C F y) (h : Rl v7 v8 = some o)
   (hl : ∀ v', o = .inl v' -> Am Mp P C F Aiy (Ag7 v'.1 v'.2)) (hr : ∀ r', o = .inr r' -> r' = r)
   (K1 : ∀ r1, r = r1 -> Am Mp P C F Axa (Ak4 r1)) : Am Mp P C F Aiy (Ag7 v7 v8) := by
 unfold Rl at h
 rcases Ad h with ⟨b4, h⟩ | ⟨b4, h⟩
 · obtain ⟨c4, h⟩ := Ao h
   exact sg G [r0, bt, r0, en, wk [4, 5, 6] [4]] (aa b4 <| aa c4 <| tt) (hl _ (si h))
 · exact sg G [r0, bf, au, wk [4, 5] [4]] (aa b4 <| tt) (K1 _ (hr _ (si h)).symm)
theorem Ai9 (G : Ay Mp P) {y o r v1 v2 v3 v4 v5 v6} (E : Atx C F y) (h : L0 v1 v2 v3 v4 v5 v6 = some o)
   (hl : ∀ v', o = .inl v' -> Am Mp P C F Vx (Zs v'.1 v'.2.1 v'.2.2.1 v'.2.2.2.1 v'.2.2.2.2.1 v'.2.2.2.2.2)) (hr : ∀ r', o = .inr r' -> r' = r)
   (K1 : ∀ r2, r = (.inl r2) -> Am Mp P C F Aqi (Abp r2))
   (KR : ∀ r', r = (.inr r') -> r' = y) : Am Mp P C F A8c (A2o v1 v2 v3 v4 v5 v6) := by
 unfold L0 at h
 obtain ⟨y4, c5, h⟩ := bind_some h
 exact sg G [.reg [(2, .res ⟨[(.nm 3), (.nm 3)], (y4.1, y4.2, ())⟩)], r0, en, wk [2, 3, 4] [2, 3, 4]] (aa (cb c5) <| tt) (hl _ (si h))
theorem Atn (G : Ay Mp P) {y o r v1 v2 v3 v4 v5 v6} (E : Atx C F y) (h : Rw v1 v2 v3 v4 v5 v6 = some o)
   (hl : ∀ v', o = .inl v' -> Am Mp P C F Vx (Zs v'.1 v'.2.1 v'.2.2.1 v'.2.2.2.1 v'.2.2.2.2.1 v'.2.2.2.2.2)) (hr : ∀ r', o = .inr r' -> r' = r)
   (K1 : ∀ r2, r = (.inl r2) -> Am Mp P C F Aqi (Abp r2))
   (KR : ∀ r', r = (.inr r') -> r' = y) : Am Mp P C F Vx (Zs v1 v2 v3 v4 v5 v6) := by
 unfold Rw at h
 obtain ⟨y3, c3, h⟩ := bind_some h
 rcases Ad h with ⟨b1, h⟩ | ⟨b1, h⟩
 · rcases Ad h with ⟨b2, h⟩ | ⟨b2, h⟩
   · rcases Ad h with ⟨b3, h⟩ | ⟨b3, h⟩
     · obtain ⟨r1, hi, h⟩ := bind_some h
       have K1 : ∀ q, r1 = q -> Am Mp P C F Axa (Ak4 q) := by
         rintro q rfl
         have e := KR _ (hr _ (si h)).symm; subst e
         exact se G E [r0, au] tt
       exact sg G [.reg [(1, .res ⟨[(.int .i64)], (y3, ())⟩)], bt, .reg [(3, oT), (7, oT)], bt, r0, en, wk [4, 5, 6] [4]] (aa (ca c3) <| aa b1 <| aa b2 <| aa b2 <| aa b2 <| aa b2 <| aa b3 <| tt) (Az (V := Mp) (F := F) (k := Aiy) (S := λ v => Ag7 v.1 v.2) (λ v o h hl hr => Aud G E h hl hr K1) _ hi)
     · exact sg G [.reg [(1, .res ⟨[(.int .i64)], (y3, ())⟩)], bt, .reg [(3, oT), (7, oT)], bf, au, wk [2, 3, 4] [2, 3, 4]] (aa (ca c3) <| aa b1 <| aa b2 <| aa b2 <| aa b2 <| aa b2 <| aa b3 <| tt) (Ai9 G E h hl hr K1 KR)
   · exact sg G [.reg [(1, .res ⟨[(.int .i64)], (y3, ())⟩)], bt, .reg [(3, oF), (7, oF)], bf, au, wk [2, 3, 4] [2, 3, 4]] (aa (ca c3) <| aa b1 <| aa b2 <| aa b2 <| aa b2 <| aa b2 <| aa (show false = false from rfl) <| tt) (Ai9 G E h hl hr K1 KR)
 · exact sg G [.reg [(1, .res ⟨[(.int .i64)], (y3, ())⟩)], bf, au, wk [2, 4] [2, 4]] (aa (ca c3) <| aa b1 <| tt) (K1 _ (hr _ (si h)).symm)
theorem Ba6 (G : Ay Mp P) {y a0 a1} (E : Atx C F y) (h : Te a0 a1 = some y) : Am Mp P C F A0r (A6a a0 a1) := by
 unfold Te at h
 obtain ⟨y1, c1, h⟩ := bind_some h
 obtain ⟨y2, c2, h⟩ := bind_some h
 obtain ⟨r, hi, h⟩ := bind_some h
 have K1 : ∀ r2, r = (.inl r2) -> Am Mp P C F Aqi (Abp r2) := by
   rintro r2 rfl
   have e := sj h; subst e
   exact se G E [r0, au] tt
 have KR : ∀ r3, r = (.inr r3) -> r3 = y := by
   rintro r3 rfl
   exact Option.some.inj h
 exact sg G [r0, .reg [(1, .res ⟨[(.nm 3)], (y1, ())⟩), (3, .res ⟨[(.nm 3)], (y2, ())⟩)], en, wk [2, 3, 4] [2, 3, 4]] (aa (ca c1) <| aa (ca c2) <| tt) (Az (V := Mp) (F := F) (k := Vx) (S := λ v => Zs v.1 v.2.1 v.2.2.1 v.2.2.2.1 v.2.2.2.2.1 v.2.2.2.2.2) (λ v o h hl hr => Atn G E h hl hr K1 KR) _ hi)
noncomputable def Azq : FS yaE := ⟨[(.nm 3), (.nm 3)], [(.nm 3)], [], [], λ x => Option.map (λ r => (r, ())) (Te x.1 x.2.1)⟩
theorem Ao9 : MT 74 Azq := show Bh Mp _ _ _ from mt (fn := Try.f74) (S := λ x => A6a x.1 x.2.1) (GB ⟨Ow, Aek, Asi, trivial⟩ trivial) λ G _ _ _ _ E h => Ba6 G E h
noncomputable abbrev Xf : Env := EV [(61, Yc), (73, Aem), (74, Azq), (75, Arm)] [] false
noncomputable def Az8 : List Item := [.code (Try.f46.body.getD .skip)]
noncomputable def Az1 := ctl [.reg, .reg, .br true, .reg, .auto] Az8
noncomputable def Azi := ctl [.reg, .reg, .br true, .auto] Az1
noncomputable def Bcp := ctl [.reg, .reg, .auto] Azi
abbrev Atp (C : Ctx) (F : Act -> World -> Prop) (y : Aj) : Prop := Bz Xf C F Try.f46.results.toList [] [(.nm 4)] (y, ())
noncomputable def A2d (v7 : Int) (v8 : List Int) (v9 : Bool) (v10 : Int) (v11 : List Int) (v12 : Bool) : ST := ⟨39, [(2, ol (.ptr 2 0)), (3, ol (.ptr 3 0)), (4, ol (.ptr 4 0))], [(2, .cells [.int .i64 v7, .sl (.int .u32) true v8, .bool v9]), (3, .cells [.int .i64 v10, .sl (.int .u32) true v11, .bool v12]), (4, .cells [.int .i64 (0 : Int), .sl (.int .u32) true [], .bool false, .int .i64 (0 : Int), .sl (.int .u32) true [], .bool false])]⟩
noncomputable def A20 (v1 : Int) (v2 : List Int) (v3 : Bool) (v4 : Int) (v5 : List Int) (v6 : Bool) (y4 : A6) : ST := ⟨39, [(2, ol (.ptr 2 0)), (3, ol (.ptr 3 0)), (4, ol (.ptr 4 0)), (5, ol (.ptr 5 0))], [(2, .cells [.int .i64 v1, .sl (.int .u32) true v2, .bool v3]), (3, .cells [.int .i64 v4, .sl (.int .u32) true v5, .bool v6]), (4, .cells [.int .i64 (0 : Int), .sl (.int .u32) true [], .bool false, .int .i64 (0 : Int), .sl (.int .u32) true [], .bool false]), (5, .cells [.int .i64 y4.v, .sl (.int .u32) true y4.m, .bool y4.neg])]⟩
noncomputable def A27 (v1 : Int) (v2 : List Int) (v3 : Bool) (v4 : Int) (v5 : List Int) (v6 : Bool) : ST := ⟨39, [(2, ol (.ptr 2 0)), (3, ol (.ptr 3 0)), (4, ol (.ptr 4 0))], [(2, .cells [.int .i64 v1, .sl (.int .u32) true v2, .bool v3]), (3, .cells [.int .i64 v4, .sl (.int .u32) true v5, .bool v6]), (4, .cells [.int .i64 (0 : Int), .sl (.int .u32) true [], .bool false, .int .i64 (0 : Int), .sl (.int .u32) true [], .bool false])]⟩
noncomputable def A48 (a0 : A6) (a1 : A6) : ST := ⟨39, [(0, og (Cs a0)), (1, og (Cs a1))], []⟩
theorem Al6 (G : Ay Xf P) {y v7 v8 v9 v10 v11 v12} (E : Atp C F y) (h : J6 v7 v8 v9 v10 v11 v12 = some y) : Am Xf P C F Bcp (A2d v7 v8 v9 v10 v11 v12) := by
 unfold J6 at h
 have e := sj h; subst e
 exact se G E [r0, au] tt
theorem Alb (G : Ay Xf P) {y v1 v2 v3 v4 v5 v6 y4} (E : Atp C F y) (h : Ke v1 v2 v3 v4 v5 v6 y4 = some y) : Am Xf P C F Azi (A20 v1 v2 v3 v4 v5 v6 y4) := by
 unfold Ke at h
 obtain ⟨y5, c5, h⟩ := bind_some h
 obtain ⟨y6, c6, h⟩ := bind_some h
 exact sg G [.reg [(2, .res ⟨[(.nm 3), (.nm 3)], (y5.1, y5.2, ())⟩)], .reg [(2, .res ⟨[(.nm 3), (.nm 3)], (y6.1, y6.2, ())⟩)], au, wk [2, 3, 4] [2, 3, 4]] (aa (cb c5) <| aa (cb c6) <| tt) (Al6 G E h)
theorem Aj5 (G : Ay Xf P) {y v1 v2 v3 v4 v5 v6} (E : Atp C F y) (h : J0 v1 v2 v3 v4 v5 v6 = some y) : Am Xf P C F Az1 (A27 v1 v2 v3 v4 v5 v6) := by
 unfold J0 at h
 obtain ⟨y4, c4, h⟩ := bind_some h
 rcases Ad h with ⟨b2, h⟩ | ⟨b2, h⟩
 · exact sg G [.reg [(2, .res ⟨[(.nm 3)], (y4, ())⟩)], .reg [(3, oT), (7, oT)], bt, au, wk [2, 3, 4, 5] [2, 3, 4, 5]] (aa (ca c4) <| aa b2 <| aa b2 <| aa b2 <| aa b2 <| aa (show true = true from rfl) <| tt) (Alb G E h)
 · rcases Ad h with ⟨b3, h⟩ | ⟨b3, h⟩
   · exact sg G [.reg [(2, .res ⟨[(.nm 3)], (y4, ())⟩)], .reg [(3, oF), (7, oF)], bt, au, wk [2, 3, 4, 5] [2, 3, 4, 5]] (aa (ca c4) <| aa b2 <| aa b2 <| aa b2 <| aa b2 <| aa b3 <| tt) (Alb G E h)
   · exact sg G [.reg [(2, .res ⟨[(.nm 3)], (y4, ())⟩)], .reg [(3, oF), (7, oF)], bf, au, wk [2, 3, 4] [2, 3, 4]] (aa (ca c4) <| aa b2 <| aa b2 <| aa b2 <| aa b2 <| aa b3 <| tt) (Al6 G E h)
theorem A96 (G : Ay Xf P) {y a0 a1} (E : Atp C F y) (h : Jn a0 a1 = some y) : Am Xf P C F Az8 (A48 a0 a1) := by
 unfold Jn at h
 obtain ⟨y1, c1, h⟩ := bind_some h
 rcases Ad h with ⟨b1, h⟩ | ⟨b1, h⟩
 · obtain ⟨y2, c2, h⟩ := bind_some h
   obtain ⟨y3, c3, h⟩ := bind_some h
   exact sg G [r0, .reg [(1, .res ⟨[(.int .i64)], (y1, ())⟩)], bt, .reg [(1, .res ⟨[(.nm 3)], (y2, ())⟩), (3, .res ⟨[(.nm 3)], (y3, ())⟩)], au, wk [2, 3, 4] [2, 3, 4]] (aa (ca c1) <| aa b1 <| aa (ca c2) <| aa (ca c3) <| tt) (Aj5 G E h)
 · exact sg G [r0, .reg [(1, .res ⟨[(.int .i64)], (y1, ())⟩)], bf, au, wk [2, 3, 4] [2, 3, 4]] (aa (ca c1) <| aa b1 <| tt) (Aj5 G E h)
noncomputable def Ahr : FS yaE := ⟨[(.nm 3), (.nm 3)], [(.nm 4)], [], [], λ x => Option.map (λ r => (r, ())) (Jn x.1 x.2.1)⟩
theorem Vu : MT 46 Ahr := show Bh Xf _ _ _ from mt (fn := Try.f46) (S := λ x => A48 x.1 x.2.1) (GB ⟨Ow, Q1, Ao9, Aek, trivial⟩ trivial) λ G _ _ _ _ E h => A96 G E h
noncomputable abbrev Aw7 : Env := EV [] [] false
noncomputable def Ba4 : List Item := [.code (Try.f76.body.getD .skip)]
abbrev Bd4 (C : Ctx) (F : Act -> World -> Prop) (y : (Int × Int)) : Prop := Bz Aw7 C F Try.f76.results.toList [] [(.int .u64), (.int .u64)] (y.1, y.2, ())
noncomputable def A7x (a0 : Int) (a1 : Int) : ST := ⟨51, [(0, ol (.int .u64 a0)), (1, ol (.int .u64 a1))], []⟩
theorem A4r (G : Ay Aw7 P) {y a0 a1} (E : Bd4 C F y) (h : Ka a0 a1 = some y) : Am Aw7 P C F Ba4 (A7x a0 a1) := by
 unfold Ka at h
 obtain ⟨c1, h⟩ := Ao h
 obtain ⟨c2, h⟩ := Ao h
 obtain ⟨c3, h⟩ := Ao h
 obtain ⟨c4, h⟩ := Ao h
 obtain ⟨c5, h⟩ := Ao h
 have e := sj h; subst e
 exact se G E [r0, r0, r0, r0, r0, r0, r0, r0, r0, r0, r0, r0, au] (aa c1 <| aa c2 <| aa c3 <| aa c4 <| aa c5 <| tt)
noncomputable def Ayh : FS yaE := ⟨[(.int .u64), (.int .u64)], [(.int .u64), (.int .u64)], [], [], λ x => Option.map (λ r => (r.1, r.2, ())) (Ka x.1 x.2.1)⟩
theorem Aow : MT 76 Ayh := show Bh Aw7 _ _ _ from mt (fn := Try.f76) (S := λ x => A7x x.1 x.2.1) (GB trivial trivial) λ G _ _ _ _ E h => A4r G E h
noncomputable abbrev K6 : Env := EV [(68, Acn), (69, Aey), (76, Ayh)] [] false
noncomputable def A09 : List Item := [.code (Try.f47.body.getD .skip)]
noncomputable def Az2 := ctl [.reg, .reg, .br true, .reg, .reg, .br true, .reg, .auto] A09
noncomputable def Axo := ctl [.reg, .br true, .reg, .auto] Az2
noncomputable def A0p := ctl [.reg, .reg, .br false, .auto] Axo
noncomputable def Aeh := ctl [.reg, .reg, .reg, .reg, .enter] A0p
noncomputable def Ajn := ctl [.reg, .br true, .reg, .reg, .reg, .enter] Aeh
noncomputable def A0h := ctl [.reg, .br false, .auto] Ajn
noncomputable def Azj := ctl [.reg, .br false, .auto] Aeh
abbrev Am2 (C : Ctx) (F : Act -> World -> Prop) (y : A6) : Prop := Bz K6 C F Try.f47.results.toList [] [(.nm 3)] (y, ())
noncomputable def Ahw (v3 : Int) (r1 : (Int × (List Int))) (y2 : ((List Int) × Bool)) (y3 : ((List Int) × Bool)) : ST := ⟨139, [(4, ol (.ptr 4 0)), (9, ol (.sl (.int .u32) false y2.1)), (10, ol (.bool y2.2)), (11, ol (.sl (.int .u32) false y3.1)), (12, ol (.bool y3.2)), (13, ol (.ar 83 0)), (14, oi v3), (15, ol (.int .u64 r1.1)), (85, oi ((y2.1.length : Nat) : Int)), (86, oi v3)], [(4, .cells [.int .i64 (0 : Int), .sl (.int .u32) true [], .bool false]), (83, .arr 115 (.int .u32) r1.2 0 false)]⟩
noncomputable def Ako (r2 : List Int) (y2 : ((List Int) × Bool)) (y3 : ((List Int) × Bool)) : ST := ⟨139, [(4, ol (.ptr 4 0)), (10, ol (.bool y2.2)), (12, ol (.bool y3.2)), (13, ol (.ar 83 0))], [(4, .cells [.int .i64 (0 : Int), .sl (.int .u32) true [], .bool false]), (83, .arr 115 (.int .u32) r2 0 false)]⟩
noncomputable def Agy (v3 : Int) (y2 : ((List Int) × Bool)) (y3 : ((List Int) × Bool)) (v5 : Int) (v6 : Int) (v7 : List Int) : ST := ⟨139, [(4, ol (.ptr 4 0)), (9, ol (.sl (.int .u32) false y2.1)), (10, ol (.bool y2.2)), (11, ol (.sl (.int .u32) false y3.1)), (12, ol (.bool y3.2)), (13, ol (.ar 83 0)), (14, oi v3), (15, ol (.int .u64 v5)), (85, oi ((y2.1.length : Nat) : Int)), (86, oi v3), (90, oi ((y3.1.length : Nat) : Int)), (91, oi v6)], [(4, .cells [.int .i64 (0 : Int), .sl (.int .u32) true [], .bool false]), (83, .arr 115 (.int .u32) v7 0 false)]⟩
noncomputable def Agj (y2 : ((List Int) × Bool)) (y3 : ((List Int) × Bool)) (v3 : Int) (v4 : List Int) : ST := ⟨139, [(4, ol (.ptr 4 0)), (9, ol (.sl (.int .u32) false y2.1)), (10, ol (.bool y2.2)), (11, ol (.sl (.int .u32) false y3.1)), (12, ol (.bool y3.2)), (13, ol (.ar 83 0)), (85, oi ((y2.1.length : Nat) : Int)), (86, oi v3)], [(4, .cells [.int .i64 (0 : Int), .sl (.int .u32) true [], .bool false]), (83, .arr 115 (.int .u32) v4 0 false)]⟩
noncomputable def A1f (a0 : A6) (a1 : A6) : ST := ⟨139, [(2, ol (.ptr 2 0)), (3, ol (.ptr 3 0)), (4, ol (.ptr 4 0))], [(2, .cells [.int .i64 a0.v, .sl (.int .u32) true a0.m, .bool a0.neg]), (3, .cells [.int .i64 a1.v, .sl (.int .u32) true a1.m, .bool a1.neg]), (4, .cells [.int .i64 (0 : Int), .sl (.int .u32) true [], .bool false])]⟩
noncomputable def A2g (a0 : A6) (a1 : A6) (v1 : Int) (v2 : Int) : ST := ⟨139, [(2, ol (.ptr 2 0)), (3, ol (.ptr 3 0)), (4, ol (.ptr 4 0)), (5, ol (.int .u64 v1)), (6, ol (.int .u64 v2))], [(2, .cells [.int .i64 a0.v, .sl (.int .u32) true a0.m, .bool a0.neg]), (3, .cells [.int .i64 a1.v, .sl (.int .u32) true a1.m, .bool a1.neg]), (4, .cells [.int .i64 (0 : Int), .sl (.int .u32) true [], .bool false])]⟩
noncomputable def A14 (a0 : A6) (a1 : A6) (v1 : Int) : ST := ⟨139, [(2, ol (.ptr 2 0)), (3, ol (.ptr 3 0)), (4, ol (.ptr 4 0)), (5, ol (.int .u64 v1)), (6, ol (.int .u64 (IntKind.wrap .u64 a1.v)))], [(2, .cells [.int .i64 a0.v, .sl (.int .u32) true a0.m, .bool a0.neg]), (3, .cells [.int .i64 a1.v, .sl (.int .u32) true a1.m, .bool a1.neg]), (4, .cells [.int .i64 (0 : Int), .sl (.int .u32) true [], .bool false])]⟩
noncomputable def A6y (a0 : A6) (a1 : A6) : ST := ⟨139, [(0, og (Cs a0)), (1, og (Cs a1))], []⟩
theorem Awv (G : Ay K6 P) {y o r v3 y2 y3 v5 v6 v7} (E : Am2 C F y) (h : L4 v3 y2 y3 v5 v6 v7 = some o)
   (hl : ∀ v', o = .inl v' -> Am K6 P C F Ajn (Agy v3 y2 y3 v'.1 v'.2.1 v'.2.2)) (hr : ∀ r', o = .inr r' -> r' = r)
   (K1 : ∀ r1, r = r1 -> Am K6 P C F A0h (Ahw v3 r1 y2 y3)) : Am K6 P C F Ajn (Agy v3 y2 y3 v5 v6 v7) := by
 unfold L4 at h
 rcases Ad h with ⟨b9, h⟩ | ⟨b9, h⟩
 · obtain ⟨c7, c8, c9, h⟩ := ns3 h
   obtain ⟨c10, h⟩ := Ao h
   obtain ⟨c11, h⟩ := Ao h
   exact sg G [r0, bt, r0, r0, r0, r0, r0, en, wk [4, 9, 10, 11, 12, 13, 14, 15, 85, 86, 90, 91] [4, 83]] (aa b9 <| aa c7 <| aa c8 <| aa c9 <| aa c10 <| aa c11 <| tt) (hl _ (si h))
 · exact sg G [r0, bf, au, wk [4, 9, 10, 11, 12, 13, 14, 15, 85, 86] [4, 83]] (aa b9 <| tt) (K1 _ (hr _ (si h)).symm)
theorem Ava (G : Ay K6 P) {y o r y2 y3 v3 v4} (E : Am2 C F y) (h : Mk y2 y3 v3 v4 = some o)
   (hl : ∀ v', o = .inl v' -> Am K6 P C F Aeh (Agj y2 y3 v'.1 v'.2)) (hr : ∀ r', o = .inr r' -> r' = r)
   (K1 : ∀ r2, r = r2 -> Am K6 P C F Azj (Ako r2 y2 y3)) : Am K6 P C F Aeh (Agj y2 y3 v3 v4) := by
 unfold Mk at h
 rcases Ad h with ⟨b8, h⟩ | ⟨b8, h⟩
 · obtain ⟨r1, hi, h⟩ := bind_some h
   have K1 : ∀ q, r1 = q -> Am K6 P C F A0h (Ahw v3 q y2 y3) := by
     rintro q rfl
     obtain ⟨c12, h⟩ := Ao h
     exact sg G [r0, r0, en, wk [4, 9, 10, 11, 12, 13, 85, 86] [4, 83]] (aa c12 <| tt) (hl _ (si h))
   exact sg G [r0, bt, r0, r0, r0, en, wk [4, 9, 10, 11, 12, 13, 14, 15, 85, 86, 90, 91] [4, 83]] (aa b8 <| tt) (Az (V := K6) (F := F) (k := Ajn) (S := λ v => Agy v3 y2 y3 v.1 v.2.1 v.2.2) (λ v o h hl hr => Awv G E h hl hr K1) _ hi)
 · exact sg G [r0, bf, au, wk [4, 10, 12, 13] [4, 83]] (aa b8 <| tt) (K1 _ (hr _ (si h)).symm)
theorem Ut (G : Ay K6 P) {y a0 a1} (E : Am2 C F y) (h : H0 a0 a1 = some y) : Am K6 P C F A0p (A1f a0 a1) := by
 unfold H0 at h
 obtain ⟨y2, c2, h⟩ := bind_some h
 obtain ⟨y3, c3, h⟩ := bind_some h
 obtain ⟨c4, c5, c6, h⟩ := ns3 h
 obtain ⟨r2, hi, h⟩ := bind_some h
 have K1 : ∀ q, r2 = q -> Am K6 P C F Azj (Ako q y2 y3) := by
   rintro q rfl
   obtain ⟨y4, c13, h⟩ := bind_some h
   have e := sj h; subst e
   exact se G E [.reg [(4, .res ⟨[(.nm 3)], (y4, ())⟩)], au] (aa (ca c13) <| tt)
 exact sg G [.reg [(1, .res ⟨[(.sl (.int .u32)), .bool], (y2.1, y2.2, ())⟩)], .reg [(1, .res ⟨[(.sl (.int .u32)), .bool], (y3.1, y3.2, ())⟩)], r0, r0, en, wk [4, 9, 10, 11, 12, 13, 85, 86] [4, 83]] (aa (cb c2) <| aa (cb c3) <| aa c4 <| aa c5 <| aa c6 <| tt) (Az (V := K6) (F := F) (k := Aeh) (S := λ v => Agj y2 y3 v.1 v.2) (λ v o h hl hr => Ava G E h hl hr K1) _ hi)
theorem Al2 (G : Ay K6 P) {y a0 a1 v1 v2} (E : Am2 C F y) (h : Jz a0 a1 v1 v2 = some y) : Am K6 P C F Axo (A2g a0 a1 v1 v2) := by
 unfold Jz at h
 obtain ⟨y1, c1, h⟩ := bind_some h
 rcases Ad h with ⟨b5, h⟩ | ⟨b5, h⟩
 · rcases Ad h with ⟨b6, h⟩ | ⟨b6, h⟩
   · rcases Ad h with ⟨b7, h⟩ | ⟨b7, h⟩
     · have e := sj h; subst e
       exact se G E [.reg [(2, .res ⟨[(.int .u64), (.int .u64)], (y1.1, y1.2, ())⟩)], .reg [(2, oT), (5, oT)], bt, r0, bt, r0, au] (aa (cb c1) <| aa b5 <| aa b5 <| aa b5 <| aa b6 <| aa b7 <| tt)
     · have e := sj h; subst e
       exact se G E [.reg [(2, .res ⟨[(.int .u64), (.int .u64)], (y1.1, y1.2, ())⟩)], .reg [(2, oT), (5, oT)], bt, r0, bf, r0, au] (aa (cb c1) <| aa b5 <| aa b5 <| aa b5 <| aa b6 <| aa b7 <| tt)
   · exact sg G [.reg [(2, .res ⟨[(.int .u64), (.int .u64)], (y1.1, y1.2, ())⟩)], .reg [(2, oT), (5, oT)], bf, au, wk [2, 3, 4] [2, 3, 4]] (aa (cb c1) <| aa b5 <| aa b5 <| aa b5 <| aa b6 <| tt) (Ut G E h)
 · exact sg G [.reg [(2, .res ⟨[(.int .u64), (.int .u64)], (y1.1, y1.2, ())⟩)], .reg [(2, oF), (5, oF)], bf, au, wk [2, 3, 4] [2, 3, 4]] (aa (cb c1) <| aa b5 <| aa b5 <| aa b5 <| aa (show false = false from rfl) <| tt) (Ut G E h)
theorem Ajd (G : Ay K6 P) {y a0 a1 v1} (E : Am2 C F y) (h : Ms a0 a1 v1 = some y) : Am K6 P C F Az2 (A14 a0 a1 v1) := by
 unfold Ms at h
 rcases Ad h with ⟨b4, h⟩ | ⟨b4, h⟩
 · exact sg G [r0, bt, r0, au, wk [2, 3, 4, 5, 6] [2, 3, 4]] (aa b4 <| tt) (Al2 G E h)
 · exact sg G [r0, bf, au, wk [2, 3, 4, 5, 6] [2, 3, 4]] (aa b4 <| tt) (Al2 G E h)
theorem Baf (G : Ay K6 P) {y a0 a1} (E : Am2 C F y) (h : Fs a0 a1 = some y) : Am K6 P C F A09 (A6y a0 a1) := by
 unfold Fs at h
 rcases Ad h with ⟨b1, h⟩ | ⟨b1, h⟩
 · rcases Ad h with ⟨b2, h⟩ | ⟨b2, h⟩
   · rcases Ad h with ⟨b3, h⟩ | ⟨b3, h⟩
     · exact sg G [r0, .reg [(3, oT), (7, oT)], bt, r0, r0, bt, r0, au, wk [2, 3, 4, 5, 6] [2, 3, 4]] (aa b1 <| aa b1 <| aa b1 <| aa b1 <| aa b2 <| aa b3 <| tt) (Ajd G E h)
     · exact sg G [r0, .reg [(3, oT), (7, oT)], bt, r0, r0, bf, au, wk [2, 3, 4, 5, 6] [2, 3, 4]] (aa b1 <| aa b1 <| aa b1 <| aa b1 <| aa b2 <| aa b3 <| tt) (Ajd G E h)
   · exact sg G [r0, .reg [(3, oT), (7, oT)], bf, au, wk [2, 3, 4] [2, 3, 4]] (aa b1 <| aa b1 <| aa b1 <| aa b1 <| aa b2 <| tt) (Ut G E h)
 · exact sg G [r0, .reg [(3, oF), (7, oF)], bf, au, wk [2, 3, 4] [2, 3, 4]] (aa b1 <| aa b1 <| aa b1 <| aa b1 <| aa (show false = false from rfl) <| tt) (Ut G E h)
noncomputable def Akr : FS yaE := ⟨[(.nm 3), (.nm 3)], [(.nm 3)], [], [], λ x => Option.map (λ r => (r, ())) (Fs x.1 x.2.1)⟩
theorem V4 : MT 47 Akr := show Bh K6 _ _ _ from mt (fn := Try.f47) (S := λ x => A6y x.1 x.2.1) (GB ⟨Q6, Rk, Aow, trivial⟩ trivial) λ G _ _ _ _ E h => Baf G E h
noncomputable abbrev Ane : Env := EV [(44, Aqz), (45, Apo), (46, Ahr), (47, Akr)] [] false
noncomputable def Axq : List Item := [.code (Try.f18.body.getD .skip)]
noncomputable def A5m := ctl [.reg, .reg, .br false, .auto] Axq
abbrev A7h (C : Ctx) (F : Act -> World -> Prop) (y : Aj) : Prop := Bz Ane C F Try.f18.results.toList [] [(.nm 4)] (y, ())
noncomputable def A39 (a0 : Aj) (a1 : Aj) : ST := ⟨36, [(2, ol (.ptr 2 0)), (3, ol (.ptr 3 0)), (4, ol (.ptr 4 0))], [(2, .cells [.int .i64 a0.N.v, .sl (.int .u32) true a0.N.m, .bool a0.N.neg, .int .i64 a0.D.v, .sl (.int .u32) true a0.D.m, .bool a0.D.neg]), (3, .cells [.int .i64 a1.N.v, .sl (.int .u32) true a1.N.m, .bool a1.N.neg, .int .i64 a1.D.v, .sl (.int .u32) true a1.D.m, .bool a1.D.neg]), (4, .cells [.int .i64 (0 : Int), .sl (.int .u32) true [], .bool false, .int .i64 (0 : Int), .sl (.int .u32) true [], .bool false])]⟩
noncomputable def A5k (a0 : Aj) (a1 : Aj) : ST := ⟨36, [(0, og (Dy a0)), (1, og (Dy a1))], []⟩
theorem Ali (G : Ay Ane P) {y a0 a1} (E : A7h C F y) (h : Kc a0 a1 = some y) : Am Ane P C F A5m (A39 a0 a1) := by
 unfold Kc at h
 obtain ⟨y4, c4, h⟩ := bind_some h
 obtain ⟨y5, c5, h⟩ := bind_some h
 obtain ⟨y6, c6, h⟩ := bind_some h
 obtain ⟨y7, c7, h⟩ := bind_some h
 obtain ⟨y8, c8, h⟩ := bind_some h
 have e := sj h; subst e
 exact se G E [.reg [(4, .res ⟨[(.nm 3)], (y4, ())⟩), (9, .res ⟨[(.nm 3)], (y5, ())⟩), (10, .res ⟨[(.nm 3)], (y6, ())⟩), (15, .res ⟨[(.nm 3)], (y7, ())⟩), (16, .res ⟨[(.nm 4)], (y8, ())⟩)], au] (aa (ca c4) <| aa (ca c5) <| aa (ca c6) <| aa (ca c7) <| aa (ca c8) <| tt)
theorem A6d (G : Ay Ane P) {y a0 a1} (E : A7h C F y) (h : Gx a0 a1 = some y) : Am Ane P C F Axq (A5k a0 a1) := by
 unfold Gx at h
 obtain ⟨y1, c1, h⟩ := bind_some h
 rcases Ad h with ⟨b1, h⟩ | ⟨b1, h⟩
 · obtain ⟨y2, c2, h⟩ := bind_some h
   rcases Ad h with ⟨b2, h⟩ | ⟨b2, h⟩
   · obtain ⟨y3, c3, h⟩ := bind_some h
     have e := sj h; subst e
     exact se G E [r0, .reg [(1, .res ⟨[.bool], (y1, ())⟩), (2, oT), (4, .res ⟨[.bool], (y2, ())⟩), (5, oT)], bt, .reg [(4, .res ⟨[(.nm 3)], (y3, ())⟩)], au] (aa (ca c1) <| aa b1 <| aa b1 <| aa (ca c2) <| aa b1 <| aa b2 <| aa (ca c3) <| tt)
   · exact sg G [r0, .reg [(1, .res ⟨[.bool], (y1, ())⟩), (2, oT), (4, .res ⟨[.bool], (y2, ())⟩), (5, oT)], bf, au, wk [2, 3, 4] [2, 3, 4]] (aa (ca c1) <| aa b1 <| aa b1 <| aa (ca c2) <| aa b1 <| aa b2 <| tt) (Ali G E h)
 · exact sg G [r0, .reg [(1, .res ⟨[.bool], (y1, ())⟩), (2, oF), (5, oF)], bf, au, wk [2, 3, 4] [2, 3, 4]] (aa (ca c1) <| aa b1 <| aa b1 <| aa b1 <| aa (show false = false from rfl) <| tt) (Ali G E h)
noncomputable def Yz : FS yaE := ⟨[(.nm 4), (.nm 4)], [(.nm 4)], [], [], λ x => Option.map (λ r => (r, ())) (Gx x.1 x.2.1)⟩
theorem Oh : MT 18 Yz := show Bh Ane _ _ _ from mt (fn := Try.f18) (S := λ x => A5k x.1 x.2.1) (GB ⟨Acu, Ac9, Vu, V4, trivial⟩ trivial) λ G _ _ _ _ E h => A6d G E h
noncomputable abbrev Avf : Env := EV [(73, Aem)] [] false
noncomputable def Bau : List Item := [.code (Try.f48.body.getD .skip)]
abbrev Bc2 (C : Ctx) (F : Act -> World -> Prop) (y : Aj) : Prop := Bz Avf C F Try.f48.results.toList [] [(.nm 4)] (y, ())
noncomputable def A9j (a0 : Aj) : ST := ⟨9, [(0, og (Dy a0))], []⟩
theorem A8l (G : Ay Avf P) {y a0} (E : Bc2 C F y) (h : Lf a0 = some y) : Am Avf P C F Bau (A9j a0) := by
 unfold Lf at h
 obtain ⟨y1, c1, h⟩ := bind_some h
 have e := sj h; subst e
 exact se G E [r0, .reg [(2, .res ⟨[(.nm 3)], (y1, ())⟩)], au] (aa (ca c1) <| tt)
noncomputable def Ajv : FS yaE := ⟨[(.nm 4)], [(.nm 4)], [], [], λ x => Option.map (λ r => (r, ())) (Lf x.1)⟩
theorem Wh : MT 48 Ajv := show Bh Avf _ _ _ from mt (fn := Try.f48) (S := λ x => A9j x.1) (GB ⟨Q1, trivial⟩ trivial) λ G _ _ _ _ E h => A8l G E h
noncomputable abbrev Atw : Env := EV [(18, Yz), (48, Ajv)] [] false
noncomputable def Bco : List Item := [.code (Try.f19.body.getD .skip)]
abbrev Bds (C : Ctx) (F : Act -> World -> Prop) (y : Aj) : Prop := Bz Atw C F Try.f19.results.toList [] [(.nm 4)] (y, ())
noncomputable def A5u (a0 : Aj) (a1 : Aj) : ST := ⟨9, [(0, og (Dy a0)), (1, og (Dy a1))], []⟩
theorem Baq (G : Ay Atw P) {y a0 a1} (E : Bds C F y) (h : Hj a0 a1 = some y) : Am Atw P C F Bco (A5u a0 a1) := by
 unfold Hj at h
 obtain ⟨y1, c1, h⟩ := bind_some h
 obtain ⟨y2, c2, h⟩ := bind_some h
 have e := sj h; subst e
 exact se G E [r0, .reg [(2, .res ⟨[(.nm 4)], (y1, ())⟩), (3, .res ⟨[(.nm 4)], (y2, ())⟩)], au] (aa (ca c1) <| aa (ca c2) <| tt)
noncomputable def Ad2 : FS yaE := ⟨[(.nm 4), (.nm 4)], [(.nm 4)], [], [], λ x => Option.map (λ r => (r, ())) (Hj x.1 x.2.1)⟩
theorem Rr : MT 19 Ad2 := show Bh Atw _ _ _ from mt (fn := Try.f19) (S := λ x => A5u x.1 x.2.1) (GB ⟨Oh, Wh, trivial⟩ trivial) λ G _ _ _ _ E h => Baq G E h
noncomputable abbrev Aul : Env := EV [(46, Ahr), (47, Akr)] [] false
noncomputable def A9x : List Item := [.code (Try.f31.body.getD .skip)]
abbrev Bdq (C : Ctx) (F : Act -> World -> Prop) (y : Aj) : Prop := Bz Aul C F Try.f31.results.toList [] [(.nm 4)] (y, ())
noncomputable def A6m (a0 : Aj) (a1 : Aj) : ST := ⟨16, [(0, og (Dy a0)), (1, og (Dy a1))], []⟩
theorem A43 (G : Ay Aul P) {y a0 a1} (E : Bdq C F y) (h : Lg a0 a1 = some y) : Am Aul P C F A9x (A6m a0 a1) := by
 unfold Lg at h
 obtain ⟨y1, c1, h⟩ := bind_some h
 obtain ⟨y2, c2, h⟩ := bind_some h
 obtain ⟨y3, c3, h⟩ := bind_some h
 have e := sj h; subst e
 exact se G E [r0, .reg [(4, .res ⟨[(.nm 3)], (y1, ())⟩), (9, .res ⟨[(.nm 3)], (y2, ())⟩), (10, .res ⟨[(.nm 4)], (y3, ())⟩)], au] (aa (ca c1) <| aa (ca c2) <| aa (ca c3) <| tt)
noncomputable def Ah5 : FS yaE := ⟨[(.nm 4), (.nm 4)], [(.nm 4)], [], [], λ x => Option.map (λ r => (r, ())) (Lg x.1 x.2.1)⟩
theorem U2 : MT 31 Ah5 := show Bh Aul _ _ _ from mt (fn := Try.f31) (S := λ x => A6m x.1 x.2.1) (GB ⟨Vu, V4, trivial⟩ trivial) λ G _ _ _ _ E h => A43 G E h
noncomputable abbrev At3 : Env := EV [(43, Ah8)] [] false
noncomputable def Bax : List Item := [.code (Try.f60.body.getD .skip)]
abbrev Bdn (C : Ctx) (F : Act -> World -> Prop) (y : Aj) : Prop := Bz At3 C F Try.f60.results.toList [] [(.nm 4)] (y, ())
noncomputable def Bbb (a0 : A7) : ST := ⟨10, [(0, og (Gn a0))], []⟩
theorem Bal (G : Ay At3 P) {y a0} (E : Bdn C F y) (h : Tw a0 = some y) : Am At3 P C F Bax (Bbb a0) := by
 unfold Tw at h
 obtain ⟨y1, c1, h⟩ := bind_some h
 obtain ⟨y2, c2, h⟩ := bind_some h
 have e := sj h; subst e
 exact se G E [r0, .reg [(2, .res ⟨[(.nm 3)], (y1, ())⟩), (5, .res ⟨[(.nm 3)], (y2, ())⟩)], au] (aa (ca c1) <| aa (ca c2) <| tt)
noncomputable def Arg : FS yaE := ⟨[(.nm 0)], [(.nm 4)], [], [], λ x => Option.map (λ r => (r, ())) (Tw x.1)⟩
theorem Aci : MT 60 Arg := show Bh At3 _ _ _ from mt (fn := Try.f60) (S := λ x => Bbb x.1) (GB ⟨Wg, trivial⟩ trivial) λ G _ _ _ _ E h => Bal G E h
noncomputable abbrev Aux : Env := EV [(17, Om), (31, Ah5), (60, Arg)] [] false
noncomputable def A4n : List Item := [.code (Try.f29.body.getD .skip)]
abbrev Bdy (C : Ctx) (F : Act -> World -> Prop) (y : Aj) : Prop := Bz Aux C F Try.f29.results.toList [] [(.nm 4)] (y, ())
noncomputable def Ba1 (a0 : Aq) : ST := ⟨8, [(0, og (Qu a0))], []⟩
theorem A6g (G : Ay Aux P) {y a0} (E : Bdy C F y) (h : Ha a0 = some y) : Am Aux P C F A4n (Ba1 a0) := by
 unfold Ha at h
 obtain ⟨y1, c1, h⟩ := bind_some h
 obtain ⟨y2, c2, h⟩ := bind_some h
 obtain ⟨y3, c3, h⟩ := bind_some h
 have e := sj h; subst e
 exact se G E [r0, .reg [(0, .res ⟨[(.nm 4)], (y1, ())⟩), (3, .res ⟨[(.nm 4)], (y2, ())⟩), (4, .res ⟨[(.nm 4)], (y3, ())⟩)], au] (aa (ca c1) <| aa (ca c2) <| aa (ca c3) <| tt)
noncomputable def Amb : FS yaE := ⟨[(.nm 1)], [(.nm 4)], [], [], λ x => Option.map (λ r => (r, ())) (Ha x.1)⟩
theorem W0 : MT 29 Amb := show Bh Aux _ _ _ from mt (fn := Try.f29) (S := λ x => Ba1 x.1) (GB ⟨G8, U2, Aci, trivial⟩ trivial) λ G _ _ _ _ E h => A6g G E h
end
end Go.Ab
