/- The functions compute what the plain functions tell. Conditions: none beyond those that each theorem names. -/
import Derived.Test.YtjdgmcngpiookaaS15
namespace Go.Ab
open Go Go.Proofs
set_option linter.unusedVariables false
section
variable {P : Program} {C : Ctx} {F : Act -> World -> Prop}
noncomputable abbrev K7 : Env := EV [(17, Om), (30, Ajb), (52, Ash), (77, Azp), (78, A0m), (79, A0o)] [] false
noncomputable def A0w : List Item := [.code (Try.f50.body.getD .skip)]
noncomputable def Alu := ctl [.reg, .reg, .reg, .enter] A0w
noncomputable def Asn := ctl [.reg, .br false, .auto] Alu
noncomputable def Alp := ctl [.reg, .reg, .enter] Asn
noncomputable def Are := ctl [.reg, .br false, .auto] Alp
noncomputable def Aih := ctl [.reg, .enter] Are
noncomputable def A1c := ctl [.reg, .br false, .auto] Aih
abbrev As5 (C : Ctx) (F : Act -> World -> Prop) (y : ((List Aj) × (List (List Aj)) × Bool)) : Prop := Bz K7 C F Try.f50.results.toList [] [(.sl (.nm 4)), (.sl (.sl (.nm 4))), .bool] (y.1, y.2.1, y.2.2, ())
noncomputable def Akp (a0 : QmM) (y3 : (QmM × (List Int) × Aj)) : ST := ⟨85, [(2, ol (.ptr 2 0)), (7, ol (.ptr 7 0)), (8, ol (.sl (.int .i64) false y3.2.1))], [(2, .cells [.int .i64 a0.C, .sl (.sl (.nm 4)) false a0.V]), (7, .cells [.int .i64 y3.1.C, .sl (.sl (.nm 4)) false y3.1.V])]⟩
noncomputable def Ajy (a0 : QmM) (r2 : List Aj) (y3 : (QmM × (List Int) × Aj)) : ST := ⟨85, [(2, ol (.ptr 2 0)), (7, ol (.ptr 7 0)), (8, ol (.sl (.int .i64) false y3.2.1)), (11, ol (.ar 48 0))], [(2, .cells [.int .i64 a0.C, .sl (.sl (.nm 4)) false a0.V]), (7, .cells [.int .i64 y3.1.C, .sl (.sl (.nm 4)) false y3.1.V]), (48, .arr 53 (.nm 4) r2 0 false)]⟩
noncomputable def Ahl (a0 : QmM) (r3 : List Aj) (y3 : (QmM × (List Int) × Aj)) : ST := ⟨85, [(2, ol (.ptr 2 0)), (7, ol (.ptr 7 0)), (8, ol (.sl (.int .i64) false y3.2.1)), (11, ol (.ar 48 0))], [(2, .cells [.int .i64 a0.C, .sl (.sl (.nm 4)) false a0.V]), (7, .cells [.int .i64 y3.1.C, .sl (.sl (.nm 4)) false y3.1.V]), (48, .arr 53 (.nm 4) r3 0 false)]⟩
noncomputable def Agw (a0 : QmM) (y3 : (QmM × (List Int) × Aj)) (v1 : Int) : ST := ⟨85, [(2, ol (.ptr 2 0)), (7, ol (.ptr 7 0)), (8, ol (.sl (.int .i64) false y3.2.1)), (10, oi v1)], [(2, .cells [.int .i64 a0.C, .sl (.sl (.nm 4)) false a0.V]), (7, .cells [.int .i64 y3.1.C, .sl (.sl (.nm 4)) false y3.1.V])]⟩
noncomputable def Aga (a0 : QmM) (y3 : (QmM × (List Int) × Aj)) (v2 : Int) (v3 : Int) (v4 : List Aj) : ST := ⟨85, [(2, ol (.ptr 2 0)), (7, ol (.ptr 7 0)), (8, ol (.sl (.int .i64) false y3.2.1)), (11, ol (.ar 48 0)), (50, oi v2), (51, oi v3)], [(2, .cells [.int .i64 a0.C, .sl (.sl (.nm 4)) false a0.V]), (7, .cells [.int .i64 y3.1.C, .sl (.sl (.nm 4)) false y3.1.V]), (48, .arr 53 (.nm 4) v4 0 false)]⟩
noncomputable def Agd (a0 : QmM) (y3 : (QmM × (List Int) × Aj)) (v6 : Int) (v7 : List Aj) : ST := ⟨85, [(2, ol (.ptr 2 0)), (7, ol (.ptr 7 0)), (8, ol (.sl (.int .i64) false y3.2.1)), (11, ol (.ar 48 0)), (59, ol (.sl (.int .i64) false y3.2.1)), (60, oi ((y3.2.1.length : Nat) : Int)), (61, oi v6)], [(2, .cells [.int .i64 a0.C, .sl (.sl (.nm 4)) false a0.V]), (7, .cells [.int .i64 y3.1.C, .sl (.sl (.nm 4)) false y3.1.V]), (48, .arr 53 (.nm 4) v7 0 false)]⟩
noncomputable def Bbh (a0 : QmM) (a1 : List Aj) : ST := ⟨85, [(0, og (Js a0)), (1, ol (.sl (.nm 4) false a1))], []⟩
theorem Av3 (G : Ay K7 P) {y o r a0 y3 v1} (E : As5 C F y) (h : Kv a0 y3 v1 = some o)
   (hl : ∀ v', o = .inl v' -> Am K7 P C F Alu (Agw a0 y3 v')) (hr : ∀ r', o = .inr r' -> r' = r)
   (K1 : ∀ r1, r = (.inl r1) -> Am K7 P C F Asn (Akp a0 y3))
   (KR : ∀ r', r = (.inr r') -> r' = y) : Am K7 P C F Alu (Agw a0 y3 v1) := by
 unfold Kv at h
 rcases Ad h with ⟨b1, h⟩ | ⟨b1, h⟩
 · obtain ⟨c4, c5, h⟩ := ns2 h
   obtain ⟨y4, c6, h⟩ := bind_some h
   rcases Ad h with ⟨b2, h⟩ | ⟨b2, h⟩
   · have e := KR _ (hr _ (si h)).symm; subst e
     exact se G E [r0, bt, .reg [(9, .res ⟨[.bool], (y4, ())⟩)], bt, r0, au] (aa b1 <| aa c4 <| aa c5 <| aa (ca c6) <| aa b2 <| tt)
   · exact sg G [r0, bt, .reg [(9, .res ⟨[.bool], (y4, ())⟩)], bf, r0, en, wk [2, 7, 8, 10] [2, 7]] (aa b1 <| aa c4 <| aa c5 <| aa (ca c6) <| aa b2 <| tt) (hl _ (si h))
 · exact sg G [r0, bf, au, wk [2, 7, 8] [2, 7]] (aa b1 <| tt) (K1 _ (hr _ (si h)).symm)
theorem Avs (G : Ay K7 P) {y o r a0 y3 v2 v3 v4} (E : As5 C F y) (h : Kz a0 y3 v2 v3 v4 = some o)
   (hl : ∀ v', o = .inl v' -> Am K7 P C F Alp (Aga a0 y3 v'.1 v'.2.1 v'.2.2)) (hr : ∀ r', o = .inr r' -> r' = r)
   (K1 : ∀ r2, r = r2 -> Am K7 P C F Are (Ajy a0 r2 y3)) : Am K7 P C F Alp (Aga a0 y3 v2 v3 v4) := by
 unfold Kz at h
 rcases Ad h with ⟨b3, h⟩ | ⟨b3, h⟩
 · obtain ⟨y5, c10, h⟩ := bind_some h
   obtain ⟨c11, h⟩ := Ao h
   exact sg G [r0, bt, r0, .reg [(2, .res ⟨[(.nm 4)], (y5, ())⟩)], r0, en, wk [2, 7, 8, 11, 50, 51] [2, 7, 48]] (aa b3 <| aa (ca c10) <| aa c11 <| tt) (hl _ (si h))
 · exact sg G [r0, bf, au, wk [2, 7, 8, 11] [2, 7, 48]] (aa b3 <| tt) (K1 _ (hr _ (si h)).symm)
theorem Auc (G : Ay K7 P) {y o r a0 y3 v6 v7} (E : As5 C F y) (h : Ns a0 y3 v6 v7 = some o)
   (hl : ∀ v', o = .inl v' -> Am K7 P C F Aih (Agd a0 y3 v'.1 v'.2)) (hr : ∀ r', o = .inr r' -> r' = r)
   (K1 : ∀ r3, r = r3 -> Am K7 P C F A1c (Ahl a0 r3 y3)) : Am K7 P C F Aih (Agd a0 y3 v6 v7) := by
 unfold Ns at h
 rcases Ad h with ⟨b4, h⟩ | ⟨b4, h⟩
 · obtain ⟨c12, h⟩ := Ao h
   obtain ⟨c13, c14, c15, h⟩ := ns3 h
   exact sg G [r0, bt, r0, r0, r0, en, wk [2, 7, 8, 11, 59, 60, 61] [2, 7, 48]] (aa b4 <| aa c12 <| aa c13 <| aa c14 <| aa c15 <| tt) (hl _ (si h))
 · exact sg G [r0, bf, au, wk [2, 7, 8, 11] [2, 7, 48]] (aa b4 <| tt) (K1 _ (hr _ (si h)).symm)
theorem A78 (G : Ay K7 P) {y a0 a1} (E : As5 C F y) (h : Mm a0 a1 = some y) : Am K7 P C F A0w (Bbh a0 a1) := by
 unfold Mm at h
 obtain ⟨y1, c1, h⟩ := bind_some h
 obtain ⟨y2, c2, h⟩ := bind_some h
 obtain ⟨y3, c3, h⟩ := bind_some h
 obtain ⟨r, hi, h⟩ := bind_some h
 have K1 : ∀ r1, r = (.inl r1) -> Am K7 P C F Asn (Akp a0 y3) := by
   rintro r1 rfl
   obtain ⟨c7, c8, c9, h⟩ := ns3 h
   obtain ⟨r2, hi, h⟩ := bind_some h
   have K1 : ∀ q, r2 = q -> Am K7 P C F Are (Ajy a0 q y3) := by
     rintro q rfl
     obtain ⟨r3, hi, h⟩ := bind_some h
     have K1 : ∀ q, r3 = q -> Am K7 P C F A1c (Ahl a0 q y3) := by
       rintro q rfl
       obtain ⟨y6, c16, h⟩ := bind_some h
       have e := sj h; subst e
       exact se G E [.reg [(5, .res ⟨[(.sl (.sl (.nm 4)))], (y6, ())⟩)], au, .weak [.fix (.slot 4)]] (aa (ca c16) <| tt)
     exact sg G [r0, en, wk [2, 7, 8, 11, 59, 60, 61] [2, 7, 48]] tt (Az (V := K7) (F := F) (k := Aih) (S := λ v => Agd a0 y3 v.1 v.2) (λ v o h hl hr => Auc G E h hl hr K1) _ hi)
   exact sg G [r0, r0, en, wk [2, 7, 8, 11, 50, 51] [2, 7, 48]] (aa c7 <| aa c8 <| aa c9 <| tt) (Az (V := K7) (F := F) (k := Alp) (S := λ v => Aga a0 y3 v.1 v.2.1 v.2.2) (λ v o h hl hr => Avs G E h hl hr K1) _ hi)
 have KR : ∀ r4, r = (.inr r4) -> r4 = y := by
   rintro r4 rfl
   exact Option.some.inj h
 exact sg G [r0, .reg [(2, .res ⟨[(.nm 5)], (y1, ())⟩), (3, .res ⟨[(.nm 5)], (y2, ())⟩), (6, .res ⟨[(.nm 5), (.sl (.int .i64)), (.nm 4)], (y3.1, y3.2.1, y3.2.2, ())⟩)], r0, en, wk [2, 7, 8, 10] [2, 7]] (aa (ca c1) <| aa (ca c2) <| aa (congrArg (Option.map (λ r => (r.1, r.2.1, r.2.2, ()))) c3) <| tt) (Az (V := K7) (F := F) (k := Alu) (S := λ v => Agw a0 y3 v) (λ v o h hl hr => Av3 G E h hl hr K1 KR) _ hi)
noncomputable def Aym : FS yaE := ⟨[(.nm 5), (.sl (.nm 4))], [(.sl (.nm 4)), (.sl (.sl (.nm 4))), .bool], [], [], λ x => Option.map (λ r => (r.1, r.2.1, r.2.2, ())) (Mm x.1 x.2.1)⟩
theorem Aou : MT 50 Aym := show Bh K7 _ _ _ from mt (fn := Try.f50) (S := λ x => Bbh x.1 x.2.1) (GB ⟨G8, Uv, Ad1, An7, Aoo, Arp, trivial⟩ trivial) λ G _ _ _ _ E h => A78 G E h
noncomputable abbrev Rg : Env := EV [(16, Aqr), (17, Om), (22, Art), (49, Ao7), (50, Aym)] [] false
noncomputable def Axp : List Item := [.code (Try.f20.body.getD .skip)]
noncomputable def Y5 := ctl [.reg, .reg, .reg, .enter] Axp
noncomputable def A8q := ctl [.reg, .br true, .reg, .reg, .br true, .reg, .reg, .reg, .auto] Y5
noncomputable def Ark := ctl [.reg, .br false, .auto] Y5
abbrev A3x (C : Ctx) (F : Act -> World -> Prop) (y : List Aj) : Prop := Bz Rg C F Try.f20.results.toList [] [(.sl (.nm 4))] (y, ())
noncomputable def Abx (r1 : ((List Aj) × (List (List Aj)))) (y1 : QmM) : ST := ⟨53, [(1, ol (.ar 1000001 0)), (5, ol (.ptr 5 0))], [(5, .cells [.int .i64 y1.C, .ar 1013 0]), (1013, .rows 48 53 (.nm 4) r1.2 0 0 .opn), (1000001, .arr 53 (.nm 4) r1.1 0 false)]⟩
noncomputable def A2u (a0 : Ah) (v1 : Int) (v4 : List Aj) (v5 : (List (List Aj))) (y1 : QmM) (y2 : List Int) : ST := ⟨53, [(1, ol (.ar 1000001 0)), (2, ol (.ptr 2 0)), (5, ol (.ptr 5 0)), (15, ol (.sl (.int .i64) false y2)), (16, oi ((y2.length : Nat) : Int)), (17, oi v1)], [(2, .cells [.int .i64 a0.Nodes, .sl (.nm 1) false a0.Arms]), (5, .cells [.int .i64 y1.C, .ar 1013 0]), (1013, .rows 48 53 (.nm 4) v5 0 0 .opn), (1000001, .arr 53 (.nm 4) v4 0 false)]⟩
noncomputable def Zp (a0 : Ah) (y1 : QmM) (y2 : List Int) (v1 : Int) (v2 : List Aj) (v3 : (List (List Aj))) : ST := ⟨53, [(1, ol (.ar 1000001 0)), (2, ol (.ptr 2 0)), (5, ol (.ptr 5 0)), (15, ol (.sl (.int .i64) false y2)), (16, oi ((y2.length : Nat) : Int)), (17, oi v1)], [(2, .cells [.int .i64 a0.Nodes, .sl (.nm 1) false a0.Arms]), (5, .cells [.int .i64 y1.C, .ar 1013 0]), (1013, .rows 48 53 (.nm 4) v3 0 0 .opn), (1000001, .arr 53 (.nm 4) v2 0 false)]⟩
noncomputable def A69 (a0 : Ah) (a1 : List Aj) : ST := ⟨53, [(0, og (Ce a0)), (1, ol (.ar 1000001 0))], [(1000001, .arr 53 (.nm 4) a1 0 false)]⟩
theorem Ajw (G : Ay Rg P) {y o r a0 v1 v4 v5 y1 y2} (E : A3x C F y) (h : Jb a0 v1 v4 v5 y1 y2 = some o)
   (hl : ∀ v', o = .inl v' -> Am Rg P C F Y5 (Zp a0 y1 y2 v'.1 v'.2.1 v'.2.2)) (hr : ∀ r', o = .inr r' -> r' = r)
   (K1 : ∀ r1, r = r1 -> Am Rg P C F Ark (Abx r1 y1)) : Am Rg P C F A8q (A2u a0 v1 v4 v5 y1 y2) := by
 unfold Jb at h
 exact sg G [r0, en, wk [1, 2, 5, 15, 16, 17] [2, 5, 1013, 1000001]] tt (hl _ (si h))
theorem Au4 (G : Ay Rg P) {y o r a0 y1 y2 v1 v2 v3} (E : A3x C F y) (h : Le a0 y1 y2 v1 v2 v3 = some o)
   (hl : ∀ v', o = .inl v' -> Am Rg P C F Y5 (Zp a0 y1 y2 v'.1 v'.2.1 v'.2.2)) (hr : ∀ r', o = .inr r' -> r' = r)
   (K1 : ∀ r1, r = r1 -> Am Rg P C F Ark (Abx r1 y1)) : Am Rg P C F Y5 (Zp a0 y1 y2 v1 v2 v3) := by
 unfold Le at h
 rcases Ad h with ⟨b1, h⟩ | ⟨b1, h⟩
 · obtain ⟨c3, h⟩ := Ao h
   rcases Ad h with ⟨b2, h⟩ | ⟨b2, h⟩
   · obtain ⟨y3, c4, h⟩ := bind_some h
     obtain ⟨c5, h⟩ := Ao h
     obtain ⟨y4, c6, h⟩ := bind_some h
     obtain ⟨c7, h⟩ := Ao h
     obtain ⟨y5, c8, h⟩ := bind_some h
     obtain ⟨c9, c10, h⟩ := ns2 h
     exact sg G [r0, bt, r0, r0, bt, .reg [(2, .res ⟨[(.nm 5)], (y3, ())⟩)], .reg [(2, .res ⟨[(.nm 4)], (y4, ())⟩)], .reg [(6, .res ⟨[(.nm 4)], (y5, ())⟩)], au, .weak [.re 1013 1013 0, .keep [1, 2, 5, 15, 16, 17] [2, 5, 1013, 1000001]]] (aa b1 <| aa c3 <| aa b2 <| aa (ca c4) <| aa c5 <| aa (ca c6) <| aa c7 <| aa (ca c8) <| aa c9 <| aa c10 <| tt) (Ajw G E h hl hr K1)
   · exact sg G [r0, bt, r0, r0, bf, au, wk [1, 2, 5, 15, 16, 17] [2, 5, 1013, 1000001]] (aa b1 <| aa c3 <| aa b2 <| tt) (Ajw G E h hl hr K1)
 · exact sg G [r0, bf, au, wk [1, 5] [5, 1013, 1000001]] (aa b1 <| tt) (K1 _ (hr _ (si h)).symm)
theorem Baw (G : Ay Rg P) {y a0 a1} (E : A3x C F y) (h : Is a0 a1 = some y) : Am Rg P C F Axp (A69 a0 a1) := by
 unfold Is at h
 obtain ⟨y1, c1, h⟩ := bind_some h
 obtain ⟨y2, c2, h⟩ := bind_some h
 obtain ⟨r1, hi, h⟩ := bind_some h
 have K1 : ∀ q, r1 = q -> Am Rg P C F Ark (Abx q y1) := by
   rintro q rfl
   obtain ⟨y6, c11, h⟩ := bind_some h
   have e := sj h; subst e
   exact se G E [.reg [(2, .res ⟨[(.sl (.nm 4)), (.sl (.sl (.nm 4))), .bool], (y6.1, y6.2.1, y6.2.2, ())⟩)], r0, au] (aa (congrArg (Option.map (λ r => (r.1, r.2.1, r.2.2, ()))) c11) <| tt)
 exact sg G [r0, .reg [(1, .res ⟨[(.nm 5)], (y1, ())⟩)], .reg [(1, .res ⟨[(.sl (.int .i64))], (y2, ())⟩)], en, wk [1, 2, 5, 15, 16, 17] [2, 5, 1013, 1000001]] (aa (ca c1) <| aa (ca c2) <| tt) (Az (V := Rg) (F := F) (k := Y5) (S := λ v => Zp a0 y1 y2 v.1 v.2.1 v.2.2) (λ v o h hl hr => Au4 G E h hl hr K1) _ hi)
noncomputable def Ar5 : FS yaE := ⟨[(.nm 2), (.sl (.nm 4))], [(.sl (.nm 4))], [0, 53], [], λ x => Option.map (λ r => (r, ())) (Is x.1 x.2.1)⟩
theorem Adi : MT 20 Ar5 := show Bh Rg _ _ _ from mt (fn := Try.f20) (S := λ x => A69 x.1 x.2.1) (GB ⟨Adm, G8, Adc, Aef, Aou, trivial⟩ trivial) λ G _ _ _ _ E h => Baw G E h
noncomputable abbrev Anc : Env := EV [] [] false
noncomputable def Azv : List Item := [.code (Try.f80.body.getD .skip)]
noncomputable def A80 := ctl [.reg, .reg, .br true, .auto] Azv
abbrev Bac (C : Ctx) (F : Act -> World -> Prop) (y : (Int × Bool)) : Prop := Bz Anc C F Try.f80.results.toList [] [(.int .i64), .bool] (y.1, y.2, ())
noncomputable def A24 : ST := ⟨24, [], []⟩
noncomputable def A7o (a0 : A6) (a1 : Int) : ST := ⟨24, [(0, og (Cs a0)), (1, oi a1)], []⟩
theorem Ab6 (G : Ay Anc P) {y} (E : Bac C F y) (h : Jw = some y) : Am Anc P C F A80 A24 := by
 unfold Jw at h
 have e := sj h; subst e
 exact se G E [r0, au] tt
theorem A6l (G : Ay Anc P) {y a0 a1} (E : Bac C F y) (h : Nu a0 a1 = some y) : Am Anc P C F Azv (A7o a0 a1) := by
 unfold Nu at h
 rcases Ad h with ⟨b1, h⟩ | ⟨b1, h⟩
 · exact sg G [r0, .reg [(3, oT), (8, oT), (9, oT), (15, oT)], bt, au, wk [] []] (aa b1 <| aa b1 <| aa b1 <| aa b1 <| aa b1 <| aa (show true = true from rfl) <| aa (show true = true from rfl) <| aa (show true = true from rfl) <| aa (show true = true from rfl) <| aa (show true = true from rfl) <| aa (show true = true from rfl) <| aa (show true = true from rfl) <| tt) (Ab6 G E h)
 · rcases Ad h with ⟨b2, h⟩ | ⟨b2, h⟩
   · exact sg G [r0, .reg [(3, oF), (8, oF), (9, oT), (15, oT)], bt, au, wk [] []] (aa b1 <| aa b1 <| aa b1 <| aa b1 <| aa b1 <| aa b2 <| aa b2 <| aa b2 <| aa b2 <| aa b2 <| aa b2 <| aa (show true = true from rfl) <| tt) (Ab6 G E h)
   · rcases Ad h with ⟨b3, h⟩ | ⟨b3, h⟩
     · exact sg G [r0, .reg [(3, oF), (8, oF), (9, oF), (15, oF)], bt, au, wk [] []] (aa b1 <| aa b1 <| aa b1 <| aa b1 <| aa b1 <| aa b2 <| aa b2 <| aa b2 <| aa b2 <| aa b2 <| aa b2 <| aa b3 <| tt) (Ab6 G E h)
     · have e := sj h; subst e
       exact se G E [r0, .reg [(3, oF), (8, oF), (9, oF), (15, oF)], bf, r0, au] (aa b1 <| aa b1 <| aa b1 <| aa b1 <| aa b1 <| aa b2 <| aa b2 <| aa b2 <| aa b2 <| aa b2 <| aa b2 <| aa b3 <| tt)
noncomputable def Ayp : FS yaE := ⟨[(.nm 3), (.int .i64)], [(.int .i64), .bool], [], [], λ x => Option.map (λ r => (r.1, r.2, ())) (Nu x.1 x.2.1)⟩
theorem Aod : MT 80 Ayp := show Bh Anc _ _ _ from mt (fn := Try.f80) (S := λ x => A7o x.1 x.2.1) (GB trivial trivial) λ G _ _ _ _ E h => A6l G E h
noncomputable abbrev Ams : Env := EV [(80, Ayp)] [] false
noncomputable def Az0 : List Item := [.code (Try.f51.body.getD .skip)]
noncomputable def Bcs := ctl [.reg, .reg, .reg, .reg, .br true, .auto] Az0
abbrev A72 (C : Ctx) (F : Act -> World -> Prop) (y : (A7 × Bool)) : Prop := Bz Ams C F Try.f51.results.toList [] [(.nm 0), .bool] (y.1, y.2, ())
noncomputable def A3w : ST := ⟨30, [(2, ol (.ptr 2 0))], [(2, .cells [.int .i64 (0 : Int), .int .i64 (0 : Int)])]⟩
noncomputable def A45 (a0 : Aj) : ST := ⟨30, [(0, og (Dy a0))], []⟩
theorem Ahk (G : Ay Ams P) {y} (E : A72 C F y) (h : Mq = some y) : Am Ams P C F Bcs A3w := by
 unfold Mq at h
 have e := sj h; subst e
 exact se G E [r0, au] tt
theorem A50 (G : Ay Ams P) {y a0} (E : A72 C F y) (h : Mw a0 = some y) : Am Ams P C F Az0 (A45 a0) := by
 unfold Mw at h
 obtain ⟨y1, c1, h⟩ := bind_some h
 obtain ⟨y2, c2, h⟩ := bind_some h
 rcases Ad h with ⟨b1, h⟩ | ⟨b1, h⟩
 · exact sg G [r0, .reg [(2, .res ⟨[(.int .i64), .bool], (y1.1, y1.2, ())⟩)], .reg [(2, .res ⟨[(.int .i64), .bool], (y2.1, y2.2, ())⟩)], .reg [(2, oT), (5, oT)], bt, au, wk [2] [2]] (aa (cb c1) <| aa (cb c2) <| aa b1 <| aa b1 <| aa b1 <| aa (show true = true from rfl) <| tt) (Ahk G E h)
 · rcases Ad h with ⟨b2, h⟩ | ⟨b2, h⟩
   · exact sg G [r0, .reg [(2, .res ⟨[(.int .i64), .bool], (y1.1, y1.2, ())⟩)], .reg [(2, .res ⟨[(.int .i64), .bool], (y2.1, y2.2, ())⟩)], .reg [(2, oF), (5, oF)], bt, au, wk [2] [2]] (aa (cb c1) <| aa (cb c2) <| aa b1 <| aa b1 <| aa b1 <| aa b2 <| tt) (Ahk G E h)
   · have e := sj h; subst e
     exact se G E [r0, .reg [(2, .res ⟨[(.int .i64), .bool], (y1.1, y1.2, ())⟩)], .reg [(2, .res ⟨[(.int .i64), .bool], (y2.1, y2.2, ())⟩)], .reg [(2, oF), (5, oF)], bf, r0, au] (aa (cb c1) <| aa (cb c2) <| aa b1 <| aa b1 <| aa b1 <| aa b2 <| tt)
noncomputable def Arx : FS yaE := ⟨[(.nm 4)], [(.nm 0), .bool], [], [], λ x => Option.map (λ r => (r.1, r.2, ())) (Mw x.1)⟩
theorem Ae0 : MT 51 Arx := show Bh Ams _ _ _ from mt (fn := Try.f51) (S := λ x => A45 x.1) (GB ⟨Aod, trivial⟩ trivial) λ G _ _ _ _ E h => A50 G E h
noncomputable abbrev Awg : Env := EV [(51, Arx)] [] false
noncomputable def A85 : List Item := [.code (Try.f21.body.getD .skip)]
abbrev Bd8 (C : Ctx) (F : Act -> World -> Prop) (y : (A7 × Int)) : Prop := Bz Awg C F Try.f21.results.toList [] [(.nm 0), (.int .i64)] (y.1, y.2, ())
noncomputable def A9e (a0 : Aj) : ST := ⟨15, [(0, og (Dy a0))], []⟩
theorem Ba0 (G : Ay Awg P) {y a0} (E : Bd8 C F y) (h : H6 a0 = some y) : Am Awg P C F A85 (A9e a0) := by
 unfold H6 at h
 obtain ⟨y1, c1, h⟩ := bind_some h
 rcases Ad h with ⟨b1, h⟩ | ⟨b1, h⟩
 · have e := sj h; subst e
   exact se G E [r0, .reg [(1, .res ⟨[(.nm 0), .bool], (y1.1, y1.2, ())⟩)], r0, bt, r0, au] (aa (cb c1) <| aa b1 <| tt)
 · have e := sj h; subst e
   exact se G E [r0, .reg [(1, .res ⟨[(.nm 0), .bool], (y1.1, y1.2, ())⟩)], r0, bf, r0, au] (aa (cb c1) <| aa b1 <| tt)
noncomputable def Ahz : FS yaE := ⟨[(.nm 4)], [(.nm 0), (.int .i64)], [], [], λ x => Option.map (λ r => (r.1, r.2, ())) (H6 x.1)⟩
theorem U1 : MT 21 Ahz := show Bh Awg _ _ _ from mt (fn := Try.f21) (S := λ x => A9e x.1) (GB ⟨Ae0, trivial⟩ trivial) λ G _ _ _ _ E h => Ba0 G E h
noncomputable abbrev w6V : Env := EV [(15, Aeg), (16, Aqr), (17, Om), (18, Yz), (19, Ad2), (20, Ar5), (21, Ahz)] [] false
noncomputable def A18 : List Item := [.code (Try.f6.body.getD .skip)]
noncomputable def Bdt := ctl [.reg, .reg, .reg, .br false, .reg, .br true, .auto] A18
noncomputable def Avn := ctl [.reg, .reg, .reg, .br false, .reg, .br false, .reg, .reg, .br false, .reg, .reg, .enter] A18
noncomputable def A4m := ctl [.reg, .br false, .auto] Avn
abbrev w6E (C : Ctx) (F : Act -> World -> Prop) (y : (A7 × Int)) : Prop := Bz w6V C F Try.f6.results.toList [] [(.nm 0), (.int .i64)] (y.1, y.2, ())
noncomputable def Apj (a0 : Ah) (a1 : Int) (a2 : Int) (r1 : List Aj) : ST := ⟨96, [(1, oi a1), (2, oi a2), (3, ol (.ptr 3 0)), (6, ol (.ptr 6 0)), (10, ol (.ar 52 0))], [(3, .cells [.int .i64 a0.Nodes, .sl (.nm 1) false a0.Arms]), (6, .cells [.int .i64 (0 : Int), .int .i64 (0 : Int)]), (52, .arr 53 (.nm 4) r1 0 false)]⟩
noncomputable def A4x : ST := ⟨96, [(6, ol (.ptr 6 0))], [(6, .cells [.int .i64 (0 : Int), .int .i64 (0 : Int)])]⟩
noncomputable def Ars (a0 : Ah) (a1 : Int) (a2 : Int) (v1 : Int) (v2 : Int) (v3 : List Aj) : ST := ⟨96, [(1, oi a1), (2, oi a2), (3, ol (.ptr 3 0)), (6, ol (.ptr 6 0)), (10, ol (.ar 52 0)), (54, oi v1), (55, oi v2)], [(3, .cells [.int .i64 a0.Nodes, .sl (.nm 1) false a0.Arms]), (6, .cells [.int .i64 (0 : Int), .int .i64 (0 : Int)]), (52, .arr 53 (.nm 4) v3 0 false)]⟩
noncomputable def w6S (a0 : Ah) (a1 : Int) (a2 : Int) : ST := ⟨96, [(0, og (Ce a0)), (1, oi a1), (2, oi a2)], []⟩
theorem Abq (G : Ay w6V P) {y} (E : w6E C F y) (h : Fx = some y) : Am w6V P C F Bdt A4x := by
 unfold Fx at h
 have e := sj h; subst e
 exact se G E [r0, au] tt
theorem A1g (G : Ay w6V P) {y o r a0 a1 a2 v1 v2 v3} (E : w6E C F y) (h : G4 a0 a1 a2 v1 v2 v3 = some o)
   (hl : ∀ v', o = .inl v' -> Am w6V P C F Avn (Ars a0 a1 a2 v'.1 v'.2.1 v'.2.2)) (hr : ∀ r', o = .inr r' -> r' = r)
   (K1 : ∀ r1, r = r1 -> Am w6V P C F A4m (Apj a0 a1 a2 r1)) : Am w6V P C F Avn (Ars a0 a1 a2 v1 v2 v3) := by
 unfold G4 at h
 rcases Ad h with ⟨b7, h⟩ | ⟨b7, h⟩
 · obtain ⟨y3, c8, h⟩ := bind_some h
   obtain ⟨c9, h⟩ := Ao h
   exact sg G [r0, bt, r0, .reg [(2, .res ⟨[(.nm 4)], (y3, ())⟩)], r0, en, wk [1, 2, 3, 6, 10, 54, 55] [3, 6, 52]] (aa b7 <| aa (ca c8) <| aa c9 <| tt) (hl _ (si h))
 · exact sg G [r0, bf, au, wk [1, 2, 3, 6, 10] [3, 6, 52]] (aa b7 <| tt) (K1 _ (hr _ (si h)).symm)
theorem Bc3 (G : Ay w6V P) {y a0 a1 a2} (E : w6E C F y) (h : Fe a0 a1 a2 = some y) : Am w6V P C F A18 (w6S a0 a1 a2) := by
 unfold Fe at h
 obtain ⟨y1, c1, h⟩ := bind_some h
 rcases Ad h with ⟨b1, h⟩ | ⟨b1, h⟩
 · have e := sj h; subst e
   exact se G E [r0, .reg [(1, .res ⟨[(.int .i64)], (y1, ())⟩)], r0, bt, r0, au] (aa (ca c1) <| aa b1 <| tt)
 · rcases Ad h with ⟨b2, h⟩ | ⟨b2, h⟩
   · exact sg G [r0, .reg [(1, .res ⟨[(.int .i64)], (y1, ())⟩)], r0, bf, .reg [(2, oT), (7, oT), (8, oT), (11, oT), (12, oT), (17, oT)], bt, au, wk [6] [6]] (aa (ca c1) <| aa b1 <| aa b2 <| aa b2 <| aa b2 <| aa b2 <| aa b2 <| aa (show true = true from rfl) <| aa (show true = true from rfl) <| aa (show true = true from rfl) <| aa (show true = true from rfl) <| aa (show true = true from rfl) <| aa (show true = true from rfl) <| aa (show true = true from rfl) <| aa (show true = true from rfl) <| aa (show true = true from rfl) <| tt) (Abq G E h)
   · rcases Ad h with ⟨b3, h⟩ | ⟨b3, h⟩
     · exact sg G [r0, .reg [(1, .res ⟨[(.int .i64)], (y1, ())⟩)], r0, bf, .reg [(2, oF), (7, oF), (8, oT), (11, oT), (12, oT), (17, oT)], bt, au, wk [6] [6]] (aa (ca c1) <| aa b1 <| aa b2 <| aa b2 <| aa b2 <| aa b2 <| aa b2 <| aa b3 <| aa b3 <| aa b3 <| aa (show true = true from rfl) <| aa (show true = true from rfl) <| aa (show true = true from rfl) <| aa (show true = true from rfl) <| aa (show true = true from rfl) <| aa (show true = true from rfl) <| tt) (Abq G E h)
     · rcases Ad h with ⟨b4, h⟩ | ⟨b4, h⟩
       · exact sg G [r0, .reg [(1, .res ⟨[(.int .i64)], (y1, ())⟩)], r0, bf, .reg [(2, oF), (7, oF), (8, oF), (11, oF), (12, oT), (17, oT)], bt, au, wk [6] [6]] (aa (ca c1) <| aa b1 <| aa b2 <| aa b2 <| aa b2 <| aa b2 <| aa b2 <| aa b3 <| aa b3 <| aa b3 <| aa b4 <| aa b4 <| aa b4 <| aa b4 <| aa b4 <| aa (show true = true from rfl) <| tt) (Abq G E h)
       · rcases Ad h with ⟨b5, h⟩ | ⟨b5, h⟩
         · exact sg G [r0, .reg [(1, .res ⟨[(.int .i64)], (y1, ())⟩)], r0, bf, .reg [(2, oF), (7, oF), (8, oF), (11, oF), (12, oF), (17, oF)], bt, au, wk [6] [6]] (aa (ca c1) <| aa b1 <| aa b2 <| aa b2 <| aa b2 <| aa b2 <| aa b2 <| aa b3 <| aa b3 <| aa b3 <| aa b4 <| aa b4 <| aa b4 <| aa b4 <| aa b4 <| aa b5 <| tt) (Abq G E h)
         · obtain ⟨y2, c2, h⟩ := bind_some h
           obtain ⟨c3, c4, h⟩ := ns2 h
           rcases Ad h with ⟨b6, h⟩ | ⟨b6, h⟩
           · have e := sj h; subst e
             exact se G E [r0, .reg [(1, .res ⟨[(.int .i64)], (y1, ())⟩)], r0, bf, .reg [(2, oF), (7, oF), (8, oF), (11, oF), (12, oF), (17, oF)], bf, .reg [(1, .res ⟨[(.sl (.int .i64))], (y2, ())⟩)], r0, bt, r0, au] (aa (ca c1) <| aa b1 <| aa b2 <| aa b2 <| aa b2 <| aa b2 <| aa b2 <| aa b3 <| aa b3 <| aa b3 <| aa b4 <| aa b4 <| aa b4 <| aa b4 <| aa b4 <| aa b5 <| aa (ca c2) <| aa c3 <| aa c4 <| aa b6 <| tt)
           · obtain ⟨c5, c6, c7, h⟩ := ns3 h
             obtain ⟨r1, hi, h⟩ := bind_some h
             have K1 : ∀ q, r1 = q -> Am w6V P C F A4m (Apj a0 a1 a2 q) := by
               rintro q rfl
               obtain ⟨c10, h⟩ := Ao h
               obtain ⟨y4, c11, h⟩ := bind_some h
               obtain ⟨y5, c12, h⟩ := bind_some h
               obtain ⟨c13, h⟩ := Ao h
               obtain ⟨c14, h⟩ := Ao h
               obtain ⟨y6, c15, h⟩ := bind_some h
               obtain ⟨y7, c16, h⟩ := bind_some h
               obtain ⟨c17, h⟩ := Ao h
               obtain ⟨y8, c18, h⟩ := bind_some h
               obtain ⟨c19, c20, h⟩ := ns2 h
               obtain ⟨y9, c21, h⟩ := bind_some h
               obtain ⟨y10, c22, h⟩ := bind_some h
               have e := sj h; subst e
               exact se G E [.reg [(6, .res ⟨[(.nm 4)], (y4, ())⟩), (7, .res ⟨[(.nm 4)], (y5, ())⟩)], .reg [(6, .res ⟨[(.nm 4)], (y6, ())⟩), (7, .res ⟨[(.nm 4)], (y7, ())⟩)], .reg [(2, .res ⟨[(.sl (.nm 4))], (y8, ())⟩)], .reg [(8, .res ⟨[(.nm 4)], (y9, ())⟩), (9, .res ⟨[(.nm 0), (.int .i64)], (y10.1, y10.2, ())⟩)], au] (aa c10 <| aa (ca c11) <| aa (ca c12) <| aa c13 <| aa c14 <| aa (ca c15) <| aa (ca c16) <| aa c17 <| aa (ca c18) <| aa c19 <| aa c20 <| aa (ca c21) <| aa (cb c22) <| tt)
             exact sg G [r0, .reg [(1, .res ⟨[(.int .i64)], (y1, ())⟩)], r0, bf, .reg [(2, oF), (7, oF), (8, oF), (11, oF), (12, oF), (17, oF)], bf, .reg [(1, .res ⟨[(.sl (.int .i64))], (y2, ())⟩)], r0, bf, r0, r0, en, wk [1, 2, 3, 6, 10, 54, 55] [3, 6, 52]] (aa (ca c1) <| aa b1 <| aa b2 <| aa b2 <| aa b2 <| aa b2 <| aa b2 <| aa b3 <| aa b3 <| aa b3 <| aa b4 <| aa b4 <| aa b4 <| aa b4 <| aa b4 <| aa b5 <| aa (ca c2) <| aa c3 <| aa c4 <| aa b6 <| aa c5 <| aa c6 <| aa c7 <| tt) (Az (V := w6V) (F := F) (k := Avn) (S := λ v => Ars a0 a1 a2 v.1 v.2.1 v.2.2) (λ v o h hl hr => A1g G E h hl hr K1) _ hi)
noncomputable def A3p : FS yaE := ⟨[(.nm 2), (.int .i64), (.int .i64)], [(.nm 0), (.int .i64)], [], [], λ x => Option.map (λ r => (r.1, r.2, ())) (Fe x.1 x.2.1 x.2.2.1)⟩
theorem Aly : MT 6 A3p := show Bh w6V _ _ _ from mt (fn := Try.f6) (S := λ x => w6S x.1 x.2.1 x.2.2.1) (GB ⟨Ry, Adm, G8, Oh, Rr, Adi, U1, trivial⟩ trivial) λ G _ _ _ _ E h => Bc3 G E h
noncomputable abbrev Awc : Env := EV [(17, Om), (52, Ash)] [] false
noncomputable def A9q : List Item := [.code (Try.f23.body.getD .skip)]
abbrev Beb (C : Ctx) (F : Act -> World -> Prop) (y : Aj) : Prop := Bz Awc C F Try.f23.results.toList [] [(.nm 4)] (y, ())
noncomputable def A4z (a0 : QmM) : ST := ⟨22, [(0, og (Js a0))], []⟩
theorem Bbj (G : Ay Awc P) {y a0} (E : Beb C F y) (h : S3 a0 = some y) : Am Awc P C F A9q (A4z a0) := by
 unfold S3 at h
 obtain ⟨y1, c1, h⟩ := bind_some h
 rcases Ad h with ⟨b1, h⟩ | ⟨b1, h⟩
 · obtain ⟨y2, c2, h⟩ := bind_some h
   have e := sj h; subst e
   exact se G E [r0, .reg [(3, .res ⟨[(.nm 5), (.sl (.int .i64)), (.nm 4)], (y1.1, y1.2.1, y1.2.2, ())⟩)], r0, bt, .reg [(0, .res ⟨[(.nm 4)], (y2, ())⟩)], au] (aa (congrArg (Option.map (λ r => (r.1, r.2.1, r.2.2, ()))) c1) <| aa b1 <| aa (ca c2) <| tt)
 · have e := sj h; subst e
   exact se G E [r0, .reg [(3, .res ⟨[(.nm 5), (.sl (.int .i64)), (.nm 4)], (y1.1, y1.2.1, y1.2.2, ())⟩)], r0, bf, r0, au] (aa (congrArg (Option.map (λ r => (r.1, r.2.1, r.2.2, ()))) c1) <| aa b1 <| tt)
noncomputable def Ax4 : FS yaE := ⟨[(.nm 5)], [(.nm 4)], [], [], λ x => Option.map (λ r => (r, ())) (S3 x.1)⟩
theorem Aqa : MT 23 Ax4 := show Bh Awc _ _ _ from mt (fn := Try.f23) (S := λ x => A4z x.1) (GB ⟨G8, Ad1, trivial⟩ trivial) λ G _ _ _ _ E h => Bbj G E h
noncomputable abbrev w7V : Env := EV [(15, Aeg), (21, Ahz), (22, Art), (23, Ax4)] [] false
noncomputable def A5v : List Item := [.code (Try.f7.body.getD .skip)]
noncomputable def At0 := ctl [.reg, .reg, .reg, .br false, .reg, .reg, .reg, .enter] A5v
noncomputable def Bbs := ctl [.reg, .br false, .auto] At0
abbrev w7E (C : Ctx) (F : Act -> World -> Prop) (y : (A7 × Int)) : Prop := Bz w7V C F Try.f7.results.toList [] [(.nm 0), (.int .i64)] (y.1, y.2, ())
noncomputable def Ari (a0 : Ah) (r1 : (List (List Aj))) : ST := ⟨42, [(2, ol (.ptr 2 0)), (6, ol (.ptr 6 0))], [(2, .cells [.int .i64 (0 : Int), .int .i64 (0 : Int)]), (6, .cells [.int .i64 (IntKind.wrap .i64 (a0.Nodes - (1 : Int))), .ar 34 0]), (34, .arr 48 (.sl (.nm 4)) r1 0 false)]⟩
noncomputable def Apn (a0 : Ah) (v1 : (List (List Aj))) (v2 : Int) (v3 : Int) (v4 : (List (List Aj))) : ST := ⟨42, [(2, ol (.ptr 2 0)), (6, ol (.ptr 6 0)), (23, ol (.sl (.sl (.nm 4)) false v1)), (24, oi v2), (25, oi v3)], [(2, .cells [.int .i64 (0 : Int), .int .i64 (0 : Int)]), (6, .cells [.int .i64 (IntKind.wrap .i64 (a0.Nodes - (1 : Int))), .ar 34 0]), (34, .arr 48 (.sl (.nm 4)) v4 0 false)]⟩
noncomputable def w7S (a0 : Ah) : ST := ⟨42, [(0, og (Ce a0))], []⟩
theorem A2k (G : Ay w7V P) {y o r a0 v1 v2 v3 v4} (E : w7E C F y) (h : Mv a0 v1 v2 v3 v4 = some o)
   (hl : ∀ v', o = .inl v' -> Am w7V P C F At0 (Apn a0 v'.1 v'.2.1 v'.2.2.1 v'.2.2.2)) (hr : ∀ r', o = .inr r' -> r' = r)
   (K1 : ∀ r1, r = r1 -> Am w7V P C F Bbs (Ari a0 r1)) : Am w7V P C F At0 (Apn a0 v1 v2 v3 v4) := by
 unfold Mv at h
 rcases Ad h with ⟨b2, h⟩ | ⟨b2, h⟩
 · obtain ⟨c6, h⟩ := Ao h
   obtain ⟨c7, c8, c9, c10, h⟩ := ns4 h
   exact sg G [r0, bt, r0, r0, r0, en, .weak [.re 34 34 0, .keep [2, 6, 23, 24, 25] [2, 6, 34]]] (aa b2 <| aa c6 <| aa c7 <| aa c8 <| aa c9 <| aa c10 <| tt) (hl _ (si h))
 · exact sg G [r0, bf, au, wk [2, 6] [2, 6, 34]] (aa b2 <| tt) (K1 _ (hr _ (si h)).symm)
theorem Bc6 (G : Ay w7V P) {y a0} (E : w7E C F y) (h : Mb a0 = some y) : Am w7V P C F A5v (w7S a0) := by
 unfold Mb at h
 obtain ⟨y1, c1, h⟩ := bind_some h
 rcases Ad h with ⟨b1, h⟩ | ⟨b1, h⟩
 · have e := sj h; subst e
   exact se G E [r0, .reg [(1, .res ⟨[(.int .i64)], (y1, ())⟩)], r0, bt, r0, au] (aa (ca c1) <| aa b1 <| tt)
 · obtain ⟨y2, c2, h⟩ := bind_some h
   obtain ⟨c3, c4, c5, h⟩ := ns3 h
   obtain ⟨r1, hi, h⟩ := bind_some h
   have K1 : ∀ q, r1 = q -> Am w7V P C F Bbs (Ari a0 q) := by
     rintro q rfl
     obtain ⟨y3, c11, h⟩ := bind_some h
     obtain ⟨y4, c12, h⟩ := bind_some h
     have e := sj h; subst e
     exact se G E [.reg [(1, .res ⟨[(.nm 4)], (y3, ())⟩), (2, .res ⟨[(.nm 0), (.int .i64)], (y4.1, y4.2, ())⟩)], au] (aa (ca c11) <| aa (cb c12) <| tt)
   exact sg G [r0, .reg [(1, .res ⟨[(.int .i64)], (y1, ())⟩)], r0, bf, .reg [(1, .res ⟨[(.nm 5)], (y2, ())⟩)], r0, .weak [.fix (.slot 16)], .weak [.fix (.cell 5)], r0, en, .weak [.own (.cell 6) 1 34 48 0, .keep [2, 6, 23, 24, 25] [2, 6, 34]]] (aa (ca c1) <| aa b1 <| aa (ca c2) <| aa c3 <| aa c4 <| aa c5 <| tt) (Az (V := w7V) (F := F) (k := At0) (S := λ v => Apn a0 v.1 v.2.1 v.2.2.1 v.2.2.2) (λ v o h hl hr => A2k G E h hl hr K1) _ hi)
noncomputable def A8f : FS yaE := ⟨[(.nm 2)], [(.nm 0), (.int .i64)], [], [], λ x => Option.map (λ r => (r.1, r.2, ())) (Mb x.1)⟩
theorem Avp : MT 7 A8f := show Bh w7V _ _ _ from mt (fn := Try.f7) (S := λ x => w7S x.1) (GB ⟨Ry, U1, Adc, Aqa, trivial⟩ trivial) λ G _ _ _ _ E h => Bc6 G E h
noncomputable abbrev Avb : Env := EV [] [] false
noncomputable def A7r : List Item := [.code (Try.f12.body.getD .skip)]
abbrev Bde (C : Ctx) (F : Act -> World -> Prop) (y : A7) : Prop := Bz Avb C F Try.f12.results.toList [] [(.nm 0)] (y, ())
noncomputable def A9u (a0 : Int) : ST := ⟨5, [(0, oi a0)], []⟩
theorem A8m (G : Ay Avb P) {y a0} (E : Bde C F y) (h : Bi a0 = some y) : Am Avb P C F A7r (A9u a0) := by
 unfold Bi at h
 have e := sj h; subst e
 exact se G E [r0, r0, au] tt
noncomputable def A0z : FS yaE := ⟨[(.int .i64)], [(.nm 0)], [], [], λ x => Option.map (λ r => (r, ())) (Bi x.1)⟩
theorem Aos : MT 12 A0z := show Bh Avb _ _ _ from mt (fn := Try.f12) (S := λ x => A9u x.1) (GB trivial trivial) λ G _ _ _ _ E h => A8m G E h
noncomputable abbrev K8 : Env := EV [(17, Om), (18, Yz), (19, Ad2), (20, Ar5), (29, Amb), (32, Amf), (60, Arg)] [] false
noncomputable def A0l : List Item := [.code (Try.f40.body.getD .skip)]
noncomputable def Alo := ctl [.reg, .reg, .reg, .enter] A0l
noncomputable def Ar8 := ctl [.reg, .br false, .auto] Alo
noncomputable def Ahn := ctl [.reg, .enter] Ar8
noncomputable def Arv := ctl [.reg, .br false, .auto] Ahn
noncomputable def Ak7 := ctl [.reg, .reg, .reg, .enter] Arv
noncomputable def Ay4 := ctl [.reg, .br false, .auto] Ak7
abbrev Atu (C : Ctx) (F : Act -> World -> Prop) (y : ((List Aj) × (List Aj))) : Prop := Bz K8 C F Try.f40.results.toList [] [(.sl (.nm 4)), (.sl (.nm 4))] (y.1, y.2, ())
noncomputable def Ah0 (a0 : Ah) (r1 : List Aj) : ST := ⟨96, [(1, ol (.ptr 1 0)), (4, ol (.ar 15 0))], [(1, .cells [.int .i64 a0.Nodes, .sl (.nm 1) false a0.Arms]), (15, .arr 53 (.nm 4) r1 0 false)]⟩
noncomputable def Aht (a0 : Ah) (r2 : List Aj) : ST := ⟨96, [(1, ol (.ptr 1 0)), (4, ol (.ar 15 0))], [(1, .cells [.int .i64 a0.Nodes, .sl (.nm 1) false a0.Arms]), (15, .arr 53 (.nm 4) r2 0 false)]⟩
noncomputable def Al0 (r3 : List Aj) (y7 : List Aj) : ST := ⟨96, [(9, ol (.sl (.nm 4) false y7)), (10, ol (.ar 92 0))], [(92, .arr 53 (.nm 4) r3 0 false)]⟩
noncomputable def Afr (a0 : Ah) (v1 : Int) (v2 : Int) (v3 : List Aj) : ST := ⟨96, [(1, ol (.ptr 1 0)), (4, ol (.ar 15 0)), (17, oi v1), (18, oi v2)], [(1, .cells [.int .i64 a0.Nodes, .sl (.nm 1) false a0.Arms]), (15, .arr 53 (.nm 4) v3 0 false)]⟩
noncomputable def Afj (a0 : Ah) (v5 : Int) (v6 : List Aj) : ST := ⟨96, [(1, ol (.ptr 1 0)), (4, ol (.ar 15 0)), (27, ol (.sl (.nm 1) false a0.Arms)), (28, oi ((a0.Arms.length : Nat) : Int)), (29, oi v5)], [(1, .cells [.int .i64 a0.Nodes, .sl (.nm 1) false a0.Arms]), (15, .arr 53 (.nm 4) v6 0 false)]⟩
noncomputable def Ag6 (a0 : Ah) (y7 : List Aj) (v8 : Int) (v9 : List Aj) : ST := ⟨96, [(9, ol (.sl (.nm 4) false y7)), (10, ol (.ar 92 0)), (66, ol (.sl (.nm 1) false a0.Arms)), (67, oi ((a0.Arms.length : Nat) : Int)), (68, oi v8)], [(92, .arr 53 (.nm 4) v9 0 false)]⟩
noncomputable def A8e (a0 : Ah) : ST := ⟨96, [(0, og (Ce a0))], []⟩
theorem Aw8 (G : Ay K8 P) {y o r a0 v1 v2 v3} (E : Atu C F y) (h : Tb a0 v1 v2 v3 = some o)
   (hl : ∀ v', o = .inl v' -> Am K8 P C F Alo (Afr a0 v'.1 v'.2.1 v'.2.2)) (hr : ∀ r', o = .inr r' -> r' = r)
   (K1 : ∀ r1, r = r1 -> Am K8 P C F Ar8 (Ah0 a0 r1)) : Am K8 P C F Alo (Afr a0 v1 v2 v3) := by
 unfold Tb at h
 rcases Ad h with ⟨b1, h⟩ | ⟨b1, h⟩
 · obtain ⟨y1, c4, h⟩ := bind_some h
   obtain ⟨c5, h⟩ := Ao h
   exact sg G [r0, bt, r0, .reg [(2, .res ⟨[(.nm 4)], (y1, ())⟩)], r0, en, wk [1, 4, 17, 18] [1, 15]] (aa b1 <| aa (ca c4) <| aa c5 <| tt) (hl _ (si h))
 · exact sg G [r0, bf, au, wk [1, 4] [1, 15]] (aa b1 <| tt) (K1 _ (hr _ (si h)).symm)
theorem Awu (G : Ay K8 P) {y o r a0 v5 v6} (E : Atu C F y) (h : Md a0 v5 v6 = some o)
   (hl : ∀ v', o = .inl v' -> Am K8 P C F Ahn (Afj a0 v'.1 v'.2)) (hr : ∀ r', o = .inr r' -> r' = r)
   (K1 : ∀ r2, r = r2 -> Am K8 P C F Arv (Aht a0 r2)) : Am K8 P C F Ahn (Afj a0 v5 v6) := by
 unfold Md at h
 rcases Ad h with ⟨b2, h⟩ | ⟨b2, h⟩
 · obtain ⟨c6, h⟩ := Ao h
   obtain ⟨y2, c7, h⟩ := bind_some h
   obtain ⟨y3, c8, h⟩ := bind_some h
   obtain ⟨y4, c9, h⟩ := bind_some h
   obtain ⟨c10, h⟩ := Ao h
   obtain ⟨y5, c11, h⟩ := bind_some h
   obtain ⟨c12, h⟩ := Ao h
   obtain ⟨c13, h⟩ := Ao h
   obtain ⟨y6, c14, h⟩ := bind_some h
   obtain ⟨c15, h⟩ := Ao h
   exact sg G [r0, bt, r0, .reg [(1, .res ⟨[(.nm 4)], (y2, ())⟩), (4, .res ⟨[(.nm 4)], (y3, ())⟩), (5, .res ⟨[(.nm 4)], (y4, ())⟩)], .reg [(9, .res ⟨[(.nm 4)], (y5, ())⟩)], .reg [(9, .res ⟨[(.nm 4)], (y6, ())⟩)], r0, en, wk [1, 4, 27, 28, 29] [1, 15]] (aa b2 <| aa c6 <| aa (ca c7) <| aa (ca c8) <| aa (ca c9) <| aa c10 <| aa (ca c11) <| aa c12 <| aa c13 <| aa (ca c14) <| aa c15 <| tt) (hl _ (si h))
 · exact sg G [r0, bf, au, wk [1, 4] [1, 15]] (aa b2 <| tt) (K1 _ (hr _ (si h)).symm)
theorem Avu (G : Ay K8 P) {y o r a0 y7 v8 v9} (E : Atu C F y) (h : Ps a0 y7 v8 v9 = some o)
   (hl : ∀ v', o = .inl v' -> Am K8 P C F Ak7 (Ag6 a0 y7 v'.1 v'.2)) (hr : ∀ r', o = .inr r' -> r' = r)
   (K1 : ∀ r3, r = r3 -> Am K8 P C F Ay4 (Al0 r3 y7)) : Am K8 P C F Ak7 (Ag6 a0 y7 v8 v9) := by
 unfold Ps at h
 rcases Ad h with ⟨b3, h⟩ | ⟨b3, h⟩
 · obtain ⟨c17, h⟩ := Ao h
   obtain ⟨c18, c19, h⟩ := ns2 h
   obtain ⟨y8, c20, h⟩ := bind_some h
   obtain ⟨y9, c21, h⟩ := bind_some h
   obtain ⟨y10, c22, h⟩ := bind_some h
   obtain ⟨y11, c23, h⟩ := bind_some h
   obtain ⟨y12, c24, h⟩ := bind_some h
   obtain ⟨c25, h⟩ := Ao h
   exact sg G [r0, bt, r0, .reg [(11, .res ⟨[(.nm 4)], (y8, ())⟩), (14, .res ⟨[(.nm 4)], (y9, ())⟩), (15, .res ⟨[(.nm 4)], (y10, ())⟩), (17, .res ⟨[(.nm 4)], (y11, ())⟩), (18, .res ⟨[(.nm 4)], (y12, ())⟩)], r0, en, .weak [.re 92 92 0, .keep [9, 10, 66, 67, 68] [92]]] (aa b3 <| aa c17 <| aa c18 <| aa c19 <| aa (ca c20) <| aa (ca c21) <| aa (ca c22) <| aa (ca c23) <| aa (ca c24) <| aa c25 <| tt) (hl _ (si h))
 · exact sg G [r0, bf, au, wk [9, 10] [92]] (aa b3 <| tt) (K1 _ (hr _ (si h)).symm)
theorem A4k (G : Ay K8 P) {y a0} (E : Atu C F y) (h : Pg a0 = some y) : Am K8 P C F A0l (A8e a0) := by
 unfold Pg at h
 obtain ⟨c1, c2, c3, h⟩ := ns3 h
 obtain ⟨r1, hi, h⟩ := bind_some h
 have K1 : ∀ q, r1 = q -> Am K8 P C F Ar8 (Ah0 a0 q) := by
   rintro q rfl
   obtain ⟨r2, hi, h⟩ := bind_some h
   have K1 : ∀ q, r2 = q -> Am K8 P C F Arv (Aht a0 q) := by
     rintro q rfl
     obtain ⟨y7, c16, h⟩ := bind_some h
     obtain ⟨r3, hi, h⟩ := bind_some h
     have K1 : ∀ q, r3 = q -> Am K8 P C F Ay4 (Al0 q y7) := by
       rintro q rfl
       have e := sj h; subst e
       exact se G E [r0, au, .weak [.fix (.slot 3)]] tt
     exact sg G [.reg [(2, .res ⟨[(.sl (.nm 4))], (y7, ())⟩)], r0, r0, en, .weak [.own (.slot 10) 0 92 53 0, .keep [9, 10, 66, 67, 68] [92]]] (aa (ca c16) <| tt) (Az (V := K8) (F := F) (k := Ak7) (S := λ v => Ag6 a0 y7 v.1 v.2) (λ v o h hl hr => Avu G E h hl hr K1) _ hi)
   exact sg G [r0, en, wk [1, 4, 27, 28, 29] [1, 15]] tt (Az (V := K8) (F := F) (k := Ahn) (S := λ v => Afj a0 v.1 v.2) (λ v o h hl hr => Awu G E h hl hr K1) _ hi)
 exact sg G [r0, r0, r0, en, wk [1, 4, 17, 18] [1, 15]] (aa c1 <| aa c2 <| aa c3 <| tt) (Az (V := K8) (F := F) (k := Alo) (S := λ v => Afr a0 v.1 v.2.1 v.2.2) (λ v o h hl hr => Aw8 G E h hl hr K1) _ hi)
noncomputable def Ay5 : FS yaE := ⟨[(.nm 2)], [(.sl (.nm 4)), (.sl (.nm 4))], [], [], λ x => Option.map (λ r => (r.1, r.2, ())) (Pg x.1)⟩
theorem Aql : MT 40 Ay5 := show Bh K8 _ _ _ from mt (fn := Try.f40) (S := λ x => A8e x.1) (GB ⟨G8, Oh, Rr, Adi, W0, W8, Aci, trivial⟩ trivial) λ G _ _ _ _ E h => A4k G E h
noncomputable abbrev Xo : Env := EV [(51, Arx)] [] false
noncomputable def A0v : List Item := [.code (Try.f41.body.getD .skip)]
noncomputable def Aid := ctl [.reg, .reg, .reg, .enter] A0v
noncomputable def Axj := ctl [.reg, .br false, .auto] Aid
abbrev A6t (C : Ctx) (F : Act -> World -> Prop) (y : ((List A7) × Bool)) : Prop := Bz Xo C F Try.f41.results.toList [] [(.sl (.nm 0)), .bool] (y.1, y.2, ())
noncomputable def Akg (r1 : List A7) : ST := ⟨32, [(4, ol (.ar 11 0))], [(11, .arr 26 (.nm 0) r1 0 false)]⟩
noncomputable def Afz (a0 : List Aj) (v1 : Int) (v2 : List A7) : ST := ⟨32, [(4, ol (.ar 11 0)), (12, ol (.sl (.nm 4) false a0)), (13, oi ((a0.length : Nat) : Int)), (14, oi v1)], [(11, .arr 26 (.nm 0) v2 0 false)]⟩
noncomputable def Bav (a0 : List Aj) : ST := ⟨32, [(0, ol (.sl (.nm 4) false a0))], []⟩
theorem Aw3 (G : Ay Xo P) {y o r a0 v1 v2} (E : A6t C F y) (h : Pk a0 v1 v2 = some o)
   (hl : ∀ v', o = .inl v' -> Am Xo P C F Aid (Afz a0 v'.1 v'.2)) (hr : ∀ r', o = .inr r' -> r' = r)
   (K1 : ∀ r1, r = (.inl r1) -> Am Xo P C F Axj (Akg r1))
   (KR : ∀ r', r = (.inr r') -> r' = y) : Am Xo P C F Aid (Afz a0 v1 v2) := by
 unfold Pk at h
 rcases Ad h with ⟨b1, h⟩ | ⟨b1, h⟩
 · obtain ⟨c4, h⟩ := Ao h
   obtain ⟨y1, c5, h⟩ := bind_some h
   rcases Ad h with ⟨b2, h⟩ | ⟨b2, h⟩
   · have e := KR _ (hr _ (si h)).symm; subst e
     exact se G E [r0, bt, r0, .reg [(1, .res ⟨[(.nm 0), .bool], (y1.1, y1.2, ())⟩)], r0, bt, r0, au] (aa b1 <| aa c4 <| aa (cb c5) <| aa b2 <| tt)
   · obtain ⟨c6, h⟩ := Ao h
     exact sg G [r0, bt, r0, .reg [(1, .res ⟨[(.nm 0), .bool], (y1.1, y1.2, ())⟩)], r0, bf, r0, r0, en, wk [4, 12, 13, 14] [11]] (aa b1 <| aa c4 <| aa (cb c5) <| aa b2 <| aa c6 <| tt) (hl _ (si h))
 · exact sg G [r0, bf, au, wk [4] [11]] (aa b1 <| tt) (K1 _ (hr _ (si h)).symm)
theorem A97 (G : Ay Xo P) {y a0} (E : A6t C F y) (h : Nb a0 = some y) : Am Xo P C F A0v (Bav a0) := by
 unfold Nb at h
 obtain ⟨c1, c2, c3, h⟩ := ns3 h
 obtain ⟨r, hi, h⟩ := bind_some h
 have K1 : ∀ r1, r = (.inl r1) -> Am Xo P C F Axj (Akg r1) := by
   rintro r1 rfl
   have e := sj h; subst e
   exact se G E [r0, au, .weak [.fix (.slot 2)]] tt
 have KR : ∀ r2, r = (.inr r2) -> r2 = y := by
   rintro r2 rfl
   exact Option.some.inj h
 exact sg G [r0, r0, r0, en, wk [4, 12, 13, 14] [11]] (aa c1 <| aa c2 <| aa c3 <| tt) (Az (V := Xo) (F := F) (k := Aid) (S := λ v => Afz a0 v.1 v.2) (λ v o h hl hr => Aw3 G E h hl hr K1 KR) _ hi)
noncomputable def Ay9 : FS yaE := ⟨[(.sl (.nm 4))], [(.sl (.nm 0)), .bool], [], [], λ x => Option.map (λ r => (r.1, r.2, ())) (Nb x.1)⟩
theorem Asc : MT 41 Ay9 := show Bh Xo _ _ _ from mt (fn := Try.f41) (S := λ x => Bav x.1) (GB ⟨Ae0, trivial⟩ trivial) λ G _ _ _ _ E h => A97 G E h
noncomputable abbrev Anb : Env := EV [(15, Aeg), (40, Ay5), (41, Ay9)] [] false
noncomputable def A0b : List Item := [.code (Try.f13.body.getD .skip)]
noncomputable def A61 := ctl [.reg, .reg, .reg, .br false, .reg, .reg, .reg, .reg, .br true, .auto] A0b
abbrev A59 (C : Ctx) (F : Act -> World -> Prop) (y : ((List A7) × (List A7) × Int)) : Prop := Bz Anb C F Try.f13.results.toList [] [(.sl (.nm 0)), (.sl (.nm 0)), (.int .i64)] (y.1, y.2.1, y.2.2, ())
noncomputable def A21 : ST := ⟨40, [], []⟩
noncomputable def A9b (a0 : Ah) : ST := ⟨40, [(0, og (Ce a0))], []⟩
theorem Ahi (G : Ay Anb P) {y} (E : A59 C F y) (h : F3 = some y) : Am Anb P C F A61 A21 := by
 unfold F3 at h
 have e := sj h; subst e
 exact se G E [r0, au] tt
theorem Ba2 (G : Ay Anb P) {y a0} (E : A59 C F y) (h : Ge a0 = some y) : Am Anb P C F A0b (A9b a0) := by
 unfold Ge at h
 obtain ⟨y1, c1, h⟩ := bind_some h
 rcases Ad h with ⟨b1, h⟩ | ⟨b1, h⟩
 · have e := sj h; subst e
   exact se G E [r0, .reg [(1, .res ⟨[(.int .i64)], (y1, ())⟩)], r0, bt, r0, au] (aa (ca c1) <| aa b1 <| tt)
 · obtain ⟨y2, c2, h⟩ := bind_some h
   obtain ⟨y3, c3, h⟩ := bind_some h
   obtain ⟨y4, c4, h⟩ := bind_some h
   rcases Ad h with ⟨b2, h⟩ | ⟨b2, h⟩
   · exact sg G [r0, .reg [(1, .res ⟨[(.int .i64)], (y1, ())⟩)], r0, bf, .reg [(1, .res ⟨[(.sl (.nm 4)), (.sl (.nm 4))], (y2.1, y2.2, ())⟩)], .reg [(1, .res ⟨[(.sl (.nm 0)), .bool], (y3.1, y3.2, ())⟩)], .reg [(1, .res ⟨[(.sl (.nm 0)), .bool], (y4.1, y4.2, ())⟩)], .reg [(2, oT), (5, oT)], bt, au, wk [] []] (aa (ca c1) <| aa b1 <| aa (cb c2) <| aa (cb c3) <| aa (cb c4) <| aa b2 <| aa b2 <| aa b2 <| aa (show true = true from rfl) <| tt) (Ahi G E h)
   · rcases Ad h with ⟨b3, h⟩ | ⟨b3, h⟩
     · exact sg G [r0, .reg [(1, .res ⟨[(.int .i64)], (y1, ())⟩)], r0, bf, .reg [(1, .res ⟨[(.sl (.nm 4)), (.sl (.nm 4))], (y2.1, y2.2, ())⟩)], .reg [(1, .res ⟨[(.sl (.nm 0)), .bool], (y3.1, y3.2, ())⟩)], .reg [(1, .res ⟨[(.sl (.nm 0)), .bool], (y4.1, y4.2, ())⟩)], .reg [(2, oF), (5, oF)], bt, au, wk [] []] (aa (ca c1) <| aa b1 <| aa (cb c2) <| aa (cb c3) <| aa (cb c4) <| aa b2 <| aa b2 <| aa b2 <| aa b3 <| tt) (Ahi G E h)
     · have e := sj h; subst e
       exact se G E [r0, .reg [(1, .res ⟨[(.int .i64)], (y1, ())⟩)], r0, bf, .reg [(1, .res ⟨[(.sl (.nm 4)), (.sl (.nm 4))], (y2.1, y2.2, ())⟩)], .reg [(1, .res ⟨[(.sl (.nm 0)), .bool], (y3.1, y3.2, ())⟩)], .reg [(1, .res ⟨[(.sl (.nm 0)), .bool], (y4.1, y4.2, ())⟩)], .reg [(2, oF), (5, oF)], bf, r0, au] (aa (ca c1) <| aa b1 <| aa (cb c2) <| aa (cb c3) <| aa (cb c4) <| aa b2 <| aa b2 <| aa b2 <| aa b3 <| tt)
noncomputable def Ay6 : FS yaE := ⟨[(.nm 2)], [(.sl (.nm 0)), (.sl (.nm 0)), (.int .i64)], [], [], λ x => Option.map (λ r => (r.1, r.2.1, r.2.2, ())) (Ge x.1)⟩
theorem Ao3 : MT 13 Ay6 := show Bh Anb _ _ _ from mt (fn := Try.f13) (S := λ x => A9b x.1) (GB ⟨Ry, Aql, Asc, trivial⟩ trivial) λ G _ _ _ _ E h => Ba2 G E h
noncomputable abbrev Xs : Env := EV [] [] false
noncomputable def Ay2 : List Item := [.code (Try.f14.body.getD .skip)]
noncomputable def Ah3 := ctl [.reg, .reg, .enter] Ay2
noncomputable def A0y := ctl [.reg, .br false, .auto] Ah3
abbrev A7c (C : Ctx) (F : Act -> World -> Prop) (y : Bool) : Prop := Bz Xs C F Try.f14.results.toList [] [.bool] (y, ())
noncomputable def Aj4 (a0 : List A7) (a1 : List A7) : ST := ⟨32, [(0, ol (.sl (.nm 0) false a0)), (1, ol (.sl (.nm 0) false a1))], []⟩
noncomputable def Agn (a0 : List A7) (a1 : List A7) (v1 : Int) : ST := ⟨32, [(0, ol (.sl (.nm 0) false a0)), (1, ol (.sl (.nm 0) false a1)), (5, oi v1)], []⟩
noncomputable def A7i (a0 : List A7) (a1 : List A7) : ST := ⟨32, [(0, ol (.sl (.nm 0) false a0)), (1, ol (.sl (.nm 0) false a1))], []⟩
theorem Aur (G : Ay Xs P) {y o r a0 a1 v1} (E : A7c C F y) (h : Fg a0 a1 v1 = some o)
   (hl : ∀ v', o = .inl v' -> Am Xs P C F Ah3 (Agn a0 a1 v')) (hr : ∀ r', o = .inr r' -> r' = r)
   (K1 : ∀ r1, r = (.inl r1) -> Am Xs P C F A0y (Aj4 a0 a1))
   (KR : ∀ r', r = (.inr r') -> r' = y) : Am Xs P C F Ah3 (Agn a0 a1 v1) := by
 unfold Fg at h
 rcases Ad h with ⟨b1, h⟩ | ⟨b1, h⟩
 · rcases Ad h with ⟨b2, h⟩ | ⟨b2, h⟩
   · obtain ⟨c1, c2, h⟩ := ns2 h
     rcases Ad h with ⟨b3, h⟩ | ⟨b3, h⟩
     · have e := KR _ (hr _ (si h)).symm; subst e
       exact se G E [.reg [(4, oT), (9, oT)], bt, r0, bt, r0, au] (aa b1 <| aa b1 <| aa b1 <| aa b1 <| aa b1 <| aa b2 <| aa c1 <| aa c2 <| aa b3 <| tt)
     · exact sg G [.reg [(4, oT), (9, oT)], bt, r0, bf, r0, en, wk [0, 1, 5] []] (aa b1 <| aa b1 <| aa b1 <| aa b1 <| aa b1 <| aa b2 <| aa c1 <| aa c2 <| aa b3 <| tt) (hl _ (si h))
   · exact sg G [.reg [(4, oT), (9, oT)], bf, au, wk [0, 1] []] (aa b1 <| aa b1 <| aa b1 <| aa b1 <| aa b1 <| aa b2 <| tt) (K1 _ (hr _ (si h)).symm)
 · exact sg G [.reg [(4, oF), (9, oF)], bf, au, wk [0, 1] []] (aa b1 <| aa b1 <| aa b1 <| aa b1 <| aa b1 <| aa (show false = false from rfl) <| tt) (K1 _ (hr _ (si h)).symm)
theorem A7p (G : Ay Xs P) {y a0 a1} (E : A7c C F y) (h : Ed a0 a1 = some y) : Am Xs P C F Ay2 (A7i a0 a1) := by
 unfold Ed at h
 obtain ⟨r, hi, h⟩ := bind_some h
 have K1 : ∀ r1, r = (.inl r1) -> Am Xs P C F A0y (Aj4 a0 a1) := by
   rintro r1 rfl
   have e := sj h; subst e
   exact se G E [r0, au] tt
 have KR : ∀ r2, r = (.inr r2) -> r2 = y := by
   rintro r2 rfl
   exact Option.some.inj h
 exact sg G [r0, r0, en, wk [0, 1, 5] []] tt (Az (V := Xs) (F := F) (k := Ah3) (S := λ v => Agn a0 a1 v) (λ v o h hl hr => Aur G E h hl hr K1 KR) _ hi)
noncomputable def Ay7 : FS yaE := ⟨[(.sl (.nm 0)), (.sl (.nm 0))], [.bool], [], [], λ x => Option.map (λ r => (r, ())) (Ed x.1 x.2.1)⟩
theorem Ap0 : MT 14 Ay7 := show Bh Xs _ _ _ from mt (fn := Try.f14) (S := λ x => A7i x.1 x.2.1) (GB trivial trivial) λ G _ _ _ _ E h => A7p G E h
noncomputable abbrev w5V : Env := EV [(6, A3p), (7, A8f), (12, A0z), (13, Ay6), (14, Ay7)] [] false
noncomputable def Bdz : List Item := [.code (Try.f5.body.getD .skip)]
abbrev w5E (C : Ctx) (F : Act -> World -> Prop) (y : Bool) : Prop := Bz w5V C F Try.f5.results.toList [] [.bool] (y, ())
noncomputable def w5S : ST := ⟨75, [], []⟩
theorem Bdr (G : Ay w5V P) {y} (E : w5E C F y) (h : Cq = some y) : Am w5V P C F Bdz w5S := by
 unfold Cq at h
 obtain ⟨y1, c1, h⟩ := bind_some h
 obtain ⟨y2, c2, h⟩ := bind_some h
 obtain ⟨y3, c3, h⟩ := bind_some h
 obtain ⟨y4, c4, h⟩ := bind_some h
 obtain ⟨y5, c5, h⟩ := bind_some h
 obtain ⟨y6, c6, h⟩ := bind_some h
 obtain ⟨y7, c7, h⟩ := bind_some h
 obtain ⟨y8, c8, h⟩ := bind_some h
 obtain ⟨y9, c9, h⟩ := bind_some h
 obtain ⟨y10, c10, h⟩ := bind_some h
 obtain ⟨y11, c11, h⟩ := bind_some h
 obtain ⟨y12, c12, h⟩ := bind_some h
 obtain ⟨y13, c13, h⟩ := bind_some h
 rcases Ad h with ⟨b1, h⟩ | ⟨b1, h⟩
 · rcases Ad h with ⟨b2, h⟩ | ⟨b2, h⟩
   · obtain ⟨y14, c14, h⟩ := bind_some h
     rcases Ad h with ⟨b3, h⟩ | ⟨b3, h⟩
     · rcases Ad h with ⟨b4, h⟩ | ⟨b4, h⟩
       · rcases Ad h with ⟨b5, h⟩ | ⟨b5, h⟩
         · have e := sj h; subst e
           exact se G E [r0, r0, .reg [(1, .res ⟨[(.nm 0)], (y1, ())⟩), (3, .res ⟨[(.nm 0)], (y2, ())⟩), (6, .res ⟨[(.nm 0)], (y3, ())⟩), (8, .res ⟨[(.nm 0)], (y4, ())⟩), (11, .res ⟨[(.nm 0)], (y5, ())⟩), (13, .res ⟨[(.nm 0)], (y6, ())⟩)], .reg [(1, .res ⟨[(.sl (.nm 0)), (.sl (.nm 0)), (.int .i64)], (y7.1, y7.2.1, y7.2.2, ())⟩)], .reg [(1, .res ⟨[(.nm 0), (.int .i64)], (y8.1, y8.2, ())⟩)], .reg [(1, .res ⟨[(.nm 0), (.int .i64)], (y9.1, y9.2, ())⟩)], .reg [(2, .res ⟨[(.nm 0)], (y10, ())⟩), (4, .res ⟨[(.nm 0)], (y11, ())⟩), (6, .res ⟨[(.nm 0)], (y12, ())⟩), (8, .res ⟨[.bool], (y13, ())⟩), (9, oT), (12, oT), (13, oT), (16, .res ⟨[(.nm 0)], (y14, ())⟩), (18, oT), (19, oT), (22, oT), (23, oT), (27, oT), (28, oT), (31, oT)], au] (aa (ca c1) <| aa (ca c2) <| aa (ca c3) <| aa (ca c4) <| aa (ca c5) <| aa (ca c6) <| aa (congrArg (Option.map (λ r => (r.1, r.2.1, r.2.2, ()))) c7) <| aa (cb c8) <| aa (cb c9) <| aa (ca c10) <| aa (ca c11) <| aa (ca c12) <| aa (ca c13) <| aa b1 <| aa b1 <| aa b1 <| aa b2 <| aa b2 <| aa b2 <| aa (ca c14) <| aa b2 <| aa b2 <| aa b3 <| aa b3 <| aa b3 <| aa b4 <| aa b4 <| aa b4 <| aa b4 <| aa b5 <| aa b5 <| aa b5 <| tt)
         · have e := sj h; subst e
           exact se G E [r0, r0, .reg [(1, .res ⟨[(.nm 0)], (y1, ())⟩), (3, .res ⟨[(.nm 0)], (y2, ())⟩), (6, .res ⟨[(.nm 0)], (y3, ())⟩), (8, .res ⟨[(.nm 0)], (y4, ())⟩), (11, .res ⟨[(.nm 0)], (y5, ())⟩), (13, .res ⟨[(.nm 0)], (y6, ())⟩)], .reg [(1, .res ⟨[(.sl (.nm 0)), (.sl (.nm 0)), (.int .i64)], (y7.1, y7.2.1, y7.2.2, ())⟩)], .reg [(1, .res ⟨[(.nm 0), (.int .i64)], (y8.1, y8.2, ())⟩)], .reg [(1, .res ⟨[(.nm 0), (.int .i64)], (y9.1, y9.2, ())⟩)], .reg [(2, .res ⟨[(.nm 0)], (y10, ())⟩), (4, .res ⟨[(.nm 0)], (y11, ())⟩), (6, .res ⟨[(.nm 0)], (y12, ())⟩), (8, .res ⟨[.bool], (y13, ())⟩), (9, oT), (12, oT), (13, oT), (16, .res ⟨[(.nm 0)], (y14, ())⟩), (18, oT), (19, oT), (22, oT), (23, oT), (27, oT), (28, oF), (31, oF)], au] (aa (ca c1) <| aa (ca c2) <| aa (ca c3) <| aa (ca c4) <| aa (ca c5) <| aa (ca c6) <| aa (congrArg (Option.map (λ r => (r.1, r.2.1, r.2.2, ()))) c7) <| aa (cb c8) <| aa (cb c9) <| aa (ca c10) <| aa (ca c11) <| aa (ca c12) <| aa (ca c13) <| aa b1 <| aa b1 <| aa b1 <| aa b2 <| aa b2 <| aa b2 <| aa (ca c14) <| aa b2 <| aa b2 <| aa b3 <| aa b3 <| aa b3 <| aa b4 <| aa b4 <| aa b4 <| aa b4 <| aa b5 <| aa b5 <| aa b5 <| tt)
       · have e := sj h; subst e
         exact se G E [r0, r0, .reg [(1, .res ⟨[(.nm 0)], (y1, ())⟩), (3, .res ⟨[(.nm 0)], (y2, ())⟩), (6, .res ⟨[(.nm 0)], (y3, ())⟩), (8, .res ⟨[(.nm 0)], (y4, ())⟩), (11, .res ⟨[(.nm 0)], (y5, ())⟩), (13, .res ⟨[(.nm 0)], (y6, ())⟩)], .reg [(1, .res ⟨[(.sl (.nm 0)), (.sl (.nm 0)), (.int .i64)], (y7.1, y7.2.1, y7.2.2, ())⟩)], .reg [(1, .res ⟨[(.nm 0), (.int .i64)], (y8.1, y8.2, ())⟩)], .reg [(1, .res ⟨[(.nm 0), (.int .i64)], (y9.1, y9.2, ())⟩)], .reg [(2, .res ⟨[(.nm 0)], (y10, ())⟩), (4, .res ⟨[(.nm 0)], (y11, ())⟩), (6, .res ⟨[(.nm 0)], (y12, ())⟩), (8, .res ⟨[.bool], (y13, ())⟩), (9, oT), (12, oT), (13, oT), (16, .res ⟨[(.nm 0)], (y14, ())⟩), (18, oT), (19, oT), (22, oT), (23, oF), (27, oF), (28, oF), (31, oF)], au] (aa (ca c1) <| aa (ca c2) <| aa (ca c3) <| aa (ca c4) <| aa (ca c5) <| aa (ca c6) <| aa (congrArg (Option.map (λ r => (r.1, r.2.1, r.2.2, ()))) c7) <| aa (cb c8) <| aa (cb c9) <| aa (ca c10) <| aa (ca c11) <| aa (ca c12) <| aa (ca c13) <| aa b1 <| aa b1 <| aa b1 <| aa b2 <| aa b2 <| aa b2 <| aa (ca c14) <| aa b2 <| aa b2 <| aa b3 <| aa b3 <| aa b3 <| aa b4 <| aa b4 <| aa b4 <| aa b4 <| aa (show false = false from rfl) <| aa (show false = false from rfl) <| aa (show false = false from rfl) <| tt)
     · have e := sj h; subst e
       exact se G E [r0, r0, .reg [(1, .res ⟨[(.nm 0)], (y1, ())⟩), (3, .res ⟨[(.nm 0)], (y2, ())⟩), (6, .res ⟨[(.nm 0)], (y3, ())⟩), (8, .res ⟨[(.nm 0)], (y4, ())⟩), (11, .res ⟨[(.nm 0)], (y5, ())⟩), (13, .res ⟨[(.nm 0)], (y6, ())⟩)], .reg [(1, .res ⟨[(.sl (.nm 0)), (.sl (.nm 0)), (.int .i64)], (y7.1, y7.2.1, y7.2.2, ())⟩)], .reg [(1, .res ⟨[(.nm 0), (.int .i64)], (y8.1, y8.2, ())⟩)], .reg [(1, .res ⟨[(.nm 0), (.int .i64)], (y9.1, y9.2, ())⟩)], .reg [(2, .res ⟨[(.nm 0)], (y10, ())⟩), (4, .res ⟨[(.nm 0)], (y11, ())⟩), (6, .res ⟨[(.nm 0)], (y12, ())⟩), (8, .res ⟨[.bool], (y13, ())⟩), (9, oT), (12, oT), (13, oT), (16, .res ⟨[(.nm 0)], (y14, ())⟩), (18, oT), (19, oF), (22, oF), (23, oF), (27, oF), (28, oF), (31, oF)], au] (aa (ca c1) <| aa (ca c2) <| aa (ca c3) <| aa (ca c4) <| aa (ca c5) <| aa (ca c6) <| aa (congrArg (Option.map (λ r => (r.1, r.2.1, r.2.2, ()))) c7) <| aa (cb c8) <| aa (cb c9) <| aa (ca c10) <| aa (ca c11) <| aa (ca c12) <| aa (ca c13) <| aa b1 <| aa b1 <| aa b1 <| aa b2 <| aa b2 <| aa b2 <| aa (ca c14) <| aa b2 <| aa b2 <| aa b3 <| aa b3 <| aa b3 <| aa (show false = false from rfl) <| aa (show false = false from rfl) <| aa (show false = false from rfl) <| aa (show false = false from rfl) <| aa (show false = false from rfl) <| aa (show false = false from rfl) <| aa (show false = false from rfl) <| tt)
   · have e := sj h; subst e
     exact se G E [r0, r0, .reg [(1, .res ⟨[(.nm 0)], (y1, ())⟩), (3, .res ⟨[(.nm 0)], (y2, ())⟩), (6, .res ⟨[(.nm 0)], (y3, ())⟩), (8, .res ⟨[(.nm 0)], (y4, ())⟩), (11, .res ⟨[(.nm 0)], (y5, ())⟩), (13, .res ⟨[(.nm 0)], (y6, ())⟩)], .reg [(1, .res ⟨[(.sl (.nm 0)), (.sl (.nm 0)), (.int .i64)], (y7.1, y7.2.1, y7.2.2, ())⟩)], .reg [(1, .res ⟨[(.nm 0), (.int .i64)], (y8.1, y8.2, ())⟩)], .reg [(1, .res ⟨[(.nm 0), (.int .i64)], (y9.1, y9.2, ())⟩)], .reg [(2, .res ⟨[(.nm 0)], (y10, ())⟩), (4, .res ⟨[(.nm 0)], (y11, ())⟩), (6, .res ⟨[(.nm 0)], (y12, ())⟩), (8, .res ⟨[.bool], (y13, ())⟩), (9, oT), (12, oT), (13, oF), (18, oF), (19, oF), (22, oF), (23, oF), (27, oF), (28, oF), (31, oF)], au] (aa (ca c1) <| aa (ca c2) <| aa (ca c3) <| aa (ca c4) <| aa (ca c5) <| aa (ca c6) <| aa (congrArg (Option.map (λ r => (r.1, r.2.1, r.2.2, ()))) c7) <| aa (cb c8) <| aa (cb c9) <| aa (ca c10) <| aa (ca c11) <| aa (ca c12) <| aa (ca c13) <| aa b1 <| aa b1 <| aa b1 <| aa b2 <| aa b2 <| aa b2 <| aa b2 <| aa b2 <| aa (show false = false from rfl) <| aa (show false = false from rfl) <| aa (show false = false from rfl) <| aa (show false = false from rfl) <| aa (show false = false from rfl) <| aa (show false = false from rfl) <| aa (show false = false from rfl) <| aa (show false = false from rfl) <| aa (show false = false from rfl) <| aa (show false = false from rfl) <| tt)
 · have e := sj h; subst e
   exact se G E [r0, r0, .reg [(1, .res ⟨[(.nm 0)], (y1, ())⟩), (3, .res ⟨[(.nm 0)], (y2, ())⟩), (6, .res ⟨[(.nm 0)], (y3, ())⟩), (8, .res ⟨[(.nm 0)], (y4, ())⟩), (11, .res ⟨[(.nm 0)], (y5, ())⟩), (13, .res ⟨[(.nm 0)], (y6, ())⟩)], .reg [(1, .res ⟨[(.sl (.nm 0)), (.sl (.nm 0)), (.int .i64)], (y7.1, y7.2.1, y7.2.2, ())⟩)], .reg [(1, .res ⟨[(.nm 0), (.int .i64)], (y8.1, y8.2, ())⟩)], .reg [(1, .res ⟨[(.nm 0), (.int .i64)], (y9.1, y9.2, ())⟩)], .reg [(2, .res ⟨[(.nm 0)], (y10, ())⟩), (4, .res ⟨[(.nm 0)], (y11, ())⟩), (6, .res ⟨[(.nm 0)], (y12, ())⟩), (8, .res ⟨[.bool], (y13, ())⟩), (9, oF), (12, oF), (13, oF), (18, oF), (19, oF), (22, oF), (23, oF), (27, oF), (28, oF), (31, oF)], au] (aa (ca c1) <| aa (ca c2) <| aa (ca c3) <| aa (ca c4) <| aa (ca c5) <| aa (ca c6) <| aa (congrArg (Option.map (λ r => (r.1, r.2.1, r.2.2, ()))) c7) <| aa (cb c8) <| aa (cb c9) <| aa (ca c10) <| aa (ca c11) <| aa (ca c12) <| aa (ca c13) <| aa b1 <| aa b1 <| aa b1 <| aa (show false = false from rfl) <| aa (show false = false from rfl) <| aa (show false = false from rfl) <| aa (show false = false from rfl) <| aa (show false = false from rfl) <| aa (show false = false from rfl) <| aa (show false = false from rfl) <| aa (show false = false from rfl) <| aa (show false = false from rfl) <| aa (show false = false from rfl) <| aa (show false = false from rfl) <| aa (show false = false from rfl) <| aa (show false = false from rfl) <| aa (show false = false from rfl) <| aa (show false = false from rfl) <| tt)
noncomputable def A4v : FS yaE := ⟨[], [.bool], [], [], λ x => Option.map (λ r => (r, ())) Cq⟩
theorem At2 : MT 5 A4v := show Bh w5V _ _ _ from mt (fn := Try.f5) (S := λ _ => w5S) (GB ⟨Aly, Avp, Aos, Ao3, Ap0, trivial⟩ trivial) λ G _ _ _ _ E h => Bdr G E h
noncomputable abbrev Aws : Env := EV [] [] false
noncomputable def A52 : List Item := [.code (Try.f28.body.getD .skip)]
abbrev Bdg (C : Ctx) (F : Act -> World -> Prop) (y : Int) : Prop := Bz Aws C F Try.f28.results.toList [] [(.int .i64)] (y, ())
noncomputable def A7v (z0 : Int) (a0 : Int) : ST := ⟨10, [(0, oi a0), (1, ol (.cp (.int .i64) z0 0))], []⟩
theorem A6z (G : Ay Aws P) {y z0 a0} (E : Bdg C F y) (h : Gz z0 a0 = some y) : Am Aws P C F A52 (A7v z0 a0) := by
 unfold Gz at h
 rcases Ad h with ⟨b1, h⟩ | ⟨b1, h⟩
 · have e := sj h; subst e
   exact se G E [r0, r0, bt, r0, au] (aa b1 <| tt)
 · have e := sj h; subst e
   exact se G E [r0, r0, bf, r0, au] (aa b1 <| tt)
noncomputable def Axi : FC yaE := ⟨(.int .i64), [(.int .i64)], [(.int .i64)], λ c x => Option.map (λ r => (r, ())) (Gz c x.1)⟩
theorem Asp : MCT 28 Axi := show S4 Aws _ _ _ from mc (fn := Try.f28) (S := λ c x => A7v c x.1) (GB trivial trivial) λ G _ _ _ _ _ E h => A6z G E h
end
end Go.Ab
