/- The functions compute what the plain functions tell. Conditions: none beyond those that each theorem names. -/
import Derived.Test.YtjdgmcngpiookaaS12
namespace Go.Ab
open Go Go.Proofs
set_option linter.unusedVariables false
section
variable {P : Program} {C : Ctx} {F : Act -> World -> Prop}
noncomputable abbrev T4 : Env := EV [] [] false
noncomputable def Ar3 : List Item := [.code (Try.f42.body.getD .skip)]
noncomputable def A76 := ctl [.reg, .reg, .br true, .auto] Ar3
noncomputable def Ahp := ctl [.reg, .reg, .br false, .reg, .enter] Ar3
noncomputable def Az7 := ctl [.reg, .br false, .auto] Ahp
abbrev A1s (C : Ctx) (F : Act -> World -> Prop) (y : Bool) : Prop := Bz T4 C F Try.f42.results.toList [] [.bool] (y, ())
noncomputable def Akd (r1 : Int) : ST := ⟨39, [(3, oi r1)], []⟩
noncomputable def A2a : ST := ⟨39, [], []⟩
noncomputable def Af3 (v1 : Int) (v2 : Int) : ST := ⟨39, [(3, oi v1), (4, oi v2)], []⟩
noncomputable def A79 (a0 : A7) : ST := ⟨39, [(0, og (Gn a0))], []⟩
theorem Ub (G : Ay T4 P) {y} (E : A1s C F y) (h : Hp = some y) : Am T4 P C F A76 A2a := by
 unfold Hp at h
 have e := sj h; subst e
 exact se G E [r0, au] tt
theorem Avw (G : Ay T4 P) {y o r v1 v2} (E : A1s C F y) (h : Nl v1 v2 = some o)
   (hl : ∀ v', o = .inl v' -> Am T4 P C F Ahp (Af3 v'.1 v'.2)) (hr : ∀ r', o = .inr r' -> r' = r)
   (K1 : ∀ r1, r = r1 -> Am T4 P C F Az7 (Akd r1)) : Am T4 P C F Ahp (Af3 v1 v2) := by
 unfold Nl at h
 rcases Ad h with ⟨b5, h⟩ | ⟨b5, h⟩
 · obtain ⟨c1, h⟩ := Ao h
   exact sg G [r0, bt, r0, en, wk [3, 4] []] (aa b5 <| aa c1 <| tt) (hl _ (si h))
 · exact sg G [r0, bf, au, wk [3] []] (aa b5 <| tt) (K1 _ (hr _ (si h)).symm)
theorem A4s (G : Ay T4 P) {y a0} (E : A1s C F y) (h : Kk a0 = some y) : Am T4 P C F Ar3 (A79 a0) := by
 unfold Kk at h
 rcases Ad h with ⟨b1, h⟩ | ⟨b1, h⟩
 · exact sg G [r0, .reg [(3, oT), (7, oT), (8, oT), (12, oT), (13, oT), (17, oT)], bt, au, wk [] []] (aa b1 <| aa b1 <| aa b1 <| aa b1 <| aa (show true = true from rfl) <| aa (show true = true from rfl) <| aa (show true = true from rfl) <| aa (show true = true from rfl) <| aa (show true = true from rfl) <| aa (show true = true from rfl) <| aa (show true = true from rfl) <| aa (show true = true from rfl) <| aa (show true = true from rfl) <| tt) (Ub G E h)
 · rcases Ad h with ⟨b2, h⟩ | ⟨b2, h⟩
   · exact sg G [r0, .reg [(3, oF), (7, oF), (8, oT), (12, oT), (13, oT), (17, oT)], bt, au, wk [] []] (aa b1 <| aa b1 <| aa b1 <| aa b1 <| aa b2 <| aa b2 <| aa b2 <| aa b2 <| aa (show true = true from rfl) <| aa (show true = true from rfl) <| aa (show true = true from rfl) <| aa (show true = true from rfl) <| aa (show true = true from rfl) <| tt) (Ub G E h)
   · rcases Ad h with ⟨b3, h⟩ | ⟨b3, h⟩
     · exact sg G [r0, .reg [(3, oF), (7, oF), (8, oF), (12, oF), (13, oT), (17, oT)], bt, au, wk [] []] (aa b1 <| aa b1 <| aa b1 <| aa b1 <| aa b2 <| aa b2 <| aa b2 <| aa b2 <| aa b3 <| aa b3 <| aa b3 <| aa b3 <| aa (show true = true from rfl) <| tt) (Ub G E h)
     · rcases Ad h with ⟨b4, h⟩ | ⟨b4, h⟩
       · exact sg G [r0, .reg [(3, oF), (7, oF), (8, oF), (12, oF), (13, oF), (17, oF)], bt, au, wk [] []] (aa b1 <| aa b1 <| aa b1 <| aa b1 <| aa b2 <| aa b2 <| aa b2 <| aa b2 <| aa b3 <| aa b3 <| aa b3 <| aa b3 <| aa b4 <| tt) (Ub G E h)
       · obtain ⟨r1, hi, h⟩ := bind_some h
         have K1 : ∀ q, r1 = q -> Am T4 P C F Az7 (Akd q) := by
           rintro q rfl
           rcases Ad h with ⟨b6, h⟩ | ⟨b6, h⟩
           · have e := sj h; subst e
             exact se G E [.reg [(2, oT), (5, oT)], au] (aa b6 <| aa b6 <| aa b6 <| tt)
           · have e := sj h; subst e
             exact se G E [.reg [(2, oF), (5, oF)], au] (aa b6 <| aa b6 <| aa b6 <| tt)
         exact sg G [r0, .reg [(3, oF), (7, oF), (8, oF), (12, oF), (13, oF), (17, oF)], bf, r0, en, wk [3, 4] []] (aa b1 <| aa b1 <| aa b1 <| aa b1 <| aa b2 <| aa b2 <| aa b2 <| aa b2 <| aa b3 <| aa b3 <| aa b3 <| aa b3 <| aa b4 <| tt) (Az (V := T4) (F := F) (k := Ahp) (S := λ v => Af3 v.1 v.2) (λ v o h hl hr => Avw G E h hl hr K1) _ hi)
noncomputable def Axb : FS yaE := ⟨[(.nm 0)], [.bool], [], [], λ x => Option.map (λ r => (r, ())) (Kk x.1)⟩
theorem Aq5 : MT 42 Axb := show Bh T4 _ _ _ from mt (fn := Try.f42) (S := λ x => A79 x.1) (GB trivial trivial) λ G _ _ _ _ E h => A4s G E h
noncomputable abbrev P1 : Env := EV [(42, Axb)] [] false
noncomputable def Asa : List Item := [.code (Try.f15.body.getD .skip)]
noncomputable def Bcr := ctl [.reg, .reg, .br false, .reg, .br true, .auto] Asa
noncomputable def X8 := ctl [.reg, .reg, .br false, .reg, .br false, .reg, .enter] Asa
noncomputable def A53 := ctl [.reg, .br true, .reg, .reg, .br true, .auto] X8
noncomputable def Arb := ctl [.reg, .br false, .auto] X8
abbrev At9 (C : Ctx) (F : Act -> World -> Prop) (y : Int) : Prop := Bz P1 C F Try.f15.results.toList [] [(.int .i64)] (y, ())
noncomputable def Aan : ST := ⟨65, [], []⟩
noncomputable def A19 : ST := ⟨65, [], []⟩
noncomputable def A1i : ST := ⟨65, [], []⟩
noncomputable def Ach (a0 : Ah) (v1 : Int) : ST := ⟨65, [(1, ol (.ptr 1 0)), (18, ol (.sl (.nm 1) false a0.Arms)), (19, oi ((a0.Arms.length : Nat) : Int)), (20, oi v1)], [(1, .cells [.int .i64 a0.Nodes, .sl (.nm 1) false a0.Arms])]⟩
noncomputable def Bci (a0 : Ah) : ST := ⟨65, [(0, og (Ce a0))], []⟩
theorem Ah9 (G : Ay P1 P) {y} (E : At9 C F y) (h : Mc = some y) : Am P1 P C F Bcr A19 := by
 unfold Mc at h
 have e := sj h; subst e
 exact se G E [r0, au] tt
theorem Nd (G : Ay P1 P) {y a0 o r} (E : At9 C F y) (h : Fq = some o)
   (hl : ∀ v', o = .inl v' -> Am P1 P C F X8 (Ach a0 v')) (hr : ∀ r', o = .inr r' -> r' = r)
   (K1 : ∀ r1, r = (.inl r1) -> Am P1 P C F Arb Aan)
   (KR : ∀ r', r = (.inr r') -> r' = y) : Am P1 P C F A53 A1i := by
 unfold Fq at h
 have e := KR _ (hr _ (si h)).symm; subst e
 exact se G E [r0, au] tt
theorem Aw6 (G : Ay P1 P) {y o r a0 v1} (E : At9 C F y) (h : Pf a0 v1 = some o)
   (hl : ∀ v', o = .inl v' -> Am P1 P C F X8 (Ach a0 v')) (hr : ∀ r', o = .inr r' -> r' = r)
   (K1 : ∀ r1, r = (.inl r1) -> Am P1 P C F Arb Aan)
   (KR : ∀ r', r = (.inr r') -> r' = y) : Am P1 P C F X8 (Ach a0 v1) := by
 unfold Pf at h
 rcases Ad h with ⟨b4, h⟩ | ⟨b4, h⟩
 · obtain ⟨c1, h⟩ := Ao h
   rcases Ad h with ⟨b5, h⟩ | ⟨b5, h⟩
   · exact sg G [r0, bt, r0, .reg [(3, oT), (9, oT), (10, oT), (14, oT), (15, oT), (21, oT), (22, oT), (27, oT), (28, oT), (33, oT), (34, oT), (39, oT)], bt, au, wk [] []] (aa b4 <| aa c1 <| aa b5 <| aa b5 <| aa b5 <| aa b5 <| aa b5 <| aa b5 <| aa (show true = true from rfl) <| aa (show true = true from rfl) <| aa (show true = true from rfl) <| aa (show true = true from rfl) <| aa (show true = true from rfl) <| aa (show true = true from rfl) <| aa (show true = true from rfl) <| aa (show true = true from rfl) <| aa (show true = true from rfl) <| aa (show true = true from rfl) <| aa (show true = true from rfl) <| aa (show true = true from rfl) <| aa (show true = true from rfl) <| aa (show true = true from rfl) <| aa (show true = true from rfl) <| aa (show true = true from rfl) <| aa (show true = true from rfl) <| aa (show true = true from rfl) <| aa (show true = true from rfl) <| aa (show true = true from rfl) <| aa (show true = true from rfl) <| aa (show true = true from rfl) <| aa (show true = true from rfl) <| aa (show true = true from rfl) <| aa (show true = true from rfl) <| aa (show true = true from rfl) <| tt) (Nd G E h hl hr K1 KR)
   · rcases Ad h with ⟨b6, h⟩ | ⟨b6, h⟩
     · exact sg G [r0, bt, r0, .reg [(3, oF), (9, oF), (10, oT), (14, oT), (15, oT), (21, oT), (22, oT), (27, oT), (28, oT), (33, oT), (34, oT), (39, oT)], bt, au, wk [] []] (aa b4 <| aa c1 <| aa b5 <| aa b5 <| aa b5 <| aa b5 <| aa b5 <| aa b5 <| aa b6 <| aa b6 <| aa b6 <| aa b6 <| aa (show true = true from rfl) <| aa (show true = true from rfl) <| aa (show true = true from rfl) <| aa (show true = true from rfl) <| aa (show true = true from rfl) <| aa (show true = true from rfl) <| aa (show true = true from rfl) <| aa (show true = true from rfl) <| aa (show true = true from rfl) <| aa (show true = true from rfl) <| aa (show true = true from rfl) <| aa (show true = true from rfl) <| aa (show true = true from rfl) <| aa (show true = true from rfl) <| aa (show true = true from rfl) <| aa (show true = true from rfl) <| aa (show true = true from rfl) <| aa (show true = true from rfl) <| aa (show true = true from rfl) <| aa (show true = true from rfl) <| aa (show true = true from rfl) <| aa (show true = true from rfl) <| tt) (Nd G E h hl hr K1 KR)
     · rcases Ad h with ⟨b7, h⟩ | ⟨b7, h⟩
       · exact sg G [r0, bt, r0, .reg [(3, oF), (9, oF), (10, oF), (14, oF), (15, oT), (21, oT), (22, oT), (27, oT), (28, oT), (33, oT), (34, oT), (39, oT)], bt, au, wk [] []] (aa b4 <| aa c1 <| aa b5 <| aa b5 <| aa b5 <| aa b5 <| aa b5 <| aa b5 <| aa b6 <| aa b6 <| aa b6 <| aa b6 <| aa b7 <| aa b7 <| aa b7 <| aa b7 <| aa b7 <| aa b7 <| aa (show true = true from rfl) <| aa (show true = true from rfl) <| aa (show true = true from rfl) <| aa (show true = true from rfl) <| aa (show true = true from rfl) <| aa (show true = true from rfl) <| aa (show true = true from rfl) <| aa (show true = true from rfl) <| aa (show true = true from rfl) <| aa (show true = true from rfl) <| aa (show true = true from rfl) <| aa (show true = true from rfl) <| aa (show true = true from rfl) <| aa (show true = true from rfl) <| aa (show true = true from rfl) <| aa (show true = true from rfl) <| tt) (Nd G E h hl hr K1 KR)
       · rcases Ad h with ⟨b8, h⟩ | ⟨b8, h⟩
         · exact sg G [r0, bt, r0, .reg [(3, oF), (9, oF), (10, oF), (14, oF), (15, oF), (21, oF), (22, oT), (27, oT), (28, oT), (33, oT), (34, oT), (39, oT)], bt, au, wk [] []] (aa b4 <| aa c1 <| aa b5 <| aa b5 <| aa b5 <| aa b5 <| aa b5 <| aa b5 <| aa b6 <| aa b6 <| aa b6 <| aa b6 <| aa b7 <| aa b7 <| aa b7 <| aa b7 <| aa b7 <| aa b7 <| aa b8 <| aa b8 <| aa b8 <| aa b8 <| aa b8 <| aa (show true = true from rfl) <| aa (show true = true from rfl) <| aa (show true = true from rfl) <| aa (show true = true from rfl) <| aa (show true = true from rfl) <| aa (show true = true from rfl) <| aa (show true = true from rfl) <| aa (show true = true from rfl) <| aa (show true = true from rfl) <| aa (show true = true from rfl) <| aa (show true = true from rfl) <| tt) (Nd G E h hl hr K1 KR)
         · obtain ⟨y1, c2, h⟩ := bind_some h
           rcases Ad h with ⟨b9, h⟩ | ⟨b9, h⟩
           · exact sg G [r0, bt, r0, .reg [(3, oF), (9, oF), (10, oF), (14, oF), (15, oF), (21, oF), (22, oF), (25, .res ⟨[.bool], (y1, ())⟩), (27, oF), (28, oT), (33, oT), (34, oT), (39, oT)], bt, au, wk [] []] (aa b4 <| aa c1 <| aa b5 <| aa b5 <| aa b5 <| aa b5 <| aa b5 <| aa b5 <| aa b6 <| aa b6 <| aa b6 <| aa b6 <| aa b7 <| aa b7 <| aa b7 <| aa b7 <| aa b7 <| aa b7 <| aa b8 <| aa b8 <| aa b8 <| aa (ca c2) <| aa b8 <| aa b8 <| aa b9 <| aa b9 <| aa b9 <| aa b9 <| aa b9 <| aa (show true = true from rfl) <| aa (show true = true from rfl) <| aa (show true = true from rfl) <| aa (show true = true from rfl) <| aa (show true = true from rfl) <| aa (show true = true from rfl) <| tt) (Nd G E h hl hr K1 KR)
           · rcases Ad h with ⟨b10, h⟩ | ⟨b10, h⟩
             · exact sg G [r0, bt, r0, .reg [(3, oF), (9, oF), (10, oF), (14, oF), (15, oF), (21, oF), (22, oF), (25, .res ⟨[.bool], (y1, ())⟩), (27, oF), (28, oF), (33, oF), (34, oT), (39, oT)], bt, au, wk [] []] (aa b4 <| aa c1 <| aa b5 <| aa b5 <| aa b5 <| aa b5 <| aa b5 <| aa b5 <| aa b6 <| aa b6 <| aa b6 <| aa b6 <| aa b7 <| aa b7 <| aa b7 <| aa b7 <| aa b7 <| aa b7 <| aa b8 <| aa b8 <| aa b8 <| aa (ca c2) <| aa b8 <| aa b8 <| aa b9 <| aa b9 <| aa b9 <| aa b9 <| aa b9 <| aa b10 <| aa b10 <| aa b10 <| aa b10 <| aa b10 <| aa (show true = true from rfl) <| tt) (Nd G E h hl hr K1 KR)
             · obtain ⟨y2, c3, h⟩ := bind_some h
               rcases Ad h with ⟨b11, h⟩ | ⟨b11, h⟩
               · exact sg G [r0, bt, r0, .reg [(3, oF), (9, oF), (10, oF), (14, oF), (15, oF), (21, oF), (22, oF), (25, .res ⟨[.bool], (y1, ())⟩), (27, oF), (28, oF), (33, oF), (34, oF), (37, .res ⟨[.bool], (y2, ())⟩), (39, oF)], bt, au, wk [] []] (aa b4 <| aa c1 <| aa b5 <| aa b5 <| aa b5 <| aa b5 <| aa b5 <| aa b5 <| aa b6 <| aa b6 <| aa b6 <| aa b6 <| aa b7 <| aa b7 <| aa b7 <| aa b7 <| aa b7 <| aa b7 <| aa b8 <| aa b8 <| aa b8 <| aa (ca c2) <| aa b8 <| aa b8 <| aa b9 <| aa b9 <| aa b9 <| aa b9 <| aa b9 <| aa b10 <| aa b10 <| aa b10 <| aa (ca c3) <| aa b10 <| aa b10 <| aa b11 <| tt) (Nd G E h hl hr K1 KR)
               · exact sg G [r0, bt, r0, .reg [(3, oF), (9, oF), (10, oF), (14, oF), (15, oF), (21, oF), (22, oF), (25, .res ⟨[.bool], (y1, ())⟩), (27, oF), (28, oF), (33, oF), (34, oF), (37, .res ⟨[.bool], (y2, ())⟩), (39, oF)], bf, r0, en, wk [1, 18, 19, 20] [1]] (aa b4 <| aa c1 <| aa b5 <| aa b5 <| aa b5 <| aa b5 <| aa b5 <| aa b5 <| aa b6 <| aa b6 <| aa b6 <| aa b6 <| aa b7 <| aa b7 <| aa b7 <| aa b7 <| aa b7 <| aa b7 <| aa b8 <| aa b8 <| aa b8 <| aa (ca c2) <| aa b8 <| aa b8 <| aa b9 <| aa b9 <| aa b9 <| aa b9 <| aa b9 <| aa b10 <| aa b10 <| aa b10 <| aa (ca c3) <| aa b10 <| aa b10 <| aa b11 <| tt) (hl _ (si h))
 · exact sg G [r0, bf, au, wk [] []] (aa b4 <| tt) (K1 _ (hr _ (si h)).symm)
theorem Bb1 (G : Ay P1 P) {y a0} (E : At9 C F y) (h : Jo a0 = some y) : Am P1 P C F Asa (Bci a0) := by
 unfold Jo at h
 rcases Ad h with ⟨b1, h⟩ | ⟨b1, h⟩
 · have e := sj h; subst e
   exact se G E [r0, r0, bt, r0, au] (aa b1 <| tt)
 · rcases Ad h with ⟨b2, h⟩ | ⟨b2, h⟩
   · exact sg G [r0, r0, bf, .reg [(3, oT), (7, oT)], bt, au, wk [] []] (aa b1 <| aa b2 <| aa b2 <| aa b2 <| aa b2 <| aa (show true = true from rfl) <| tt) (Ah9 G E h)
   · rcases Ad h with ⟨b3, h⟩ | ⟨b3, h⟩
     · exact sg G [r0, r0, bf, .reg [(3, oF), (7, oF)], bt, au, wk [] []] (aa b1 <| aa b2 <| aa b2 <| aa b2 <| aa b2 <| aa b3 <| tt) (Ah9 G E h)
     · obtain ⟨r, hi, h⟩ := bind_some h
       have K1 : ∀ r1, r = (.inl r1) -> Am P1 P C F Arb Aan := by
         rintro r1 rfl
         have e := sj h; subst e
         exact se G E [r0, au] tt
       have KR : ∀ r2, r = (.inr r2) -> r2 = y := by
         rintro r2 rfl
         exact Option.some.inj h
       exact sg G [r0, r0, bf, .reg [(3, oF), (7, oF)], bf, r0, en, wk [1, 18, 19, 20] [1]] (aa b1 <| aa b2 <| aa b2 <| aa b2 <| aa b2 <| aa b3 <| tt) (Az (V := P1) (F := F) (k := X8) (S := λ v => Ach a0 v) (λ v o h hl hr => Aw6 G E h hl hr K1 KR) _ hi)
noncomputable def Aeg : FS yaE := ⟨[(.nm 2)], [(.int .i64)], [], [], λ x => Option.map (λ r => (r, ())) (Jo x.1)⟩
theorem Ry : MT 15 Aeg := show Bh P1 _ _ _ from mt (fn := Try.f15) (S := λ x => Bci x.1) (GB ⟨Aq5, trivial⟩ trivial) λ G _ _ _ _ E h => Bb1 G E h
noncomputable abbrev K3 : Env := EV [] [] false
noncomputable def Axx : List Item := [.code (Try.f16.body.getD .skip)]
noncomputable def Alm := ctl [.reg, .reg, .reg, .enter] Axx
noncomputable def An1 := ctl [.reg, .br false, .auto] Alm
noncomputable def Adg := ctl [.reg, .enter] An1
noncomputable def Al1 := ctl [.reg, .br true, .reg, .enter] Adg
noncomputable def Ayr := ctl [.reg, .br false, .auto] Al1
noncomputable def Ayx := ctl [.reg, .br false, .auto] Adg
abbrev Awb (C : Ctx) (F : Act -> World -> Prop) (y : List Int) : Prop := Bz K3 C F Try.f16.results.toList [] [(.sl (.int .i64))] (y, ())
noncomputable def Ai6 (a0 : Ah) (r1 : List Int) : ST := ⟨56, [(1, ol (.ptr 1 0)), (3, ol (.ar 10 0))], [(1, .cells [.int .i64 a0.Nodes, .sl (.nm 1) false a0.Arms]), (10, .arr 3 (.int .i64) r1 0 false)]⟩
noncomputable def Alj (a0 : Ah) (v5 : Int) (r2 : List Int) : ST := ⟨56, [(1, ol (.ptr 1 0)), (3, ol (.ar 10 0)), (22, oi a0.Nodes), (23, oi v5)], [(1, .cells [.int .i64 a0.Nodes, .sl (.nm 1) false a0.Arms]), (10, .arr 3 (.int .i64) r2 0 false)]⟩
noncomputable def Ah2 (r3 : List Int) : ST := ⟨56, [(3, ol (.ar 10 0))], [(10, .arr 3 (.int .i64) r3 0 false)]⟩
noncomputable def Afm (a0 : Ah) (v1 : Int) (v2 : Int) (v3 : List Int) : ST := ⟨56, [(1, ol (.ptr 1 0)), (3, ol (.ar 10 0)), (12, oi v1), (13, oi v2)], [(1, .cells [.int .i64 a0.Nodes, .sl (.nm 1) false a0.Arms]), (10, .arr 3 (.int .i64) v3 0 false)]⟩
noncomputable def Agb (a0 : Ah) (v5 : Int) (v7 : Int) (v8 : List Int) : ST := ⟨56, [(1, ol (.ptr 1 0)), (3, ol (.ar 10 0)), (22, oi a0.Nodes), (23, oi v5), (26, ol (.sl (.nm 1) false a0.Arms)), (27, oi ((a0.Arms.length : Nat) : Int)), (28, oi v7)], [(1, .cells [.int .i64 a0.Nodes, .sl (.nm 1) false a0.Arms]), (10, .arr 3 (.int .i64) v8 0 false)]⟩
noncomputable def Ahb (a0 : Ah) (v5 : Int) (v6 : List Int) : ST := ⟨56, [(1, ol (.ptr 1 0)), (3, ol (.ar 10 0)), (22, oi a0.Nodes), (23, oi v5)], [(1, .cells [.int .i64 a0.Nodes, .sl (.nm 1) false a0.Arms]), (10, .arr 3 (.int .i64) v6 0 false)]⟩
noncomputable def A66 (a0 : Ah) : ST := ⟨56, [(0, og (Ce a0))], []⟩
theorem At1 (G : Ay K3 P) {y o r a0 v1 v2 v3} (E : Awb C F y) (h : Li a0 v1 v2 v3 = some o)
   (hl : ∀ v', o = .inl v' -> Am K3 P C F Alm (Afm a0 v'.1 v'.2.1 v'.2.2)) (hr : ∀ r', o = .inr r' -> r' = r)
   (K1 : ∀ r1, r = r1 -> Am K3 P C F An1 (Ai6 a0 r1)) : Am K3 P C F Alm (Afm a0 v1 v2 v3) := by
 unfold Li at h
 rcases Ad h with ⟨b1, h⟩ | ⟨b1, h⟩
 · obtain ⟨c4, h⟩ := Ao h
   exact sg G [r0, bt, r0, r0, r0, en, wk [1, 3, 12, 13] [1, 10]] (aa b1 <| aa c4 <| tt) (hl _ (si h))
 · exact sg G [r0, bf, au, wk [1, 3] [1, 10]] (aa b1 <| tt) (K1 _ (hr _ (si h)).symm)
theorem Aut (G : Ay K3 P) {y o r a0 v5 v7 v8} (E : Awb C F y) (h : I8 a0 v5 v7 v8 = some o)
   (hl : ∀ v', o = .inl v' -> Am K3 P C F Al1 (Agb a0 v5 v'.1 v'.2)) (hr : ∀ r', o = .inr r' -> r' = r)
   (K1 : ∀ r2, r = r2 -> Am K3 P C F Ayr (Alj a0 v5 r2)) : Am K3 P C F Al1 (Agb a0 v5 v7 v8) := by
 unfold I8 at h
 rcases Ad h with ⟨b3, h⟩ | ⟨b3, h⟩
 · obtain ⟨c5, h⟩ := Ao h
   obtain ⟨c6, c7, h⟩ := ns2 h
   obtain ⟨c8, c9, h⟩ := ns2 h
   exact sg G [r0, bt, r0, r0, r0, r0, en, wk [1, 3, 22, 23, 26, 27, 28] [1, 10]] (aa b3 <| aa c5 <| aa c6 <| aa c7 <| aa c8 <| aa c9 <| tt) (hl _ (si h))
 · exact sg G [r0, bf, au, wk [1, 3, 22, 23] [1, 10]] (aa b3 <| tt) (K1 _ (hr _ (si h)).symm)
theorem Au9 (G : Ay K3 P) {y o r a0 v5 v6} (E : Awb C F y) (h : K9 a0 v5 v6 = some o)
   (hl : ∀ v', o = .inl v' -> Am K3 P C F Adg (Ahb a0 v'.1 v'.2)) (hr : ∀ r', o = .inr r' -> r' = r)
   (K1 : ∀ r3, r = r3 -> Am K3 P C F Ayx (Ah2 r3)) : Am K3 P C F Adg (Ahb a0 v5 v6) := by
 unfold K9 at h
 rcases Ad h with ⟨b2, h⟩ | ⟨b2, h⟩
 · obtain ⟨r2, hi, h⟩ := bind_some h
   have K1 : ∀ q, r2 = q -> Am K3 P C F Ayr (Alj a0 v5 q) := by
     rintro q rfl
     exact sg G [r0, en, wk [1, 3, 22, 23] [1, 10]] tt (hl _ (si h))
   exact sg G [r0, bt, r0, en, wk [1, 3, 22, 23, 26, 27, 28] [1, 10]] (aa b2 <| tt) (Az (V := K3) (F := F) (k := Al1) (S := λ v => Agb a0 v5 v.1 v.2) (λ v o h hl hr => Aut G E h hl hr K1) _ hi)
 · exact sg G [r0, bf, au, wk [3] [10]] (aa b2 <| tt) (K1 _ (hr _ (si h)).symm)
theorem Bbf (G : Ay K3 P) {y a0} (E : Awb C F y) (h : Ij a0 = some y) : Am K3 P C F Axx (A66 a0) := by
 unfold Ij at h
 obtain ⟨c1, c2, c3, h⟩ := ns3 h
 obtain ⟨r1, hi, h⟩ := bind_some h
 have K1 : ∀ q, r1 = q -> Am K3 P C F An1 (Ai6 a0 q) := by
   rintro q rfl
   obtain ⟨r3, hi, h⟩ := bind_some h
   have K1 : ∀ q, r3 = q -> Am K3 P C F Ayx (Ah2 q) := by
     rintro q rfl
     have e := sj h; subst e
     exact se G E [r0, au, .weak [.fix (.slot 2)]] tt
   exact sg G [r0, en, wk [1, 3, 22, 23] [1, 10]] tt (Az (V := K3) (F := F) (k := Adg) (S := λ v => Ahb a0 v.1 v.2) (λ v o h hl hr => Au9 G E h hl hr K1) _ hi)
 exact sg G [r0, r0, r0, en, wk [1, 3, 12, 13] [1, 10]] (aa c1 <| aa c2 <| aa c3 <| tt) (Az (V := K3) (F := F) (k := Alm) (S := λ v => Afm a0 v.1 v.2.1 v.2.2) (λ v o h hl hr => At1 G E h hl hr K1) _ hi)
noncomputable def Aqr : FS yaE := ⟨[(.nm 2)], [(.sl (.int .i64))], [], [], λ x => Option.map (λ r => (r, ())) (Ij x.1)⟩
theorem Adm : MT 16 Aqr := show Bh K3 _ _ _ from mt (fn := Try.f16) (S := λ x => A66 x.1) (GB trivial trivial) λ G _ _ _ _ E h => Bbf G E h
noncomputable abbrev Aun : Env := EV [] [] false
noncomputable def A7j : List Item := [.code (Try.f43.body.getD .skip)]
abbrev Bdu (C : Ctx) (F : Act -> World -> Prop) (y : A6) : Prop := Bz Aun C F Try.f43.results.toList [] [(.nm 3)] (y, ())
noncomputable def A84 (a0 : Int) : ST := ⟨5, [(0, oi a0)], []⟩
theorem Ban (G : Ay Aun P) {y a0} (E : Bdu C F y) (h : U7 a0 = some y) : Am Aun P C F A7j (A84 a0) := by
 unfold U7 at h
 have e := sj h; subst e
 exact se G E [r0, r0, au] tt
noncomputable def Ah8 : FS yaE := ⟨[(.int .i64)], [(.nm 3)], [], [], λ x => Option.map (λ r => (r, ())) (U7 x.1)⟩
theorem Wg : MT 43 Ah8 := show Bh Aun _ _ _ from mt (fn := Try.f43) (S := λ x => A84 x.1) (GB trivial trivial) λ G _ _ _ _ E h => Ban G E h
noncomputable abbrev Ats : Env := EV [(43, Ah8)] [] false
noncomputable def A9z : List Item := [.code (Try.f17.body.getD .skip)]
abbrev Bc5 (C : Ctx) (F : Act -> World -> Prop) (y : Aj) : Prop := Bz Ats C F Try.f17.results.toList [] [(.nm 4)] (y, ())
noncomputable def A8z (a0 : Int) : ST := ⟨7, [(0, oi a0)], []⟩
theorem Bb8 (G : Ay Ats P) {y a0} (E : Bc5 C F y) (h : Fm a0 = some y) : Am Ats P C F A9z (A8z a0) := by
 unfold Fm at h
 obtain ⟨y1, c1, h⟩ := bind_some h
 obtain ⟨y2, c2, h⟩ := bind_some h
 have e := sj h; subst e
 exact se G E [r0, .reg [(1, .res ⟨[(.nm 3)], (y1, ())⟩), (2, .res ⟨[(.nm 3)], (y2, ())⟩)], au] (aa (ca c1) <| aa (ca c2) <| tt)
noncomputable def Om : FS yaE := ⟨[(.int .i64)], [(.nm 4)], [], [], λ x => Option.map (λ r => (r, ())) (Fm x.1)⟩
theorem G8 : MT 17 Om := show Bh Ats _ _ _ from mt (fn := Try.f17) (S := λ x => A8z x.1) (GB ⟨Wg, trivial⟩ trivial) λ G _ _ _ _ E h => Bb8 G E h
noncomputable abbrev Xk : Env := EV [] [] false
noncomputable def An8 : List Item := [.code (Try.f61.body.getD .skip)]
noncomputable def A5y := ctl [.reg, .reg, .br true, .auto] An8
noncomputable def A07 := ctl [.reg, .reg, .br false, .auto] An8
noncomputable def A5s := ctl [.reg, .br false, .auto] A07
abbrev Atc (C : Ctx) (F : Act -> World -> Prop) (y : Int) : Prop := Bz Xk C F Try.f61.results.toList [] [(.int .i64)] (y, ())
noncomputable def A1n : ST := ⟨30, [], []⟩
noncomputable def A3j : ST := ⟨30, [], []⟩
noncomputable def A3o (a0 : A6) : ST := ⟨30, [(1, ol (.ptr 1 0))], [(1, .cells [.int .i64 a0.v, .sl (.int .u32) true a0.m, .bool a0.neg])]⟩
noncomputable def Ba8 (a0 : A6) : ST := ⟨30, [(0, og (Cs a0))], []⟩
theorem Abd (G : Ay Xk P) {y} (E : Atc C F y) (h : Ip = some y) : Am Xk P C F A5y A1n := by
 unfold Ip at h
 have e := sj h; subst e
 exact se G E [r0, au] tt
theorem Alv (G : Ay Xk P) {y} (E : Atc C F y) (h : Ks = some y) : Am Xk P C F A5s A3j := by
 unfold Ks at h
 have e := sj h; subst e
 exact se G E [r0, au] tt
theorem Uq (G : Ay Xk P) {y a0} (E : Atc C F y) (h : Hs a0 = some y) : Am Xk P C F A07 (A3o a0) := by
 unfold Hs at h
 rcases Ad h with ⟨b7, h⟩ | ⟨b7, h⟩
 · rcases Ad h with ⟨b8, h⟩ | ⟨b8, h⟩
   · have e := sj h; subst e
     exact se G E [.reg [(3, oT), (7, oT)], bt, r0, au] (aa b7 <| aa b7 <| aa b7 <| aa b7 <| aa b8 <| tt)
   · exact sg G [.reg [(3, oT), (7, oT)], bf, au, wk [] []] (aa b7 <| aa b7 <| aa b7 <| aa b7 <| aa b8 <| tt) (Alv G E h)
 · exact sg G [.reg [(3, oF), (7, oF)], bf, au, wk [] []] (aa b7 <| aa b7 <| aa b7 <| aa b7 <| aa (show false = false from rfl) <| tt) (Alv G E h)
theorem A49 (G : Ay Xk P) {y a0} (E : Atc C F y) (h : Hd a0 = some y) : Am Xk P C F An8 (Ba8 a0) := by
 unfold Hd at h
 rcases Ad h with ⟨b1, h⟩ | ⟨b1, h⟩
 · rcases Ad h with ⟨b2, h⟩ | ⟨b2, h⟩
   · exact sg G [r0, .reg [(3, oT), (6, oT), (7, oT), (16, oT)], bt, au, wk [] []] (aa b1 <| aa b1 <| aa b1 <| aa b2 <| aa b2 <| aa b2 <| aa b2 <| aa b2 <| aa b2 <| aa (show true = true from rfl) <| tt) (Abd G E h)
   · rcases Ad h with ⟨b3, h⟩ | ⟨b3, h⟩
     · rcases Ad h with ⟨b4, h⟩ | ⟨b4, h⟩
       · exact sg G [r0, .reg [(3, oT), (6, oT), (7, oF), (11, oT), (15, oT), (16, oF)], bt, au, wk [] []] (aa b1 <| aa b1 <| aa b1 <| aa b2 <| aa b2 <| aa b2 <| aa b2 <| aa b3 <| aa b3 <| aa b3 <| aa b2 <| aa b3 <| aa b2 <| aa b4 <| tt) (Abd G E h)
       · exact sg G [r0, .reg [(3, oT), (6, oT), (7, oF), (11, oT), (15, oT), (16, oF)], bf, au, wk [1] [1]] (aa b1 <| aa b1 <| aa b1 <| aa b2 <| aa b2 <| aa b2 <| aa b2 <| aa b3 <| aa b3 <| aa b3 <| aa b2 <| aa b3 <| aa b2 <| aa b4 <| tt) (Uq G E h)
     · exact sg G [r0, .reg [(3, oT), (6, oT), (7, oF), (11, oF), (15, oF), (16, oF)], bf, au, wk [1] [1]] (aa b1 <| aa b1 <| aa b1 <| aa b2 <| aa b2 <| aa b2 <| aa b2 <| aa b3 <| aa b3 <| aa b3 <| aa b2 <| aa b3 <| aa b2 <| aa (show false = false from rfl) <| tt) (Uq G E h)
 · rcases Ad h with ⟨b5, h⟩ | ⟨b5, h⟩
   · rcases Ad h with ⟨b6, h⟩ | ⟨b6, h⟩
     · exact sg G [r0, .reg [(3, oF), (6, oF), (7, oF), (11, oT), (15, oT), (16, oF)], bt, au, wk [] []] (aa b1 <| aa b1 <| aa b1 <| aa (show false = false from rfl) <| aa (show false = false from rfl) <| aa (show false = false from rfl) <| aa (show false = false from rfl) <| aa b5 <| aa b5 <| aa b5 <| aa (show false = false from rfl) <| aa b5 <| aa (show false = false from rfl) <| aa b6 <| tt) (Abd G E h)
     · exact sg G [r0, .reg [(3, oF), (6, oF), (7, oF), (11, oT), (15, oT), (16, oF)], bf, au, wk [1] [1]] (aa b1 <| aa b1 <| aa b1 <| aa (show false = false from rfl) <| aa (show false = false from rfl) <| aa (show false = false from rfl) <| aa (show false = false from rfl) <| aa b5 <| aa b5 <| aa b5 <| aa (show false = false from rfl) <| aa b5 <| aa (show false = false from rfl) <| aa b6 <| tt) (Uq G E h)
   · exact sg G [r0, .reg [(3, oF), (6, oF), (7, oF), (11, oF), (15, oF), (16, oF)], bf, au, wk [1] [1]] (aa b1 <| aa b1 <| aa b1 <| aa (show false = false from rfl) <| aa (show false = false from rfl) <| aa (show false = false from rfl) <| aa (show false = false from rfl) <| aa b5 <| aa b5 <| aa b5 <| aa (show false = false from rfl) <| aa b5 <| aa (show false = false from rfl) <| aa (show false = false from rfl) <| tt) (Uq G E h)
noncomputable def Yc : FS yaE := ⟨[(.nm 3)], [(.int .i64)], [], [], λ x => Option.map (λ r => (r, ())) (Hd x.1)⟩
theorem Ow : MT 61 Yc := show Bh Xk _ _ _ from mt (fn := Try.f61) (S := λ x => Ba8 x.1) (GB trivial trivial) λ G _ _ _ _ E h => A49 G E h
noncomputable abbrev Ani : Env := EV [] [] false
noncomputable def Azf : List Item := [.code (Try.f68.body.getD .skip)]
noncomputable def A8g := ctl [.reg, .reg, .br false, .reg, .reg, .br true, .reg, .auto] Azf
abbrev A8y (C : Ctx) (F : Act -> World -> Prop) (y : ((List Int) × Bool)) : Prop := Bz Ani C F Try.f68.results.toList [] [(.sl (.int .u32)), .bool] (y.1, y.2, ())
noncomputable def A3q (a0 : A6) (v1 : Int) : ST := ⟨42, [(1, ol (.ptr 1 0)), (4, ol (.int .u64 v1))], [(1, .cells [.int .i64 a0.v, .sl (.int .u32) true a0.m, .bool a0.neg])]⟩
noncomputable def A95 (a0 : A6) : ST := ⟨42, [(0, og (Cs a0))], []⟩
theorem Aib (G : Ay Ani P) {y a0 v1} (E : A8y C F y) (h : H2 a0 v1 = some y) : Am Ani P C F A8g (A3q a0 v1) := by
 unfold H2 at h
 rcases Ad h with ⟨b3, h⟩ | ⟨b3, h⟩
 · have e := sj h; subst e
   exact se G E [r0, bt, r0, au] (aa b3 <| tt)
 · obtain ⟨c1, h⟩ := Ao h
   rcases Ad h with ⟨b4, h⟩ | ⟨b4, h⟩
   · have e := sj h; subst e
     exact se G E [r0, bf, r0, bt, r0, au] (aa b3 <| aa c1 <| aa b4 <| tt)
   · obtain ⟨c2, h⟩ := Ao h
     have e := sj h; subst e
     exact se G E [r0, bf, r0, bf, r0, au] (aa b3 <| aa c1 <| aa b4 <| aa c2 <| tt)
theorem A9y (G : Ay Ani P) {y a0} (E : A8y C F y) (h : Ez a0 = some y) : Am Ani P C F Azf (A95 a0) := by
 unfold Ez at h
 rcases Ad h with ⟨b1, h⟩ | ⟨b1, h⟩
 · have e := sj h; subst e
   exact se G E [r0, r0, bt, r0, au] (aa b1 <| tt)
 · rcases Ad h with ⟨b2, h⟩ | ⟨b2, h⟩
   · exact sg G [r0, r0, bf, r0, r0, bt, r0, au, wk [1, 4] [1]] (aa b1 <| aa b2 <| tt) (Aib G E h)
   · exact sg G [r0, r0, bf, r0, r0, bf, au, wk [1, 4] [1]] (aa b1 <| aa b2 <| tt) (Aib G E h)
noncomputable def Acn : FS yaE := ⟨[(.nm 3)], [(.sl (.int .u32)), .bool], [], [], λ x => Option.map (λ r => (r.1, r.2, ())) (Ez x.1)⟩
theorem Q6 : MT 68 Acn := show Bh Ani _ _ _ from mt (fn := Try.f68) (S := λ x => A95 x.1) (GB trivial trivial) λ G _ _ _ _ E h => A9y G E h
noncomputable abbrev N3 : Env := EV [] [] false
noncomputable def A01 : List Item := [.code (Try.f69.body.getD .skip)]
noncomputable def Ai5 := ctl [.reg, .enter] A01
noncomputable def Ao6 := ctl [.reg, .br false, .auto] Ai5
noncomputable def Ain := ctl [.reg, .br true, .reg, .reg, .enter] Ao6
noncomputable def Aqt := ctl [.reg, .br false, .auto] Ain
noncomputable def Bar := ctl [.reg, .br false, .auto] Aqt
abbrev Auj (C : Ctx) (F : Act -> World -> Prop) (y : A6) : Prop := Bz N3 C F Try.f69.results.toList [] [(.nm 3)] (y, ())
noncomputable def Ai1 (a1 : Bool) (r1 : List Int) : ST := ⟨55, [(0, ol (.sl (.int .u32) false r1)), (1, ol (.bool a1)), (4, ol (.ptr 4 0))], [(4, .cells [.int .i64 (0 : Int), .sl (.int .u32) true [], .bool false])]⟩
noncomputable def Ajm (a1 : Bool) (r1 : List Int) (r2 : Int) : ST := ⟨55, [(0, ol (.sl (.int .u32) false r1)), (1, ol (.bool a1)), (4, ol (.ptr 4 0)), (5, ol (.int .u64 r2))], [(4, .cells [.int .i64 (0 : Int), .sl (.int .u32) true [], .bool false])]⟩
noncomputable def Afc (a1 : Bool) (v1 : List Int) : ST := ⟨55, [(0, ol (.sl (.int .u32) false v1)), (1, ol (.bool a1)), (4, ol (.ptr 4 0))], [(4, .cells [.int .i64 (0 : Int), .sl (.int .u32) true [], .bool false])]⟩
noncomputable def Afh (a1 : Bool) (r1 : List Int) (v3 : Int) (v4 : Int) : ST := ⟨55, [(0, ol (.sl (.int .u32) false r1)), (1, ol (.bool a1)), (4, ol (.ptr 4 0)), (5, ol (.int .u64 v3)), (6, oi v4)], [(4, .cells [.int .i64 (0 : Int), .sl (.int .u32) true [], .bool false])]⟩
noncomputable def A30 (a1 : Bool) (r1 : List Int) : ST := ⟨55, [(0, ol (.sl (.int .u32) false r1)), (1, ol (.bool a1)), (4, ol (.ptr 4 0))], [(4, .cells [.int .i64 (0 : Int), .sl (.int .u32) true [], .bool false])]⟩
noncomputable def A9a (a0 : List Int) (a1 : Bool) : ST := ⟨55, [(0, ol (.sl (.int .u32) false a0)), (1, ol (.bool a1))], []⟩
theorem Aus (G : Ay N3 P) {y o r a1 v1} (E : Auj C F y) (h : Ph a1 v1 = some o)
   (hl : ∀ v', o = .inl v' -> Am N3 P C F Ai5 (Afc a1 v')) (hr : ∀ r', o = .inr r' -> r' = r)
   (K1 : ∀ r1, r = r1 -> Am N3 P C F Ao6 (Ai1 a1 r1)) : Am N3 P C F Ai5 (Afc a1 v1) := by
 unfold Ph at h
 rcases Ad h with ⟨b1, h⟩ | ⟨b1, h⟩
 · obtain ⟨c1, h⟩ := Ao h
   rcases Ad h with ⟨b2, h⟩ | ⟨b2, h⟩
   · obtain ⟨c2, c3, c4, h⟩ := ns3 h
     exact sg G [.reg [(3, oT), (11, oT)], bt, r0, en, wk [0, 1, 4] [4]] (aa b1 <| aa b1 <| aa b1 <| aa b1 <| aa b1 <| aa c1 <| aa b1 <| aa b1 <| aa b1 <| aa b2 <| aa c2 <| aa c3 <| aa c4 <| tt) (hl _ (si h))
   · exact sg G [.reg [(3, oT), (11, oT)], bf, au, wk [0, 1, 4] [4]] (aa b1 <| aa b1 <| aa b1 <| aa b1 <| aa b1 <| aa c1 <| aa b1 <| aa b1 <| aa b1 <| aa b2 <| tt) (K1 _ (hr _ (si h)).symm)
 · exact sg G [.reg [(3, oF), (11, oF)], bf, au, wk [0, 1, 4] [4]] (aa b1 <| aa b1 <| aa b1 <| aa b1 <| aa b1 <| aa b1 <| aa b1 <| aa b1 <| aa (show false = false from rfl) <| tt) (K1 _ (hr _ (si h)).symm)
theorem Auw (G : Ay N3 P) {y o r a1 r1 v3 v4} (E : Auj C F y) (h : L8 a1 r1 v3 v4 = some o)
   (hl : ∀ v', o = .inl v' -> Am N3 P C F Ain (Afh a1 r1 v'.1 v'.2)) (hr : ∀ r', o = .inr r' -> r' = r)
   (K1 : ∀ r2, r = r2 -> Am N3 P C F Aqt (Ajm a1 r1 r2)) : Am N3 P C F Ain (Afh a1 r1 v3 v4) := by
 unfold L8 at h
 rcases Ad h with ⟨b4, h⟩ | ⟨b4, h⟩
 · obtain ⟨c5, c6, h⟩ := ns2 h
   exact sg G [r0, bt, r0, r0, en, wk [0, 1, 4, 5, 6] [4]] (aa b4 <| aa c5 <| aa c6 <| tt) (hl _ (si h))
 · exact sg G [r0, bf, au, wk [0, 1, 4, 5] [4]] (aa b4 <| tt) (K1 _ (hr _ (si h)).symm)
theorem Ail (G : Ay N3 P) {y a1 r1} (E : Auj C F y) (h : Jv a1 r1 = some y) : Am N3 P C F Bar (A30 a1 r1) := by
 unfold Jv at h
 obtain ⟨c7, h⟩ := Ao h
 have e := sj h; subst e
 exact se G E [r0, au, .weak [.ne (.cell 4) 1]] (aa c7 <| tt)
theorem Bb2 (G : Ay N3 P) {y a0 a1} (E : Auj C F y) (h : Hk a0 a1 = some y) : Am N3 P C F A01 (A9a a0 a1) := by
 unfold Hk at h
 obtain ⟨r1, hi, h⟩ := bind_some h
 have K1 : ∀ q, r1 = q -> Am N3 P C F Ao6 (Ai1 a1 q) := by
   rintro q rfl
   rcases Ad h with ⟨b3, h⟩ | ⟨b3, h⟩
   · obtain ⟨r2, hi, h⟩ := bind_some h
     have K1 : ∀ q, r2 = q -> Am N3 P C F Aqt (Ajm a1 r1 q) := by
       rintro q rfl
       rcases Ad h with ⟨b5, h⟩ | ⟨b5, h⟩
       · rcases Ad h with ⟨b6, h⟩ | ⟨b6, h⟩
         · have e := sj h; subst e
           exact se G E [r0, bt, r0, bt, r0, au] (aa b5 <| aa b6 <| tt)
         · have e := sj h; subst e
           exact se G E [r0, bt, r0, bf, r0, au] (aa b5 <| aa b6 <| tt)
       · exact sg G [r0, bf, au, wk [0, 1, 4] [4]] (aa b5 <| tt) (Ail G E h)
     exact sg G [r0, bt, r0, r0, en, wk [0, 1, 4, 5, 6] [4]] (aa b3 <| tt) (Az (V := N3) (F := F) (k := Ain) (S := λ v => Afh a1 r1 v.1 v.2) (λ v o h hl hr => Auw G E h hl hr K1) _ hi)
   · exact sg G [r0, bf, au, wk [0, 1, 4] [4]] (aa b3 <| tt) (Ail G E h)
 exact sg G [r0, en, wk [0, 1, 4] [4]] tt (Az (V := N3) (F := F) (k := Ai5) (S := λ v => Afc a1 v) (λ v o h hl hr => Aus G E h hl hr K1) _ hi)
noncomputable def Aey : FS yaE := ⟨[(.sl (.int .u32)), .bool], [(.nm 3)], [], [], λ x => Option.map (λ r => (r, ())) (Hk x.1 x.2.1)⟩
theorem Rk : MT 69 Aey := show Bh N3 _ _ _ from mt (fn := Try.f69) (S := λ x => A9a x.1 x.2.1) (GB trivial trivial) λ G _ _ _ _ E h => Bb2 G E h
noncomputable abbrev Pz : Env := EV [] [] false
noncomputable def Azg : List Item := [.code (Try.f70.body.getD .skip)]
noncomputable def Azx := ctl [.reg, .reg, .br true, .reg, .auto] Azg
noncomputable def Ye := ctl [.reg, .reg, .reg, .enter] Azx
noncomputable def A99 := ctl [.reg, .br true, .reg, .reg, .reg, .br true, .reg, .auto] Ye
noncomputable def Aob := ctl [.reg, .br false, .auto] Ye
abbrev Av2 (C : Ctx) (F : Act -> World -> Prop) (y : List Int) : Prop := Bz Pz C F Try.f70.results.toList [] [(.sl (.int .u32))] (y, ())
noncomputable def Zy (r1 : (Int × (List Int))) : ST := ⟨56, [(5, ol (.ar 19 0)), (6, ol (.int .u64 r1.1))], [(19, .arr 115 (.int .u32) r1.2 0 false)]⟩
noncomputable def A3l (v1 : List Int) (v2 : List Int) (v4 : Int) (v5 : List Int) (v6 : Int) : ST := ⟨56, [(0, ol (.sl (.int .u32) false v1)), (1, ol (.sl (.int .u32) false v2)), (5, ol (.ar 19 0)), (8, ol (.int .u64 v6)), (21, oi ((v1.length : Nat) : Int)), (22, oi v4)], [(19, .arr 115 (.int .u32) v5 0 false)]⟩
noncomputable def Aa4 (v1 : List Int) (v2 : List Int) (v3 : Int) (v4 : Int) (v5 : List Int) : ST := ⟨56, [(0, ol (.sl (.int .u32) false v1)), (1, ol (.sl (.int .u32) false v2)), (5, ol (.ar 19 0)), (6, ol (.int .u64 v3)), (21, oi ((v1.length : Nat) : Int)), (22, oi v4)], [(19, .arr 115 (.int .u32) v5 0 false)]⟩
noncomputable def A23 (v1 : List Int) (v2 : List Int) : ST := ⟨56, [(0, ol (.sl (.int .u32) false v1)), (1, ol (.sl (.int .u32) false v2))], []⟩
noncomputable def A7u (a0 : List Int) (a1 : List Int) : ST := ⟨56, [(0, ol (.sl (.int .u32) false a0)), (1, ol (.sl (.int .u32) false a1))], []⟩
theorem Aic (G : Ay Pz P) {y o r v1 v2 v4 v5 v6} (E : Av2 C F y) (h : Gh v1 v2 v4 v5 v6 = some o)
   (hl : ∀ v', o = .inl v' -> Am Pz P C F Ye (Aa4 v1 v2 v'.1 v'.2.1 v'.2.2)) (hr : ∀ r', o = .inr r' -> r' = r)
   (K1 : ∀ r1, r = r1 -> Am Pz P C F Aob (Zy r1)) : Am Pz P C F A99 (A3l v1 v2 v4 v5 v6) := by
 unfold Gh at h
 obtain ⟨c6, h⟩ := Ao h
 obtain ⟨c7, h⟩ := Ao h
 exact sg G [r0, r0, r0, en, .weak [.re 19 19 0, .keep [0, 1, 5, 6, 21, 22] [19]]] (aa c6 <| aa c7 <| tt) (hl _ (si h))
theorem Av5 (G : Ay Pz P) {y o r v1 v2 v3 v4 v5} (E : Av2 C F y) (h : I0 v1 v2 v3 v4 v5 = some o)
   (hl : ∀ v', o = .inl v' -> Am Pz P C F Ye (Aa4 v1 v2 v'.1 v'.2.1 v'.2.2)) (hr : ∀ r', o = .inr r' -> r' = r)
   (K1 : ∀ r1, r = r1 -> Am Pz P C F Aob (Zy r1)) : Am Pz P C F Ye (Aa4 v1 v2 v3 v4 v5) := by
 unfold I0 at h
 rcases Ad h with ⟨b2, h⟩ | ⟨b2, h⟩
 · obtain ⟨c4, h⟩ := Ao h
   rcases Ad h with ⟨b3, h⟩ | ⟨b3, h⟩
   · obtain ⟨c5, h⟩ := Ao h
     exact sg G [r0, bt, r0, r0, r0, bt, r0, au, wk [0, 1, 5, 8, 21, 22] [19]] (aa b2 <| aa c4 <| aa b3 <| aa c5 <| tt) (Aic G E h hl hr K1)
   · exact sg G [r0, bt, r0, r0, r0, bf, au, wk [0, 1, 5, 8, 21, 22] [19]] (aa b2 <| aa c4 <| aa b3 <| tt) (Aic G E h hl hr K1)
 · exact sg G [r0, bf, au, wk [5, 6] [19]] (aa b2 <| tt) (K1 _ (hr _ (si h)).symm)
theorem Ajx (G : Ay Pz P) {y v1 v2} (E : Av2 C F y) (h : F7 v1 v2 = some y) : Am Pz P C F Azx (A23 v1 v2) := by
 unfold F7 at h
 obtain ⟨c1, c2, c3, h⟩ := ns3 h
 obtain ⟨r1, hi, h⟩ := bind_some h
 have K1 : ∀ q, r1 = q -> Am Pz P C F Aob (Zy q) := by
   rintro q rfl
   obtain ⟨c8, h⟩ := Ao h
   have e := sj h; subst e
   exact se G E [r0, au, .weak [.fix (.slot 4)]] (aa c8 <| tt)
 exact sg G [r0, r0, r0, en, wk [0, 1, 5, 6, 21, 22] [19]] (aa c1 <| aa c2 <| aa c3 <| tt) (Az (V := Pz) (F := F) (k := Ye) (S := λ v => Aa4 v1 v2 v.1 v.2.1 v.2.2) (λ v o h hl hr => Av5 G E h hl hr K1) _ hi)
theorem A6p (G : Ay Pz P) {y a0 a1} (E : Av2 C F y) (h : H7 a0 a1 = some y) : Am Pz P C F Azg (A7u a0 a1) := by
 unfold H7 at h
 rcases Ad h with ⟨b1, h⟩ | ⟨b1, h⟩
 · exact sg G [r0, r0, bt, r0, au, wk [0, 1] []] (aa b1 <| tt) (Ajx G E h)
 · exact sg G [r0, r0, bf, au, wk [0, 1] []] (aa b1 <| tt) (Ajx G E h)
noncomputable def Aza : FS yaE := ⟨[(.sl (.int .u32)), (.sl (.int .u32))], [(.sl (.int .u32))], [], [], λ x => Option.map (λ r => (r, ())) (H7 x.1 x.2.1)⟩
theorem Ar9 : MT 70 Aza := show Bh Pz _ _ _ from mt (fn := Try.f70) (S := λ x => A7u x.1 x.2.1) (GB trivial trivial) λ G _ _ _ _ E h => A6p G E h
noncomputable abbrev Xz : Env := EV [] [] false
noncomputable def Ayg : List Item := [.code (Try.f71.body.getD .skip)]
noncomputable def Amh := ctl [.reg, .reg, .br false, .reg, .enter] Ayg
noncomputable def Ay8 := ctl [.reg, .br false, .auto] Amh
abbrev A8t (C : Ctx) (F : Act -> World -> Prop) (y : Int) : Prop := Bz Xz C F Try.f71.results.toList [] [(.int .i64)] (y, ())
noncomputable def Akx : ST := ⟨41, [], []⟩
noncomputable def Ag5 (a0 : List Int) (a1 : List Int) (v1 : Int) : ST := ⟨41, [(0, ol (.sl (.int .u32) false a0)), (1, ol (.sl (.int .u32) false a1)), (5, oi v1)], []⟩
noncomputable def Bbu (a0 : List Int) (a1 : List Int) : ST := ⟨41, [(0, ol (.sl (.int .u32) false a0)), (1, ol (.sl (.int .u32) false a1))], []⟩
theorem Avt (G : Ay Xz P) {y o r a0 a1 v1} (E : A8t C F y) (h : Iz a0 a1 v1 = some o)
   (hl : ∀ v', o = .inl v' -> Am Xz P C F Amh (Ag5 a0 a1 v')) (hr : ∀ r', o = .inr r' -> r' = r)
   (K1 : ∀ r1, r = (.inl r1) -> Am Xz P C F Ay8 Akx)
   (KR : ∀ r', r = (.inr r') -> r' = y) : Am Xz P C F Amh (Ag5 a0 a1 v1) := by
 unfold Iz at h
 rcases Ad h with ⟨b3, h⟩ | ⟨b3, h⟩
 · obtain ⟨c1, c2, h⟩ := ns2 h
   rcases Ad h with ⟨b4, h⟩ | ⟨b4, h⟩
   · obtain ⟨c3, c4, h⟩ := ns2 h
     rcases Ad h with ⟨b5, h⟩ | ⟨b5, h⟩
     · have e := KR _ (hr _ (si h)).symm; subst e
       exact se G E [r0, bt, r0, bt, r0, bt, r0, au] (aa b3 <| aa c1 <| aa c2 <| aa b4 <| aa c3 <| aa c4 <| aa b5 <| tt)
     · have e := KR _ (hr _ (si h)).symm; subst e
       exact se G E [r0, bt, r0, bt, r0, bf, r0, au] (aa b3 <| aa c1 <| aa c2 <| aa b4 <| aa c3 <| aa c4 <| aa b5 <| tt)
   · exact sg G [r0, bt, r0, bf, r0, en, wk [0, 1, 5] []] (aa b3 <| aa c1 <| aa c2 <| aa b4 <| tt) (hl _ (si h))
 · exact sg G [r0, bf, au, wk [] []] (aa b3 <| tt) (K1 _ (hr _ (si h)).symm)
theorem A6k (G : Ay Xz P) {y a0 a1} (E : A8t C F y) (h : Gq a0 a1 = some y) : Am Xz P C F Ayg (Bbu a0 a1) := by
 unfold Gq at h
 rcases Ad h with ⟨b1, h⟩ | ⟨b1, h⟩
 · rcases Ad h with ⟨b2, h⟩ | ⟨b2, h⟩
   · have e := sj h; subst e
     exact se G E [r0, r0, bt, r0, bt, r0, au] (aa b1 <| aa b2 <| tt)
   · have e := sj h; subst e
     exact se G E [r0, r0, bt, r0, bf, r0, au] (aa b1 <| aa b2 <| tt)
 · obtain ⟨r, hi, h⟩ := bind_some h
   have K1 : ∀ r1, r = (.inl r1) -> Am Xz P C F Ay8 Akx := by
     rintro r1 rfl
     have e := sj h; subst e
     exact se G E [r0, au] tt
   have KR : ∀ r2, r = (.inr r2) -> r2 = y := by
     rintro r2 rfl
     exact Option.some.inj h
   exact sg G [r0, r0, bf, r0, en, wk [0, 1, 5] []] (aa b1 <| tt) (Az (V := Xz) (F := F) (k := Amh) (S := λ v => Ag5 a0 a1 v) (λ v o h hl hr => Avt G E h hl hr K1 KR) _ hi)
noncomputable def Aq7 : FS yaE := ⟨[(.sl (.int .u32)), (.sl (.int .u32))], [(.int .i64)], [], [], λ x => Option.map (λ r => (r, ())) (Gq x.1 x.2.1)⟩
theorem Acq : MT 71 Aq7 := show Bh Xz _ _ _ from mt (fn := Try.f71) (S := λ x => Bbu x.1 x.2.1) (GB trivial trivial) λ G _ _ _ _ E h => A6k G E h
noncomputable abbrev N4 : Env := EV [] [] false
noncomputable def Aw9 : List Item := [.code (Try.f72.body.getD .skip)]
noncomputable def Xc := ctl [.reg, .reg, .reg, .reg, .enter] Aw9
noncomputable def Azb := ctl [.reg, .br true, .reg, .reg, .reg, .br true, .reg, .auto] Xc
noncomputable def Bcq := ctl [.reg, .reg, .br true, .reg, .auto] Azb
noncomputable def Ak1 := ctl [.reg, .br false, .auto] Xc
abbrev At5 (C : Ctx) (F : Act -> World -> Prop) (y : List Int) : Prop := Bz N4 C F Try.f72.results.toList [] [(.sl (.int .u32))] (y, ())
noncomputable def Ur (r1 : List Int) : ST := ⟨46, [(5, ol (.ar 11 0))], [(11, .arr 115 (.int .u32) r1 0 false)]⟩
noncomputable def A3s (a0 : List Int) (a1 : List Int) (v2 : Int) (v3 : List Int) (v5 : Int) (v6 : Int) : ST := ⟨46, [(0, ol (.sl (.int .u32) false a0)), (1, ol (.sl (.int .u32) false a1)), (5, ol (.ar 11 0)), (6, oi v5), (8, oi v6), (13, oi ((a0.length : Nat) : Int)), (14, oi v2)], [(11, .arr 115 (.int .u32) v3 0 false)]⟩
noncomputable def A2t (a0 : List Int) (a1 : List Int) (v2 : Int) (v3 : List Int) (v4 : Int) : ST := ⟨46, [(0, ol (.sl (.int .u32) false a0)), (1, ol (.sl (.int .u32) false a1)), (5, ol (.ar 11 0)), (8, oi v4), (13, oi ((a0.length : Nat) : Int)), (14, oi v2)], [(11, .arr 115 (.int .u32) v3 0 false)]⟩
noncomputable def Vb (a0 : List Int) (a1 : List Int) (v1 : Int) (v2 : Int) (v3 : List Int) : ST := ⟨46, [(0, ol (.sl (.int .u32) false a0)), (1, ol (.sl (.int .u32) false a1)), (5, ol (.ar 11 0)), (6, oi v1), (13, oi ((a0.length : Nat) : Int)), (14, oi v2)], [(11, .arr 115 (.int .u32) v3 0 false)]⟩
noncomputable def A6s (a0 : List Int) (a1 : List Int) : ST := ⟨46, [(0, ol (.sl (.int .u32) false a0)), (1, ol (.sl (.int .u32) false a1))], []⟩
theorem Ajs (G : Ay N4 P) {y o r a0 a1 v2 v3 v5 v6} (E : At5 C F y) (h : F5 a0 a1 v2 v3 v5 v6 = some o)
   (hl : ∀ v', o = .inl v' -> Am N4 P C F Xc (Vb a0 a1 v'.1 v'.2.1 v'.2.2)) (hr : ∀ r', o = .inr r' -> r' = r)
   (K1 : ∀ r1, r = r1 -> Am N4 P C F Ak1 (Ur r1)) : Am N4 P C F Bcq (A3s a0 a1 v2 v3 v5 v6) := by
 unfold F5 at h
 obtain ⟨c6, h⟩ := Ao h
 exact sg G [r0, r0, en, .weak [.re 11 11 0, .keep [0, 1, 5, 6, 13, 14] [11]]] (aa c6 <| tt) (hl _ (si h))
theorem Ais (G : Ay N4 P) {y o r a0 a1 v2 v3 v4} (E : At5 C F y) (h : Gg a0 a1 v2 v3 v4 = some o)
   (hl : ∀ v', o = .inl v' -> Am N4 P C F Xc (Vb a0 a1 v'.1 v'.2.1 v'.2.2)) (hr : ∀ r', o = .inr r' -> r' = r)
   (K1 : ∀ r1, r = r1 -> Am N4 P C F Ak1 (Ur r1)) : Am N4 P C F Azb (A2t a0 a1 v2 v3 v4) := by
 unfold Gg at h
 rcases Ad h with ⟨b3, h⟩ | ⟨b3, h⟩
 · exact sg G [r0, r0, bt, r0, au, wk [0, 1, 5, 6, 8, 13, 14] [11]] (aa b3 <| tt) (Ajs G E h hl hr K1)
 · exact sg G [r0, r0, bf, au, wk [0, 1, 5, 6, 8, 13, 14] [11]] (aa b3 <| tt) (Ajs G E h hl hr K1)
theorem Awp (G : Ay N4 P) {y o r a0 a1 v1 v2 v3} (E : At5 C F y) (h : I5 a0 a1 v1 v2 v3 = some o)
   (hl : ∀ v', o = .inl v' -> Am N4 P C F Xc (Vb a0 a1 v'.1 v'.2.1 v'.2.2)) (hr : ∀ r', o = .inr r' -> r' = r)
   (K1 : ∀ r1, r = r1 -> Am N4 P C F Ak1 (Ur r1)) : Am N4 P C F Xc (Vb a0 a1 v1 v2 v3) := by
 unfold I5 at h
 rcases Ad h with ⟨b1, h⟩ | ⟨b1, h⟩
 · obtain ⟨c4, h⟩ := Ao h
   rcases Ad h with ⟨b2, h⟩ | ⟨b2, h⟩
   · obtain ⟨c5, h⟩ := Ao h
     exact sg G [r0, bt, r0, r0, r0, bt, r0, au, wk [0, 1, 5, 8, 13, 14] [11]] (aa b1 <| aa c4 <| aa b2 <| aa c5 <| tt) (Ais G E h hl hr K1)
   · exact sg G [r0, bt, r0, r0, r0, bf, au, wk [0, 1, 5, 8, 13, 14] [11]] (aa b1 <| aa c4 <| aa b2 <| tt) (Ais G E h hl hr K1)
 · exact sg G [r0, bf, au, wk [5] [11]] (aa b1 <| tt) (K1 _ (hr _ (si h)).symm)
theorem Bbm (G : Ay N4 P) {y a0 a1} (E : At5 C F y) (h : Gl a0 a1 = some y) : Am N4 P C F Aw9 (A6s a0 a1) := by
 unfold Gl at h
 obtain ⟨c1, c2, c3, h⟩ := ns3 h
 obtain ⟨r1, hi, h⟩ := bind_some h
 have K1 : ∀ q, r1 = q -> Am N4 P C F Ak1 (Ur q) := by
   rintro q rfl
   have e := sj h; subst e
   exact se G E [r0, au, .weak [.fix (.slot 4)]] tt
 exact sg G [r0, r0, r0, r0, en, wk [0, 1, 5, 6, 13, 14] [11]] (aa c1 <| aa c2 <| aa c3 <| tt) (Az (V := N4) (F := F) (k := Xc) (S := λ v => Vb a0 a1 v.1 v.2.1 v.2.2) (λ v o h hl hr => Awp G E h hl hr K1) _ hi)
noncomputable def Azm : FS yaE := ⟨[(.sl (.int .u32)), (.sl (.int .u32))], [(.sl (.int .u32))], [], [], λ x => Option.map (λ r => (r, ())) (Gl x.1 x.2.1)⟩
theorem Apg : MT 72 Azm := show Bh N4 _ _ _ from mt (fn := Try.f72) (S := λ x => A6s x.1 x.2.1) (GB trivial trivial) λ G _ _ _ _ E h => Bbm G E h
noncomputable abbrev Amv : Env := EV [(68, Acn), (69, Aey), (70, Aza), (71, Aq7), (72, Azm)] [] false
noncomputable def Azs : List Item := [.code (Try.f45.body.getD .skip)]
noncomputable def Bcg := ctl [.reg, .reg, .br true, .reg, .reg, .br false, .auto] Azs
abbrev A4u (C : Ctx) (F : Act -> World -> Prop) (y : A6) : Prop := Bz Amv C F Try.f45.results.toList [] [(.nm 3)] (y, ())
noncomputable def A3z (a0 : A6) (a1 : A6) : ST := ⟨65, [(2, ol (.ptr 2 0)), (3, ol (.ptr 3 0)), (4, ol (.ptr 4 0))], [(2, .cells [.int .i64 a0.v, .sl (.int .u32) true a0.m, .bool a0.neg]), (3, .cells [.int .i64 a1.v, .sl (.int .u32) true a1.m, .bool a1.neg]), (4, .cells [.int .i64 (0 : Int), .sl (.int .u32) true [], .bool false])]⟩
noncomputable def A5w (a0 : A6) (a1 : A6) : ST := ⟨65, [(0, og (Cs a0)), (1, og (Cs a1))], []⟩
theorem Ab5 (G : Ay Amv P) {y a0 a1} (E : A4u C F y) (h : Iq a0 a1 = some y) : Am Amv P C F Bcg (A3z a0 a1) := by
 unfold Iq at h
 obtain ⟨y1, c1, h⟩ := bind_some h
 obtain ⟨y2, c2, h⟩ := bind_some h
 rcases Ad h with ⟨b4, h⟩ | ⟨b4, h⟩
 · obtain ⟨y3, c3, h⟩ := bind_some h
   obtain ⟨y4, c4, h⟩ := bind_some h
   have e := sj h; subst e
   exact se G E [.reg [(1, .res ⟨[(.sl (.int .u32)), .bool], (y1.1, y1.2, ())⟩)], .reg [(1, .res ⟨[(.sl (.int .u32)), .bool], (y2.1, y2.2, ())⟩)], r0, bt, .reg [(2, .res ⟨[(.sl (.int .u32))], (y3, ())⟩), (4, .res ⟨[(.nm 3)], (y4, ())⟩)], au] (aa (cb c1) <| aa (cb c2) <| aa b4 <| aa (ca c3) <| aa (ca c4) <| tt)
 · obtain ⟨y5, c5, h⟩ := bind_some h
   rcases Ad h with ⟨b5, h⟩ | ⟨b5, h⟩
   · obtain ⟨y6, c6, h⟩ := bind_some h
     obtain ⟨y7, c7, h⟩ := bind_some h
     have e := sj h; subst e
     exact se G E [.reg [(1, .res ⟨[(.sl (.int .u32)), .bool], (y1.1, y1.2, ())⟩)], .reg [(1, .res ⟨[(.sl (.int .u32)), .bool], (y2.1, y2.2, ())⟩)], r0, bf, .reg [(2, .res ⟨[(.int .i64)], (y5, ())⟩)], bt, .reg [(2, .res ⟨[(.sl (.int .u32))], (y6, ())⟩), (4, .res ⟨[(.nm 3)], (y7, ())⟩)], au] (aa (cb c1) <| aa (cb c2) <| aa b4 <| aa (ca c5) <| aa b5 <| aa (ca c6) <| aa (ca c7) <| tt)
   · obtain ⟨y8, c8, h⟩ := bind_some h
     obtain ⟨y9, c9, h⟩ := bind_some h
     have e := sj h; subst e
     exact se G E [.reg [(1, .res ⟨[(.sl (.int .u32)), .bool], (y1.1, y1.2, ())⟩)], .reg [(1, .res ⟨[(.sl (.int .u32)), .bool], (y2.1, y2.2, ())⟩)], r0, bf, .reg [(2, .res ⟨[(.int .i64)], (y5, ())⟩)], bf, .reg [(2, .res ⟨[(.sl (.int .u32))], (y8, ())⟩), (4, .res ⟨[(.nm 3)], (y9, ())⟩)], au] (aa (cb c1) <| aa (cb c2) <| aa b4 <| aa (ca c5) <| aa b5 <| aa (ca c8) <| aa (ca c9) <| tt)
theorem A5n (G : Ay Amv P) {y a0 a1} (E : A4u C F y) (h : Ld a0 a1 = some y) : Am Amv P C F Azs (A5w a0 a1) := by
 unfold Ld at h
 rcases Ad h with ⟨b1, h⟩ | ⟨b1, h⟩
 · rcases Ad h with ⟨b2, h⟩ | ⟨b2, h⟩
   · rcases Ad h with ⟨b3, h⟩ | ⟨b3, h⟩
     · have e := sj h; subst e
       exact se G E [r0, .reg [(3, oT), (7, oT)], bt, r0, r0, bt, r0, au] (aa b1 <| aa b1 <| aa b1 <| aa b1 <| aa b2 <| aa b3 <| tt)
     · exact sg G [r0, .reg [(3, oT), (7, oT)], bt, r0, r0, bf, au, wk [2, 3, 4] [2, 3, 4]] (aa b1 <| aa b1 <| aa b1 <| aa b1 <| aa b2 <| aa b3 <| tt) (Ab5 G E h)
   · exact sg G [r0, .reg [(3, oT), (7, oT)], bf, au, wk [2, 3, 4] [2, 3, 4]] (aa b1 <| aa b1 <| aa b1 <| aa b1 <| aa b2 <| tt) (Ab5 G E h)
 · exact sg G [r0, .reg [(3, oF), (7, oF)], bf, au, wk [2, 3, 4] [2, 3, 4]] (aa b1 <| aa b1 <| aa b1 <| aa b1 <| aa (show false = false from rfl) <| tt) (Ab5 G E h)
noncomputable def Apo : FS yaE := ⟨[(.nm 3), (.nm 3)], [(.nm 3)], [], [], λ x => Option.map (λ r => (r, ())) (Ld x.1 x.2.1)⟩
theorem Ac9 : MT 45 Apo := show Bh Amv _ _ _ from mt (fn := Try.f45) (S := λ x => A5w x.1 x.2.1) (GB ⟨Q6, Rk, Ar9, Acq, Apg, trivial⟩ trivial) λ G _ _ _ _ E h => A5n G E h
noncomputable abbrev Anr : Env := EV [(68, Acn), (69, Aey)] [] false
noncomputable def A0a : List Item := [.code (Try.f73.body.getD .skip)]
noncomputable def A94 := ctl [.reg, .reg, .br false, .auto] A0a
abbrev A9s (C : Ctx) (F : Act -> World -> Prop) (y : A6) : Prop := Bz Anr C F Try.f73.results.toList [] [(.nm 3)] (y, ())
noncomputable def A31 (a0 : A6) : ST := ⟨26, [(1, ol (.ptr 1 0)), (2, ol (.ptr 2 0))], [(1, .cells [.int .i64 a0.v, .sl (.int .u32) true a0.m, .bool a0.neg]), (2, .cells [.int .i64 (0 : Int), .sl (.int .u32) true [], .bool false])]⟩
noncomputable def A8s (a0 : A6) : ST := ⟨26, [(0, og (Cs a0))], []⟩
theorem Al9 (G : Ay Anr P) {y a0} (E : A9s C F y) (h : Kf a0 = some y) : Am Anr P C F A94 (A31 a0) := by
 unfold Kf at h
 obtain ⟨y1, c1, h⟩ := bind_some h
 obtain ⟨y2, c2, h⟩ := bind_some h
 have e := sj h; subst e
 exact se G E [.reg [(1, .res ⟨[(.sl (.int .u32)), .bool], (y1.1, y1.2, ())⟩)], .reg [(3, .res ⟨[(.nm 3)], (y2, ())⟩)], au] (aa (cb c1) <| aa (ca c2) <| tt)
theorem A6i (G : Ay Anr P) {y a0} (E : A9s C F y) (h : I3 a0 = some y) : Am Anr P C F A0a (A8s a0) := by
 unfold I3 at h
 rcases Ad h with ⟨b1, h⟩ | ⟨b1, h⟩
 · rcases Ad h with ⟨b2, h⟩ | ⟨b2, h⟩
   · have e := sj h; subst e
     exact se G E [r0, .reg [(3, oT), (7, oT)], bt, r0, au] (aa b1 <| aa b1 <| aa b1 <| aa b1 <| aa b2 <| tt)
   · exact sg G [r0, .reg [(3, oT), (7, oT)], bf, au, wk [1, 2] [1, 2]] (aa b1 <| aa b1 <| aa b1 <| aa b1 <| aa b2 <| tt) (Al9 G E h)
 · exact sg G [r0, .reg [(3, oF), (7, oF)], bf, au, wk [1, 2] [1, 2]] (aa b1 <| aa b1 <| aa b1 <| aa b1 <| aa (show false = false from rfl) <| tt) (Al9 G E h)
noncomputable def Aem : FS yaE := ⟨[(.nm 3)], [(.nm 3)], [], [], λ x => Option.map (λ r => (r, ())) (I3 x.1)⟩
theorem Q1 : MT 73 Aem := show Bh Anr _ _ _ from mt (fn := Try.f73) (S := λ x => A8s x.1) (GB ⟨Q6, Rk, trivial⟩ trivial) λ G _ _ _ _ E h => A6i G E h
noncomputable abbrev Au8 : Env := EV [(45, Apo), (73, Aem)] [] false
noncomputable def Bab : List Item := [.code (Try.f92.body.getD .skip)]
abbrev Bdh (C : Ctx) (F : Act -> World -> Prop) (y : A6) : Prop := Bz Au8 C F Try.f92.results.toList [] [(.nm 3)] (y, ())
noncomputable def Ba3 (a0 : A6) (a1 : A6) : ST := ⟨9, [(0, og (Cs a0)), (1, og (Cs a1))], []⟩
theorem A82 (G : Ay Au8 P) {y a0 a1} (E : Bdh C F y) (h : Pe a0 a1 = some y) : Am Au8 P C F Bab (Ba3 a0 a1) := by
 unfold Pe at h
 obtain ⟨y1, c1, h⟩ := bind_some h
 obtain ⟨y2, c2, h⟩ := bind_some h
 have e := sj h; subst e
 exact se G E [r0, .reg [(2, .res ⟨[(.nm 3)], (y1, ())⟩), (3, .res ⟨[(.nm 3)], (y2, ())⟩)], au] (aa (ca c1) <| aa (ca c2) <| tt)
noncomputable def Ayi : FS yaE := ⟨[(.nm 3), (.nm 3)], [(.nm 3)], [], [], λ x => Option.map (λ r => (r, ())) (Pe x.1 x.2.1)⟩
theorem Aru : MT 92 Ayi := show Bh Au8 _ _ _ from mt (fn := Try.f92) (S := λ x => Ba3 x.1 x.2.1) (GB ⟨Ac9, Q1, trivial⟩ trivial) λ G _ _ _ _ E h => A82 G E h
noncomputable abbrev Amm : Env := EV [(61, Yc), (92, Ayi)] [] false
noncomputable def Ax8 : List Item := [.code (Try.f67.body.getD .skip)]
noncomputable def A6o := ctl [.reg, .reg, .br false, .auto] Ax8
abbrev A58 (C : Ctx) (F : Act -> World -> Prop) (y : Int) : Prop := Bz Amm C F Try.f67.results.toList [] [(.int .i64)] (y, ())
noncomputable def A1w (a0 : A6) (a1 : A6) : ST := ⟨29, [(2, ol (.ptr 2 0)), (3, ol (.ptr 3 0))], [(2, .cells [.int .i64 a0.v, .sl (.int .u32) true a0.m, .bool a0.neg]), (3, .cells [.int .i64 a1.v, .sl (.int .u32) true a1.m, .bool a1.neg])]⟩
noncomputable def A4o (a0 : A6) (a1 : A6) : ST := ⟨29, [(0, og (Cs a0)), (1, og (Cs a1))], []⟩
theorem Ahy (G : Ay Amm P) {y a0 a1} (E : A58 C F y) (h : Kb a0 a1 = some y) : Am Amm P C F A6o (A1w a0 a1) := by
 unfold Kb at h
 obtain ⟨y1, c1, h⟩ := bind_some h
 obtain ⟨y2, c2, h⟩ := bind_some h
 have e := sj h; subst e
 exact se G E [.reg [(2, .res ⟨[(.nm 3)], (y1, ())⟩), (3, .res ⟨[(.int .i64)], (y2, ())⟩)], au] (aa (ca c1) <| aa (ca c2) <| tt)
theorem A9n (G : Ay Amm P) {y a0 a1} (E : A58 C F y) (h : Pa a0 a1 = some y) : Am Amm P C F Ax8 (A4o a0 a1) := by
 unfold Pa at h
 rcases Ad h with ⟨b1, h⟩ | ⟨b1, h⟩
 · rcases Ad h with ⟨b2, h⟩ | ⟨b2, h⟩
   · rcases Ad h with ⟨b3, h⟩ | ⟨b3, h⟩
     · have e := sj h; subst e
       exact se G E [r0, .reg [(3, oT), (7, oT)], bt, r0, bt, r0, au] (aa b1 <| aa b1 <| aa b1 <| aa b1 <| aa b2 <| aa b3 <| tt)
     · rcases Ad h with ⟨b4, h⟩ | ⟨b4, h⟩
       · have e := sj h; subst e
         exact se G E [r0, .reg [(3, oT), (7, oT)], bt, r0, bf, r0, bt, r0, au] (aa b1 <| aa b1 <| aa b1 <| aa b1 <| aa b2 <| aa b3 <| aa b4 <| tt)
       · have e := sj h; subst e
         exact se G E [r0, .reg [(3, oT), (7, oT)], bt, r0, bf, r0, bf, r0, au] (aa b1 <| aa b1 <| aa b1 <| aa b1 <| aa b2 <| aa b3 <| aa b4 <| tt)
   · exact sg G [r0, .reg [(3, oT), (7, oT)], bf, au, wk [2, 3] [2, 3]] (aa b1 <| aa b1 <| aa b1 <| aa b1 <| aa b2 <| tt) (Ahy G E h)
 · exact sg G [r0, .reg [(3, oF), (7, oF)], bf, au, wk [2, 3] [2, 3]] (aa b1 <| aa b1 <| aa b1 <| aa b1 <| aa (show false = false from rfl) <| tt) (Ahy G E h)
noncomputable def Ax3 : FS yaE := ⟨[(.nm 3), (.nm 3)], [(.int .i64)], [], [], λ x => Option.map (λ r => (r, ())) (Pa x.1 x.2.1)⟩
theorem Aox : MT 67 Ax3 := show Bh Amm _ _ _ from mt (fn := Try.f67) (S := λ x => A4o x.1 x.2.1) (GB ⟨Ow, Aru, trivial⟩ trivial) λ G _ _ _ _ E h => A9n G E h
noncomputable abbrev Avc : Env := EV [(43, Ah8), (67, Ax3)] [] false
noncomputable def A8a : List Item := [.code (Try.f44.body.getD .skip)]
abbrev Bd0 (C : Ctx) (F : Act -> World -> Prop) (y : Bool) : Prop := Bz Avc C F Try.f44.results.toList [] [.bool] (y, ())
noncomputable def A5e (a0 : Aj) : ST := ⟨8, [(0, og (Dy a0))], []⟩
theorem A92 (G : Ay Avc P) {y a0} (E : Bd0 C F y) (h : G0 a0 = some y) : Am Avc P C F A8a (A5e a0) := by
 unfold G0 at h
 obtain ⟨y1, c1, h⟩ := bind_some h
 obtain ⟨y2, c2, h⟩ := bind_some h
 have e := sj h; subst e
 exact se G E [r0, .reg [(2, .res ⟨[(.nm 3)], (y1, ())⟩), (3, .res ⟨[(.int .i64)], (y2, ())⟩)], au] (aa (ca c1) <| aa (ca c2) <| tt)
noncomputable def Aqz : FS yaE := ⟨[(.nm 4)], [.bool], [], [], λ x => Option.map (λ r => (r, ())) (G0 x.1)⟩
theorem Acu : MT 44 Aqz := show Bh Avc _ _ _ from mt (fn := Try.f44) (S := λ x => A5e x.1) (GB ⟨Wg, Aox, trivial⟩ trivial) λ G _ _ _ _ E h => A92 G E h
noncomputable abbrev Acp : Env := EV [] [] false
noncomputable def Azc : List Item := [.code (Try.f98.body.getD .skip)]
noncomputable def Axz := ctl [.reg, .reg, .br true, .reg, .reg, .auto] Azc
noncomputable def Bct := ctl [.reg, .br true, .reg, .reg, .auto] Axz
abbrev A13 (C : Ctx) (F : Act -> World -> Prop) (y : Int) : Prop := Bz Acp C F Try.f98.results.toList [] [(.int .i64)] (y, ())
noncomputable def A1h (v3 : Int) (v4 : Int) : ST := ⟨19, [(0, ol (.int .u32 v3)), (2, oi v4)], []⟩
noncomputable def A3n (v1 : Int) (v2 : Int) : ST := ⟨19, [(0, ol (.int .u32 v1)), (2, oi v2)], []⟩
noncomputable def Bcc (a0 : Int) : ST := ⟨19, [(0, ol (.int .u32 a0))], []⟩
theorem Aiv (G : Ay Acp P) {y v3 v4} (E : A13 C F y) (h : Hz v3 v4 = some y) : Am Acp P C F Bct (A1h v3 v4) := by
 unfold Hz at h
 obtain ⟨c3, h⟩ := Ao h
 have e := sj h; subst e
 exact se G E [r0, au] (aa c3 <| tt)
theorem Aik (G : Ay Acp P) {y v1 v2} (E : A13 C F y) (h : Hw v1 v2 = some y) : Am Acp P C F Axz (A3n v1 v2) := by
 unfold Hw at h
 rcases Ad h with ⟨b2, h⟩ | ⟨b2, h⟩
 · obtain ⟨c2, h⟩ := Ao h
   exact sg G [r0, bt, r0, r0, au, wk [0, 2] []] (aa b2 <| aa c2 <| tt) (Aiv G E h)
 · exact sg G [r0, bf, au, wk [0, 2] []] (aa b2 <| tt) (Aiv G E h)
theorem Bbd (G : Ay Acp P) {y a0} (E : A13 C F y) (h : Jx a0 = some y) : Am Acp P C F Azc (Bcc a0) := by
 unfold Jx at h
 rcases Ad h with ⟨b1, h⟩ | ⟨b1, h⟩
 · obtain ⟨c1, h⟩ := Ao h
   exact sg G [r0, r0, bt, r0, r0, au, wk [0, 2] []] (aa b1 <| aa c1 <| tt) (Aik G E h)
 · exact sg G [r0, r0, bf, au, wk [0, 2] []] (aa b1 <| tt) (Aik G E h)
noncomputable def Ax9 : FS yaE := ⟨[(.int .u32)], [(.int .i64)], [], [], λ x => Option.map (λ r => (r, ())) (Jx x.1)⟩
theorem Aq2 : MT 98 Ax9 := show Bh Acp _ _ _ from mt (fn := Try.f98) (S := λ x => Bcc x.1) (GB trivial trivial) λ G _ _ _ _ E h => Bbd G E h
noncomputable abbrev As7 : Env := EV [(98, Ax9)] [] false
noncomputable def Bb5 : List Item := [.code (Try.f95.body.getD .skip)]
abbrev Bdl (C : Ctx) (F : Act -> World -> Prop) (y : Int) : Prop := Bz As7 C F Try.f95.results.toList [] [(.int .i64)] (y, ())
noncomputable def Bck (a0 : Int) : ST := ⟨6, [(0, ol (.int .u32 a0))], []⟩
theorem A42 (G : Ay As7 P) {y a0} (E : Bdl C F y) (h : C3 a0 = some y) : Am As7 P C F Bb5 (Bck a0) := by
 unfold C3 at h
 obtain ⟨y1, c1, h⟩ := bind_some h
 have e := sj h; subst e
 exact se G E [r0, .reg [(1, .res ⟨[(.int .i64)], (y1, ())⟩)], au] (aa (ca c1) <| tt)
noncomputable def Asr : FS yaE := ⟨[(.int .u32)], [(.int .i64)], [], [], λ x => Option.map (λ r => (r, ())) (C3 x.1)⟩
theorem Ad7 : MT 95 Asr := show Bh As7 _ _ _ from mt (fn := Try.f95) (S := λ x => Bck x.1) (GB ⟨Aq2, trivial⟩ trivial) λ G _ _ _ _ E h => A42 G E h
end
end Go.Ab
