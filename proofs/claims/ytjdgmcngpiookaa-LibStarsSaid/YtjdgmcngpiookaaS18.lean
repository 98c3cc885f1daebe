/- The functions compute what the plain functions tell. Conditions: none beyond those that each theorem names. -/
import Derived.Test.YtjdgmcngpiookaaS17
namespace Go.Ab
open Go Go.Proofs
set_option linter.unusedVariables false
section
variable {P : Program} {C : Ctx} {F : Act -> World -> Prop}
noncomputable abbrev Av7 : Env := EV [(65, Akk), (87, Ap6)] [] false
noncomputable def A8k : List Item := [.code (Try.f55.body.getD .skip)]
abbrev Bc7 (C : Ctx) (F : Act -> World -> Prop) (y : Af) : Prop := Bz Av7 C F Try.f55.results.toList [] [(.nm 6)] (y, ())
noncomputable def Bby (a0 : Ag) : ST := ⟨9, [(0, og (Bw a0))], []⟩
theorem Bbn (G : Ay Av7 P) {y a0} (E : Bc7 C F y) (h : By a0 = some y) : Am Av7 P C F A8k (Bby a0) := by
 unfold By at h
 obtain ⟨y1, c1, h⟩ := bind_some h
 rcases Ad h with ⟨b1, h⟩ | ⟨b1, h⟩
 · obtain ⟨y2, c2, h⟩ := bind_some h
   have e := sj h; subst e
   exact se G E [r0, .reg [(2, .res ⟨[.bool], (y1, ())⟩)], bt, .reg [(0, .res ⟨[(.nm 6)], (y2, ())⟩)], au] (aa (ca c1) <| aa b1 <| aa (ca c2) <| tt)
 · have e := sj h; subst e
   exact se G E [r0, .reg [(2, .res ⟨[.bool], (y1, ())⟩)], bf, r0, au] (aa (ca c1) <| aa b1 <| tt)
noncomputable def Aed : FS yaE := ⟨[(.nm 7)], [(.nm 6)], [], [], λ x => Option.map (λ r => (r, ())) (By x.1)⟩
theorem Rt : MT 55 Aed := show Bh Av7 _ _ _ from mt (fn := Try.f55) (S := λ x => Bby x.1) (GB ⟨Wo, Aeo, trivial⟩ trivial) λ G _ _ _ _ E h => Bbn G E h
noncomputable abbrev Pw : Env := EV [(86, Y6)] [] false
noncomputable def Axy : List Item := [.code (Try.f88.body.getD .skip)]
noncomputable def Adv := ctl [.reg, .reg, .reg, .enter] Axy
noncomputable def Aix := ctl [.reg, .br true, .reg, .reg, .enter] Adv
noncomputable def A04 := ctl [.reg, .br false, .auto] Aix
noncomputable def A0j := ctl [.reg, .br false, .auto] Adv
abbrev A10 (C : Ctx) (F : Act -> World -> Prop) (y : List Int) : Prop := Bz Pw C F Try.f88.results.toList [] [(.sl (.int .u32))] (y, ())
noncomputable def Akq (a0 : List Int) (a1 : List Int) (v1 : Int) (r1 : (Int × (List Int))) : ST := ⟨67, [(0, ol (.sl (.int .u32) false a0)), (1, ol (.sl (.int .u32) false a1)), (5, ol (.ar 14 0)), (6, oi v1), (7, ol (.int .u64 r1.1))], [(14, .arr 115 (.int .u32) r1.2 0 false)]⟩
noncomputable def Ak3 (r2 : List Int) : ST := ⟨67, [(5, ol (.ar 14 0))], [(14, .arr 115 (.int .u32) r2 0 false)]⟩
noncomputable def Ags (a0 : List Int) (a1 : List Int) (v1 : Int) (v3 : Int) (v4 : Int) (v5 : List Int) : ST := ⟨67, [(0, ol (.sl (.int .u32) false a0)), (1, ol (.sl (.int .u32) false a1)), (5, ol (.ar 14 0)), (6, oi v1), (7, ol (.int .u64 v3)), (8, oi v4)], [(14, .arr 115 (.int .u32) v5 0 false)]⟩
noncomputable def Agh (a0 : List Int) (a1 : List Int) (v1 : Int) (v2 : List Int) : ST := ⟨67, [(0, ol (.sl (.int .u32) false a0)), (1, ol (.sl (.int .u32) false a1)), (5, ol (.ar 14 0)), (6, oi v1)], [(14, .arr 115 (.int .u32) v2 0 false)]⟩
noncomputable def Bcj (a0 : List Int) (a1 : List Int) : ST := ⟨67, [(0, ol (.sl (.int .u32) false a0)), (1, ol (.sl (.int .u32) false a1))], []⟩
theorem Ave (G : Ay Pw P) {y o r a0 a1 v1 v3 v4 v5} (E : A10 C F y) (h : D6 a0 a1 v1 v3 v4 v5 = some o)
   (hl : ∀ v', o = .inl v' -> Am Pw P C F Aix (Ags a0 a1 v1 v'.1 v'.2.1 v'.2.2)) (hr : ∀ r', o = .inr r' -> r' = r)
   (K1 : ∀ r1, r = r1 -> Am Pw P C F A04 (Akq a0 a1 v1 r1)) : Am Pw P C F Aix (Ags a0 a1 v1 v3 v4 v5) := by
 unfold D6 at h
 rcases Ad h with ⟨b2, h⟩ | ⟨b2, h⟩
 · obtain ⟨c4, c5, c6, h⟩ := ns3 h
   obtain ⟨c7, h⟩ := Ao h
   obtain ⟨c8, h⟩ := Ao h
   exact sg G [r0, bt, r0, r0, r0, r0, en, wk [0, 1, 5, 6, 7, 8] [14]] (aa b2 <| aa c4 <| aa c5 <| aa c6 <| aa c7 <| aa c8 <| tt) (hl _ (si h))
 · exact sg G [r0, bf, au, wk [0, 1, 5, 6, 7] [14]] (aa b2 <| tt) (K1 _ (hr _ (si h)).symm)
theorem Auv (G : Ay Pw P) {y o r a0 a1 v1 v2} (E : A10 C F y) (h : D5 a0 a1 v1 v2 = some o)
   (hl : ∀ v', o = .inl v' -> Am Pw P C F Adv (Agh a0 a1 v'.1 v'.2)) (hr : ∀ r', o = .inr r' -> r' = r)
   (K1 : ∀ r2, r = r2 -> Am Pw P C F A0j (Ak3 r2)) : Am Pw P C F Adv (Agh a0 a1 v1 v2) := by
 unfold D5 at h
 rcases Ad h with ⟨b1, h⟩ | ⟨b1, h⟩
 · obtain ⟨r1, hi, h⟩ := bind_some h
   have K1 : ∀ q, r1 = q -> Am Pw P C F A04 (Akq a0 a1 v1 q) := by
     rintro q rfl
     obtain ⟨c9, h⟩ := Ao h
     exact sg G [r0, r0, en, wk [0, 1, 5, 6] [14]] (aa c9 <| tt) (hl _ (si h))
   exact sg G [r0, bt, r0, r0, en, wk [0, 1, 5, 6, 7, 8] [14]] (aa b1 <| tt) (Az (V := Pw) (F := F) (k := Aix) (S := λ v => Ags a0 a1 v1 v.1 v.2.1 v.2.2) (λ v o h hl hr => Ave G E h hl hr K1) _ hi)
 · exact sg G [r0, bf, au, wk [5] [14]] (aa b1 <| tt) (K1 _ (hr _ (si h)).symm)
theorem A7q (G : Ay Pw P) {y a0 a1} (E : A10 C F y) (h : D1 a0 a1 = some y) : Am Pw P C F Axy (Bcj a0 a1) := by
 unfold D1 at h
 obtain ⟨c1, c2, c3, h⟩ := ns3 h
 obtain ⟨r2, hi, h⟩ := bind_some h
 have K1 : ∀ q, r2 = q -> Am Pw P C F A0j (Ak3 q) := by
   rintro q rfl
   obtain ⟨y1, c10, h⟩ := bind_some h
   have e := sj h; subst e
   exact se G E [.reg [(1, .res ⟨[(.sl (.int .u32))], (y1, ())⟩)], au, .weak [.fix (.slot 4)]] (aa (ca c10) <| tt)
 exact sg G [r0, r0, r0, en, wk [0, 1, 5, 6] [14]] (aa c1 <| aa c2 <| aa c3 <| tt) (Az (V := Pw) (F := F) (k := Adv) (S := λ v => Agh a0 a1 v.1 v.2) (λ v o h hl hr => Auv G E h hl hr K1) _ hi)
noncomputable def A1a : FS yaE := ⟨[(.sl (.int .u32)), (.sl (.int .u32))], [(.sl (.int .u32))], [], [], λ x => Option.map (λ r => (r, ())) (D1 x.1 x.2.1)⟩
theorem Apk : MT 88 A1a := show Bh Pw _ _ _ from mt (fn := Try.f88) (S := λ x => Bcj x.1 x.2.1) (GB ⟨Oy, trivial⟩ trivial) λ G _ _ _ _ E h => A7q G E h
noncomputable abbrev At7 : Env := EV [(85, Ado), (88, A1a)] [] false
noncomputable def A57 : List Item := [.code (Try.f57.body.getD .skip)]
abbrev Bec (C : Ctx) (F : Act -> World -> Prop) (y : Af) : Prop := Bz At7 C F Try.f57.results.toList [] [(.nm 6)] (y, ())
noncomputable def A9p (a0 : Af) (a1 : Af) : ST := ⟨16, [(0, og (Bf a0)), (1, og (Bf a1))], []⟩
theorem Bcy (G : Ay At7 P) {y a0 a1} (E : Bec C F y) (h : Bk a0 a1 = some y) : Am At7 P C F A57 (A9p a0 a1) := by
 unfold Bk at h
 obtain ⟨y1, c1, h⟩ := bind_some h
 obtain ⟨y2, c2, h⟩ := bind_some h
 have e := sj h; subst e
 exact se G E [r0, .reg [(4, .res ⟨[(.sl (.int .u32))], (y1, ())⟩), (10, .res ⟨[(.nm 6)], (y2, ())⟩)], au] (aa (ca c1) <| aa (ca c2) <| tt)
noncomputable def Ajl : FS yaE := ⟨[(.nm 6), (.nm 6)], [(.nm 6)], [], [], λ x => Option.map (λ r => (r, ())) (Bk x.1 x.2.1)⟩
theorem Wm : MT 57 Ajl := show Bh At7 _ _ _ from mt (fn := Try.f57) (S := λ x => A9p x.1 x.2.1) (GB ⟨Ro, Apk, trivial⟩ trivial) λ G _ _ _ _ E h => Bcy G E h
noncomputable abbrev Ang : Env := EV [(53, Aez), (55, Aed), (56, Aii), (57, Ajl)] [] false
noncomputable def Ayq : List Item := [.code (Try.f25.body.getD .skip)]
noncomputable def Bcu := ctl [.reg, .reg, .reg, .br false, .auto] Ayq
abbrev A7y (C : Ctx) (F : Act -> World -> Prop) (y : Ag) : Prop := Bz Ang C F Try.f25.results.toList [] [(.nm 7)] (y, ())
noncomputable def A4c (a0 : Ag) (a1 : Ag) (y1 : Af) (y2 : Af) : ST := ⟨33, [(2, ol (.ptr 2 0)), (3, ol (.ptr 3 0)), (4, ol (.ptr 4 0)), (5, ol (.ptr 5 0)), (6, ol (.ptr 6 0))], [(2, .cells [.sl (.int .u32) false a0.n.d, .bool a0.n.minus, .sl (.int .u32) false a0.d.d, .bool a0.d.minus]), (3, .cells [.sl (.int .u32) false a1.n.d, .bool a1.n.minus, .sl (.int .u32) false a1.d.d, .bool a1.d.minus]), (4, .cells [.sl (.int .u32) true [], .bool false, .sl (.int .u32) true [], .bool false]), (5, .cells [.sl (.int .u32) false y1.d, .bool y1.minus]), (6, .cells [.sl (.int .u32) false y2.d, .bool y2.minus])]⟩
noncomputable def A86 (a0 : Ag) (a1 : Ag) : ST := ⟨33, [(0, og (Bw a0)), (1, og (Bw a1))], []⟩
theorem Ajg (G : Ay Ang P) {y a0 a1 y1 y2} (E : A7y C F y) (h : Dp a0 a1 y1 y2 = some y) : Am Ang P C F Bcu (A4c a0 a1 y1 y2) := by
 unfold Dp at h
 obtain ⟨y6, c6, h⟩ := bind_some h
 obtain ⟨y7, c7, h⟩ := bind_some h
 obtain ⟨y8, c8, h⟩ := bind_some h
 have e := sj h; subst e
 exact se G E [.reg [(4, .res ⟨[(.nm 6)], (y6, ())⟩), (7, .res ⟨[(.nm 6)], (y7, ())⟩), (8, .res ⟨[(.nm 7)], (y8, ())⟩)], au] (aa (ca c6) <| aa (ca c7) <| aa (ca c8) <| tt)
theorem A5q (G : Ay Ang P) {y a0 a1} (E : A7y C F y) (h : Eh a0 a1 = some y) : Am Ang P C F Ayq (A86 a0 a1) := by
 unfold Eh at h
 obtain ⟨y1, c1, h⟩ := bind_some h
 obtain ⟨y2, c2, h⟩ := bind_some h
 obtain ⟨y3, c3, h⟩ := bind_some h
 rcases Ad h with ⟨b1, h⟩ | ⟨b1, h⟩
 · obtain ⟨y4, c4, h⟩ := bind_some h
   rcases Ad h with ⟨b2, h⟩ | ⟨b2, h⟩
   · obtain ⟨y5, c5, h⟩ := bind_some h
     have e := sj h; subst e
     exact se G E [r0, .reg [(1, .res ⟨[(.nm 6)], (y1, ())⟩), (3, .res ⟨[(.nm 6)], (y2, ())⟩)], .reg [(1, .res ⟨[.bool], (y3, ())⟩), (2, oT), (4, .res ⟨[.bool], (y4, ())⟩), (5, oT)], bt, .reg [(4, .res ⟨[(.nm 6)], (y5, ())⟩)], au] (aa (ca c1) <| aa (ca c2) <| aa (ca c3) <| aa b1 <| aa b1 <| aa (ca c4) <| aa b1 <| aa b2 <| aa (ca c5) <| tt)
   · exact sg G [r0, .reg [(1, .res ⟨[(.nm 6)], (y1, ())⟩), (3, .res ⟨[(.nm 6)], (y2, ())⟩)], .reg [(1, .res ⟨[.bool], (y3, ())⟩), (2, oT), (4, .res ⟨[.bool], (y4, ())⟩), (5, oT)], bf, au, wk [2, 3, 4, 5, 6] [2, 3, 4, 5, 6]] (aa (ca c1) <| aa (ca c2) <| aa (ca c3) <| aa b1 <| aa b1 <| aa (ca c4) <| aa b1 <| aa b2 <| tt) (Ajg G E h)
 · exact sg G [r0, .reg [(1, .res ⟨[(.nm 6)], (y1, ())⟩), (3, .res ⟨[(.nm 6)], (y2, ())⟩)], .reg [(1, .res ⟨[.bool], (y3, ())⟩), (2, oF), (5, oF)], bf, au, wk [2, 3, 4, 5, 6] [2, 3, 4, 5, 6]] (aa (ca c1) <| aa (ca c2) <| aa (ca c3) <| aa b1 <| aa b1 <| aa b1 <| aa (show false = false from rfl) <| tt) (Ajg G E h)
noncomputable def A0g : FS yaE := ⟨[(.nm 7), (.nm 7)], [(.nm 7)], [], [], λ x => Option.map (λ r => (r, ())) (Eh x.1 x.2.1)⟩
theorem Anu : MT 25 A0g := show Bh Ang _ _ _ from mt (fn := Try.f25) (S := λ x => A86 x.1 x.2.1) (GB ⟨R0, Rt, Wf, Wm, trivial⟩ trivial) λ G _ _ _ _ E h => A5q G E h
noncomputable abbrev Q3 : Env := EV [] [] false
noncomputable def Ao0 : List Item := [.code (Try.f62.body.getD .skip)]
noncomputable def Bcw := ctl [.reg, .reg, .br true, .auto] Ao0
noncomputable def A0k := ctl [.reg, .reg, .br false, .reg, .reg, .br true, .reg, .auto] Ao0
noncomputable def Alc := ctl [.enter] A0k
noncomputable def Azo := ctl [.reg, .br false, .auto] Alc
abbrev Avj (C : Ctx) (F : Act -> World -> Prop) (y : Bool) : Prop := Bz Q3 C F Try.f62.results.toList [] [.bool] (y, ())
noncomputable def Ake (r1 : Int) : ST := ⟨39, [(3, oi r1)], []⟩
noncomputable def A1p : ST := ⟨39, [], []⟩
noncomputable def Afg (v2 : Int) (v3 : Int) : ST := ⟨39, [(3, oi v2), (4, oi v3)], []⟩
noncomputable def A36 (a0 : A7) (v1 : Int) : ST := ⟨39, [(3, oi v1), (4, oi a0.D)], []⟩
noncomputable def A5c (a0 : A7) : ST := ⟨39, [(0, og (Gn a0))], []⟩
theorem Uf (G : Ay Q3 P) {y} (E : Avj C F y) (h : Df = some y) : Am Q3 P C F Bcw A1p := by
 unfold Df at h
 have e := sj h; subst e
 exact se G E [r0, au] tt
theorem Aw2 (G : Ay Q3 P) {y o r v2 v3} (E : Avj C F y) (h : Gi v2 v3 = some o)
   (hl : ∀ v', o = .inl v' -> Am Q3 P C F Alc (Afg v'.1 v'.2)) (hr : ∀ r', o = .inr r' -> r' = r)
   (K1 : ∀ r1, r = r1 -> Am Q3 P C F Azo (Ake r1)) : Am Q3 P C F Alc (Afg v2 v3) := by
 unfold Gi at h
 rcases Ad h with ⟨b6, h⟩ | ⟨b6, h⟩
 · obtain ⟨c1, h⟩ := Ao h
   exact sg G [r0, bt, r0, en, wk [3, 4] []] (aa b6 <| aa c1 <| tt) (hl _ (si h))
 · exact sg G [r0, bf, au, wk [3] []] (aa b6 <| tt) (K1 _ (hr _ (si h)).symm)
theorem Ajp (G : Ay Q3 P) {y a0 v1} (E : Avj C F y) (h : Eg a0 v1 = some y) : Am Q3 P C F A0k (A36 a0 v1) := by
 unfold Eg at h
 obtain ⟨r1, hi, h⟩ := bind_some h
 have K1 : ∀ q, r1 = q -> Am Q3 P C F Azo (Ake q) := by
   rintro q rfl
   have e := sj h; subst e
   exact se G E [r0, au] tt
 exact sg G [en, wk [3, 4] []] tt (Az (V := Q3) (F := F) (k := Alc) (S := λ v => Afg v.1 v.2) (λ v o h hl hr => Aw2 G E h hl hr K1) _ hi)
theorem A7b (G : Ay Q3 P) {y a0} (E : Avj C F y) (h : Ei a0 = some y) : Am Q3 P C F Ao0 (A5c a0) := by
 unfold Ei at h
 rcases Ad h with ⟨b1, h⟩ | ⟨b1, h⟩
 · exact sg G [r0, .reg [(3, oT), (7, oT), (8, oT), (12, oT), (13, oT), (17, oT)], bt, au, wk [] []] (aa b1 <| aa b1 <| aa b1 <| aa b1 <| aa (show true = true from rfl) <| aa (show true = true from rfl) <| aa (show true = true from rfl) <| aa (show true = true from rfl) <| aa (show true = true from rfl) <| aa (show true = true from rfl) <| aa (show true = true from rfl) <| aa (show true = true from rfl) <| aa (show true = true from rfl) <| tt) (Uf G E h)
 · rcases Ad h with ⟨b2, h⟩ | ⟨b2, h⟩
   · exact sg G [r0, .reg [(3, oF), (7, oF), (8, oT), (12, oT), (13, oT), (17, oT)], bt, au, wk [] []] (aa b1 <| aa b1 <| aa b1 <| aa b1 <| aa b2 <| aa b2 <| aa b2 <| aa b2 <| aa (show true = true from rfl) <| aa (show true = true from rfl) <| aa (show true = true from rfl) <| aa (show true = true from rfl) <| aa (show true = true from rfl) <| tt) (Uf G E h)
   · rcases Ad h with ⟨b3, h⟩ | ⟨b3, h⟩
     · exact sg G [r0, .reg [(3, oF), (7, oF), (8, oF), (12, oF), (13, oT), (17, oT)], bt, au, wk [] []] (aa b1 <| aa b1 <| aa b1 <| aa b1 <| aa b2 <| aa b2 <| aa b2 <| aa b2 <| aa b3 <| aa b3 <| aa b3 <| aa b3 <| aa (show true = true from rfl) <| tt) (Uf G E h)
     · rcases Ad h with ⟨b4, h⟩ | ⟨b4, h⟩
       · exact sg G [r0, .reg [(3, oF), (7, oF), (8, oF), (12, oF), (13, oF), (17, oF)], bt, au, wk [] []] (aa b1 <| aa b1 <| aa b1 <| aa b1 <| aa b2 <| aa b2 <| aa b2 <| aa b2 <| aa b3 <| aa b3 <| aa b3 <| aa b3 <| aa b4 <| tt) (Uf G E h)
       · rcases Ad h with ⟨b5, h⟩ | ⟨b5, h⟩
         · exact sg G [r0, .reg [(3, oF), (7, oF), (8, oF), (12, oF), (13, oF), (17, oF)], bf, r0, r0, bt, r0, au, wk [3, 4] []] (aa b1 <| aa b1 <| aa b1 <| aa b1 <| aa b2 <| aa b2 <| aa b2 <| aa b2 <| aa b3 <| aa b3 <| aa b3 <| aa b3 <| aa b4 <| aa b5 <| tt) (Ajp G E h)
         · exact sg G [r0, .reg [(3, oF), (7, oF), (8, oF), (12, oF), (13, oF), (17, oF)], bf, r0, r0, bf, au, wk [3, 4] []] (aa b1 <| aa b1 <| aa b1 <| aa b1 <| aa b2 <| aa b2 <| aa b2 <| aa b2 <| aa b3 <| aa b3 <| aa b3 <| aa b3 <| aa b4 <| aa b5 <| tt) (Ajp G E h)
noncomputable def Axs : FS yaE := ⟨[(.nm 0)], [.bool], [], [], λ x => Option.map (λ r => (r, ())) (Ei x.1)⟩
theorem Aqk : MT 62 Axs := show Bh Q3 _ _ _ from mt (fn := Try.f62) (S := λ x => A5c x.1) (GB trivial trivial) λ G _ _ _ _ E h => A7b G E h
noncomputable abbrev Px : Env := EV [(62, Axs)] [] false
noncomputable def Asg : List Item := [.code (Try.f33.body.getD .skip)]
noncomputable def A8v := ctl [.reg, .reg, .br false, .reg, .br true, .auto] Asg
noncomputable def Yg := ctl [.reg, .reg, .br false, .reg, .br false, .reg, .enter] Asg
noncomputable def A7w := ctl [.reg, .br true, .reg, .reg, .br true, .auto] Yg
noncomputable def Aqu := ctl [.reg, .br false, .auto] Yg
abbrev Awq (C : Ctx) (F : Act -> World -> Prop) (y : Int) : Prop := Bz Px C F Try.f33.results.toList [] [(.int .i64)] (y, ())
noncomputable def Ab8 : ST := ⟨69, [], []⟩
noncomputable def A2c : ST := ⟨69, [], []⟩
noncomputable def A3y : ST := ⟨69, [], []⟩
noncomputable def Aaj (a0 : Ah) (v1 : Int) : ST := ⟨69, [(1, ol (.ptr 1 0)), (3, oi v1)], [(1, .cells [.int .i64 a0.Nodes, .sl (.nm 1) false a0.Arms])]⟩
noncomputable def A9v (a0 : Ah) : ST := ⟨69, [(0, og (Ce a0))], []⟩
theorem Ale (G : Ay Px P) {y} (E : Awq C F y) (h : C7 = some y) : Am Px P C F A8v A2c := by
 unfold C7 at h
 have e := sj h; subst e
 exact se G E [r0, au] tt
theorem Nq (G : Ay Px P) {y a0 o r} (E : Awq C F y) (h : Bm = some o)
   (hl : ∀ v', o = .inl v' -> Am Px P C F Yg (Aaj a0 v')) (hr : ∀ r', o = .inr r' -> r' = r)
   (K1 : ∀ r1, r = (.inl r1) -> Am Px P C F Aqu Ab8)
   (KR : ∀ r', r = (.inr r') -> r' = y) : Am Px P C F A7w A3y := by
 unfold Bm at h
 have e := KR _ (hr _ (si h)).symm; subst e
 exact se G E [r0, au] tt
theorem Aue (G : Ay Px P) {y o r a0 v1} (E : Awq C F y) (h : Ea a0 v1 = some o)
   (hl : ∀ v', o = .inl v' -> Am Px P C F Yg (Aaj a0 v')) (hr : ∀ r', o = .inr r' -> r' = r)
   (K1 : ∀ r1, r = (.inl r1) -> Am Px P C F Aqu Ab8)
   (KR : ∀ r', r = (.inr r') -> r' = y) : Am Px P C F Yg (Aaj a0 v1) := by
 unfold Ea at h
 rcases Ad h with ⟨b4, h⟩ | ⟨b4, h⟩
 · obtain ⟨c1, h⟩ := Ao h
   rcases Ad h with ⟨b5, h⟩ | ⟨b5, h⟩
   · exact sg G [r0, bt, r0, .reg [(3, oT), (9, oT), (10, oT), (14, oT), (15, oT), (21, oT), (22, oT), (27, oT), (28, oT), (33, oT), (34, oT), (39, oT)], bt, au, wk [] []] (aa b4 <| aa c1 <| aa b5 <| aa b5 <| aa b5 <| aa b5 <| aa b5 <| aa b5 <| aa (show true = true from rfl) <| aa (show true = true from rfl) <| aa (show true = true from rfl) <| aa (show true = true from rfl) <| aa (show true = true from rfl) <| aa (show true = true from rfl) <| aa (show true = true from rfl) <| aa (show true = true from rfl) <| aa (show true = true from rfl) <| aa (show true = true from rfl) <| aa (show true = true from rfl) <| aa (show true = true from rfl) <| aa (show true = true from rfl) <| aa (show true = true from rfl) <| aa (show true = true from rfl) <| aa (show true = true from rfl) <| aa (show true = true from rfl) <| aa (show true = true from rfl) <| aa (show true = true from rfl) <| aa (show true = true from rfl) <| aa (show true = true from rfl) <| aa (show true = true from rfl) <| aa (show true = true from rfl) <| aa (show true = true from rfl) <| aa (show true = true from rfl) <| aa (show true = true from rfl) <| tt) (Nq G E h hl hr K1 KR)
   · rcases Ad h with ⟨b6, h⟩ | ⟨b6, h⟩
     · exact sg G [r0, bt, r0, .reg [(3, oF), (9, oF), (10, oT), (14, oT), (15, oT), (21, oT), (22, oT), (27, oT), (28, oT), (33, oT), (34, oT), (39, oT)], bt, au, wk [] []] (aa b4 <| aa c1 <| aa b5 <| aa b5 <| aa b5 <| aa b5 <| aa b5 <| aa b5 <| aa b6 <| aa b6 <| aa b6 <| aa b6 <| aa (show true = true from rfl) <| aa (show true = true from rfl) <| aa (show true = true from rfl) <| aa (show true = true from rfl) <| aa (show true = true from rfl) <| aa (show true = true from rfl) <| aa (show true = true from rfl) <| aa (show true = true from rfl) <| aa (show true = true from rfl) <| aa (show true = true from rfl) <| aa (show true = true from rfl) <| aa (show true = true from rfl) <| aa (show true = true from rfl) <| aa (show true = true from rfl) <| aa (show true = true from rfl) <| aa (show true = true from rfl) <| aa (show true = true from rfl) <| aa (show true = true from rfl) <| aa (show true = true from rfl) <| aa (show true = true from rfl) <| aa (show true = true from rfl) <| aa (show true = true from rfl) <| tt) (Nq G E h hl hr K1 KR)
     · rcases Ad h with ⟨b7, h⟩ | ⟨b7, h⟩
       · exact sg G [r0, bt, r0, .reg [(3, oF), (9, oF), (10, oF), (14, oF), (15, oT), (21, oT), (22, oT), (27, oT), (28, oT), (33, oT), (34, oT), (39, oT)], bt, au, wk [] []] (aa b4 <| aa c1 <| aa b5 <| aa b5 <| aa b5 <| aa b5 <| aa b5 <| aa b5 <| aa b6 <| aa b6 <| aa b6 <| aa b6 <| aa b7 <| aa b7 <| aa b7 <| aa b7 <| aa b7 <| aa b7 <| aa (show true = true from rfl) <| aa (show true = true from rfl) <| aa (show true = true from rfl) <| aa (show true = true from rfl) <| aa (show true = true from rfl) <| aa (show true = true from rfl) <| aa (show true = true from rfl) <| aa (show true = true from rfl) <| aa (show true = true from rfl) <| aa (show true = true from rfl) <| aa (show true = true from rfl) <| aa (show true = true from rfl) <| aa (show true = true from rfl) <| aa (show true = true from rfl) <| aa (show true = true from rfl) <| aa (show true = true from rfl) <| tt) (Nq G E h hl hr K1 KR)
       · rcases Ad h with ⟨b8, h⟩ | ⟨b8, h⟩
         · exact sg G [r0, bt, r0, .reg [(3, oF), (9, oF), (10, oF), (14, oF), (15, oF), (21, oF), (22, oT), (27, oT), (28, oT), (33, oT), (34, oT), (39, oT)], bt, au, wk [] []] (aa b4 <| aa c1 <| aa b5 <| aa b5 <| aa b5 <| aa b5 <| aa b5 <| aa b5 <| aa b6 <| aa b6 <| aa b6 <| aa b6 <| aa b7 <| aa b7 <| aa b7 <| aa b7 <| aa b7 <| aa b7 <| aa b8 <| aa b8 <| aa b8 <| aa b8 <| aa b8 <| aa (show true = true from rfl) <| aa (show true = true from rfl) <| aa (show true = true from rfl) <| aa (show true = true from rfl) <| aa (show true = true from rfl) <| aa (show true = true from rfl) <| aa (show true = true from rfl) <| aa (show true = true from rfl) <| aa (show true = true from rfl) <| aa (show true = true from rfl) <| aa (show true = true from rfl) <| tt) (Nq G E h hl hr K1 KR)
         · obtain ⟨y1, c2, h⟩ := bind_some h
           rcases Ad h with ⟨b9, h⟩ | ⟨b9, h⟩
           · exact sg G [r0, bt, r0, .reg [(3, oF), (9, oF), (10, oF), (14, oF), (15, oF), (21, oF), (22, oF), (25, .res ⟨[.bool], (y1, ())⟩), (27, oF), (28, oT), (33, oT), (34, oT), (39, oT)], bt, au, wk [] []] (aa b4 <| aa c1 <| aa b5 <| aa b5 <| aa b5 <| aa b5 <| aa b5 <| aa b5 <| aa b6 <| aa b6 <| aa b6 <| aa b6 <| aa b7 <| aa b7 <| aa b7 <| aa b7 <| aa b7 <| aa b7 <| aa b8 <| aa b8 <| aa b8 <| aa (ca c2) <| aa b8 <| aa b8 <| aa b9 <| aa b9 <| aa b9 <| aa b9 <| aa b9 <| aa (show true = true from rfl) <| aa (show true = true from rfl) <| aa (show true = true from rfl) <| aa (show true = true from rfl) <| aa (show true = true from rfl) <| aa (show true = true from rfl) <| tt) (Nq G E h hl hr K1 KR)
           · rcases Ad h with ⟨b10, h⟩ | ⟨b10, h⟩
             · exact sg G [r0, bt, r0, .reg [(3, oF), (9, oF), (10, oF), (14, oF), (15, oF), (21, oF), (22, oF), (25, .res ⟨[.bool], (y1, ())⟩), (27, oF), (28, oF), (33, oF), (34, oT), (39, oT)], bt, au, wk [] []] (aa b4 <| aa c1 <| aa b5 <| aa b5 <| aa b5 <| aa b5 <| aa b5 <| aa b5 <| aa b6 <| aa b6 <| aa b6 <| aa b6 <| aa b7 <| aa b7 <| aa b7 <| aa b7 <| aa b7 <| aa b7 <| aa b8 <| aa b8 <| aa b8 <| aa (ca c2) <| aa b8 <| aa b8 <| aa b9 <| aa b9 <| aa b9 <| aa b9 <| aa b9 <| aa b10 <| aa b10 <| aa b10 <| aa b10 <| aa b10 <| aa (show true = true from rfl) <| tt) (Nq G E h hl hr K1 KR)
             · obtain ⟨y2, c3, h⟩ := bind_some h
               rcases Ad h with ⟨b11, h⟩ | ⟨b11, h⟩
               · exact sg G [r0, bt, r0, .reg [(3, oF), (9, oF), (10, oF), (14, oF), (15, oF), (21, oF), (22, oF), (25, .res ⟨[.bool], (y1, ())⟩), (27, oF), (28, oF), (33, oF), (34, oF), (37, .res ⟨[.bool], (y2, ())⟩), (39, oF)], bt, au, wk [] []] (aa b4 <| aa c1 <| aa b5 <| aa b5 <| aa b5 <| aa b5 <| aa b5 <| aa b5 <| aa b6 <| aa b6 <| aa b6 <| aa b6 <| aa b7 <| aa b7 <| aa b7 <| aa b7 <| aa b7 <| aa b7 <| aa b8 <| aa b8 <| aa b8 <| aa (ca c2) <| aa b8 <| aa b8 <| aa b9 <| aa b9 <| aa b9 <| aa b9 <| aa b9 <| aa b10 <| aa b10 <| aa b10 <| aa (ca c3) <| aa b10 <| aa b10 <| aa b11 <| tt) (Nq G E h hl hr K1 KR)
               · exact sg G [r0, bt, r0, .reg [(3, oF), (9, oF), (10, oF), (14, oF), (15, oF), (21, oF), (22, oF), (25, .res ⟨[.bool], (y1, ())⟩), (27, oF), (28, oF), (33, oF), (34, oF), (37, .res ⟨[.bool], (y2, ())⟩), (39, oF)], bf, r0, en, wk [1, 3] [1]] (aa b4 <| aa c1 <| aa b5 <| aa b5 <| aa b5 <| aa b5 <| aa b5 <| aa b5 <| aa b6 <| aa b6 <| aa b6 <| aa b6 <| aa b7 <| aa b7 <| aa b7 <| aa b7 <| aa b7 <| aa b7 <| aa b8 <| aa b8 <| aa b8 <| aa (ca c2) <| aa b8 <| aa b8 <| aa b9 <| aa b9 <| aa b9 <| aa b9 <| aa b9 <| aa b10 <| aa b10 <| aa b10 <| aa (ca c3) <| aa b10 <| aa b10 <| aa b11 <| tt) (hl _ (si h))
 · exact sg G [r0, bf, au, wk [] []] (aa b4 <| tt) (K1 _ (hr _ (si h)).symm)
theorem Bae (G : Ay Px P) {y a0} (E : Awq C F y) (h : Cz a0 = some y) : Am Px P C F Asg (A9v a0) := by
 unfold Cz at h
 rcases Ad h with ⟨b1, h⟩ | ⟨b1, h⟩
 · have e := sj h; subst e
   exact se G E [r0, r0, bt, r0, au] (aa b1 <| tt)
 · rcases Ad h with ⟨b2, h⟩ | ⟨b2, h⟩
   · exact sg G [r0, r0, bf, .reg [(3, oT), (7, oT)], bt, au, wk [] []] (aa b1 <| aa b2 <| aa b2 <| aa b2 <| aa b2 <| aa (show true = true from rfl) <| tt) (Ale G E h)
   · rcases Ad h with ⟨b3, h⟩ | ⟨b3, h⟩
     · exact sg G [r0, r0, bf, .reg [(3, oF), (7, oF)], bt, au, wk [] []] (aa b1 <| aa b2 <| aa b2 <| aa b2 <| aa b2 <| aa b3 <| tt) (Ale G E h)
     · obtain ⟨r, hi, h⟩ := bind_some h
       have K1 : ∀ r1, r = (.inl r1) -> Am Px P C F Aqu Ab8 := by
         rintro r1 rfl
         have e := sj h; subst e
         exact se G E [r0, au] tt
       have KR : ∀ r2, r = (.inr r2) -> r2 = y := by
         rintro r2 rfl
         exact Option.some.inj h
       exact sg G [r0, r0, bf, .reg [(3, oF), (7, oF)], bf, r0, en, wk [1, 3] [1]] (aa b1 <| aa b2 <| aa b2 <| aa b2 <| aa b2 <| aa b3 <| tt) (Az (V := Px) (F := F) (k := Yg) (S := λ v => Aaj a0 v) (λ v o h hl hr => Aue G E h hl hr K1 KR) _ hi)
noncomputable def Az3 : FS yaE := ⟨[(.nm 2)], [(.int .i64)], [], [], λ x => Option.map (λ r => (r, ())) (Cz x.1)⟩
theorem Apv : MT 33 Az3 := show Bh Px _ _ _ from mt (fn := Try.f33) (S := λ x => A9v x.1) (GB ⟨Aqk, trivial⟩ trivial) λ G _ _ _ _ E h => Bae G E h
noncomputable abbrev Aty : Env := EV [] [] false
noncomputable def A6q : List Item := [.code (Try.f34.body.getD .skip)]
abbrev Bdm (C : Ctx) (F : Act -> World -> Prop) (y : Int) : Prop := Bz Aty C F Try.f34.results.toList [] [(.int .i64)] (y, ())
noncomputable def A5b (a0 : Int) (a1 : Int) : ST := ⟨11, [(0, oi a0), (1, oi a1)], []⟩
theorem A77 (G : Ay Aty P) {y a0 a1} (E : Bdm C F y) (h : Ch a0 a1 = some y) : Am Aty P C F A6q (A5b a0 a1) := by
 unfold Ch at h
 rcases Ad h with ⟨b1, h⟩ | ⟨b1, h⟩
 · have e := sj h; subst e
   exact se G E [r0, r0, bt, r0, au] (aa b1 <| tt)
 · have e := sj h; subst e
   exact se G E [r0, r0, bf, r0, au] (aa b1 <| tt)
noncomputable def Axv : FS yaE := ⟨[(.int .i64), (.int .i64)], [(.int .i64)], [], [], λ x => Option.map (λ r => (r, ())) (Ch x.1 x.2.1)⟩
theorem Ap2 : MT 34 Axv := show Bh Aty _ _ _ from mt (fn := Try.f34) (S := λ x => A5b x.1 x.2.1) (GB trivial trivial) λ G _ _ _ _ E h => A77 G E h
noncomputable abbrev Awy : Env := EV [(53, Aez), (55, Aed), (57, Ajl)] [] false
noncomputable def A7e : List Item := [.code (Try.f39.body.getD .skip)]
abbrev Bdx (C : Ctx) (F : Act -> World -> Prop) (y : Ag) : Prop := Bz Awy C F Try.f39.results.toList [] [(.nm 7)] (y, ())
noncomputable def Ba5 (a0 : Ag) (a1 : Ag) : ST := ⟨16, [(0, og (Bw a0)), (1, og (Bw a1))], []⟩
theorem Ba7 (G : Ay Awy P) {y a0 a1} (E : Bdx C F y) (h : Di a0 a1 = some y) : Am Awy P C F A7e (Ba5 a0 a1) := by
 unfold Di at h
 obtain ⟨y1, c1, h⟩ := bind_some h
 obtain ⟨y2, c2, h⟩ := bind_some h
 obtain ⟨y3, c3, h⟩ := bind_some h
 obtain ⟨y4, c4, h⟩ := bind_some h
 obtain ⟨y5, c5, h⟩ := bind_some h
 have e := sj h; subst e
 exact se G E [r0, .reg [(3, .res ⟨[(.nm 6)], (y1, ())⟩), (4, .res ⟨[(.nm 6)], (y2, ())⟩), (6, .res ⟨[(.nm 6)], (y3, ())⟩), (9, .res ⟨[(.nm 6)], (y4, ())⟩), (10, .res ⟨[(.nm 7)], (y5, ())⟩)], au] (aa (ca c1) <| aa (ca c2) <| aa (ca c3) <| aa (ca c4) <| aa (ca c5) <| tt)
noncomputable def Aq8 : FS yaE := ⟨[(.nm 7), (.nm 7)], [(.nm 7)], [], [], λ x => Option.map (λ r => (r, ())) (Di x.1 x.2.1)⟩
theorem Adw : MT 39 Aq8 := show Bh Awy _ _ _ from mt (fn := Try.f39) (S := λ x => Ba5 x.1 x.2.1) (GB ⟨R0, Rt, Wm, trivial⟩ trivial) λ G _ _ _ _ E h => Ba7 G E h
noncomputable abbrev Avx : Env := EV [(54, Ase), (87, Ap6)] [] false
noncomputable def A93 : List Item := [.code (Try.f63.body.getD .skip)]
abbrev Bdo (C : Ctx) (F : Act -> World -> Prop) (y : Ag) : Prop := Bz Avx C F Try.f63.results.toList [] [(.nm 7)] (y, ())
noncomputable def A6f (a0 : Int) : ST := ⟨7, [(0, oi a0)], []⟩
theorem A6x (G : Ay Avx P) {y a0} (E : Bdo C F y) (h : Ey a0 = some y) : Am Avx P C F A93 (A6f a0) := by
 unfold Ey at h
 obtain ⟨y1, c1, h⟩ := bind_some h
 obtain ⟨y2, c2, h⟩ := bind_some h
 have e := sj h; subst e
 exact se G E [r0, .reg [(1, .res ⟨[(.nm 6)], (y1, ())⟩), (2, .res ⟨[(.nm 6)], (y2, ())⟩)], au] (aa (ca c1) <| aa (ca c2) <| tt)
noncomputable def Axc : FS yaE := ⟨[(.int .i64)], [(.nm 7)], [], [], λ x => Option.map (λ r => (r, ())) (Ey x.1)⟩
theorem Anx : MT 63 Axc := show Bh Avx _ _ _ from mt (fn := Try.f63) (S := λ x => A6f x.1) (GB ⟨Ac0, Aeo, trivial⟩ trivial) λ G _ _ _ _ E h => A6x G E h
noncomputable abbrev Aua : Env := EV [(39, Aq8), (63, Axc)] [] false
noncomputable def A9l : List Item := [.code (Try.f35.body.getD .skip)]
abbrev Bc1 (C : Ctx) (F : Act -> World -> Prop) (y : Ag) : Prop := Bz Aua C F Try.f35.results.toList [] [(.nm 7)] (y, ())
noncomputable def A6e (a0 : Ag) : ST := ⟨6, [(0, og (Bw a0))], []⟩
theorem Bbz (G : Ay Aua P) {y a0} (E : Bc1 C F y) (h : Dh a0 = some y) : Am Aua P C F A9l (A6e a0) := by
 unfold Dh at h
 obtain ⟨y1, c1, h⟩ := bind_some h
 obtain ⟨y2, c2, h⟩ := bind_some h
 have e := sj h; subst e
 exact se G E [r0, .reg [(0, .res ⟨[(.nm 7)], (y1, ())⟩), (2, .res ⟨[(.nm 7)], (y2, ())⟩)], au] (aa (ca c1) <| aa (ca c2) <| tt)
noncomputable def Ayl : FS yaE := ⟨[(.nm 7)], [(.nm 7)], [], [], λ x => Option.map (λ r => (r, ())) (Dh x.1)⟩
theorem Aoi : MT 35 Ayl := show Bh Aua _ _ _ from mt (fn := Try.f35) (S := λ x => A6e x.1) (GB ⟨Adw, Anx, trivial⟩ trivial) λ G _ _ _ _ E h => Bbz G E h
noncomputable abbrev K4 : Env := EV [(86, Y6)] [] false
noncomputable def Axr : List Item := [.code (Try.f90.body.getD .skip)]
noncomputable def Tk := ctl [.reg, .reg, .reg, .reg, .enter] Axr
noncomputable def Ayw := ctl [.reg, .br true, .auto] Tk
noncomputable def Ax1 := ctl [.reg, .br true, .reg, .auto] Ayw
noncomputable def A7a := ctl [.reg, .br true, .reg, .auto] Ax1
noncomputable def Aej := ctl [.reg, .br false, .auto] Tk
abbrev Anz (C : Ctx) (F : Act -> World -> Prop) (y : List Int) : Prop := Bz K4 C F Try.f90.results.toList [] [(.sl (.int .u32))] (y, ())
noncomputable def Rx (r1 : (Int × (List Int))) : ST := ⟨62, [(5, ol (.ar 14 0)), (6, ol (.int .u64 r1.1))], [(14, .arr 115 (.int .u32) r1.2 0 false)]⟩
noncomputable def A29 (a0 : List Int) (a1 : List Int) (v2 : Int) (v3 : List Int) (v5 : Int) : ST := ⟨62, [(0, ol (.sl (.int .u32) false a0)), (1, ol (.sl (.int .u32) false a1)), (5, ol (.ar 14 0)), (6, ol (.int .u64 v5)), (7, oi v2)], [(14, .arr 115 (.int .u32) v3 0 false)]⟩
noncomputable def A4g (a0 : List Int) (a1 : List Int) (v2 : Int) (v3 : List Int) (v4 : Int) : ST := ⟨62, [(0, ol (.sl (.int .u32) false a0)), (1, ol (.sl (.int .u32) false a1)), (5, ol (.ar 14 0)), (6, ol (.int .u64 v4)), (7, oi v2)], [(14, .arr 115 (.int .u32) v3 0 false)]⟩
noncomputable def A2h (a0 : List Int) (a1 : List Int) (v1 : Int) (v2 : Int) (v3 : List Int) : ST := ⟨62, [(0, ol (.sl (.int .u32) false a0)), (1, ol (.sl (.int .u32) false a1)), (5, ol (.ar 14 0)), (6, ol (.int .u64 v1)), (7, oi v2)], [(14, .arr 115 (.int .u32) v3 0 false)]⟩
noncomputable def Sh (a0 : List Int) (a1 : List Int) (v1 : Int) (v2 : Int) (v3 : List Int) : ST := ⟨62, [(0, ol (.sl (.int .u32) false a0)), (1, ol (.sl (.int .u32) false a1)), (5, ol (.ar 14 0)), (6, ol (.int .u64 v1)), (7, oi v2)], [(14, .arr 115 (.int .u32) v3 0 false)]⟩
noncomputable def A8u (a0 : List Int) (a1 : List Int) : ST := ⟨62, [(0, ol (.sl (.int .u32) false a0)), (1, ol (.sl (.int .u32) false a1))], []⟩
theorem Air (G : Ay K4 P) {y o r a0 a1 v2 v3 v5} (E : Anz C F y) (h : Cd a0 a1 v2 v3 v5 = some o)
   (hl : ∀ v', o = .inl v' -> Am K4 P C F Tk (Sh a0 a1 v'.1 v'.2.1 v'.2.2)) (hr : ∀ r', o = .inr r' -> r' = r)
   (K1 : ∀ r1, r = r1 -> Am K4 P C F Aej (Rx r1)) : Am K4 P C F A7a (A29 a0 a1 v2 v3 v5) := by
 unfold Cd at h
 obtain ⟨c6, h⟩ := Ao h
 obtain ⟨c7, h⟩ := Ao h
 exact sg G [r0, r0, r0, en, .weak [.re 14 14 0, .keep [0, 1, 5, 6, 7] [14]]] (aa c6 <| aa c7 <| tt) (hl _ (si h))
theorem Aki (G : Ay K4 P) {y o r a0 a1 v2 v3 v4} (E : Anz C F y) (h : Dq a0 a1 v2 v3 v4 = some o)
   (hl : ∀ v', o = .inl v' -> Am K4 P C F Tk (Sh a0 a1 v'.1 v'.2.1 v'.2.2)) (hr : ∀ r', o = .inr r' -> r' = r)
   (K1 : ∀ r1, r = r1 -> Am K4 P C F Aej (Rx r1)) : Am K4 P C F Ax1 (A4g a0 a1 v2 v3 v4) := by
 unfold Dq at h
 rcases Ad h with ⟨b4, h⟩ | ⟨b4, h⟩
 · obtain ⟨c5, h⟩ := Ao h
   exact sg G [r0, bt, r0, au, wk [0, 1, 5, 6, 7] [14]] (aa b4 <| aa c5 <| tt) (Air G E h hl hr K1)
 · exact sg G [r0, bf, au, wk [0, 1, 5, 6, 7] [14]] (aa b4 <| tt) (Air G E h hl hr K1)
theorem Aj0 (G : Ay K4 P) {y o r a0 a1 v1 v2 v3} (E : Anz C F y) (h : Dt a0 a1 v1 v2 v3 = some o)
   (hl : ∀ v', o = .inl v' -> Am K4 P C F Tk (Sh a0 a1 v'.1 v'.2.1 v'.2.2)) (hr : ∀ r', o = .inr r' -> r' = r)
   (K1 : ∀ r1, r = r1 -> Am K4 P C F Aej (Rx r1)) : Am K4 P C F Ayw (A2h a0 a1 v1 v2 v3) := by
 unfold Dt at h
 rcases Ad h with ⟨b3, h⟩ | ⟨b3, h⟩
 · obtain ⟨c4, h⟩ := Ao h
   exact sg G [r0, bt, r0, au, wk [0, 1, 5, 6, 7] [14]] (aa b3 <| aa c4 <| tt) (Aki G E h hl hr K1)
 · exact sg G [r0, bf, au, wk [0, 1, 5, 6, 7] [14]] (aa b3 <| tt) (Aki G E h hl hr K1)
theorem Au0 (G : Ay K4 P) {y o r a0 a1 v1 v2 v3} (E : Anz C F y) (h : Fh a0 a1 v1 v2 v3 = some o)
   (hl : ∀ v', o = .inl v' -> Am K4 P C F Tk (Sh a0 a1 v'.1 v'.2.1 v'.2.2)) (hr : ∀ r', o = .inr r' -> r' = r)
   (K1 : ∀ r1, r = r1 -> Am K4 P C F Aej (Rx r1)) : Am K4 P C F Tk (Sh a0 a1 v1 v2 v3) := by
 unfold Fh at h
 rcases Ad h with ⟨b1, h⟩ | ⟨b1, h⟩
 · exact sg G [.reg [(4, oT), (9, oT)], bt, au, wk [0, 1, 5, 6, 7] [14]] (aa b1 <| aa b1 <| aa b1 <| aa b1 <| aa b1 <| aa (show true = true from rfl) <| tt) (Aj0 G E h hl hr K1)
 · rcases Ad h with ⟨b2, h⟩ | ⟨b2, h⟩
   · exact sg G [.reg [(4, oF), (9, oF)], bt, au, wk [0, 1, 5, 6, 7] [14]] (aa b1 <| aa b1 <| aa b1 <| aa b1 <| aa b1 <| aa b2 <| tt) (Aj0 G E h hl hr K1)
   · exact sg G [.reg [(4, oF), (9, oF)], bf, au, wk [5, 6] [14]] (aa b1 <| aa b1 <| aa b1 <| aa b1 <| aa b1 <| aa b2 <| tt) (K1 _ (hr _ (si h)).symm)
theorem A6v (G : Ay K4 P) {y a0 a1} (E : Anz C F y) (h : D9 a0 a1 = some y) : Am K4 P C F Axr (A8u a0 a1) := by
 unfold D9 at h
 obtain ⟨c1, c2, c3, h⟩ := ns3 h
 obtain ⟨r1, hi, h⟩ := bind_some h
 have K1 : ∀ q, r1 = q -> Am K4 P C F Aej (Rx q) := by
   rintro q rfl
   obtain ⟨c8, h⟩ := Ao h
   obtain ⟨y1, c9, h⟩ := bind_some h
   have e := sj h; subst e
   exact se G E [.reg [(5, .res ⟨[(.sl (.int .u32))], (y1, ())⟩)], au, .weak [.fix (.slot 4)]] (aa c8 <| aa (ca c9) <| tt)
 exact sg G [r0, r0, r0, r0, en, wk [0, 1, 5, 6, 7] [14]] (aa c1 <| aa c2 <| aa c3 <| tt) (Az (V := K4) (F := F) (k := Tk) (S := λ v => Sh a0 a1 v.1 v.2.1 v.2.2) (λ v o h hl hr => Au0 G E h hl hr K1) _ hi)
noncomputable def Ayy : FS yaE := ⟨[(.sl (.int .u32)), (.sl (.int .u32))], [(.sl (.int .u32))], [], [], λ x => Option.map (λ r => (r, ())) (D9 x.1 x.2.1)⟩
theorem Aqm : MT 90 Ayy := show Bh K4 _ _ _ from mt (fn := Try.f90) (S := λ x => A8u x.1 x.2.1) (GB ⟨Oy, trivial⟩ trivial) λ G _ _ _ _ E h => A6v G E h
noncomputable abbrev Rd : Env := EV [(86, Y6)] [] false
noncomputable def A00 : List Item := [.code (Try.f91.body.getD .skip)]
noncomputable def Yq := ctl [.reg, .reg, .reg, .reg, .enter] A00
noncomputable def Bbv := ctl [.reg, .br true, .reg, .reg, .br true, .reg, .auto] Yq
noncomputable def Arj := ctl [.reg, .br false, .auto] Yq
abbrev A3m (C : Ctx) (F : Act -> World -> Prop) (y : List Int) : Prop := Bz Rd C F Try.f91.results.toList [] [(.sl (.int .u32))] (y, ())
noncomputable def Z9 (r1 : List Int) : ST := ⟨45, [(5, ol (.ar 11 0))], [(11, .arr 115 (.int .u32) r1 0 false)]⟩
noncomputable def A1t (a0 : List Int) (a1 : List Int) (v2 : Int) (v3 : List Int) (v4 : Int) : ST := ⟨45, [(0, ol (.sl (.int .u32) false a0)), (1, ol (.sl (.int .u32) false a1)), (5, ol (.ar 11 0)), (7, oi v2), (8, ol (.int .u64 v4))], [(11, .arr 115 (.int .u32) v3 0 false)]⟩
noncomputable def Abf (a0 : List Int) (a1 : List Int) (v1 : Int) (v2 : Int) (v3 : List Int) : ST := ⟨45, [(0, ol (.sl (.int .u32) false a0)), (1, ol (.sl (.int .u32) false a1)), (5, ol (.ar 11 0)), (6, ol (.int .u64 v1)), (7, oi v2)], [(11, .arr 115 (.int .u32) v3 0 false)]⟩
noncomputable def A47 (a0 : List Int) (a1 : List Int) : ST := ⟨45, [(0, ol (.sl (.int .u32) false a0)), (1, ol (.sl (.int .u32) false a1))], []⟩
theorem Aks (G : Ay Rd P) {y o r a0 a1 v2 v3 v4} (E : A3m C F y) (h : Du a0 a1 v2 v3 v4 = some o)
   (hl : ∀ v', o = .inl v' -> Am Rd P C F Yq (Abf a0 a1 v'.1 v'.2.1 v'.2.2)) (hr : ∀ r', o = .inr r' -> r' = r)
   (K1 : ∀ r1, r = r1 -> Am Rd P C F Arj (Z9 r1)) : Am Rd P C F Bbv (A1t a0 a1 v2 v3 v4) := by
 unfold Du at h
 obtain ⟨c6, h⟩ := Ao h
 obtain ⟨c7, h⟩ := Ao h
 exact sg G [r0, r0, r0, en, .weak [.re 11 11 0, .keep [0, 1, 5, 6, 7] [11]]] (aa c6 <| aa c7 <| tt) (hl _ (si h))
theorem Ath (G : Ay Rd P) {y o r a0 a1 v1 v2 v3} (E : A3m C F y) (h : Fj a0 a1 v1 v2 v3 = some o)
   (hl : ∀ v', o = .inl v' -> Am Rd P C F Yq (Abf a0 a1 v'.1 v'.2.1 v'.2.2)) (hr : ∀ r', o = .inr r' -> r' = r)
   (K1 : ∀ r1, r = r1 -> Am Rd P C F Arj (Z9 r1)) : Am Rd P C F Yq (Abf a0 a1 v1 v2 v3) := by
 unfold Fj at h
 rcases Ad h with ⟨b1, h⟩ | ⟨b1, h⟩
 · obtain ⟨c4, h⟩ := Ao h
   rcases Ad h with ⟨b2, h⟩ | ⟨b2, h⟩
   · obtain ⟨c5, h⟩ := Ao h
     exact sg G [r0, bt, r0, r0, bt, r0, au, wk [0, 1, 5, 7, 8] [11]] (aa b1 <| aa c4 <| aa b2 <| aa c5 <| tt) (Aks G E h hl hr K1)
   · exact sg G [r0, bt, r0, r0, bf, au, wk [0, 1, 5, 7, 8] [11]] (aa b1 <| aa c4 <| aa b2 <| tt) (Aks G E h hl hr K1)
 · exact sg G [r0, bf, au, wk [5] [11]] (aa b1 <| tt) (K1 _ (hr _ (si h)).symm)
theorem Bbw (G : Ay Rd P) {y a0 a1} (E : A3m C F y) (h : Dj a0 a1 = some y) : Am Rd P C F A00 (A47 a0 a1) := by
 unfold Dj at h
 obtain ⟨c1, c2, c3, h⟩ := ns3 h
 obtain ⟨r1, hi, h⟩ := bind_some h
 have K1 : ∀ q, r1 = q -> Am Rd P C F Arj (Z9 q) := by
   rintro q rfl
   obtain ⟨y1, c8, h⟩ := bind_some h
   have e := sj h; subst e
   exact se G E [.reg [(1, .res ⟨[(.sl (.int .u32))], (y1, ())⟩)], au, .weak [.fix (.slot 4)]] (aa (ca c8) <| tt)
 exact sg G [r0, r0, r0, r0, en, wk [0, 1, 5, 6, 7] [11]] (aa c1 <| aa c2 <| aa c3 <| tt) (Az (V := Rd) (F := F) (k := Yq) (S := λ v => Abf a0 a1 v.1 v.2.1 v.2.2) (λ v o h hl hr => Ath G E h hl hr K1) _ hi)
noncomputable def Ayf : FS yaE := ⟨[(.sl (.int .u32)), (.sl (.int .u32))], [(.sl (.int .u32))], [], [], λ x => Option.map (λ r => (r, ())) (Dj x.1 x.2.1)⟩
theorem Ap3 : MT 91 Ayf := show Bh Rd _ _ _ from mt (fn := Try.f91) (S := λ x => A47 x.1 x.2.1) (GB ⟨Oy, trivial⟩ trivial) λ G _ _ _ _ E h => Bbw G E h
noncomputable abbrev Av6 : Env := EV [(85, Ado), (89, Aoq), (90, Ayy), (91, Ayf)] [] false
noncomputable def A90 : List Item := [.code (Try.f64.body.getD .skip)]
abbrev Bdi (C : Ctx) (F : Act -> World -> Prop) (y : Af) : Prop := Bz Av6 C F Try.f64.results.toList [] [(.nm 6)] (y, ())
noncomputable def A6w (a0 : Af) (a1 : Af) : ST := ⟨40, [(0, og (Bf a0)), (1, og (Bf a1))], []⟩
theorem Ba9 (G : Ay Av6 P) {y a0 a1} (E : Bdi C F y) (h : Cg a0 a1 = some y) : Am Av6 P C F A90 (A6w a0 a1) := by
 unfold Cg at h
 rcases Ad h with ⟨b1, h⟩ | ⟨b1, h⟩
 · obtain ⟨y1, c1, h⟩ := bind_some h
   obtain ⟨y2, c2, h⟩ := bind_some h
   have e := sj h; subst e
   exact se G E [r0, r0, bt, .reg [(4, .res ⟨[(.sl (.int .u32))], (y1, ())⟩), (7, .res ⟨[(.nm 6)], (y2, ())⟩)], au] (aa b1 <| aa (ca c1) <| aa (ca c2) <| tt)
 · obtain ⟨y3, c3, h⟩ := bind_some h
   rcases Ad h with ⟨b2, h⟩ | ⟨b2, h⟩
   · obtain ⟨y4, c4, h⟩ := bind_some h
     obtain ⟨y5, c5, h⟩ := bind_some h
     have e := sj h; subst e
     exact se G E [r0, r0, bf, .reg [(4, .res ⟨[(.int .i64)], (y3, ())⟩)], bt, .reg [(4, .res ⟨[(.sl (.int .u32))], (y4, ())⟩), (7, .res ⟨[(.nm 6)], (y5, ())⟩)], au] (aa b1 <| aa (ca c3) <| aa b2 <| aa (ca c4) <| aa (ca c5) <| tt)
   · obtain ⟨y6, c6, h⟩ := bind_some h
     obtain ⟨y7, c7, h⟩ := bind_some h
     have e := sj h; subst e
     exact se G E [r0, r0, bf, .reg [(4, .res ⟨[(.int .i64)], (y3, ())⟩)], bf, .reg [(4, .res ⟨[(.sl (.int .u32))], (y6, ())⟩), (7, .res ⟨[(.nm 6)], (y7, ())⟩)], au] (aa b1 <| aa (ca c3) <| aa b2 <| aa (ca c6) <| aa (ca c7) <| tt)
noncomputable def A0x : FS yaE := ⟨[(.nm 6), (.nm 6)], [(.nm 6)], [], [], λ x => Option.map (λ r => (r, ())) (Cg x.1 x.2.1)⟩
theorem Ara : MT 64 A0x := show Bh Av6 _ _ _ from mt (fn := Try.f64) (S := λ x => A6w x.1 x.2.1) (GB ⟨Ro, Ad8, Aqm, Ap3, trivial⟩ trivial) λ G _ _ _ _ E h => Ba9 G E h
noncomputable abbrev Am0 : Env := EV [(53, Aez), (55, Aed), (56, Aii), (57, Ajl), (64, A0x)] [] false
noncomputable def Ays : List Item := [.code (Try.f36.body.getD .skip)]
noncomputable def Bb0 := ctl [.reg, .reg, .reg, .br false, .auto] Ays
abbrev A5z (C : Ctx) (F : Act -> World -> Prop) (y : Ag) : Prop := Bz Am0 C F Try.f36.results.toList [] [(.nm 7)] (y, ())
noncomputable def A1x (a0 : Ag) (a1 : Ag) (y1 : Af) (y2 : Af) : ST := ⟨37, [(2, ol (.ptr 2 0)), (3, ol (.ptr 3 0)), (4, ol (.ptr 4 0)), (5, ol (.ptr 5 0)), (6, ol (.ptr 6 0))], [(2, .cells [.sl (.int .u32) false a0.n.d, .bool a0.n.minus, .sl (.int .u32) false a0.d.d, .bool a0.d.minus]), (3, .cells [.sl (.int .u32) false a1.n.d, .bool a1.n.minus, .sl (.int .u32) false a1.d.d, .bool a1.d.minus]), (4, .cells [.sl (.int .u32) true [], .bool false, .sl (.int .u32) true [], .bool false]), (5, .cells [.sl (.int .u32) false y1.d, .bool y1.minus]), (6, .cells [.sl (.int .u32) false y2.d, .bool y2.minus])]⟩
noncomputable def Bcf (a0 : Ag) (a1 : Ag) : ST := ⟨37, [(0, og (Bw a0)), (1, og (Bw a1))], []⟩
theorem Amg (G : Ay Am0 P) {y a0 a1 y1 y2} (E : A5z C F y) (h : Dn a0 a1 y1 y2 = some y) : Am Am0 P C F Bb0 (A1x a0 a1 y1 y2) := by
 unfold Dn at h
 obtain ⟨y6, c6, h⟩ := bind_some h
 obtain ⟨y7, c7, h⟩ := bind_some h
 obtain ⟨y8, c8, h⟩ := bind_some h
 obtain ⟨y9, c9, h⟩ := bind_some h
 obtain ⟨y10, c10, h⟩ := bind_some h
 have e := sj h; subst e
 exact se G E [.reg [(3, .res ⟨[(.nm 6)], (y6, ())⟩), (7, .res ⟨[(.nm 6)], (y7, ())⟩), (8, .res ⟨[(.nm 6)], (y8, ())⟩), (11, .res ⟨[(.nm 6)], (y9, ())⟩), (12, .res ⟨[(.nm 7)], (y10, ())⟩)], au] (aa (ca c6) <| aa (ca c7) <| aa (ca c8) <| aa (ca c9) <| aa (ca c10) <| tt)
theorem A7n (G : Ay Am0 P) {y a0 a1} (E : A5z C F y) (h : Dg a0 a1 = some y) : Am Am0 P C F Ays (Bcf a0 a1) := by
 unfold Dg at h
 obtain ⟨y1, c1, h⟩ := bind_some h
 obtain ⟨y2, c2, h⟩ := bind_some h
 obtain ⟨y3, c3, h⟩ := bind_some h
 rcases Ad h with ⟨b1, h⟩ | ⟨b1, h⟩
 · obtain ⟨y4, c4, h⟩ := bind_some h
   rcases Ad h with ⟨b2, h⟩ | ⟨b2, h⟩
   · obtain ⟨y5, c5, h⟩ := bind_some h
     have e := sj h; subst e
     exact se G E [r0, .reg [(1, .res ⟨[(.nm 6)], (y1, ())⟩), (3, .res ⟨[(.nm 6)], (y2, ())⟩)], .reg [(1, .res ⟨[.bool], (y3, ())⟩), (2, oT), (4, .res ⟨[.bool], (y4, ())⟩), (5, oT)], bt, .reg [(4, .res ⟨[(.nm 6)], (y5, ())⟩)], au] (aa (ca c1) <| aa (ca c2) <| aa (ca c3) <| aa b1 <| aa b1 <| aa (ca c4) <| aa b1 <| aa b2 <| aa (ca c5) <| tt)
   · exact sg G [r0, .reg [(1, .res ⟨[(.nm 6)], (y1, ())⟩), (3, .res ⟨[(.nm 6)], (y2, ())⟩)], .reg [(1, .res ⟨[.bool], (y3, ())⟩), (2, oT), (4, .res ⟨[.bool], (y4, ())⟩), (5, oT)], bf, au, wk [2, 3, 4, 5, 6] [2, 3, 4, 5, 6]] (aa (ca c1) <| aa (ca c2) <| aa (ca c3) <| aa b1 <| aa b1 <| aa (ca c4) <| aa b1 <| aa b2 <| tt) (Amg G E h)
 · exact sg G [r0, .reg [(1, .res ⟨[(.nm 6)], (y1, ())⟩), (3, .res ⟨[(.nm 6)], (y2, ())⟩)], .reg [(1, .res ⟨[.bool], (y3, ())⟩), (2, oF), (5, oF)], bf, au, wk [2, 3, 4, 5, 6] [2, 3, 4, 5, 6]] (aa (ca c1) <| aa (ca c2) <| aa (ca c3) <| aa b1 <| aa b1 <| aa b1 <| aa (show false = false from rfl) <| tt) (Amg G E h)
noncomputable def Ayk : FS yaE := ⟨[(.nm 7), (.nm 7)], [(.nm 7)], [], [], λ x => Option.map (λ r => (r, ())) (Dg x.1 x.2.1)⟩
theorem Asq : MT 36 Ayk := show Bh Am0 _ _ _ from mt (fn := Try.f36) (S := λ x => Bcf x.1 x.2.1) (GB ⟨R0, Rt, Wf, Wm, Ara, trivial⟩ trivial) λ G _ _ _ _ E h => A7n G E h
noncomputable abbrev Av4 : Env := EV [(65, Akk)] [] false
noncomputable def Bcd : List Item := [.code (Try.f37.body.getD .skip)]
abbrev Bdb (C : Ctx) (F : Act -> World -> Prop) (y : Bool) : Prop := Bz Av4 C F Try.f37.results.toList [] [.bool] (y, ())
noncomputable def A40 (a0 : Ag) : ST := ⟨6, [(0, og (Bw a0))], []⟩
theorem Bai (G : Ay Av4 P) {y a0} (E : Bdb C F y) (h : Cm a0 = some y) : Am Av4 P C F Bcd (A40 a0) := by
 unfold Cm at h
 obtain ⟨y1, c1, h⟩ := bind_some h
 have e := sj h; subst e
 exact se G E [r0, .reg [(2, .res ⟨[.bool], (y1, ())⟩)], au] (aa (ca c1) <| tt)
noncomputable def Axt : FS yaE := ⟨[(.nm 7)], [.bool], [], [], λ x => Option.map (λ r => (r, ())) (Cm x.1)⟩
theorem Apf : MT 37 Axt := show Bh Av4 _ _ _ from mt (fn := Try.f37) (S := λ x => A40 x.1) (GB ⟨Wo, trivial⟩ trivial) λ G _ _ _ _ E h => Bai G E h
noncomputable abbrev X0 : Env := EV [] [] false
noncomputable def Azu : List Item := [.code (Try.f66.body.getD .skip)]
noncomputable def Aj7 := ctl [.reg, .reg, .br false, .reg, .reg, .enter] Azu
noncomputable def Azz := ctl [.reg, .br false, .auto] Aj7
abbrev A7m (C : Ctx) (F : Act -> World -> Prop) (y : (Int × Bool)) : Prop := Bz X0 C F Try.f66.results.toList [] [(.int .i64), .bool] (y.1, y.2, ())
noncomputable def Aj6 (a0 : Af) (r1 : Int) : ST := ⟨40, [(1, ol (.ptr 1 0)), (4, ol (.int .u64 r1))], [(1, .cells [.sl (.int .u32) false a0.d, .bool a0.minus])]⟩
noncomputable def Ahe (a0 : Af) (v1 : Int) (v2 : Int) : ST := ⟨40, [(1, ol (.ptr 1 0)), (4, ol (.int .u64 v1)), (5, oi v2)], [(1, .cells [.sl (.int .u32) false a0.d, .bool a0.minus])]⟩
noncomputable def A56 (a0 : Af) : ST := ⟨40, [(0, og (Bf a0))], []⟩
theorem As6 (G : Ay X0 P) {y o r a0 v1 v2} (E : A7m C F y) (h : Dx a0 v1 v2 = some o)
   (hl : ∀ v', o = .inl v' -> Am X0 P C F Aj7 (Ahe a0 v'.1 v'.2)) (hr : ∀ r', o = .inr r' -> r' = r)
   (K1 : ∀ r1, r = r1 -> Am X0 P C F Azz (Aj6 a0 r1)) : Am X0 P C F Aj7 (Ahe a0 v1 v2) := by
 unfold Dx at h
 rcases Ad h with ⟨b2, h⟩ | ⟨b2, h⟩
 · obtain ⟨c1, c2, h⟩ := ns2 h
   exact sg G [r0, bt, r0, r0, en, wk [1, 4, 5] [1]] (aa b2 <| aa c1 <| aa c2 <| tt) (hl _ (si h))
 · exact sg G [r0, bf, au, wk [1, 4] [1]] (aa b2 <| tt) (K1 _ (hr _ (si h)).symm)
theorem Bba (G : Ay X0 P) {y a0} (E : A7m C F y) (h : B6 a0 = some y) : Am X0 P C F Azu (A56 a0) := by
 unfold B6 at h
 rcases Ad h with ⟨b1, h⟩ | ⟨b1, h⟩
 · have e := sj h; subst e
   exact se G E [r0, r0, bt, r0, au] (aa b1 <| tt)
 · obtain ⟨r1, hi, h⟩ := bind_some h
   have K1 : ∀ q, r1 = q -> Am X0 P C F Azz (Aj6 a0 q) := by
     rintro q rfl
     rcases Ad h with ⟨b3, h⟩ | ⟨b3, h⟩
     · have e := sj h; subst e
       exact se G E [r0, bt, r0, au] (aa b3 <| tt)
     · have e := sj h; subst e
       exact se G E [r0, bf, r0, au] (aa b3 <| tt)
   exact sg G [r0, r0, bf, r0, r0, en, wk [1, 4, 5] [1]] (aa b1 <| tt) (Az (V := X0) (F := F) (k := Aj7) (S := λ v => Ahe a0 v.1 v.2) (λ v o h hl hr => As6 G E h hl hr K1) _ hi)
noncomputable def Ayo : FS yaE := ⟨[(.nm 6)], [(.int .i64), .bool], [], [], λ x => Option.map (λ r => (r.1, r.2, ())) (B6 x.1)⟩
theorem Ap8 : MT 66 Ayo := show Bh X0 _ _ _ from mt (fn := Try.f66) (S := λ x => A56 x.1) (GB trivial trivial) λ G _ _ _ _ E h => Bba G E h
noncomputable abbrev Ano : Env := EV [(55, Aed), (66, Ayo)] [] false
noncomputable def Azl : List Item := [.code (Try.f38.body.getD .skip)]
noncomputable def A8p := ctl [.reg, .reg, .reg, .reg, .br true, .auto] Azl
abbrev A7f (C : Ctx) (F : Act -> World -> Prop) (y : (A7 × Bool)) : Prop := Bz Ano C F Try.f38.results.toList [] [(.nm 0), .bool] (y.1, y.2, ())
noncomputable def A1j : ST := ⟨42, [(2, ol (.ptr 2 0))], [(2, .cells [.int .i64 (0 : Int), .int .i64 (0 : Int)])]⟩
noncomputable def A6h (a0 : Ag) : ST := ⟨42, [(0, og (Bw a0))], []⟩
theorem Rp (G : Ay Ano P) {y} (E : A7f C F y) (h : Cp = some y) : Am Ano P C F A8p A1j := by
 unfold Cp at h
 have e := sj h; subst e
 exact se G E [r0, au] tt
theorem A8i (G : Ay Ano P) {y a0} (E : A7f C F y) (h : Ew a0 = some y) : Am Ano P C F Azl (A6h a0) := by
 unfold Ew at h
 obtain ⟨y1, c1, h⟩ := bind_some h
 obtain ⟨y2, c2, h⟩ := bind_some h
 obtain ⟨y3, c3, h⟩ := bind_some h
 rcases Ad h with ⟨b1, h⟩ | ⟨b1, h⟩
 · exact sg G [r0, .reg [(2, .res ⟨[(.int .i64), .bool], (y1.1, y1.2, ())⟩)], .reg [(1, .res ⟨[(.nm 6)], (y2, ())⟩), (2, .res ⟨[(.int .i64), .bool], (y3.1, y3.2, ())⟩)], .reg [(2, oT), (5, oT), (6, oT), (9, oT), (10, oT), (13, oT), (14, oT), (17, oT)], bt, au, wk [2] [2]] (aa (cb c1) <| aa (ca c2) <| aa (cb c3) <| aa b1 <| aa b1 <| aa b1 <| aa (show true = true from rfl) <| aa (show true = true from rfl) <| aa (show true = true from rfl) <| aa (show true = true from rfl) <| aa (show true = true from rfl) <| aa (show true = true from rfl) <| aa (show true = true from rfl) <| aa (show true = true from rfl) <| aa (show true = true from rfl) <| aa (show true = true from rfl) <| tt) (Rp G E h)
 · rcases Ad h with ⟨b2, h⟩ | ⟨b2, h⟩
   · exact sg G [r0, .reg [(2, .res ⟨[(.int .i64), .bool], (y1.1, y1.2, ())⟩)], .reg [(1, .res ⟨[(.nm 6)], (y2, ())⟩), (2, .res ⟨[(.int .i64), .bool], (y3.1, y3.2, ())⟩)], .reg [(2, oF), (5, oF), (6, oT), (9, oT), (10, oT), (13, oT), (14, oT), (17, oT)], bt, au, wk [2] [2]] (aa (cb c1) <| aa (ca c2) <| aa (cb c3) <| aa b1 <| aa b1 <| aa b1 <| aa b2 <| aa b2 <| aa b2 <| aa (show true = true from rfl) <| aa (show true = true from rfl) <| aa (show true = true from rfl) <| aa (show true = true from rfl) <| aa (show true = true from rfl) <| aa (show true = true from rfl) <| aa (show true = true from rfl) <| tt) (Rp G E h)
   · rcases Ad h with ⟨b3, h⟩ | ⟨b3, h⟩
     · exact sg G [r0, .reg [(2, .res ⟨[(.int .i64), .bool], (y1.1, y1.2, ())⟩)], .reg [(1, .res ⟨[(.nm 6)], (y2, ())⟩), (2, .res ⟨[(.int .i64), .bool], (y3.1, y3.2, ())⟩)], .reg [(2, oF), (5, oF), (6, oF), (9, oF), (10, oT), (13, oT), (14, oT), (17, oT)], bt, au, wk [2] [2]] (aa (cb c1) <| aa (ca c2) <| aa (cb c3) <| aa b1 <| aa b1 <| aa b1 <| aa b2 <| aa b2 <| aa b2 <| aa b3 <| aa b3 <| aa b3 <| aa (show true = true from rfl) <| aa (show true = true from rfl) <| aa (show true = true from rfl) <| aa (show true = true from rfl) <| tt) (Rp G E h)
     · rcases Ad h with ⟨b4, h⟩ | ⟨b4, h⟩
       · exact sg G [r0, .reg [(2, .res ⟨[(.int .i64), .bool], (y1.1, y1.2, ())⟩)], .reg [(1, .res ⟨[(.nm 6)], (y2, ())⟩), (2, .res ⟨[(.int .i64), .bool], (y3.1, y3.2, ())⟩)], .reg [(2, oF), (5, oF), (6, oF), (9, oF), (10, oF), (13, oF), (14, oT), (17, oT)], bt, au, wk [2] [2]] (aa (cb c1) <| aa (ca c2) <| aa (cb c3) <| aa b1 <| aa b1 <| aa b1 <| aa b2 <| aa b2 <| aa b2 <| aa b3 <| aa b3 <| aa b3 <| aa b4 <| aa b4 <| aa b4 <| aa (show true = true from rfl) <| tt) (Rp G E h)
       · rcases Ad h with ⟨b5, h⟩ | ⟨b5, h⟩
         · exact sg G [r0, .reg [(2, .res ⟨[(.int .i64), .bool], (y1.1, y1.2, ())⟩)], .reg [(1, .res ⟨[(.nm 6)], (y2, ())⟩), (2, .res ⟨[(.int .i64), .bool], (y3.1, y3.2, ())⟩)], .reg [(2, oF), (5, oF), (6, oF), (9, oF), (10, oF), (13, oF), (14, oF), (17, oF)], bt, au, wk [2] [2]] (aa (cb c1) <| aa (ca c2) <| aa (cb c3) <| aa b1 <| aa b1 <| aa b1 <| aa b2 <| aa b2 <| aa b2 <| aa b3 <| aa b3 <| aa b3 <| aa b4 <| aa b4 <| aa b4 <| aa b5 <| tt) (Rp G E h)
         · have e := sj h; subst e
           exact se G E [r0, .reg [(2, .res ⟨[(.int .i64), .bool], (y1.1, y1.2, ())⟩)], .reg [(1, .res ⟨[(.nm 6)], (y2, ())⟩), (2, .res ⟨[(.int .i64), .bool], (y3.1, y3.2, ())⟩)], .reg [(2, oF), (5, oF), (6, oF), (9, oF), (10, oF), (13, oF), (14, oF), (17, oF)], bf, r0, au] (aa (cb c1) <| aa (ca c2) <| aa (cb c3) <| aa b1 <| aa b1 <| aa b1 <| aa b2 <| aa b2 <| aa b2 <| aa b3 <| aa b3 <| aa b3 <| aa b4 <| aa b4 <| aa b4 <| aa b5 <| tt)
noncomputable def A0u : FS yaE := ⟨[(.nm 7)], [(.nm 0), .bool], [], [], λ x => Option.map (λ r => (r.1, r.2, ())) (Ew x.1)⟩
theorem Asy : MT 38 A0u := show Bh Ano _ _ _ from mt (fn := Try.f38) (S := λ x => A6h x.1) (GB ⟨Rt, Ap8, trivial⟩ trivial) λ G _ _ _ _ E h => A8i G E h
end
end Go.Ab
