/- The functions compute what the plain functions tell. Conditions: none beyond those that each theorem names. -/
import Derived.Test.YtgngflkahbpecaaGreatDoorP22
import Derived.Test.YtgngflkahbpecaaGreatDoorP17
set_option linter.unusedSimpArgs false
namespace Go.Ab
open Go Go.Proofs
set_option linter.unusedVariables false
section
variable {P:Program} {C:Ctx} {F:FT}
abbrev Baw:List (Tk yeE):=[.S 0 true,.s 9,.S 1 false,.k (.ptr 1000001 0),.C 1000001,.v .str]
abbrev A6j:List (Tk yeE):=[.S 0 false,.v .bool,.C 1000001,.v .str]
noncomputable def Vq:FX yeE:=⟨Baw,A6j,(Bool×(List UInt8)),λ x=>Ald x.1 x.2.1,λ r=>(r.1,r.2,())⟩
theorem Ccc:GO (EX [] [] []):=GF trivial trivial trivial
section
variable (k:Kt Ccc C F 8 [])
end
theorem Azq:MX 71 Vq:=mw Ccc 71 Tryz.f71 Vq [] (λ k=>(fx k Tryz.f71 Vq (λ y=>(y.1,y.2.1)) λ _ h=>h)) (.g (.g (.e [[]]))) λ k _=>an
abbrev Ago:List (Tk yeE):=[.S 0 false,.v (.sl (.nm 9)),.S 1 false,.k (.clo 71 [.ptr 1000001 0]),.C 1000001,.v .str]
abbrev Af8:List (Tk yeE):=[.S 0 false,.v (.int .i64),.C 1000001,.v .str]
noncomputable def C3:FX yeE:=⟨Ago,Af8,(Int×(List UInt8)),λ x=>Kv x.1 x.2.1,λ r=>(r.1,r.2,())⟩
theorem Bwq:GO (EX [] [(71,[],Vq)] []):=GF trivial ⟨Azq,trivial⟩ trivial
section
variable (k:Kt Bwq C F 19 [])
noncomputable def Agv:=c0 Tryz.f70
noncomputable def Fw:=ct [0,0,1,4] Agv
noncomputable def Q5:=ct [0,2,4] Fw
abbrev Bmz (y:(Int×(List UInt8))):Prop:=Ex k Tryz.f70 C3 (y.1,y.2,())
abbrev Aff (a0:(List Aa)):=Lz k Fw (Cc a0) (Sum.elim (Gz k Q5 Fa) (Bmz k))
theorem Adz:Ok k (Bmz k) ⟨Q5,Fa,F1⟩:=pz k (fx k Tryz.f70 C3 (λ y=>(y.1,y.2.1)) λ _ h=>h) (.g (.e [[]])) λ _=>an
theorem Adt (a0:(List Aa)):Ok k (Aff k a0) ⟨Fw,Cc a0,Fx a0⟩:=pz k (fx k Tryz.f70 C3 (λ y=> .inr (.inr (y.1,y.2.1))) λ y h=>h.2 (.inr (y.1,y.2.1)) rfl) (.g (.b (.g (.g (.b (.g (.e [[]])) (.g (.l (.c 0 [[]])))))) (.c 1 [[]]))) λ _=>ac bk<|ac (xt Sum.inl λ _ h=>h)<|an
theorem Ach (a0:(List Aa)):Ok k (Bmz k) ⟨Fw,Cc a0,λ v=>Option.bind (iter (Fx a0) v) (Sum.elim F1 (λ y=>some y))⟩:=lz k (Adt k a0) (xs (Adz k) xr)
end
theorem Aar:MX 70 C3:=mw Bwq 70 Tryz.f70 C3 [] (λ k=>Au) (.g (.g (.l (.c 0 [[]])))) λ k x=>ac (Ach k x.1)<|an
noncomputable def Hp:FS yeE:=f1 [(.sl (.nm 9)),.str] (.int .i64) λ x=>Gc x.1 x.2.1
theorem Ccj:GO (EX [] [(70,[71],C3)] []):=GF trivial ⟨Aar,trivial⟩ trivial
section
variable (k:Kt Ccj C F 8 [])
end
theorem I3:MT 41 Hp:=mz Ccj 41 Tryz.f41 Hp [] (λ k=>(fz k Tryz.f41 Hp (λ y=>y.1) λ _ h=>h)) (.g (.g (.e [[]]))) λ k _=>an
noncomputable def Ho:FS yeE:=f1 [(.nm 9)] (.int .i64) λ x=>Ams x.1
theorem B8n:GO (EV [] [] false):=GB trivial trivial
section
variable (k:Kt B8n C F 73 [])
noncomputable def Awp:=c0 Tryz.f122
noncomputable def Bm5:=ct [0,0,3,4] Awp
noncomputable def Adl:=ct [0,0,2,0,1,4] Awp
noncomputable def Amv:=ct [0,2,4] Adl
noncomputable def Adm:=ct [0,1,4] Amv
noncomputable def All:=ct [0,2,4] Adm
noncomputable def Adg:=ct [0,1,4] All
noncomputable def Ayl:=ct [0,2,4] Adg
abbrev Aua (y:Int):Prop:=Ez k Tryz.f122 Ho (y,())
abbrev Bhm (a0:Aa):=Lz k Adg (Ju a0) (Sum.elim (Gz k Ayl Yz) (Aua k))
abbrev Bf8 (a0:Aa):=Lz k Adm (Jz a0) (Sum.elim (Gz k All (Sj a0)) (Aua k))
abbrev Bgw (a0:Aa):=Lz k Adl (Jt a0) (Sum.elim (Gz k Amv (Sp a0)) (Aua k))
theorem Bb4:Ok k (Aua k) ⟨Bm5,Aul,Lp⟩:=pz k (fz k Tryz.f122 Ho (λ y=>y.1) λ _ h=>h) (.g (.e [[]])) λ _=>an
theorem Bde:Ok k (Aua k) ⟨Ayl,Yz,Adw⟩:=pz k (fz k Tryz.f122 Ho (λ y=>y.1) λ _ h=>h) (.g (.e [[]])) λ _=>an
theorem A94 (a0:Aa):Ok k (Bhm k a0) ⟨Adg,Ju a0,Acx a0⟩:=pz k (fz k Tryz.f122 Ho (λ y=> .inr (.inr y.1)) λ y h=>h.2 (.inr y.1) rfl) (.g (.b (.g (.g (.b (.g (.e [[]])) (.g (.l (.c 0 [[]])))))) (.c 1 [[]]))) λ _=>ac bk<|ac (xt Sum.inl λ _ h=>h)<|an
theorem Bbm (a0:Aa):Ok k (Aua k) ⟨Adg,Ju a0,λ v=>Option.bind (iter (Acx a0) v) (Sum.elim Adw (λ y=>some y))⟩:=lz k (A94 k a0) (xs (Bde k) xr)
theorem Bdc (a0:Aa):Ok k (Aua k) ⟨All,Sj a0,Aco a0⟩:=pz k Au (.g (.l (.c 0 [[]]))) λ _=>ac (Bbm k a0)<|an
theorem Bdn (a0:Aa):Ok k (Bf8 k a0) ⟨Adm,Jz a0,Ab1 a0⟩:=pz k (fz k Tryz.f122 Ho (λ y=> .inr (.inr y.1)) λ y h=>h.2 (.inr y.1) rfl) (.g (.b (.g (.g (.b (.g (.e [[]])) (.g (.l (.c 0 [[]])))))) (.c 1 [[]]))) λ _=>ac bk<|ac (xt Sum.inl λ _ h=>h)<|an
theorem A9l (a0:Aa):Ok k (Aua k) ⟨Adm,Jz a0,λ v=>Option.bind (iter (Ab1 a0) v) (Sum.elim (Aco a0) (λ y=>some y))⟩:=lz k (Bdn k a0) (xs (Bdc k a0) xr)
theorem Bfr (a0:Aa):Ok k (Aua k) ⟨Amv,Sp a0,Acv a0⟩:=pz k Au (.g (.l (.c 0 [[]]))) λ _=>ac (A9l k a0)<|an
theorem Bcd (a0:Aa):Ok k (Bgw k a0) ⟨Adl,Jt a0,Adx a0⟩:=pz k (fz k Tryz.f122 Ho (λ y=> .inr (.inr y.1)) λ y h=>h.2 (.inr y.1) rfl) (.g (.b (.g (.g (.b (.g (.e [[]])) (.g (.l (.c 0 [[]])))))) (.c 1 [[]]))) λ _=>ac bk<|ac (xt Sum.inl λ _ h=>h)<|an
theorem Bff (a0:Aa):Ok k (Aua k) ⟨Adl,Jt a0,λ v=>Option.bind (iter (Adx a0) v) (Sum.elim (Acv a0) (λ y=>some y))⟩:=lz k (Bcd k a0) (xs (Bfr k a0) xr)
end
theorem A6w:MT 122 Ho:=mz B8n 122 Tryz.f122 Ho [] (λ k=>Au) (.g (.g (.b (.c 0 [[]]) (.g (.l (.c 1 [[]])))))) λ k x=>ac (Bb4 k)<|ac (Bff k x.1)<|an
noncomputable abbrev V5:Env:=EV [] [] false
noncomputable def A7o:=c0 Tryz.f116
noncomputable def Aa0:FS yeE:=f1 [(.int .u8)] .bool λ x=>Gm x.1
abbrev Be2 (C:Ctx) (F:FT) (y:Bool):Prop:=En V5 C F Tryz.f116 Aa0 (y,())
def Ap0 (a0:Int):ST:=⟨17,[ol 0 (.int .u8 a0)],[]⟩
theorem A70 (G:Bs V5 P) {y a0} (E:Be2 C F y) (h:Gm a0=some y):Bv V5 P C F A7o (Ap0 a0):=by
 unfold Gm at h
 rcases Aj h with⟨b1,h⟩|⟨b1,h⟩
 ·rcases Aj h with⟨b2,h⟩|⟨b2,h⟩
  ·have e:=sj h;subst e
   exact se G E [r0,ru [2,5,6,13],au] (ar 3 b1<|ar 5 b2<|tt)
  ·rcases Aj h with⟨b3,h⟩|⟨b3,h⟩
   ·have e:=sj h;subst e
    exact se G E [r0,rb [6,13] [2,5,9,12],au] (ar 3 b1<|ar 3 b2<|e5 b3 b3 b2 b3 b2)
   ·have e:=sj h;subst e
    exact se G E [r0,rb [6,9,12,13] [2,5],au] (ar 3 b1<|ar 3 b2<|e5 b3 b3 b2 b3 b2)
 ·rcases Aj h with⟨b4,h⟩|⟨b4,h⟩
  ·have e:=sj h;subst e
   exact se G E [r0,rb [2,5,6,13] [9,12],au] (ar 3 b1<|ar 3 rF<|e5 b4 b4 rF b4 rF)
  ·have e:=sj h;subst e
   exact se G E [r0,rf [2,5,6,9,12,13],au] (ar 3 b1<|ar 3 rF<|e5 b4 b4 rF b4 rF)
theorem Ava:MT 116 Aa0:=show E1 V5 _ _ _ from mt (fn:=Tryz.f116) (S:=λ x=>Ap0 x.1) (GB trivial trivial) λ G _ _ _ _=>A70 G
noncomputable abbrev P5:Env:=EV [] [] false
noncomputable def Aw1:=c0 Tryz.f117
noncomputable def Om:FS yeE:=f1 [.str] .bool λ x=>Em x.1
abbrev A32 (C:Ctx) (F:FT) (y:Bool):Prop:=En P5 C F Tryz.f117 Om (y,())
def Aj6 (a0:(List UInt8)):ST:=⟨48,[ol 0 (.str a0)],[]⟩
theorem Axw (G:Bs P5 P) {y a0} (E:A32 C F y) (h:Em a0=some y):Bv P5 P C F Aw1 (Aj6 a0):=by
 unfold Em at h
 rcases Aj h with⟨b1,h⟩|⟨b1,h⟩
 ·have e:=sj h;subst e
  exact se G E [r0,r0,r0,bt,bt,r0,au] (e2 b1 b1)
 ·rcases Aj h with⟨b2,h⟩|⟨b2,h⟩
  ·have e:=sj h;subst e
   exact se G E [r0,r0,r0,bf,r0,bt,bt,r0,au] (e3 b1 b2 b2)
  ·rcases Aj h with⟨b3,h⟩|⟨b3,h⟩
   ·have e:=sj h;subst e
    exact se G E [r0,r0,r0,bf,r0,bf,r0,bt,bt,r0,au] (e4 b1 b2 b3 b3)
   ·rcases Aj h with⟨b4,h⟩|⟨b4,h⟩
    ·have e:=sj h;subst e
     exact se G E [r0,r0,r0,bf,r0,bf,r0,bf,r0,bt,bt,r0,au] (e5 b1 b2 b3 b4 b4)
    ·rcases Aj h with⟨b5,h⟩|⟨b5,h⟩
     ·have e:=sj h;subst e
      exact se G E [r0,r0,r0,bf,r0,bf,r0,bf,r0,bf,r0,bt,bt,r0,au] (e6 b1 b2 b3 b4 b5 b5)
     ·rcases Aj h with⟨b6,h⟩|⟨b6,h⟩
      ·have e:=sj h;subst e
       exact se G E [r0,r0,r0,bf,r0,bf,r0,bf,r0,bf,r0,bf,r0,bt,bt,r0,au] (q6 b1 b2 b3 b4 b5 b6<|e1 b6)
      ·rcases Aj h with⟨b7,h⟩|⟨b7,h⟩
       ·have e:=sj h;subst e
        exact se G E [r0,r0,r0,bf,r0,bf,r0,bf,r0,bf,r0,bf,r0,bf,r0,bt,bt,r0,au] (q6 b1 b2 b3 b4 b5 b6<|e2 b7 b7)
       ·rcases Aj h with⟨b8,h⟩|⟨b8,h⟩
        ·have e:=sj h;subst e
         exact se G E [r0,r0,r0,bf,r0,bf,r0,bf,r0,bf,r0,bf,r0,bf,r0,bf,r0,bt,bt,r0,au] (q6 b1 b2 b3 b4 b5 b6<|e3 b7 b8 b8)
        ·rcases Aj h with⟨b9,h⟩|⟨b9,h⟩
         ·have e:=sj h;subst e
          exact se G E [r0,r0,r0,bf,r0,bf,r0,bf,r0,bf,r0,bf,r0,bf,r0,bf,r0,bf,r0,bt,bt,r0,au] (q6 b1 b2 b3 b4 b5 b6<|e4 b7 b8 b9 b9)
         ·rcases Aj h with⟨b10,h⟩|⟨b10,h⟩
          ·have e:=sj h;subst e
           exact se G E [r0,r0,r0,bf,r0,bf,r0,bf,r0,bf,r0,bf,r0,bf,r0,bf,r0,bf,r0,bf,r0,bt,bt,r0,au] (q6 b1 b2 b3 b4 b5 b6<|e5 b7 b8 b9 b10 b10)
          ·rcases Aj h with⟨b11,h⟩|⟨b11,h⟩
           ·have e:=sj h;subst e
            exact se G E [r0,r0,r0,bf,r0,bf,r0,bf,r0,bf,r0,bf,r0,bf,r0,bf,r0,bf,r0,bf,r0,bf,r0,bt,bt,r0,au] (q6 b1 b2 b3 b4 b5 b6<|e6 b7 b8 b9 b10 b11 b11)
           ·rcases Aj h with⟨b12,h⟩|⟨b12,h⟩
            ·have e:=sj h;subst e
             exact se G E [r0,r0,r0,bf,r0,bf,r0,bf,r0,bf,r0,bf,r0,bf,r0,bf,r0,bf,r0,bf,r0,bf,r0,bf,r0,bt,bt,r0,au] (q6 b1 b2 b3 b4 b5 b6<|q6 b7 b8 b9 b10 b11 b12<|e1 b12)
            ·rcases Aj h with⟨b13,h⟩|⟨b13,h⟩
             ·have e:=sj h;subst e
              exact se G E [r0,r0,r0,bf,r0,bf,r0,bf,r0,bf,r0,bf,r0,bf,r0,bf,r0,bf,r0,bf,r0,bf,r0,bf,r0,bf,r0,bt,bt,r0,au] (q6 b1 b2 b3 b4 b5 b6<|q6 b7 b8 b9 b10 b11 b12<|e2 b13 b13)
             ·rcases Aj h with⟨b14,h⟩|⟨b14,h⟩
              ·have e:=sj h;subst e
               exact se G E [r0,r0,r0,bf,r0,bf,r0,bf,r0,bf,r0,bf,r0,bf,r0,bf,r0,bf,r0,bf,r0,bf,r0,bf,r0,bf,r0,bf,r0,bt,bt,r0,au] (q6 b1 b2 b3 b4 b5 b6<|q6 b7 b8 b9 b10 b11 b12<|e3 b13 b14 b14)
              ·rcases Aj h with⟨b15,h⟩|⟨b15,h⟩
               ·have e:=sj h;subst e
                exact se G E [r0,r0,r0,bf,r0,bf,r0,bf,r0,bf,r0,bf,r0,bf,r0,bf,r0,bf,r0,bf,r0,bf,r0,bf,r0,bf,r0,bf,r0,bf,r0,bt,bt,r0,au] (q6 b1 b2 b3 b4 b5 b6<|q6 b7 b8 b9 b10 b11 b12<|e4 b13 b14 b15 b15)
               ·rcases Aj h with⟨b16,h⟩|⟨b16,h⟩
                ·have e:=sj h;subst e
                 exact se G E [r0,r0,r0,bf,r0,bf,r0,bf,r0,bf,r0,bf,r0,bf,r0,bf,r0,bf,r0,bf,r0,bf,r0,bf,r0,bf,r0,bf,r0,bf,r0,bf,r0,bt,bt,r0,au] (q6 b1 b2 b3 b4 b5 b6<|q6 b7 b8 b9 b10 b11 b12<|e5 b13 b14 b15 b16 b16)
                ·rcases Aj h with⟨b17,h⟩|⟨b17,h⟩
                 ·have e:=sj h;subst e
                  exact se G E [r0,r0,r0,bf,r0,bf,r0,bf,r0,bf,r0,bf,r0,bf,r0,bf,r0,bf,r0,bf,r0,bf,r0,bf,r0,bf,r0,bf,r0,bf,r0,bf,r0,bf,r0,bt,bt,r0,au] (q6 b1 b2 b3 b4 b5 b6<|q6 b7 b8 b9 b10 b11 b12<|e6 b13 b14 b15 b16 b17 b17)
                 ·rcases Aj h with⟨b18,h⟩|⟨b18,h⟩
                  ·have e:=sj h;subst e
                   exact se G E [r0,r0,r0,bf,r0,bf,r0,bf,r0,bf,r0,bf,r0,bf,r0,bf,r0,bf,r0,bf,r0,bf,r0,bf,r0,bf,r0,bf,r0,bf,r0,bf,r0,bf,r0,bf,r0,bt,bt,r0,au] (q6 b1 b2 b3 b4 b5 b6<|q6 b7 b8 b9 b10 b11 b12<|q6 b13 b14 b15 b16 b17 b18<|e1 b18)
                  ·rcases Aj h with⟨b19,h⟩|⟨b19,h⟩
                   ·have e:=sj h;subst e
                    exact se G E [r0,r0,r0,bf,r0,bf,r0,bf,r0,bf,r0,bf,r0,bf,r0,bf,r0,bf,r0,bf,r0,bf,r0,bf,r0,bf,r0,bf,r0,bf,r0,bf,r0,bf,r0,bf,r0,bf,r0,bt,bt,r0,au] (q6 b1 b2 b3 b4 b5 b6<|q6 b7 b8 b9 b10 b11 b12<|q6 b13 b14 b15 b16 b17 b18<|e2 b19 b19)
                   ·rcases Aj h with⟨b20,h⟩|⟨b20,h⟩
                    ·have e:=sj h;subst e
                     exact se G E [r0,r0,r0,bf,r0,bf,r0,bf,r0,bf,r0,bf,r0,bf,r0,bf,r0,bf,r0,bf,r0,bf,r0,bf,r0,bf,r0,bf,r0,bf,r0,bf,r0,bf,r0,bf,r0,bf,r0,bf,r0,bt,bt,r0,au] (q6 b1 b2 b3 b4 b5 b6<|q6 b7 b8 b9 b10 b11 b12<|q6 b13 b14 b15 b16 b17 b18<|e3 b19 b20 b20)
                    ·rcases Aj h with⟨b21,h⟩|⟨b21,h⟩
                     ·have e:=sj h;subst e
                      exact se G E [r0,r0,r0,bf,r0,bf,r0,bf,r0,bf,r0,bf,r0,bf,r0,bf,r0,bf,r0,bf,r0,bf,r0,bf,r0,bf,r0,bf,r0,bf,r0,bf,r0,bf,r0,bf,r0,bf,r0,bf,r0,bf,r0,bt,bt,r0,au] (q6 b1 b2 b3 b4 b5 b6<|q6 b7 b8 b9 b10 b11 b12<|q6 b13 b14 b15 b16 b17 b18<|e4 b19 b20 b21 b21)
                     ·rcases Aj h with⟨b22,h⟩|⟨b22,h⟩
                      ·have e:=sj h;subst e
                       exact se G E [r0,r0,r0,bf,r0,bf,r0,bf,r0,bf,r0,bf,r0,bf,r0,bf,r0,bf,r0,bf,r0,bf,r0,bf,r0,bf,r0,bf,r0,bf,r0,bf,r0,bf,r0,bf,r0,bf,r0,bf,r0,bf,r0,bf,r0,bt,bt,r0,au] (q6 b1 b2 b3 b4 b5 b6<|q6 b7 b8 b9 b10 b11 b12<|q6 b13 b14 b15 b16 b17 b18<|e5 b19 b20 b21 b22 b22)
                      ·rcases Aj h with⟨b23,h⟩|⟨b23,h⟩
                       ·have e:=sj h;subst e
                        exact se G E [r0,r0,r0,bf,r0,bf,r0,bf,r0,bf,r0,bf,r0,bf,r0,bf,r0,bf,r0,bf,r0,bf,r0,bf,r0,bf,r0,bf,r0,bf,r0,bf,r0,bf,r0,bf,r0,bf,r0,bf,r0,bf,r0,bf,r0,bf,r0,bt,bt,r0,au] (q6 b1 b2 b3 b4 b5 b6<|q6 b7 b8 b9 b10 b11 b12<|q6 b13 b14 b15 b16 b17 b18<|e6 b19 b20 b21 b22 b23 b23)
                       ·rcases Aj h with⟨b24,h⟩|⟨b24,h⟩
                        ·have e:=sj h;subst e
                         exact se G E [r0,r0,r0,bf,r0,bf,r0,bf,r0,bf,r0,bf,r0,bf,r0,bf,r0,bf,r0,bf,r0,bf,r0,bf,r0,bf,r0,bf,r0,bf,r0,bf,r0,bf,r0,bf,r0,bf,r0,bf,r0,bf,r0,bf,r0,bf,r0,bf,r0,bt,bt,r0,au] (q6 b1 b2 b3 b4 b5 b6<|q6 b7 b8 b9 b10 b11 b12<|q6 b13 b14 b15 b16 b17 b18<|q6 b19 b20 b21 b22 b23 b24<|e1 b24)
                        ·rcases Aj h with⟨b25,h⟩|⟨b25,h⟩
                         ·have e:=sj h;subst e
                          exact se G E [r0,r0,r0,bf,r0,bf,r0,bf,r0,bf,r0,bf,r0,bf,r0,bf,r0,bf,r0,bf,r0,bf,r0,bf,r0,bf,r0,bf,r0,bf,r0,bf,r0,bf,r0,bf,r0,bf,r0,bf,r0,bf,r0,bf,r0,bf,r0,bf,r0,bf,r0,bt,bt,r0,au] (q6 b1 b2 b3 b4 b5 b6<|q6 b7 b8 b9 b10 b11 b12<|q6 b13 b14 b15 b16 b17 b18<|q6 b19 b20 b21 b22 b23 b24<|e2 b25 b25)
                         ·rcases Aj h with⟨b26,h⟩|⟨b26,h⟩
                          ·have e:=sj h;subst e
                           exact se G E [r0,r0,r0,bf,r0,bf,r0,bf,r0,bf,r0,bf,r0,bf,r0,bf,r0,bf,r0,bf,r0,bf,r0,bf,r0,bf,r0,bf,r0,bf,r0,bf,r0,bf,r0,bf,r0,bf,r0,bf,r0,bf,r0,bf,r0,bf,r0,bf,r0,bf,r0,bf,r0,bt,bt,r0,au] (q6 b1 b2 b3 b4 b5 b6<|q6 b7 b8 b9 b10 b11 b12<|q6 b13 b14 b15 b16 b17 b18<|q6 b19 b20 b21 b22 b23 b24<|e3 b25 b26 b26)
                          ·rcases Aj h with⟨b27,h⟩|⟨b27,h⟩
                           ·have e:=sj h;subst e
                            exact se G E [r0,r0,r0,bf,r0,bf,r0,bf,r0,bf,r0,bf,r0,bf,r0,bf,r0,bf,r0,bf,r0,bf,r0,bf,r0,bf,r0,bf,r0,bf,r0,bf,r0,bf,r0,bf,r0,bf,r0,bf,r0,bf,r0,bf,r0,bf,r0,bf,r0,bf,r0,bf,r0,bf,r0,bt,bt,r0,au] (q6 b1 b2 b3 b4 b5 b6<|q6 b7 b8 b9 b10 b11 b12<|q6 b13 b14 b15 b16 b17 b18<|q6 b19 b20 b21 b22 b23 b24<|e4 b25 b26 b27 b27)
                           ·rcases Aj h with⟨b28,h⟩|⟨b28,h⟩
                            ·have e:=sj h;subst e
                             exact se G E [r0,r0,r0,bf,r0,bf,r0,bf,r0,bf,r0,bf,r0,bf,r0,bf,r0,bf,r0,bf,r0,bf,r0,bf,r0,bf,r0,bf,r0,bf,r0,bf,r0,bf,r0,bf,r0,bf,r0,bf,r0,bf,r0,bf,r0,bf,r0,bf,r0,bf,r0,bf,r0,bf,r0,bf,r0,bt,bt,r0,au] (q6 b1 b2 b3 b4 b5 b6<|q6 b7 b8 b9 b10 b11 b12<|q6 b13 b14 b15 b16 b17 b18<|q6 b19 b20 b21 b22 b23 b24<|e5 b25 b26 b27 b28 b28)
                            ·rcases Aj h with⟨b29,h⟩|⟨b29,h⟩
                             ·have e:=sj h;subst e
                              exact se G E [r0,r0,r0,bf,r0,bf,r0,bf,r0,bf,r0,bf,r0,bf,r0,bf,r0,bf,r0,bf,r0,bf,r0,bf,r0,bf,r0,bf,r0,bf,r0,bf,r0,bf,r0,bf,r0,bf,r0,bf,r0,bf,r0,bf,r0,bf,r0,bf,r0,bf,r0,bf,r0,bf,r0,bf,r0,bf,r0,bt,bt,r0,au] (q6 b1 b2 b3 b4 b5 b6<|q6 b7 b8 b9 b10 b11 b12<|q6 b13 b14 b15 b16 b17 b18<|q6 b19 b20 b21 b22 b23 b24<|e6 b25 b26 b27 b28 b29 b29)
                             ·rcases Aj h with⟨b30,h⟩|⟨b30,h⟩
                              ·have e:=sj h;subst e
                               exact se G E [r0,r0,r0,bf,r0,bf,r0,bf,r0,bf,r0,bf,r0,bf,r0,bf,r0,bf,r0,bf,r0,bf,r0,bf,r0,bf,r0,bf,r0,bf,r0,bf,r0,bf,r0,bf,r0,bf,r0,bf,r0,bf,r0,bf,r0,bf,r0,bf,r0,bf,r0,bf,r0,bf,r0,bf,r0,bf,r0,bf,r0,bt,bt,r0,au] (q6 b1 b2 b3 b4 b5 b6<|q6 b7 b8 b9 b10 b11 b12<|q6 b13 b14 b15 b16 b17 b18<|q6 b19 b20 b21 b22 b23 b24<|q6 b25 b26 b27 b28 b29 b30<|e1 b30)
                              ·rcases Aj h with⟨b31,h⟩|⟨b31,h⟩
                               ·have e:=sj h;subst e
                                exact se G E [r0,r0,r0,bf,r0,bf,r0,bf,r0,bf,r0,bf,r0,bf,r0,bf,r0,bf,r0,bf,r0,bf,r0,bf,r0,bf,r0,bf,r0,bf,r0,bf,r0,bf,r0,bf,r0,bf,r0,bf,r0,bf,r0,bf,r0,bf,r0,bf,r0,bf,r0,bf,r0,bf,r0,bf,r0,bf,r0,bf,r0,bf,r0,bt,bt,r0,au] (q6 b1 b2 b3 b4 b5 b6<|q6 b7 b8 b9 b10 b11 b12<|q6 b13 b14 b15 b16 b17 b18<|q6 b19 b20 b21 b22 b23 b24<|q6 b25 b26 b27 b28 b29 b30<|e2 b31 b31)
                               ·rcases Aj h with⟨b32,h⟩|⟨b32,h⟩
                                ·have e:=sj h;subst e
                                 exact se G E [r0,r0,r0,bf,r0,bf,r0,bf,r0,bf,r0,bf,r0,bf,r0,bf,r0,bf,r0,bf,r0,bf,r0,bf,r0,bf,r0,bf,r0,bf,r0,bf,r0,bf,r0,bf,r0,bf,r0,bf,r0,bf,r0,bf,r0,bf,r0,bf,r0,bf,r0,bf,r0,bf,r0,bf,r0,bf,r0,bf,r0,bf,r0,bf,r0,bt,bt,r0,au] (q6 b1 b2 b3 b4 b5 b6<|q6 b7 b8 b9 b10 b11 b12<|q6 b13 b14 b15 b16 b17 b18<|q6 b19 b20 b21 b22 b23 b24<|q6 b25 b26 b27 b28 b29 b30<|e3 b31 b32 b32)
                                ·rcases Aj h with⟨b33,h⟩|⟨b33,h⟩
                                 ·have e:=sj h;subst e
                                  exact se G E [r0,r0,r0,bf,r0,bf,r0,bf,r0,bf,r0,bf,r0,bf,r0,bf,r0,bf,r0,bf,r0,bf,r0,bf,r0,bf,r0,bf,r0,bf,r0,bf,r0,bf,r0,bf,r0,bf,r0,bf,r0,bf,r0,bf,r0,bf,r0,bf,r0,bf,r0,bf,r0,bf,r0,bf,r0,bf,r0,bf,r0,bf,r0,bf,r0,bf,r0,bt,bt,r0,au] (q6 b1 b2 b3 b4 b5 b6<|q6 b7 b8 b9 b10 b11 b12<|q6 b13 b14 b15 b16 b17 b18<|q6 b19 b20 b21 b22 b23 b24<|q6 b25 b26 b27 b28 b29 b30<|e4 b31 b32 b33 b33)
                                 ·rcases Aj h with⟨b34,h⟩|⟨b34,h⟩
                                  ·have e:=sj h;subst e
                                   exact se G E [r0,r0,r0,bf,r0,bf,r0,bf,r0,bf,r0,bf,r0,bf,r0,bf,r0,bf,r0,bf,r0,bf,r0,bf,r0,bf,r0,bf,r0,bf,r0,bf,r0,bf,r0,bf,r0,bf,r0,bf,r0,bf,r0,bf,r0,bf,r0,bf,r0,bf,r0,bf,r0,bf,r0,bf,r0,bf,r0,bf,r0,bf,r0,bf,r0,bf,r0,bf,r0,bt,bt,r0,au] (q6 b1 b2 b3 b4 b5 b6<|q6 b7 b8 b9 b10 b11 b12<|q6 b13 b14 b15 b16 b17 b18<|q6 b19 b20 b21 b22 b23 b24<|q6 b25 b26 b27 b28 b29 b30<|e5 b31 b32 b33 b34 b34)
                                  ·rcases Aj h with⟨b35,h⟩|⟨b35,h⟩
                                   ·have e:=sj h;subst e
                                    exact se G E [r0,r0,r0,bf,r0,bf,r0,bf,r0,bf,r0,bf,r0,bf,r0,bf,r0,bf,r0,bf,r0,bf,r0,bf,r0,bf,r0,bf,r0,bf,r0,bf,r0,bf,r0,bf,r0,bf,r0,bf,r0,bf,r0,bf,r0,bf,r0,bf,r0,bf,r0,bf,r0,bf,r0,bf,r0,bf,r0,bf,r0,bf,r0,bf,r0,bf,r0,bf,r0,bf,r0,bt,bt,r0,au] (q6 b1 b2 b3 b4 b5 b6<|q6 b7 b8 b9 b10 b11 b12<|q6 b13 b14 b15 b16 b17 b18<|q6 b19 b20 b21 b22 b23 b24<|q6 b25 b26 b27 b28 b29 b30<|e6 b31 b32 b33 b34 b35 b35)
                                   ·rcases Aj h with⟨b36,h⟩|⟨b36,h⟩
                                    ·have e:=sj h;subst e
                                     exact se G E [r0,r0,r0,bf,r0,bf,r0,bf,r0,bf,r0,bf,r0,bf,r0,bf,r0,bf,r0,bf,r0,bf,r0,bf,r0,bf,r0,bf,r0,bf,r0,bf,r0,bf,r0,bf,r0,bf,r0,bf,r0,bf,r0,bf,r0,bf,r0,bf,r0,bf,r0,bf,r0,bf,r0,bf,r0,bf,r0,bf,r0,bf,r0,bf,r0,bf,r0,bf,r0,bf,r0,bf,r0,bt,bt,r0,au] (q6 b1 b2 b3 b4 b5 b6<|q6 b7 b8 b9 b10 b11 b12<|q6 b13 b14 b15 b16 b17 b18<|q6 b19 b20 b21 b22 b23 b24<|q6 b25 b26 b27 b28 b29 b30<|q6 b31 b32 b33 b34 b35 b36<|e1 b36)
                                    ·rcases Aj h with⟨b37,h⟩|⟨b37,h⟩
                                     ·have e:=sj h;subst e
                                      exact se G E [r0,r0,r0,bf,r0,bf,r0,bf,r0,bf,r0,bf,r0,bf,r0,bf,r0,bf,r0,bf,r0,bf,r0,bf,r0,bf,r0,bf,r0,bf,r0,bf,r0,bf,r0,bf,r0,bf,r0,bf,r0,bf,r0,bf,r0,bf,r0,bf,r0,bf,r0,bf,r0,bf,r0,bf,r0,bf,r0,bf,r0,bf,r0,bf,r0,bf,r0,bf,r0,bf,r0,bf,r0,bf,r0,bt,bt,r0,au] (q6 b1 b2 b3 b4 b5 b6<|q6 b7 b8 b9 b10 b11 b12<|q6 b13 b14 b15 b16 b17 b18<|q6 b19 b20 b21 b22 b23 b24<|q6 b25 b26 b27 b28 b29 b30<|q6 b31 b32 b33 b34 b35 b36<|e2 b37 b37)
                                     ·rcases Aj h with⟨b38,h⟩|⟨b38,h⟩
                                      ·have e:=sj h;subst e
                                       exact se G E [r0,r0,r0,bf,r0,bf,r0,bf,r0,bf,r0,bf,r0,bf,r0,bf,r0,bf,r0,bf,r0,bf,r0,bf,r0,bf,r0,bf,r0,bf,r0,bf,r0,bf,r0,bf,r0,bf,r0,bf,r0,bf,r0,bf,r0,bf,r0,bf,r0,bf,r0,bf,r0,bf,r0,bf,r0,bf,r0,bf,r0,bf,r0,bf,r0,bf,r0,bf,r0,bf,r0,bf,r0,bf,r0,bf,r0,bt,bt,r0,au] (q6 b1 b2 b3 b4 b5 b6<|q6 b7 b8 b9 b10 b11 b12<|q6 b13 b14 b15 b16 b17 b18<|q6 b19 b20 b21 b22 b23 b24<|q6 b25 b26 b27 b28 b29 b30<|q6 b31 b32 b33 b34 b35 b36<|e3 b37 b38 b38)
                                      ·rcases Aj h with⟨b39,h⟩|⟨b39,h⟩
                                       ·have e:=sj h;subst e
                                        exact se G E [r0,r0,r0,bf,r0,bf,r0,bf,r0,bf,r0,bf,r0,bf,r0,bf,r0,bf,r0,bf,r0,bf,r0,bf,r0,bf,r0,bf,r0,bf,r0,bf,r0,bf,r0,bf,r0,bf,r0,bf,r0,bf,r0,bf,r0,bf,r0,bf,r0,bf,r0,bf,r0,bf,r0,bf,r0,bf,r0,bf,r0,bf,r0,bf,r0,bf,r0,bf,r0,bf,r0,bf,r0,bf,r0,bf,r0,bf,r0,bt,bt,r0,au] (q6 b1 b2 b3 b4 b5 b6<|q6 b7 b8 b9 b10 b11 b12<|q6 b13 b14 b15 b16 b17 b18<|q6 b19 b20 b21 b22 b23 b24<|q6 b25 b26 b27 b28 b29 b30<|q6 b31 b32 b33 b34 b35 b36<|e4 b37 b38 b39 b39)
                                       ·rcases Aj h with⟨b40,h⟩|⟨b40,h⟩
                                        ·have e:=sj h;subst e
                                         exact se G E [r0,r0,r0,bf,r0,bf,r0,bf,r0,bf,r0,bf,r0,bf,r0,bf,r0,bf,r0,bf,r0,bf,r0,bf,r0,bf,r0,bf,r0,bf,r0,bf,r0,bf,r0,bf,r0,bf,r0,bf,r0,bf,r0,bf,r0,bf,r0,bf,r0,bf,r0,bf,r0,bf,r0,bf,r0,bf,r0,bf,r0,bf,r0,bf,r0,bf,r0,bf,r0,bf,r0,bf,r0,bf,r0,bf,r0,bf,r0,bf,r0,bt,bt,r0,au] (q6 b1 b2 b3 b4 b5 b6<|q6 b7 b8 b9 b10 b11 b12<|q6 b13 b14 b15 b16 b17 b18<|q6 b19 b20 b21 b22 b23 b24<|q6 b25 b26 b27 b28 b29 b30<|q6 b31 b32 b33 b34 b35 b36<|e5 b37 b38 b39 b40 b40)
                                        ·rcases Aj h with⟨b41,h⟩|⟨b41,h⟩
                                         ·have e:=sj h;subst e
                                          exact se G E [r0,r0,r0,bf,r0,bf,r0,bf,r0,bf,r0,bf,r0,bf,r0,bf,r0,bf,r0,bf,r0,bf,r0,bf,r0,bf,r0,bf,r0,bf,r0,bf,r0,bf,r0,bf,r0,bf,r0,bf,r0,bf,r0,bf,r0,bf,r0,bf,r0,bf,r0,bf,r0,bf,r0,bf,r0,bf,r0,bf,r0,bf,r0,bf,r0,bf,r0,bf,r0,bf,r0,bf,r0,bf,r0,bf,r0,bf,r0,bf,r0,bf,r0,bt,bt,r0,au] (q6 b1 b2 b3 b4 b5 b6<|q6 b7 b8 b9 b10 b11 b12<|q6 b13 b14 b15 b16 b17 b18<|q6 b19 b20 b21 b22 b23 b24<|q6 b25 b26 b27 b28 b29 b30<|q6 b31 b32 b33 b34 b35 b36<|e6 b37 b38 b39 b40 b41 b41)
                                         ·rcases Aj h with⟨b42,h⟩|⟨b42,h⟩
                                          ·have e:=sj h;subst e
                                           exact se G E [r0,r0,r0,bf,r0,bf,r0,bf,r0,bf,r0,bf,r0,bf,r0,bf,r0,bf,r0,bf,r0,bf,r0,bf,r0,bf,r0,bf,r0,bf,r0,bf,r0,bf,r0,bf,r0,bf,r0,bf,r0,bf,r0,bf,r0,bf,r0,bf,r0,bf,r0,bf,r0,bf,r0,bf,r0,bf,r0,bf,r0,bf,r0,bf,r0,bf,r0,bf,r0,bf,r0,bf,r0,bf,r0,bf,r0,bf,r0,bf,r0,bf,r0,bf,r0,bt,bt,r0,au] (q6 b1 b2 b3 b4 b5 b6<|q6 b7 b8 b9 b10 b11 b12<|q6 b13 b14 b15 b16 b17 b18<|q6 b19 b20 b21 b22 b23 b24<|q6 b25 b26 b27 b28 b29 b30<|q6 b31 b32 b33 b34 b35 b36<|q6 b37 b38 b39 b40 b41 b42<|e1 b42)
                                          ·rcases Aj h with⟨b43,h⟩|⟨b43,h⟩
                                           ·have e:=sj h;subst e
                                            exact se G E [r0,r0,r0,bf,r0,bf,r0,bf,r0,bf,r0,bf,r0,bf,r0,bf,r0,bf,r0,bf,r0,bf,r0,bf,r0,bf,r0,bf,r0,bf,r0,bf,r0,bf,r0,bf,r0,bf,r0,bf,r0,bf,r0,bf,r0,bf,r0,bf,r0,bf,r0,bf,r0,bf,r0,bf,r0,bf,r0,bf,r0,bf,r0,bf,r0,bf,r0,bf,r0,bf,r0,bf,r0,bf,r0,bf,r0,bf,r0,bf,r0,bf,r0,bf,r0,bf,r0,bt,r0,au] (q6 b1 b2 b3 b4 b5 b6<|q6 b7 b8 b9 b10 b11 b12<|q6 b13 b14 b15 b16 b17 b18<|q6 b19 b20 b21 b22 b23 b24<|q6 b25 b26 b27 b28 b29 b30<|q6 b31 b32 b33 b34 b35 b36<|q6 b37 b38 b39 b40 b41 b42<|e1 b43)
                                           ·have e:=sj h;subst e
                                            exact se G E [r0,r0,r0,bf,r0,bf,r0,bf,r0,bf,r0,bf,r0,bf,r0,bf,r0,bf,r0,bf,r0,bf,r0,bf,r0,bf,r0,bf,r0,bf,r0,bf,r0,bf,r0,bf,r0,bf,r0,bf,r0,bf,r0,bf,r0,bf,r0,bf,r0,bf,r0,bf,r0,bf,r0,bf,r0,bf,r0,bf,r0,bf,r0,bf,r0,bf,r0,bf,r0,bf,r0,bf,r0,bf,r0,bf,r0,bf,r0,bf,r0,bf,r0,bf,r0,bf,r0,bf,r0,au] (q6 b1 b2 b3 b4 b5 b6<|q6 b7 b8 b9 b10 b11 b12<|q6 b13 b14 b15 b16 b17 b18<|q6 b19 b20 b21 b22 b23 b24<|q6 b25 b26 b27 b28 b29 b30<|q6 b31 b32 b33 b34 b35 b36<|q6 b37 b38 b39 b40 b41 b42<|e1 b43)
theorem Aae:MT 117 Om:=show E1 P5 _ _ _ from mt (fn:=Tryz.f117) (S:=λ x=>Aj6 x.1) (GB trivial trivial) λ G _ _ _ _=>Axw G
noncomputable abbrev Ym:Env:=EV [] [] false
noncomputable def Bbo:=c0 Tryz.f118
noncomputable def Ae2:FS yeE:=f1 [(.int .u8)] .bool λ x=>Jp x.1
abbrev Bgt (C:Ctx) (F:FT) (y:Bool):Prop:=En Ym C F Tryz.f118 Ae2 (y,())
def Atv (a0:Int):ST:=⟨9,[ol 0 (.int .u8 a0)],[]⟩
theorem Bam (G:Bs Ym P) {y a0} (E:Bgt C F y) (h:Jp a0=some y):Bv Ym P C F Bbo (Atv a0):=by
 unfold Jp at h
 rcases Aj h with⟨b1,h⟩|⟨b1,h⟩
 ·have e:=sj h;subst e
  exact se G E [r0,ru [2,5],au] (ar 3 b1<|tt)
 ·have e:=sj h;subst e
  exact se G E [r0,rf [2,5],au] (ar 3 b1<|tt)
theorem Azp:MT 118 Ae2:=show E1 Ym _ _ _ from mt (fn:=Tryz.f118) (S:=λ x=>Atv x.1) (GB trivial trivial) λ G _ _ _ _=>Bam G
noncomputable abbrev Ck:Env:=EV [(116,Aa0),(117,Om),(118,Ae2)] [] false
noncomputable def Aaq:=c0 Tryz.f84
noncomputable def Ni:FS yeE:=f1 [.str] .bool λ x=>E2 x.1
noncomputable def A6t:=ct [0,0,3,4] Aaq
noncomputable def Nc:=ct [0,0,2,0,1] Aaq
noncomputable def A75:=ct [0,3,0,0,2,4] Nc
noncomputable def An8:=ct [0,2,4] Nc
abbrev Vd (C:Ctx) (F:FT) (y:Bool):Prop:=En Ck C F Tryz.f84 Ni (y,())
def Ag7 (r1:Unit):ST:=⟨46,[],[]⟩
def A1q:ST:=⟨46,[],[]⟩
def A0m (a0:(List UInt8)) (v1:Int):ST:=⟨46,[ol 0 (.str a0),oi 23 (a0.length:Int),oi 24 v1],[]⟩
def Xw (a0:(List UInt8)) (v:Int):ST:=⟨46,[ol 0 (.str a0),oi 23 (a0.length:Int),oi 24 v],[]⟩
def Aqv (a0:(List UInt8)):ST:=⟨46,[ol 0 (.str a0)],[]⟩
theorem Ol (G:Bs Ck P) {y} (E:Vd C F y) (h:Hf=some y):Bv Ck P C F A6t (A1q):=by
 unfold Hf at h
 have e:=sj h;subst e
 exact se G E [r0,au] tt
theorem Vb (G:Bs Ck P) {y o a0 v1} (E:Vd C F y) (h:I0 a0 v1=some o) (L:LP Ck P C F Nc (Xw a0) (Sum.elim (GX Ck P C F An8 Ag7) (RX y)) o):Bv Ck P C F A75 (A0m a0 v1):=by
 unfold I0 at h
 exact sg G [r0,en] tt (L.1 _ (si h))
theorem Aw3 (G:Bs Ck P) {y a0} (E:Vd C F y) (v:Int) o (h:Ti a0 v=some o) (L:LP Ck P C F Nc (Xw a0) (Sum.elim (GX Ck P C F An8 Ag7) (RX y)) o):Bv Ck P C F Nc (Xw a0 v):=by
 unfold Ti at h
 rcases Aj h with⟨b5,h⟩|⟨b5,h⟩
 ·obtain⟨c4,h⟩:=A8 h
  obtain⟨y3,c5,h⟩:=bind_some h
  rcases Aj h with⟨b6,h⟩|⟨b6,h⟩
  ·obtain⟨c6,h⟩:=A8 h
   obtain⟨y4,c7,h⟩:=bind_some h
   rcases Aj h with⟨b7,h⟩|⟨b7,h⟩
   ·obtain⟨c8,h⟩:=A8 h
    rcases Aj h with⟨b8,h⟩|⟨b8,h⟩
    ·have e:_=y:=L.2 _ (si h);subst e
     exact se G E [r0,bt,r0,rg [] [5,11,12,17] [(3,rs .bool y3),(9,rs .bool y4)],bt,r0,au] (q3 b5 c4 (ca c5)<|ar 3 b6<|q5 c6 b6 (ca c7) b6 b6<|ar 3 b7<|e4 c8 b7 b7 b8)
    ·exact sg G [r0,bt,r0,rg [] [5,11,12,17] [(3,rs .bool y3),(9,rs .bool y4)],bf,au] (q3 b5 c4 (ca c5)<|ar 3 b6<|q5 c6 b6 (ca c7) b6 b6<|ar 3 b7<|e4 c8 b7 b7 b8) (Vb G E h L)
   ·exact sg G [r0,bt,r0,rg [12,17] [5,11] [(3,rs .bool y3),(9,rs .bool y4)],bf,au] (q3 b5 c4 (ca c5)<|ar 3 b6<|q5 c6 b6 (ca c7) b6 b6<|ar 5 b7<|e1 rF) (Vb G E h L)
  ·exact sg G [r0,bt,r0,rg [5,11,12,17] [] [(3,rs .bool y3)],bf,au] (q3 b5 c4 (ca c5)<|ar 6 b6<|ar 6 rF<|tt) (Vb G E h L)
 ·exact sg G [r0,bf,au] (e1 b5) (L.2 _ (si h))
theorem A7t (G:Bs Ck P) {y a0} (E:Vd C F y) (h:E2 a0=some y):Bv Ck P C F Aaq (Aqv a0):=by
 unfold E2 at h
 rcases Aj h with⟨b1,h⟩|⟨b1,h⟩
 ·exact sg G [r0,ru [3,7,8,13,14,17],bt,au] (ar 4 b1<|ar 9 rT<|tt) (Ol G E h)
 ·rcases Aj h with⟨b2,h⟩|⟨b2,h⟩
  ·exact sg G [r0,rb [3,7] [8,13,14,17],bt,au] (ar 4 b1<|ar 5 b2<|ar 4 rT<|tt) (Ol G E h)
  ·obtain⟨c1,h⟩:=A8 h
   obtain⟨y1,c2,h⟩:=bind_some h
   rcases Aj h with⟨b3,h⟩|⟨b3,h⟩
   ·exact sg G [r0,rg [3,7,8,13] [14,17] [(11,rs .bool y1)],bt,au] (ar 4 b1<|q6 b2 b2 c1 b2 (ca c2) b2<|q1 b2<|ar 3 b3<|e1 rT) (Ol G E h)
   ·obtain⟨y2,c3,h⟩:=bind_some h
    rcases Aj h with⟨b4,h⟩|⟨b4,h⟩
    ·exact sg G [r0,rg [3,7,8,13,14,17] [] [(11,rs .bool y1),(16,rs .bool y2)],bt,au] (ar 4 b1<|q6 b2 b2 c1 b2 (ca c2) b2<|e6 b2 b3 b3 (ca c3) b3 b4) (Ol G E h)
    ·obtain⟨r,hi,h⟩:=bind_some h
     refine sg G [r0,rg [3,7,8,13,14,17] [] [(11,rs .bool y1),(16,rs .bool y2)],bf,r0,en] (ar 4 b1<|q6 b2 b2 c1 b2 (ca c2) b2<|e6 b2 b3 b3 (ca c3) b3 b4) (lg (Aw3 G E) hi ?_)
     rcases r with r1|r2
     ·have e:=sj h;subst e
      exact se G E [r0,au] tt
     ·exact sj h
theorem Uc:MT 84 Ni:=show E1 Ck _ _ _ from mt (fn:=Tryz.f84) (S:=λ x=>Aqv x.1) (GB ⟨Ava,Aae,Azp,trivial⟩ trivial) λ G _ _ _ _=>A7t G
noncomputable def Kx:FS yeE:=f1 [.str,.str] (.sl .str) λ x=>Mr x.1 x.2.1
theorem B76:GO (EV [(196,Ah9)] [] false):=GB ⟨Arq,trivial⟩ trivial
section
variable (k:Kt B76 C F 8 [])
end
theorem V7:MT 163 Kx:=mz B76 163 Tryz.f163 Kx [] (λ k=>(fz k Tryz.f163 Kx (λ y=>y.1) λ _ h=>h)) (.g (.g (.e [[]]))) λ k _=>an
noncomputable def Hh:FS yeE:=f1 [.str] .bool λ x=>Js x.1
theorem B7j:GO (EV [(84,Ni),(163,Kx)] [] false):=GB ⟨Uc,V7,trivial⟩ trivial
section
variable (k:Kt B7j C F 16 [])
noncomputable def A7y:=c0 Tryz.f161
noncomputable def Tf:=ct [0,0,1,4] A7y
noncomputable def Ann:=ct [0,2,4] Tf
abbrev B2r (y:Bool):Prop:=Ez k Tryz.f161 Hh (y,())
abbrev A20:=Lz k Tf K9 (Sum.elim (Gz k Ann Qe) (B2r k))
theorem A0a:Ok k (B2r k) ⟨Ann,Qe,Tz⟩:=pz k (fz k Tryz.f161 Hh (λ y=>y.1) λ _ h=>h) (.g (.e [[]])) λ _=>an
theorem Aw6:Ok k (A20 k) ⟨Tf,K9,Tl⟩:=pz k (fz k Tryz.f161 Hh (λ y=> .inr (.inr y.1)) λ y h=>h.2 (.inr y.1) rfl) (.g (.b (.g (.g (.b (.g (.e [[]])) (.g (.l (.c 0 [[]])))))) (.c 1 [[]]))) λ _=>ac bk<|ac (xt Sum.inl λ _ h=>h)<|an
theorem Az8:Ok k (B2r k) ⟨Tf,K9,λ v=>Option.bind (iter Tl v) (Sum.elim Tz (λ y=>some y))⟩:=lz k (Aw6 k) (xs (A0a k) xr)
end
theorem Aeo:MT 161 Hh:=mz B7j 161 Tryz.f161 Hh [] (λ k=>Au) (.g (.g (.l (.c 0 [[]])))) λ k _=>ac (Az8 k)<|an
noncomputable def Lb:FS yeE:=f1 [.str] .bool λ x=>Hz x.1
theorem B7d:GO (EV [(161,Hh)] [] false):=GB ⟨Aeo,trivial⟩ trivial
section
variable (k:Kt B7d C F 10 [])
end
theorem U6:MT 144 Lb:=mz B7d 144 Tryz.f144 Lb [] (λ k=>(fz k Tryz.f144 Lb (λ y=>y.1) λ _ h=>h)) (.g (.g (.e [[]]))) λ k _=>an
noncomputable def Oc:FS yeE:=f1 [(.nm 1)] .bool λ x=>H7 x.1
theorem B7v:GO (EV [] [] false):=GB trivial trivial
section
variable (k:Kt B7v C F 23 [])
end
theorem Xz:MT 150 Oc:=mz B7v 150 Tryz.f150 Oc [] (λ k=>(fz k Tryz.f150 Oc (λ y=>y.1) λ _ h=>h)) (.g (.g (.e [[]]))) λ k _=>an
noncomputable def Ii:FS yeE:=f1 [(.sl (.nm 2))] .bool λ x=>Gj x.1
theorem B82:GO (EV [(144,Lb),(150,Oc),(161,Hh)] [] false):=GB ⟨U6,Xz,Aeo,trivial⟩ trivial
section
variable (k:Kt B82 C F 36 [])
noncomputable def Bcw:=c0 Tryz.f145
noncomputable def K6:=ct [0,0,1,4] Bcw
noncomputable def A9b:=ct [0,3,0,0,3,4] K6
noncomputable def Bev:=ct [0,3,0,0,2,4] K6
noncomputable def Apw:=ct [0,2,4] K6
abbrev B4i (y:Bool):Prop:=Ez k Tryz.f145 Ii (y,())
abbrev Aa7 (a0:(List Ak)):=Lz k K6 (Eg a0) (Sum.elim (Gz k Apw I6) (B4i k))
theorem A33 (a0:(List Ak)):Ok k (Aa7 k a0) ⟨A9b,Anu,Ih a0⟩:=pz k (fz k Tryz.f145 Ii (λ y=> .inr (.inr y.1)) λ y h=>h.2 (.inr y.1) rfl) (.g (.e [[]])) λ _=>an
theorem A1f (a0:(List Ak)) (v1:Int):Ok k (Aa7 k a0) ⟨Bev,Ts a0 v1,P2 a0 v1⟩:=pz k Au (.g (.l (.c 0 [[]]))) λ _=>ac bk<|an
theorem A27:Ok k (B4i k) ⟨Apw,I6,O1⟩:=pz k (fz k Tryz.f145 Ii (λ y=>y.1) λ _ h=>h) (.g (.e [[]])) λ _=>an
theorem A3s (a0:(List Ak)):Ok k (Aa7 k a0) ⟨K6,Eg a0,Pm a0⟩:=pz k Au (.g (.b (.g (.g (.b (.c 0 [[]]) (.c 1 [[]])))) (.c 2 [[]]))) λ v=>ac (A33 k a0)<|ac (A1f k a0 v.1)<|ac (xt Sum.inl λ _ h=>h)<|an
theorem A02 (a0:(List Ak)):Ok k (B4i k) ⟨K6,Eg a0,λ v=>Option.bind (iter (Pm a0) v) (Sum.elim O1 (λ y=>some y))⟩:=lz k (A3s k a0) (xs (A27 k) xr)
end
theorem Ah8:MT 145 Ii:=mz B82 145 Tryz.f145 Ii [] (λ k=>Au) (.g (.g (.l (.c 0 [[]])))) λ k x=>ac (A02 k x.1)<|an
noncomputable def Qc:FS yeE:=⟨[.str,.str],[.str,.str,.bool],[],[],((List UInt8)×(List UInt8)×Bool),λ x=>Agc x.1 x.2.1,λ r=>(r.1,r.2.1,r.2.2,())⟩
theorem B64:GO (EV [(156,Aet)] [] false):=GB ⟨Ao4,trivial⟩ trivial
section
variable (k:Kt B64 C F 23 [])
end
theorem Ata:MT 129 Qc:=mz B64 129 Tryz.f129 Qc [] (λ k=>(fz k Tryz.f129 Qc (λ y=>(y.1,y.2.1,y.2.2.1)) λ _ h=>h)) (.g (.g (.g (.b (.g (.e [[]])) (.g (.e [[]])))))) λ k _=>an
noncomputable def Jb:FS yeE:=⟨[.str,.str],[.str,.str,.bool],[],[],((List UInt8)×(List UInt8)×Bool),λ x=>Pv x.1 x.2.1,λ r=>(r.1,r.2.1,r.2.2,())⟩
theorem Cay:GO (EV [(129,Qc)] [] false):=GB ⟨Ata,trivial⟩ trivial
section
variable (k:Kt Cay C F 13 [])
end
theorem Nl:MT 93 Jb:=mz Cay 93 Tryz.f93 Jb [] (λ k=>(fz k Tryz.f93 Jb (λ y=>(y.1,y.2.1,y.2.2.1)) λ _ h=>h)) (.g (.g (.e [[]]))) λ k _=>an
noncomputable abbrev Bxs:Env:=EV [] [] false
noncomputable def Caf:=c0 Tryz.f249
noncomputable def Aq1:FS yeE:=f1 [(.int .i64)] (.nm 13) λ x=>Ajc x.1
abbrev Cbx (C:Ctx) (F:FT) (y:A4):Prop:=En Bxs C F Tryz.f249 Aq1 (y,())
def B7s (a0:Int):ST:=⟨5,[oi 0 a0],[]⟩
theorem B95 (G:Bs Bxs P) {y a0} (E:Cbx C F y) (h:Ajc a0=some y):Bv Bxs P C F Caf (B7s a0):=by
 unfold Ajc at h
 have e:=sj h;subst e
 exact se G E [r0,r0,au] tt
theorem Aee:MT 249 Aq1:=show E1 Bxs _ _ _ from mt (fn:=Tryz.f249) (S:=λ x=>B7s x.1) (GB trivial trivial) λ G _ _ _ _=>B95 G
noncomputable abbrev A8h:Env:=EV [(249,Aq1)] [] false
noncomputable def B1g:=c0 Tryz.f226
noncomputable def Arv:FS yeE:=f1 [(.int .i64)] (.nm 14) λ x=>Aa4 x.1
abbrev B40 (C:Ctx) (F:FT) (y:B6):Prop:=En A8h C F Tryz.f226 Arv (y,())
def Bwb (a0:Int):ST:=⟨7,[oi 0 a0],[]⟩
theorem B2h (G:Bs A8h P) {y a0} (E:B40 C F y) (h:Aa4 a0=some y):Bv A8h P C F B1g (Bwb a0):=by
 unfold Aa4 at h
 obtain⟨y1,c1,h⟩:=bind_some h
 obtain⟨y2,c2,h⟩:=bind_some h
 have e:=sj h;subst e
 exact se G E [r0,.reg [(1,rs (.nm 13) y1),(2,rs (.nm 13) y2)],au] (e2 (ca c1) (ca c2))
theorem Ao7:MT 226 Arv:=show E1 A8h _ _ _ from mt (fn:=Tryz.f226) (S:=λ x=>Bwb x.1) (GB ⟨Aee,trivial⟩ trivial) λ G _ _ _ _=>B2h G
noncomputable def Mh:FS yeE:=f1 [.str,(.int .u8)] (.int .i64) λ x=>Yf x.1 x.2.1
theorem B71:GO (EV [(175,W4)] [] false):=GB ⟨Agz,trivial⟩ trivial
section
variable (k:Kt B71 C F 8 [])
end
theorem Aot:MT 201 Mh:=mz B71 201 Tryz.f201 Mh [] (λ k=>(fz k Tryz.f201 Mh (λ y=>y.1) λ _ h=>h)) (.g (.g (.e [[]]))) λ k _=>an
noncomputable def Hs:FS yeE:=f1 [.str,.str] .bool λ x=>Pz x.1 x.2.1
theorem B7g:GO (EV [] [] false):=GB trivial trivial
section
variable (k:Kt B7g C F 18 [])
end
theorem Agr:MT 293 Hs:=mz B7g 293 Tryz.f293 Hs [] (λ k=>(fz k Tryz.f293 Hs (λ y=>y.1) λ _ h=>h)) (.g (.g (.e [[]]))) λ k _=>an
noncomputable def Hr:FS yeE:=f2 [.str,.str] .str .bool λ x=>P1 x.1 x.2.1
theorem B8a:GO (EV [(293,Hs)] [] false):=GB ⟨Agr,trivial⟩ trivial
section
variable (k:Kt B8a C F 15 [])
end
theorem Agy:MT 273 Hr:=mz B8a 273 Tryz.f273 Hr [] (λ k=>(fz k Tryz.f273 Hr (λ y=>(y.1,y.2.1)) λ _ h=>h)) (.g (.g (.b (.g (.e [[]])) (.g (.e [[]]))))) λ k _=>an
noncomputable def Me:FS yeE:=f2 [.str,.str] .str .bool λ x=>Ql x.1 x.2.1
theorem B8c:GO (EV [(273,Hr)] [] false):=GB ⟨Agy,trivial⟩ trivial
section
variable (k:Kt B8c C F 11 [])
end
theorem Ao5:MT 250 Me:=mz B8c 250 Tryz.f250 Me [] (λ k=>(fz k Tryz.f250 Me (λ y=>(y.1,y.2.1)) λ _ h=>h)) (.g (.g (.e [[]]))) λ k _=>an
noncomputable def J0:FS yeE:=f1 [.str] .bool λ x=>Pp x.1
theorem B70:GO (EV [] [] false):=GB trivial trivial
section
variable (k:Kt B70 C F 20 [])
noncomputable def Bgp:=c0 Tryz.f254
noncomputable def Sh:=ct [0,0,1,4] Bgp
noncomputable def Bht:=ct [0,3,0,0,3,4] Sh
noncomputable def Atr:=ct [0,2,4] Sh
abbrev B3t (y:Bool):Prop:=Ez k Tryz.f254 J0 (y,())
abbrev Aq4 (a0:(List UInt8)):=Lz k Sh (Gv a0) (Sum.elim (Gz k Atr O8) (B3t k))
theorem A74 (a0:(List UInt8)):Ok k (Aq4 k a0) ⟨Bht,Aq3,Zn a0⟩:=pz k (fz k Tryz.f254 J0 (λ y=> .inr (.inr y.1)) λ y h=>h.2 (.inr y.1) rfl) (.g (.e [[]])) λ _=>an
theorem A69:Ok k (B3t k) ⟨Atr,O8,Yq⟩:=pz k (fz k Tryz.f254 J0 (λ y=>y.1) λ _ h=>h) (.g (.e [[]])) λ _=>an
theorem A6y (a0:(List UInt8)):Ok k (Aq4 k a0) ⟨Sh,Gv a0,Zc a0⟩:=pz k Au (.g (.b (.g (.g (.b (.c 0 [[]]) (.g (.l (.c 1 [[]])))))) (.c 2 [[]]))) λ _=>ac (A74 k a0)<|ac bk<|ac (xt Sum.inl λ _ h=>h)<|an
theorem A6h (a0:(List UInt8)):Ok k (B3t k) ⟨Sh,Gv a0,λ v=>Option.bind (iter (Zc a0) v) (Sum.elim Yq (λ y=>some y))⟩:=lz k (A6y k a0) (xs (A69 k) xr)
end
theorem Akm:MT 254 J0:=mz B70 254 Tryz.f254 J0 [] (λ k=>Au) (.g (.g (.l (.c 0 [[]])))) λ k x=>ac (A6h k x.1)<|an
noncomputable def Lf:FS yeE:=f1 [.str] .bool λ x=>Ht x.1
theorem B7t:GO (EV [(254,J0)] [] false):=GB ⟨Akm,trivial⟩ trivial
section
variable (k:Kt B7t C F 22 [])
noncomputable def Apn:=c0 Tryz.f251
noncomputable def Bd8:=ct [0,0,3,4] Apn
noncomputable def Bax:=ct [0,0,2,4] Apn
abbrev B7x (y:Bool):Prop:=Ez k Tryz.f251 Lf (y,())
theorem A3f:Ok k (B7x k) ⟨Bd8,An7,Oz⟩:=pz k (fz k Tryz.f251 Lf (λ y=>y.1) λ _ h=>h) (.g (.e [[]])) λ _=>an
theorem A3m (a0:(List UInt8)):Ok k (B7x k) ⟨Bax,Tr a0,Wb a0⟩:=pz k (fz k Tryz.f251 Lf (λ y=>y.1) λ _ h=>h) (.g (.e [[]])) λ _=>an
end
theorem Ayz:MT 251 Lf:=mz B7t 251 Tryz.f251 Lf [] (λ k=>Au) (.g (.g (.b (.c 0 [[]]) (.c 1 [[]])))) λ k x=>ac (A3f k)<|ac (A3m k x.1)<|an
noncomputable abbrev Nq:Env:=EV [] [] false
noncomputable def Avd:=c0 Tryz.f274
noncomputable def T8:FS yeE:=f1 [(.nm 13)] (.int .i64) λ x=>Rs x.1
noncomputable def Bvs:=ct [0,0,3,4] Avd
noncomputable def Bao:=ct [0,0,2,4] Avd
noncomputable def Bvo:=ct [0,2,4] Bao
abbrev Asb (C:Ctx) (F:FT) (y:Int):Prop:=En Nq C F Tryz.f274 T8 (y,())
def Bqn:ST:=⟨30,[],[]⟩
def Bse:ST:=⟨30,[],[]⟩
def Bq5 (a0:A4):ST:=⟨30,[op 1],[bc 1 (Bw a0)]⟩
def Bjx (a0:A4):ST:=⟨30,[og 0 (Bw a0)],[]⟩
theorem Als (G:Bs Nq P) {y} (E:Asb C F y) (h:Ye=some y):Bv Nq P C F Bvs (Bqn):=by
 unfold Ye at h
 have e:=sj h;subst e
 exact se G E [r0,au] tt
theorem Ayy (G:Bs Nq P) {y} (E:Asb C F y) (h:Aft=some y):Bv Nq P C F Bvo (Bse):=by
 unfold Aft at h
 have e:=sj h;subst e
 exact se G E [r0,au] tt
theorem Acj (G:Bs Nq P) {y a0} (E:Asb C F y) (h:Ug a0=some y):Bv Nq P C F Bao (Bq5 a0):=by
 unfold Ug at h
 rcases Aj h with⟨b7,h⟩|⟨b7,h⟩
 ·rcases Aj h with⟨b8,h⟩|⟨b8,h⟩
  ·have e:=sj h;subst e
   exact se G E [ru [3,7],bt,r0,au] (ar 4 b7<|e1 b8)
  ·exact sg G [ru [3,7],bf,au] (ar 4 b7<|e1 b8) (Ayy G E h)
 ·exact sg G [rf [3,7],bf,au] (ar 4 b7<|e1 rF) (Ayy G E h)
theorem Btp (G:Bs Nq P) {y a0} (E:Asb C F y) (h:Rs a0=some y):Bv Nq P C F Avd (Bjx a0):=by
 unfold Rs at h
 rcases Aj h with⟨b1,h⟩|⟨b1,h⟩
 ·rcases Aj h with⟨b2,h⟩|⟨b2,h⟩
  ·exact sg G [r0,ru [3,6,7,16],bt,au] (ar 3 b1<|ar 6 b2<|e1 rT) (Als G E h)
  ·rcases Aj h with⟨b3,h⟩|⟨b3,h⟩
   ·rcases Aj h with⟨b4,h⟩|⟨b4,h⟩
    ·exact sg G [r0,rb [7,16] [3,6,11,15],bt,au] (ar 3 b1<|ar 4 b2<|ar 3 b3<|e4 b2 b3 b2 b4) (Als G E h)
    ·exact sg G [r0,rb [7,16] [3,6,11,15],bf,au] (ar 3 b1<|ar 4 b2<|ar 3 b3<|e4 b2 b3 b2 b4) (Acj G E h)
   ·exact sg G [r0,rb [7,11,15,16] [3,6],bf,au] (ar 3 b1<|ar 4 b2<|ar 3 b3<|e4 b2 b3 b2 rF) (Acj G E h)
 ·rcases Aj h with⟨b5,h⟩|⟨b5,h⟩
  ·rcases Aj h with⟨b6,h⟩|⟨b6,h⟩
   ·exact sg G [r0,rb [3,6,7,16] [11,15],bt,au] (ar 3 b1<|ar 4 rF<|ar 3 b5<|e4 rF b5 rF b6) (Als G E h)
   ·exact sg G [r0,rb [3,6,7,16] [11,15],bf,au] (ar 3 b1<|ar 4 rF<|ar 3 b5<|e4 rF b5 rF b6) (Acj G E h)
  ·exact sg G [r0,rf [3,6,7,11,15,16],bf,au] (ar 3 b1<|ar 4 rF<|ar 3 b5<|e4 rF b5 rF rF) (Acj G E h)
theorem Rl:MT 274 T8:=show E1 Nq _ _ _ from mt (fn:=Tryz.f274) (S:=λ x=>Bjx x.1) (GB trivial trivial) λ G _ _ _ _=>Btp G
noncomputable abbrev Xo:Env:=EV [] [] false
noncomputable def A5t:=c0 Tryz.f288
noncomputable def Ut:FS yeE:=f2 [(.nm 13)] (.sl (.int .u32)) .bool λ x=>Ib x.1
noncomputable def Brt:=ct [0,0,2,0,0,3,0,4] A5t
abbrev Bcc (C:Ctx) (F:FT) (y:((List Int)×Bool)):Prop:=En Xo C F Tryz.f288 Ut (y.1,y.2,())
def Bks (a0:A4) (v1:Int):ST:=⟨42,[op 1,ol 4 (.int .u64 v1)],[bc 1 (Bw a0)]⟩
def Bcb (a0:A4):ST:=⟨42,[og 0 (Bw a0)],[]⟩
theorem Atn (G:Bs Xo P) {y a0 v1} (E:Bcc C F y) (h:Un a0 v1=some y):Bv Xo P C F Brt (Bks a0 v1):=by
 unfold Un at h
 rcases Aj h with⟨b3,h⟩|⟨b3,h⟩
 ·have e:=sj h;subst e
  exact se G E [r0,bt,r0,au] (e1 b3)
 ·obtain⟨c1,h⟩:=A8 h
  rcases Aj h with⟨b4,h⟩|⟨b4,h⟩
  ·have e:=sj h;subst e
   exact se G E [r0,bf,r0,bt,r0,au] (e3 b3 c1 b4)
  ·obtain⟨c2,h⟩:=A8 h
   have e:=sj h;subst e
   exact se G E [r0,bf,r0,bf,r0,au] (e4 b3 c1 b4 c2)
theorem Bq4 (G:Bs Xo P) {y a0} (E:Bcc C F y) (h:Ib a0=some y):Bv Xo P C F A5t (Bcb a0):=by
 unfold Ib at h
 rcases Aj h with⟨b1,h⟩|⟨b1,h⟩
 ·have e:=sj h;subst e
  exact se G E [r0,r0,bt,r0,au] (e1 b1)
 ·rcases Aj h with⟨b2,h⟩|⟨b2,h⟩
  ·exact sg G [r0,r0,bf,r0,r0,bt,r0,au] (e2 b1 b2) (Atn G E h)
  ·exact sg G [r0,r0,bf,r0,r0,bf,au] (e2 b1 b2) (Atn G E h)
theorem V3:MT 288 Ut:=show E1 Xo _ _ _ from mt (fn:=Tryz.f288) (S:=λ x=>Bcb x.1) (GB trivial trivial) λ G _ _ _ _=>Bq4 G
end
end Go.Ab
