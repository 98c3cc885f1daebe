/- The functions compute what the plain functions tell. Conditions: none beyond those that each theorem names. -/
import Derived.Test.YtgngflkahbpecaaGreatDoorP22
import Derived.Test.YtgngflkahbpecaaGreatDoorP19
namespace Go.Ab
open Go Go.Proofs
set_option linter.unusedVariables false
section
variable {P:Program} {C:Ctx} {F:FT}
abbrev Bab:List (Tk yeE):=[.S 0 true,.s 9,.S 1 false,.k (.ptr 1000001 0),.C 1000001,.v .str]
abbrev A6f:List (Tk yeE):=[.S 0 false,.v .bool,.C 1000001,.v .str]
noncomputable def Vh:FX yeE:=⟨Bab,A6f,(Bool×(List UInt8)),λ x=>Aln x.1 x.2.1,λ r=>(r.1,r.2,())⟩
theorem Cbu:GO (EX [] [] []):=GF trivial trivial trivial
section
variable (k:Kt Cbu C F 8 [])
end
theorem Ayk:MX 71 Vh:=mw Cbu 71 Tryz.f71 Vh [] (λ k=>(fx k Tryz.f71 Vh (λ y=>(y.1,y.2.1)) λ _ h=>h)) (.g (.g (.e [[]]))) λ k _=>an
abbrev Agx:List (Tk yeE):=[.S 0 false,.v (.sl (.nm 9)),.S 1 false,.k (.clo 71 [.ptr 1000001 0]),.C 1000001,.v .str]
abbrev Af7:List (Tk yeE):=[.S 0 false,.v (.int .i64),.C 1000001,.v .str]
noncomputable def C7:FX yeE:=⟨Agx,Af7,(Int×(List UInt8)),λ x=>Kx x.1 x.2.1,λ r=>(r.1,r.2,())⟩
theorem Bw4:GO (EX [] [(71,[],Vh)] []):=GF trivial ⟨Ayk,trivial⟩ trivial
section
variable (k:Kt Bw4 C F 19 [])
noncomputable def Agr:=c0 Tryz.f70
noncomputable def Fy:=ct [0,0,1,4] Agr
noncomputable def Q9:=ct [0,2,4] Fy
abbrev Bkz (y:(Int×(List UInt8))):Prop:=Ex k Tryz.f70 C7 (y.1,y.2,())
abbrev Afl (a0:(List Aa)):=Lz k Fy (Ch a0) (Sum.elim (Gz k Q9 E8) (Bkz k))
theorem Ac5:Ok k (Bkz k) ⟨Q9,E8,Fs⟩:=pz k (fx k Tryz.f70 C7 (λ y=>(y.1,y.2.1)) λ _ h=>h) (.g (.e [[]])) λ _=>an
theorem Ac0 (a0:(List Aa)):Ok k (Afl k a0) ⟨Fy,Ch a0,Fz a0⟩:=pz k (fx k Tryz.f70 C7 (λ y=> .inr (.inr (y.1,y.2.1))) λ y h=>h.2 (.inr (y.1,y.2.1)) rfl) (.g (.b (.g (.g (.b (.g (.e [[]])) (.g (.l (.c 0 [[]])))))) (.c 1 [[]]))) λ _=>ac bk<|ac (xt Sum.inl λ _ h=>h)<|an
theorem Adu (a0:(List Aa)):Ok k (Bkz k) ⟨Fy,Ch a0,λ v=>Option.bind (iter (Fz a0) v) (Sum.elim Fs (λ y=>some y))⟩:=lz k (Ac0 k a0) (xs (Ac5 k) xr)
end
theorem Aax:MX 70 C7:=mw Bw4 70 Tryz.f70 C7 [] (λ k=>Au) (.g (.g (.l (.c 0 [[]])))) λ k x=>ac (Adu k x.1)<|an
noncomputable def Hq:FS yeE:=f1 [(.sl (.nm 9)),.str] (.int .i64) λ x=>Gc x.1 x.2.1
theorem Cb0:GO (EX [] [(70,[71],C7)] []):=GF trivial ⟨Aax,trivial⟩ trivial
section
variable (k:Kt Cb0 C F 8 [])
end
theorem I3:MT 41 Hq:=mz Cb0 41 Tryz.f41 Hq [] (λ k=>(fz k Tryz.f41 Hq (λ y=>y.1) λ _ h=>h)) (.g (.g (.e [[]]))) λ k _=>an
noncomputable def Hp:FS yeE:=f1 [(.nm 9)] (.int .i64) λ x=>Am7 x.1
theorem B7q:GO (EV [] [] false):=GB trivial trivial
section
variable (k:Kt B7q C F 73 [])
noncomputable def Ay8:=c0 Tryz.f122
noncomputable def Bmj:=ct [0,0,3,4] Ay8
noncomputable def Ac6:=ct [0,0,2,0,1,4] Ay8
noncomputable def Als:=ct [0,2,4] Ac6
noncomputable def Acd:=ct [0,1,4] Als
noncomputable def Amz:=ct [0,2,4] Acd
noncomputable def Aca:=ct [0,1,4] Amz
noncomputable def Ay0:=ct [0,2,4] Aca
abbrev Auh (y:Int):Prop:=Ez k Tryz.f122 Hp (y,())
abbrev Bh2 (a0:Aa):=Lz k Aca (Jt a0) (Sum.elim (Gz k Ay0 Ym) (Auh k))
abbrev Bh5 (a0:Aa):=Lz k Acd (Jz a0) (Sum.elim (Gz k Amz (R8 a0)) (Auh k))
abbrev Bhb (a0:Aa):=Lz k Ac6 (J0 a0) (Sum.elim (Gz k Als (Sd a0)) (Auh k))
theorem Bdz:Ok k (Auh k) ⟨Bmj,Atp,Lv⟩:=pz k (fz k Tryz.f122 Hp (λ y=>y.1) λ _ h=>h) (.g (.e [[]])) λ _=>an
theorem Bb8:Ok k (Auh k) ⟨Ay0,Ym,Acn⟩:=pz k (fz k Tryz.f122 Hp (λ y=>y.1) λ _ h=>h) (.g (.e [[]])) λ _=>an
theorem Bca (a0:Aa):Ok k (Bh2 k a0) ⟨Aca,Jt a0,Acs a0⟩:=pz k (fz k Tryz.f122 Hp (λ y=> .inr (.inr y.1)) λ y h=>h.2 (.inr y.1) rfl) (.g (.b (.g (.g (.b (.g (.e [[]])) (.g (.l (.c 0 [[]])))))) (.c 1 [[]]))) λ _=>ac bk<|ac (xt Sum.inl λ _ h=>h)<|an
theorem Bde (a0:Aa):Ok k (Auh k) ⟨Aca,Jt a0,λ v=>Option.bind (iter (Acs a0) v) (Sum.elim Acn (λ y=>some y))⟩:=lz k (Bca k a0) (xs (Bb8 k) xr)
theorem A9i (a0:Aa):Ok k (Auh k) ⟨Amz,R8 a0,Acw a0⟩:=pz k Au (.g (.l (.c 0 [[]]))) λ _=>ac (Bde k a0)<|an
theorem A9u (a0:Aa):Ok k (Bh5 k a0) ⟨Acd,Jz a0,Acz a0⟩:=pz k (fz k Tryz.f122 Hp (λ y=> .inr (.inr y.1)) λ y h=>h.2 (.inr y.1) rfl) (.g (.b (.g (.g (.b (.g (.e [[]])) (.g (.l (.c 0 [[]])))))) (.c 1 [[]]))) λ _=>ac bk<|ac (xt Sum.inl λ _ h=>h)<|an
theorem Bdo (a0:Aa):Ok k (Auh k) ⟨Acd,Jz a0,λ v=>Option.bind (iter (Acz a0) v) (Sum.elim (Acw a0) (λ y=>some y))⟩:=lz k (A9u k a0) (xs (A9i k a0) xr)
theorem Bbd (a0:Aa):Ok k (Auh k) ⟨Als,Sd a0,Ado a0⟩:=pz k Au (.g (.l (.c 0 [[]]))) λ _=>ac (Bdo k a0)<|an
theorem Bev (a0:Aa):Ok k (Bhb k a0) ⟨Ac6,J0 a0,Acv a0⟩:=pz k (fz k Tryz.f122 Hp (λ y=> .inr (.inr y.1)) λ y h=>h.2 (.inr y.1) rfl) (.g (.b (.g (.g (.b (.g (.e [[]])) (.g (.l (.c 0 [[]])))))) (.c 1 [[]]))) λ _=>ac bk<|ac (xt Sum.inl λ _ h=>h)<|an
theorem Bax (a0:Aa):Ok k (Auh k) ⟨Ac6,J0 a0,λ v=>Option.bind (iter (Acv a0) v) (Sum.elim (Ado a0) (λ y=>some y))⟩:=lz k (Bev k a0) (xs (Bbd k a0) xr)
end
theorem A7e:MT 122 Hp:=mz B7q 122 Tryz.f122 Hp [] (λ k=>Au) (.g (.g (.b (.c 0 [[]]) (.g (.l (.c 1 [[]])))))) λ k x=>ac (Bdz k)<|ac (Bax k x.1)<|an
noncomputable abbrev U8:Env:=EV [] [] false
noncomputable def A65:=c0 Tryz.f116
noncomputable def Aa0:FS yeE:=f1 [(.int .u8)] .bool λ x=>Gn x.1
abbrev Bd2 (C:Ctx) (F:FT) (y:Bool):Prop:=En U8 C F Tryz.f116 Aa0 (y,())
def Apa (a0:Int):ST:=⟨17,[ol 0 (.int .u8 a0)],[]⟩
theorem A6u (G:Bs U8 P) {y a0} (E:Bd2 C F y) (h:Gn a0=some y):Bv U8 P C F A65 (Apa a0):=by
 unfold Gn at h
 rcases Aj h with⟨b1,h⟩|⟨b1,h⟩
 ·rcases Aj h with⟨b2,h⟩|⟨b2,h⟩
  ·have e:=sj h;subst e
   exact se G E [r0,ru [2,5,6,13],au] (ar 3 b1<|ar 5 b2<|tt)
  ·rcases Aj h with⟨b3,h⟩|⟨b3,h⟩
   ·have e:=sj h;subst e
    exact se G E [r0,rb [6,13] [2,5,9,12],au] (ar 3 b1<|ar 3 b2<|e5 b3 b3 b2 b3 b2)
   ·have e:=sj h;subst e
    exact se G E [r0,rb [6,9,12,13] [2,5],au] (ar 3 b1<|ar 3 b2<|e5 b3 b3 b2 b3 b2)
 ·rcases Aj h with⟨b4,h⟩|⟨b4,h⟩
  ·have e:=sj h;subst e
   exact se G E [r0,rb [2,5,6,13] [9,12],au] (ar 3 b1<|ar 3 rF<|e5 b4 b4 rF b4 rF)
  ·have e:=sj h;subst e
   exact se G E [r0,rf [2,5,6,9,12,13],au] (ar 3 b1<|ar 3 rF<|e5 b4 b4 rF b4 rF)
theorem Avb:MT 116 Aa0:=show E1 U8 _ _ _ from mt (fn:=Tryz.f116) (S:=λ x=>Apa x.1) (GB trivial trivial) λ G _ _ _ _=>A6u G
noncomputable abbrev Qa:Env:=EV [] [] false
noncomputable def Azi:=c0 Tryz.f117
noncomputable def Od:FS yeE:=f1 [.str] .bool λ x=>Em x.1
abbrev A0u (C:Ctx) (F:FT) (y:Bool):Prop:=En Qa C F Tryz.f117 Od (y,())
def Ak5 (a0:(List UInt8)):ST:=⟨48,[ol 0 (.str a0)],[]⟩
theorem A0d (G:Bs Qa P) {y a0} (E:A0u C F y) (h:Em a0=some y):Bv Qa P C F Azi (Ak5 a0):=by
 unfold Em at h
 rcases Aj h with⟨b1,h⟩|⟨b1,h⟩
 ·have e:=sj h;subst e
  exact se G E [r0,r0,r0,bt,bt,r0,au] (e2 b1 b1)
 ·rcases Aj h with⟨b2,h⟩|⟨b2,h⟩
  ·have e:=sj h;subst e
   exact se G E [r0,r0,r0,bf,r0,bt,bt,r0,au] (e3 b1 b2 b2)
  ·rcases Aj h with⟨b3,h⟩|⟨b3,h⟩
   ·have e:=sj h;subst e
    exact se G E [r0,r0,r0,bf,r0,bf,r0,bt,bt,r0,au] (e4 b1 b2 b3 b3)
   ·rcases Aj h with⟨b4,h⟩|⟨b4,h⟩
    ·have e:=sj h;subst e
     exact se G E [r0,r0,r0,bf,r0,bf,r0,bf,r0,bt,bt,r0,au] (e5 b1 b2 b3 b4 b4)
    ·rcases Aj h with⟨b5,h⟩|⟨b5,h⟩
     ·have e:=sj h;subst e
      exact se G E [r0,r0,r0,bf,r0,bf,r0,bf,r0,bf,r0,bt,bt,r0,au] (e6 b1 b2 b3 b4 b5 b5)
     ·rcases Aj h with⟨b6,h⟩|⟨b6,h⟩
      ·have e:=sj h;subst e
       exact se G E [r0,r0,r0,bf,r0,bf,r0,bf,r0,bf,r0,bf,r0,bt,bt,r0,au] (q6 b1 b2 b3 b4 b5 b6<|e1 b6)
      ·rcases Aj h with⟨b7,h⟩|⟨b7,h⟩
       ·have e:=sj h;subst e
        exact se G E [r0,r0,r0,bf,r0,bf,r0,bf,r0,bf,r0,bf,r0,bf,r0,bt,bt,r0,au] (q6 b1 b2 b3 b4 b5 b6<|e2 b7 b7)
       ·rcases Aj h with⟨b8,h⟩|⟨b8,h⟩
        ·have e:=sj h;subst e
         exact se G E [r0,r0,r0,bf,r0,bf,r0,bf,r0,bf,r0,bf,r0,bf,r0,bf,r0,bt,bt,r0,au] (q6 b1 b2 b3 b4 b5 b6<|e3 b7 b8 b8)
        ·rcases Aj h with⟨b9,h⟩|⟨b9,h⟩
         ·have e:=sj h;subst e
          exact se G E [r0,r0,r0,bf,r0,bf,r0,bf,r0,bf,r0,bf,r0,bf,r0,bf,r0,bf,r0,bt,bt,r0,au] (q6 b1 b2 b3 b4 b5 b6<|e4 b7 b8 b9 b9)
         ·rcases Aj h with⟨b10,h⟩|⟨b10,h⟩
          ·have e:=sj h;subst e
           exact se G E [r0,r0,r0,bf,r0,bf,r0,bf,r0,bf,r0,bf,r0,bf,r0,bf,r0,bf,r0,bf,r0,bt,bt,r0,au] (q6 b1 b2 b3 b4 b5 b6<|e5 b7 b8 b9 b10 b10)
          ·rcases Aj h with⟨b11,h⟩|⟨b11,h⟩
           ·have e:=sj h;subst e
            exact se G E [r0,r0,r0,bf,r0,bf,r0,bf,r0,bf,r0,bf,r0,bf,r0,bf,r0,bf,r0,bf,r0,bf,r0,bt,bt,r0,au] (q6 b1 b2 b3 b4 b5 b6<|e6 b7 b8 b9 b10 b11 b11)
           ·rcases Aj h with⟨b12,h⟩|⟨b12,h⟩
            ·have e:=sj h;subst e
             exact se G E [r0,r0,r0,bf,r0,bf,r0,bf,r0,bf,r0,bf,r0,bf,r0,bf,r0,bf,r0,bf,r0,bf,r0,bf,r0,bt,bt,r0,au] (q6 b1 b2 b3 b4 b5 b6<|q6 b7 b8 b9 b10 b11 b12<|e1 b12)
            ·rcases Aj h with⟨b13,h⟩|⟨b13,h⟩
             ·have e:=sj h;subst e
              exact se G E [r0,r0,r0,bf,r0,bf,r0,bf,r0,bf,r0,bf,r0,bf,r0,bf,r0,bf,r0,bf,r0,bf,r0,bf,r0,bf,r0,bt,bt,r0,au] (q6 b1 b2 b3 b4 b5 b6<|q6 b7 b8 b9 b10 b11 b12<|e2 b13 b13)
             ·rcases Aj h with⟨b14,h⟩|⟨b14,h⟩
              ·have e:=sj h;subst e
               exact se G E [r0,r0,r0,bf,r0,bf,r0,bf,r0,bf,r0,bf,r0,bf,r0,bf,r0,bf,r0,bf,r0,bf,r0,bf,r0,bf,r0,bf,r0,bt,bt,r0,au] (q6 b1 b2 b3 b4 b5 b6<|q6 b7 b8 b9 b10 b11 b12<|e3 b13 b14 b14)
              ·rcases Aj h with⟨b15,h⟩|⟨b15,h⟩
               ·have e:=sj h;subst e
                exact se G E [r0,r0,r0,bf,r0,bf,r0,bf,r0,bf,r0,bf,r0,bf,r0,bf,r0,bf,r0,bf,r0,bf,r0,bf,r0,bf,r0,bf,r0,bf,r0,bt,bt,r0,au] (q6 b1 b2 b3 b4 b5 b6<|q6 b7 b8 b9 b10 b11 b12<|e4 b13 b14 b15 b15)
               ·rcases Aj h with⟨b16,h⟩|⟨b16,h⟩
                ·have e:=sj h;subst e
                 exact se G E [r0,r0,r0,bf,r0,bf,r0,bf,r0,bf,r0,bf,r0,bf,r0,bf,r0,bf,r0,bf,r0,bf,r0,bf,r0,bf,r0,bf,r0,bf,r0,bf,r0,bt,bt,r0,au] (q6 b1 b2 b3 b4 b5 b6<|q6 b7 b8 b9 b10 b11 b12<|e5 b13 b14 b15 b16 b16)
                ·rcases Aj h with⟨b17,h⟩|⟨b17,h⟩
                 ·have e:=sj h;subst e
                  exact se G E [r0,r0,r0,bf,r0,bf,r0,bf,r0,bf,r0,bf,r0,bf,r0,bf,r0,bf,r0,bf,r0,bf,r0,bf,r0,bf,r0,bf,r0,bf,r0,bf,r0,bf,r0,bt,bt,r0,au] (q6 b1 b2 b3 b4 b5 b6<|q6 b7 b8 b9 b10 b11 b12<|e6 b13 b14 b15 b16 b17 b17)
                 ·rcases Aj h with⟨b18,h⟩|⟨b18,h⟩
                  ·have e:=sj h;subst e
                   exact se G E [r0,r0,r0,bf,r0,bf,r0,bf,r0,bf,r0,bf,r0,bf,r0,bf,r0,bf,r0,bf,r0,bf,r0,bf,r0,bf,r0,bf,r0,bf,r0,bf,r0,bf,r0,bf,r0,bt,bt,r0,au] (q6 b1 b2 b3 b4 b5 b6<|q6 b7 b8 b9 b10 b11 b12<|q6 b13 b14 b15 b16 b17 b18<|e1 b18)
                  ·rcases Aj h with⟨b19,h⟩|⟨b19,h⟩
                   ·have e:=sj h;subst e
                    exact se G E [r0,r0,r0,bf,r0,bf,r0,bf,r0,bf,r0,bf,r0,bf,r0,bf,r0,bf,r0,bf,r0,bf,r0,bf,r0,bf,r0,bf,r0,bf,r0,bf,r0,bf,r0,bf,r0,bf,r0,bt,bt,r0,au] (q6 b1 b2 b3 b4 b5 b6<|q6 b7 b8 b9 b10 b11 b12<|q6 b13 b14 b15 b16 b17 b18<|e2 b19 b19)
                   ·rcases Aj h with⟨b20,h⟩|⟨b20,h⟩
                    ·have e:=sj h;subst e
                     exact se G E [r0,r0,r0,bf,r0,bf,r0,bf,r0,bf,r0,bf,r0,bf,r0,bf,r0,bf,r0,bf,r0,bf,r0,bf,r0,bf,r0,bf,r0,bf,r0,bf,r0,bf,r0,bf,r0,bf,r0,bf,r0,bt,bt,r0,au] (q6 b1 b2 b3 b4 b5 b6<|q6 b7 b8 b9 b10 b11 b12<|q6 b13 b14 b15 b16 b17 b18<|e3 b19 b20 b20)
                    ·rcases Aj h with⟨b21,h⟩|⟨b21,h⟩
                     ·have e:=sj h;subst e
                      exact se G E [r0,r0,r0,bf,r0,bf,r0,bf,r0,bf,r0,bf,r0,bf,r0,bf,r0,bf,r0,bf,r0,bf,r0,bf,r0,bf,r0,bf,r0,bf,r0,bf,r0,bf,r0,bf,r0,bf,r0,bf,r0,bf,r0,bt,bt,r0,au] (q6 b1 b2 b3 b4 b5 b6<|q6 b7 b8 b9 b10 b11 b12<|q6 b13 b14 b15 b16 b17 b18<|e4 b19 b20 b21 b21)
                     ·rcases Aj h with⟨b22,h⟩|⟨b22,h⟩
                      ·have e:=sj h;subst e
                       exact se G E [r0,r0,r0,bf,r0,bf,r0,bf,r0,bf,r0,bf,r0,bf,r0,bf,r0,bf,r0,bf,r0,bf,r0,bf,r0,bf,r0,bf,r0,bf,r0,bf,r0,bf,r0,bf,r0,bf,r0,bf,r0,bf,r0,bf,r0,bt,bt,r0,au] (q6 b1 b2 b3 b4 b5 b6<|q6 b7 b8 b9 b10 b11 b12<|q6 b13 b14 b15 b16 b17 b18<|e5 b19 b20 b21 b22 b22)
                      ·rcases Aj h with⟨b23,h⟩|⟨b23,h⟩
                       ·have e:=sj h;subst e
                        exact se G E [r0,r0,r0,bf,r0,bf,r0,bf,r0,bf,r0,bf,r0,bf,r0,bf,r0,bf,r0,bf,r0,bf,r0,bf,r0,bf,r0,bf,r0,bf,r0,bf,r0,bf,r0,bf,r0,bf,r0,bf,r0,bf,r0,bf,r0,bf,r0,bt,bt,r0,au] (q6 b1 b2 b3 b4 b5 b6<|q6 b7 b8 b9 b10 b11 b12<|q6 b13 b14 b15 b16 b17 b18<|e6 b19 b20 b21 b22 b23 b23)
                       ·rcases Aj h with⟨b24,h⟩|⟨b24,h⟩
                        ·have e:=sj h;subst e
                         exact se G E [r0,r0,r0,bf,r0,bf,r0,bf,r0,bf,r0,bf,r0,bf,r0,bf,r0,bf,r0,bf,r0,bf,r0,bf,r0,bf,r0,bf,r0,bf,r0,bf,r0,bf,r0,bf,r0,bf,r0,bf,r0,bf,r0,bf,r0,bf,r0,bf,r0,bt,bt,r0,au] (q6 b1 b2 b3 b4 b5 b6<|q6 b7 b8 b9 b10 b11 b12<|q6 b13 b14 b15 b16 b17 b18<|q6 b19 b20 b21 b22 b23 b24<|e1 b24)
                        ·rcases Aj h with⟨b25,h⟩|⟨b25,h⟩
                         ·have e:=sj h;subst e
                          exact se G E [r0,r0,r0,bf,r0,bf,r0,bf,r0,bf,r0,bf,r0,bf,r0,bf,r0,bf,r0,bf,r0,bf,r0,bf,r0,bf,r0,bf,r0,bf,r0,bf,r0,bf,r0,bf,r0,bf,r0,bf,r0,bf,r0,bf,r0,bf,r0,bf,r0,bf,r0,bt,bt,r0,au] (q6 b1 b2 b3 b4 b5 b6<|q6 b7 b8 b9 b10 b11 b12<|q6 b13 b14 b15 b16 b17 b18<|q6 b19 b20 b21 b22 b23 b24<|e2 b25 b25)
                         ·rcases Aj h with⟨b26,h⟩|⟨b26,h⟩
                          ·have e:=sj h;subst e
                           exact se G E [r0,r0,r0,bf,r0,bf,r0,bf,r0,bf,r0,bf,r0,bf,r0,bf,r0,bf,r0,bf,r0,bf,r0,bf,r0,bf,r0,bf,r0,bf,r0,bf,r0,bf,r0,bf,r0,bf,r0,bf,r0,bf,r0,bf,r0,bf,r0,bf,r0,bf,r0,bf,r0,bt,bt,r0,au] (q6 b1 b2 b3 b4 b5 b6<|q6 b7 b8 b9 b10 b11 b12<|q6 b13 b14 b15 b16 b17 b18<|q6 b19 b20 b21 b22 b23 b24<|e3 b25 b26 b26)
                          ·rcases Aj h with⟨b27,h⟩|⟨b27,h⟩
                           ·have e:=sj h;subst e
                            exact se G E [r0,r0,r0,bf,r0,bf,r0,bf,r0,bf,r0,bf,r0,bf,r0,bf,r0,bf,r0,bf,r0,bf,r0,bf,r0,bf,r0,bf,r0,bf,r0,bf,r0,bf,r0,bf,r0,bf,r0,bf,r0,bf,r0,bf,r0,bf,r0,bf,r0,bf,r0,bf,r0,bf,r0,bt,bt,r0,au] (q6 b1 b2 b3 b4 b5 b6<|q6 b7 b8 b9 b10 b11 b12<|q6 b13 b14 b15 b16 b17 b18<|q6 b19 b20 b21 b22 b23 b24<|e4 b25 b26 b27 b27)
                           ·rcases Aj h with⟨b28,h⟩|⟨b28,h⟩
                            ·have e:=sj h;subst e
                             exact se G E [r0,r0,r0,bf,r0,bf,r0,bf,r0,bf,r0,bf,r0,bf,r0,bf,r0,bf,r0,bf,r0,bf,r0,bf,r0,bf,r0,bf,r0,bf,r0,bf,r0,bf,r0,bf,r0,bf,r0,bf,r0,bf,r0,bf,r0,bf,r0,bf,r0,bf,r0,bf,r0,bf,r0,bf,r0,bt,bt,r0,au] (q6 b1 b2 b3 b4 b5 b6<|q6 b7 b8 b9 b10 b11 b12<|q6 b13 b14 b15 b16 b17 b18<|q6 b19 b20 b21 b22 b23 b24<|e5 b25 b26 b27 b28 b28)
                            ·rcases Aj h with⟨b29,h⟩|⟨b29,h⟩
                             ·have e:=sj h;subst e
                              exact se G E [r0,r0,r0,bf,r0,bf,r0,bf,r0,bf,r0,bf,r0,bf,r0,bf,r0,bf,r0,bf,r0,bf,r0,bf,r0,bf,r0,bf,r0,bf,r0,bf,r0,bf,r0,bf,r0,bf,r0,bf,r0,bf,r0,bf,r0,bf,r0,bf,r0,bf,r0,bf,r0,bf,r0,bf,r0,bf,r0,bt,bt,r0,au] (q6 b1 b2 b3 b4 b5 b6<|q6 b7 b8 b9 b10 b11 b12<|q6 b13 b14 b15 b16 b17 b18<|q6 b19 b20 b21 b22 b23 b24<|e6 b25 b26 b27 b28 b29 b29)
                             ·rcases Aj h with⟨b30,h⟩|⟨b30,h⟩
                              ·have e:=sj h;subst e
                               exact se G E [r0,r0,r0,bf,r0,bf,r0,bf,r0,bf,r0,bf,r0,bf,r0,bf,r0,bf,r0,bf,r0,bf,r0,bf,r0,bf,r0,bf,r0,bf,r0,bf,r0,bf,r0,bf,r0,bf,r0,bf,r0,bf,r0,bf,r0,bf,r0,bf,r0,bf,r0,bf,r0,bf,r0,bf,r0,bf,r0,bf,r0,bt,bt,r0,au] (q6 b1 b2 b3 b4 b5 b6<|q6 b7 b8 b9 b10 b11 b12<|q6 b13 b14 b15 b16 b17 b18<|q6 b19 b20 b21 b22 b23 b24<|q6 b25 b26 b27 b28 b29 b30<|e1 b30)
                              ·rcases Aj h with⟨b31,h⟩|⟨b31,h⟩
                               ·have e:=sj h;subst e
                                exact se G E [r0,r0,r0,bf,r0,bf,r0,bf,r0,bf,r0,bf,r0,bf,r0,bf,r0,bf,r0,bf,r0,bf,r0,bf,r0,bf,r0,bf,r0,bf,r0,bf,r0,bf,r0,bf,r0,bf,r0,bf,r0,bf,r0,bf,r0,bf,r0,bf,r0,bf,r0,bf,r0,bf,r0,bf,r0,bf,r0,bf,r0,bf,r0,bt,bt,r0,au] (q6 b1 b2 b3 b4 b5 b6<|q6 b7 b8 b9 b10 b11 b12<|q6 b13 b14 b15 b16 b17 b18<|q6 b19 b20 b21 b22 b23 b24<|q6 b25 b26 b27 b28 b29 b30<|e2 b31 b31)
                               ·rcases Aj h with⟨b32,h⟩|⟨b32,h⟩
                                ·have e:=sj h;subst e
                                 exact se G E [r0,r0,r0,bf,r0,bf,r0,bf,r0,bf,r0,bf,r0,bf,r0,bf,r0,bf,r0,bf,r0,bf,r0,bf,r0,bf,r0,bf,r0,bf,r0,bf,r0,bf,r0,bf,r0,bf,r0,bf,r0,bf,r0,bf,r0,bf,r0,bf,r0,bf,r0,bf,r0,bf,r0,bf,r0,bf,r0,bf,r0,bf,r0,bf,r0,bt,bt,r0,au] (q6 b1 b2 b3 b4 b5 b6<|q6 b7 b8 b9 b10 b11 b12<|q6 b13 b14 b15 b16 b17 b18<|q6 b19 b20 b21 b22 b23 b24<|q6 b25 b26 b27 b28 b29 b30<|e3 b31 b32 b32)
                                ·rcases Aj h with⟨b33,h⟩|⟨b33,h⟩
                                 ·have e:=sj h;subst e
                                  exact se G E [r0,r0,r0,bf,r0,bf,r0,bf,r0,bf,r0,bf,r0,bf,r0,bf,r0,bf,r0,bf,r0,bf,r0,bf,r0,bf,r0,bf,r0,bf,r0,bf,r0,bf,r0,bf,r0,bf,r0,bf,r0,bf,r0,bf,r0,bf,r0,bf,r0,bf,r0,bf,r0,bf,r0,bf,r0,bf,r0,bf,r0,bf,r0,bf,r0,bf,r0,bt,bt,r0,au] (q6 b1 b2 b3 b4 b5 b6<|q6 b7 b8 b9 b10 b11 b12<|q6 b13 b14 b15 b16 b17 b18<|q6 b19 b20 b21 b22 b23 b24<|q6 b25 b26 b27 b28 b29 b30<|e4 b31 b32 b33 b33)
                                 ·rcases Aj h with⟨b34,h⟩|⟨b34,h⟩
                                  ·have e:=sj h;subst e
                                   exact se G E [r0,r0,r0,bf,r0,bf,r0,bf,r0,bf,r0,bf,r0,bf,r0,bf,r0,bf,r0,bf,r0,bf,r0,bf,r0,bf,r0,bf,r0,bf,r0,bf,r0,bf,r0,bf,r0,bf,r0,bf,r0,bf,r0,bf,r0,bf,r0,bf,r0,bf,r0,bf,r0,bf,r0,bf,r0,bf,r0,bf,r0,bf,r0,bf,r0,bf,r0,bf,r0,bt,bt,r0,au] (q6 b1 b2 b3 b4 b5 b6<|q6 b7 b8 b9 b10 b11 b12<|q6 b13 b14 b15 b16 b17 b18<|q6 b19 b20 b21 b22 b23 b24<|q6 b25 b26 b27 b28 b29 b30<|e5 b31 b32 b33 b34 b34)
                                  ·rcases Aj h with⟨b35,h⟩|⟨b35,h⟩
                                   ·have e:=sj h;subst e
                                    exact se G E [r0,r0,r0,bf,r0,bf,r0,bf,r0,bf,r0,bf,r0,bf,r0,bf,r0,bf,r0,bf,r0,bf,r0,bf,r0,bf,r0,bf,r0,bf,r0,bf,r0,bf,r0,bf,r0,bf,r0,bf,r0,bf,r0,bf,r0,bf,r0,bf,r0,bf,r0,bf,r0,bf,r0,bf,r0,bf,r0,bf,r0,bf,r0,bf,r0,bf,r0,bf,r0,bf,r0,bt,bt,r0,au] (q6 b1 b2 b3 b4 b5 b6<|q6 b7 b8 b9 b10 b11 b12<|q6 b13 b14 b15 b16 b17 b18<|q6 b19 b20 b21 b22 b23 b24<|q6 b25 b26 b27 b28 b29 b30<|e6 b31 b32 b33 b34 b35 b35)
                                   ·rcases Aj h with⟨b36,h⟩|⟨b36,h⟩
                                    ·have e:=sj h;subst e
                                     exact se G E [r0,r0,r0,bf,r0,bf,r0,bf,r0,bf,r0,bf,r0,bf,r0,bf,r0,bf,r0,bf,r0,bf,r0,bf,r0,bf,r0,bf,r0,bf,r0,bf,r0,bf,r0,bf,r0,bf,r0,bf,r0,bf,r0,bf,r0,bf,r0,bf,r0,bf,r0,bf,r0,bf,r0,bf,r0,bf,r0,bf,r0,bf,r0,bf,r0,bf,r0,bf,r0,bf,r0,bf,r0,bt,bt,r0,au] (q6 b1 b2 b3 b4 b5 b6<|q6 b7 b8 b9 b10 b11 b12<|q6 b13 b14 b15 b16 b17 b18<|q6 b19 b20 b21 b22 b23 b24<|q6 b25 b26 b27 b28 b29 b30<|q6 b31 b32 b33 b34 b35 b36<|e1 b36)
                                    ·rcases Aj h with⟨b37,h⟩|⟨b37,h⟩
                                     ·have e:=sj h;subst e
                                      exact se G E [r0,r0,r0,bf,r0,bf,r0,bf,r0,bf,r0,bf,r0,bf,r0,bf,r0,bf,r0,bf,r0,bf,r0,bf,r0,bf,r0,bf,r0,bf,r0,bf,r0,bf,r0,bf,r0,bf,r0,bf,r0,bf,r0,bf,r0,bf,r0,bf,r0,bf,r0,bf,r0,bf,r0,bf,r0,bf,r0,bf,r0,bf,r0,bf,r0,bf,r0,bf,r0,bf,r0,bf,r0,bf,r0,bt,bt,r0,au] (q6 b1 b2 b3 b4 b5 b6<|q6 b7 b8 b9 b10 b11 b12<|q6 b13 b14 b15 b16 b17 b18<|q6 b19 b20 b21 b22 b23 b24<|q6 b25 b26 b27 b28 b29 b30<|q6 b31 b32 b33 b34 b35 b36<|e2 b37 b37)
                                     ·rcases Aj h with⟨b38,h⟩|⟨b38,h⟩
                                      ·have e:=sj h;subst e
                                       exact se G E [r0,r0,r0,bf,r0,bf,r0,bf,r0,bf,r0,bf,r0,bf,r0,bf,r0,bf,r0,bf,r0,bf,r0,bf,r0,bf,r0,bf,r0,bf,r0,bf,r0,bf,r0,bf,r0,bf,r0,bf,r0,bf,r0,bf,r0,bf,r0,bf,r0,bf,r0,bf,r0,bf,r0,bf,r0,bf,r0,bf,r0,bf,r0,bf,r0,bf,r0,bf,r0,bf,r0,bf,r0,bf,r0,bf,r0,bt,bt,r0,au] (q6 b1 b2 b3 b4 b5 b6<|q6 b7 b8 b9 b10 b11 b12<|q6 b13 b14 b15 b16 b17 b18<|q6 b19 b20 b21 b22 b23 b24<|q6 b25 b26 b27 b28 b29 b30<|q6 b31 b32 b33 b34 b35 b36<|e3 b37 b38 b38)
                                      ·rcases Aj h with⟨b39,h⟩|⟨b39,h⟩
                                       ·have e:=sj h;subst e
                                        exact se G E [r0,r0,r0,bf,r0,bf,r0,bf,r0,bf,r0,bf,r0,bf,r0,bf,r0,bf,r0,bf,r0,bf,r0,bf,r0,bf,r0,bf,r0,bf,r0,bf,r0,bf,r0,bf,r0,bf,r0,bf,r0,bf,r0,bf,r0,bf,r0,bf,r0,bf,r0,bf,r0,bf,r0,bf,r0,bf,r0,bf,r0,bf,r0,bf,r0,bf,r0,bf,r0,bf,r0,bf,r0,bf,r0,bf,r0,bf,r0,bt,bt,r0,au] (q6 b1 b2 b3 b4 b5 b6<|q6 b7 b8 b9 b10 b11 b12<|q6 b13 b14 b15 b16 b17 b18<|q6 b19 b20 b21 b22 b23 b24<|q6 b25 b26 b27 b28 b29 b30<|q6 b31 b32 b33 b34 b35 b36<|e4 b37 b38 b39 b39)
                                       ·rcases Aj h with⟨b40,h⟩|⟨b40,h⟩
                                        ·have e:=sj h;subst e
                                         exact se G E [r0,r0,r0,bf,r0,bf,r0,bf,r0,bf,r0,bf,r0,bf,r0,bf,r0,bf,r0,bf,r0,bf,r0,bf,r0,bf,r0,bf,r0,bf,r0,bf,r0,bf,r0,bf,r0,bf,r0,bf,r0,bf,r0,bf,r0,bf,r0,bf,r0,bf,r0,bf,r0,bf,r0,bf,r0,bf,r0,bf,r0,bf,r0,bf,r0,bf,r0,bf,r0,bf,r0,bf,r0,bf,r0,bf,r0,bf,r0,bf,r0,bt,bt,r0,au] (q6 b1 b2 b3 b4 b5 b6<|q6 b7 b8 b9 b10 b11 b12<|q6 b13 b14 b15 b16 b17 b18<|q6 b19 b20 b21 b22 b23 b24<|q6 b25 b26 b27 b28 b29 b30<|q6 b31 b32 b33 b34 b35 b36<|e5 b37 b38 b39 b40 b40)
                                        ·rcases Aj h with⟨b41,h⟩|⟨b41,h⟩
                                         ·have e:=sj h;subst e
                                          exact se G E [r0,r0,r0,bf,r0,bf,r0,bf,r0,bf,r0,bf,r0,bf,r0,bf,r0,bf,r0,bf,r0,bf,r0,bf,r0,bf,r0,bf,r0,bf,r0,bf,r0,bf,r0,bf,r0,bf,r0,bf,r0,bf,r0,bf,r0,bf,r0,bf,r0,bf,r0,bf,r0,bf,r0,bf,r0,bf,r0,bf,r0,bf,r0,bf,r0,bf,r0,bf,r0,bf,r0,bf,r0,bf,r0,bf,r0,bf,r0,bf,r0,bf,r0,bt,bt,r0,au] (q6 b1 b2 b3 b4 b5 b6<|q6 b7 b8 b9 b10 b11 b12<|q6 b13 b14 b15 b16 b17 b18<|q6 b19 b20 b21 b22 b23 b24<|q6 b25 b26 b27 b28 b29 b30<|q6 b31 b32 b33 b34 b35 b36<|e6 b37 b38 b39 b40 b41 b41)
                                         ·rcases Aj h with⟨b42,h⟩|⟨b42,h⟩
                                          ·have e:=sj h;subst e
                                           exact se G E [r0,r0,r0,bf,r0,bf,r0,bf,r0,bf,r0,bf,r0,bf,r0,bf,r0,bf,r0,bf,r0,bf,r0,bf,r0,bf,r0,bf,r0,bf,r0,bf,r0,bf,r0,bf,r0,bf,r0,bf,r0,bf,r0,bf,r0,bf,r0,bf,r0,bf,r0,bf,r0,bf,r0,bf,r0,bf,r0,bf,r0,bf,r0,bf,r0,bf,r0,bf,r0,bf,r0,bf,r0,bf,r0,bf,r0,bf,r0,bf,r0,bf,r0,bf,r0,bt,bt,r0,au] (q6 b1 b2 b3 b4 b5 b6<|q6 b7 b8 b9 b10 b11 b12<|q6 b13 b14 b15 b16 b17 b18<|q6 b19 b20 b21 b22 b23 b24<|q6 b25 b26 b27 b28 b29 b30<|q6 b31 b32 b33 b34 b35 b36<|q6 b37 b38 b39 b40 b41 b42<|e1 b42)
                                          ·rcases Aj h with⟨b43,h⟩|⟨b43,h⟩
                                           ·have e:=sj h;subst e
                                            exact se G E [r0,r0,r0,bf,r0,bf,r0,bf,r0,bf,r0,bf,r0,bf,r0,bf,r0,bf,r0,bf,r0,bf,r0,bf,r0,bf,r0,bf,r0,bf,r0,bf,r0,bf,r0,bf,r0,bf,r0,bf,r0,bf,r0,bf,r0,bf,r0,bf,r0,bf,r0,bf,r0,bf,r0,bf,r0,bf,r0,bf,r0,bf,r0,bf,r0,bf,r0,bf,r0,bf,r0,bf,r0,bf,r0,bf,r0,bf,r0,bf,r0,bf,r0,bf,r0,bf,r0,bt,r0,au] (q6 b1 b2 b3 b4 b5 b6<|q6 b7 b8 b9 b10 b11 b12<|q6 b13 b14 b15 b16 b17 b18<|q6 b19 b20 b21 b22 b23 b24<|q6 b25 b26 b27 b28 b29 b30<|q6 b31 b32 b33 b34 b35 b36<|q6 b37 b38 b39 b40 b41 b42<|e1 b43)
                                           ·have e:=sj h;subst e
                                            exact se G E [r0,r0,r0,bf,r0,bf,r0,bf,r0,bf,r0,bf,r0,bf,r0,bf,r0,bf,r0,bf,r0,bf,r0,bf,r0,bf,r0,bf,r0,bf,r0,bf,r0,bf,r0,bf,r0,bf,r0,bf,r0,bf,r0,bf,r0,bf,r0,bf,r0,bf,r0,bf,r0,bf,r0,bf,r0,bf,r0,bf,r0,bf,r0,bf,r0,bf,r0,bf,r0,bf,r0,bf,r0,bf,r0,bf,r0,bf,r0,bf,r0,bf,r0,bf,r0,bf,r0,bf,r0,au] (q6 b1 b2 b3 b4 b5 b6<|q6 b7 b8 b9 b10 b11 b12<|q6 b13 b14 b15 b16 b17 b18<|q6 b19 b20 b21 b22 b23 b24<|q6 b25 b26 b27 b28 b29 b30<|q6 b31 b32 b33 b34 b35 b36<|q6 b37 b38 b39 b40 b41 b42<|e1 b43)
theorem Z2:MT 117 Od:=show E1 Qa _ _ _ from mt (fn:=Tryz.f117) (S:=λ x=>Ak5 x.1) (GB trivial trivial) λ G _ _ _ _=>A0d G
noncomputable abbrev Y9:Env:=EV [] [] false
noncomputable def A9e:=c0 Tryz.f118
noncomputable def Agj:FS yeE:=f1 [(.int .u8)] .bool λ x=>Jc x.1
abbrev Bhc (C:Ctx) (F:FT) (y:Bool):Prop:=En Y9 C F Tryz.f118 Agj (y,())
def Atu (a0:Int):ST:=⟨9,[ol 0 (.int .u8 a0)],[]⟩
theorem Bff (G:Bs Y9 P) {y a0} (E:Bhc C F y) (h:Jc a0=some y):Bv Y9 P C F A9e (Atu a0):=by
 unfold Jc at h
 rcases Aj h with⟨b1,h⟩|⟨b1,h⟩
 ·have e:=sj h;subst e
  exact se G E [r0,ru [2,5],au] (ar 3 b1<|tt)
 ·have e:=sj h;subst e
  exact se G E [r0,rf [2,5],au] (ar 3 b1<|tt)
theorem Ayn:MT 118 Agj:=show E1 Y9 _ _ _ from mt (fn:=Tryz.f118) (S:=λ x=>Atu x.1) (GB trivial trivial) λ G _ _ _ _=>Bff G
noncomputable abbrev Ck:Env:=EV [(116,Aa0),(117,Od),(118,Agj)] [] false
noncomputable def Aa7:=c0 Tryz.f84
noncomputable def Nf:FS yeE:=f1 [.str] .bool λ x=>E2 x.1
noncomputable def A7v:=ct [0,0,3,4] Aa7
noncomputable def Nl:=ct [0,0,2,0,1] Aa7
noncomputable def A74:=ct [0,3,0,0,2,4] Nl
noncomputable def Aof:=ct [0,2,4] Nl
abbrev U6 (C:Ctx) (F:FT) (y:Bool):Prop:=En Ck C F Tryz.f84 Nf (y,())
def Ahe (r1:Unit):ST:=⟨46,[],[]⟩
def A2e:ST:=⟨46,[],[]⟩
def A09 (a0:(List UInt8)) (v1:Int):ST:=⟨46,[ol 0 (.str a0),oi 23 (a0.length:Int),oi 24 v1],[]⟩
def Xw (a0:(List UInt8)) (v:Int):ST:=⟨46,[ol 0 (.str a0),oi 23 (a0.length:Int),oi 24 v],[]⟩
def Ao6 (a0:(List UInt8)):ST:=⟨46,[ol 0 (.str a0)],[]⟩
theorem Oh (G:Bs Ck P) {y} (E:U6 C F y) (h:G9=some y):Bv Ck P C F A7v (A2e):=by
 unfold G9 at h
 have e:=sj h;subst e
 exact se G E [r0,au] tt
theorem U2 (G:Bs Ck P) {y o a0 v1} (E:U6 C F y) (h:I4 a0 v1=some o) (L:LP Ck P C F Nl (Xw a0) (Sum.elim (GX Ck P C F Aof Ahe) (RX y)) o):Bv Ck P C F A74 (A09 a0 v1):=by
 unfold I4 at h
 exact sg G [r0,en] tt (L.1 _ (si h))
theorem Ayy (G:Bs Ck P) {y a0} (E:U6 C F y) (v:Int) o (h:Tc a0 v=some o) (L:LP Ck P C F Nl (Xw a0) (Sum.elim (GX Ck P C F Aof Ahe) (RX y)) o):Bv Ck P C F Nl (Xw a0 v):=by
 unfold Tc at h
 rcases Aj h with⟨b5,h⟩|⟨b5,h⟩
 ·obtain⟨c4,h⟩:=A8 h
  obtain⟨y3,c5,h⟩:=bind_some h
  rcases Aj h with⟨b6,h⟩|⟨b6,h⟩
  ·obtain⟨c6,h⟩:=A8 h
   obtain⟨y4,c7,h⟩:=bind_some h
   rcases Aj h with⟨b7,h⟩|⟨b7,h⟩
   ·obtain⟨c8,h⟩:=A8 h
    rcases Aj h with⟨b8,h⟩|⟨b8,h⟩
    ·have e:_=y:=L.2 _ (si h);subst e
     exact se G E [r0,bt,r0,rg [] [5,11,12,17] [(3,rs .bool y3),(9,rs .bool y4)],bt,r0,au] (q3 b5 c4 (ca c5)<|ar 3 b6<|q5 c6 b6 (ca c7) b6 b6<|ar 3 b7<|e4 c8 b7 b7 b8)
    ·exact sg G [r0,bt,r0,rg [] [5,11,12,17] [(3,rs .bool y3),(9,rs .bool y4)],bf,au] (q3 b5 c4 (ca c5)<|ar 3 b6<|q5 c6 b6 (ca c7) b6 b6<|ar 3 b7<|e4 c8 b7 b7 b8) (U2 G E h L)
   ·exact sg G [r0,bt,r0,rg [12,17] [5,11] [(3,rs .bool y3),(9,rs .bool y4)],bf,au] (q3 b5 c4 (ca c5)<|ar 3 b6<|q5 c6 b6 (ca c7) b6 b6<|ar 5 b7<|e1 rF) (U2 G E h L)
  ·exact sg G [r0,bt,r0,rg [5,11,12,17] [] [(3,rs .bool y3)],bf,au] (q3 b5 c4 (ca c5)<|ar 6 b6<|ar 6 rF<|tt) (U2 G E h L)
 ·exact sg G [r0,bf,au] (e1 b5) (L.2 _ (si h))
theorem A73 (G:Bs Ck P) {y a0} (E:U6 C F y) (h:E2 a0=some y):Bv Ck P C F Aa7 (Ao6 a0):=by
 unfold E2 at h
 rcases Aj h with⟨b1,h⟩|⟨b1,h⟩
 ·exact sg G [r0,ru [3,7,8,13,14,17],bt,au] (ar 4 b1<|ar 9 rT<|tt) (Oh G E h)
 ·rcases Aj h with⟨b2,h⟩|⟨b2,h⟩
  ·exact sg G [r0,rb [3,7] [8,13,14,17],bt,au] (ar 4 b1<|ar 5 b2<|ar 4 rT<|tt) (Oh G E h)
  ·obtain⟨c1,h⟩:=A8 h
   obtain⟨y1,c2,h⟩:=bind_some h
   rcases Aj h with⟨b3,h⟩|⟨b3,h⟩
   ·exact sg G [r0,rg [3,7,8,13] [14,17] [(11,rs .bool y1)],bt,au] (ar 4 b1<|q6 b2 b2 c1 b2 (ca c2) b2<|q1 b2<|ar 3 b3<|e1 rT) (Oh G E h)
   ·obtain⟨y2,c3,h⟩:=bind_some h
    rcases Aj h with⟨b4,h⟩|⟨b4,h⟩
    ·exact sg G [r0,rg [3,7,8,13,14,17] [] [(11,rs .bool y1),(16,rs .bool y2)],bt,au] (ar 4 b1<|q6 b2 b2 c1 b2 (ca c2) b2<|e6 b2 b3 b3 (ca c3) b3 b4) (Oh G E h)
    ·obtain⟨r,hi,h⟩:=bind_some h
     refine sg G [r0,rg [3,7,8,13,14,17] [] [(11,rs .bool y1),(16,rs .bool y2)],bf,r0,en] (ar 4 b1<|q6 b2 b2 c1 b2 (ca c2) b2<|e6 b2 b3 b3 (ca c3) b3 b4) (lg (Ayy G E) hi ?_)
     rcases r with r1|r2
     ·have e:=sj h;subst e
      exact se G E [r0,au] tt
     ·exact sj h
theorem T3:MT 84 Nf:=show E1 Ck _ _ _ from mt (fn:=Tryz.f84) (S:=λ x=>Ao6 x.1) (GB ⟨Avb,Z2,Ayn,trivial⟩ trivial) λ G _ _ _ _=>A73 G
noncomputable def Ld:FS yeE:=f1 [.str,.str] (.sl .str) λ x=>Mu x.1 x.2.1
theorem B66:GO (EV [(196,Ahc)] [] false):=GB ⟨Ao9,trivial⟩ trivial
section
variable (k:Kt B66 C F 8 [])
end
theorem W5:MT 163 Ld:=mz B66 163 Tryz.f163 Ld [] (λ k=>(fz k Tryz.f163 Ld (λ y=>y.1) λ _ h=>h)) (.g (.g (.e [[]]))) λ k _=>an
noncomputable def Hh:FS yeE:=f1 [.str] .bool λ x=>Kb x.1
theorem B69:GO (EV [(84,Nf),(163,Ld)] [] false):=GB ⟨T3,W5,trivial⟩ trivial
section
variable (k:Kt B69 C F 16 [])
noncomputable def A6h:=c0 Tryz.f161
noncomputable def S8:=ct [0,0,1,4] A6h
noncomputable def Aod:=ct [0,2,4] S8
abbrev B3s (y:Bool):Prop:=Ez k Tryz.f161 Hh (y,())
abbrev A1h:=Lz k S8 Lc (Sum.elim (Gz k Aod P5) (B3s k))
theorem Ayp:Ok k (B3s k) ⟨Aod,P5,Ts⟩:=pz k (fz k Tryz.f161 Hh (λ y=>y.1) λ _ h=>h) (.g (.e [[]])) λ _=>an
theorem Aza:Ok k (A1h k) ⟨S8,Lc,Tl⟩:=pz k (fz k Tryz.f161 Hh (λ y=> .inr (.inr y.1)) λ y h=>h.2 (.inr y.1) rfl) (.g (.b (.g (.g (.b (.g (.e [[]])) (.g (.l (.c 0 [[]])))))) (.c 1 [[]]))) λ _=>ac bk<|ac (xt Sum.inl λ _ h=>h)<|an
theorem A0e:Ok k (B3s k) ⟨S8,Lc,λ v=>Option.bind (iter Tl v) (Sum.elim Ts (λ y=>some y))⟩:=lz k (Aza k) (xs (Ayp k) xr)
end
theorem Afz:MT 161 Hh:=mz B69 161 Tryz.f161 Hh [] (λ k=>Au) (.g (.g (.l (.c 0 [[]])))) λ k _=>ac (A0e k)<|an
noncomputable def K9:FS yeE:=f1 [.str] .bool λ x=>Hr x.1
theorem B7m:GO (EV [(161,Hh)] [] false):=GB ⟨Afz,trivial⟩ trivial
section
variable (k:Kt B7m C F 10 [])
end
theorem Vo:MT 144 K9:=mz B7m 144 Tryz.f144 K9 [] (λ k=>(fz k Tryz.f144 K9 (λ y=>y.1) λ _ h=>h)) (.g (.g (.e [[]]))) λ k _=>an
noncomputable def Nr:FS yeE:=f1 [(.nm 1)] .bool λ x=>H7 x.1
theorem B7z:GO (EV [] [] false):=GB trivial trivial
section
variable (k:Kt B7z C F 23 [])
end
theorem X8:MT 150 Nr:=mz B7z 150 Tryz.f150 Nr [] (λ k=>(fz k Tryz.f150 Nr (λ y=>y.1) λ _ h=>h)) (.g (.g (.e [[]]))) λ k _=>an
noncomputable def Ih:FS yeE:=f1 [(.sl (.nm 2))] .bool λ x=>Gl x.1
theorem B7v:GO (EV [(144,K9),(150,Nr),(161,Hh)] [] false):=GB ⟨Vo,X8,Afz,trivial⟩ trivial
section
variable (k:Kt B7v C F 36 [])
noncomputable def Ba1:=c0 Tryz.f145
noncomputable def Kw:=ct [0,0,1,4] Ba1
noncomputable def Bau:=ct [0,3,0,0,3,4] Kw
noncomputable def Bep:=ct [0,3,0,0,2,4] Kw
noncomputable def Arh:=ct [0,2,4] Kw
abbrev B1q (y:Bool):Prop:=Ez k Tryz.f145 Ih (y,())
abbrev Aaq (a0:(List Ak)):=Lz k Kw (Ei a0) (Sum.elim (Gz k Arh I8) (B1q k))
theorem A1g (a0:(List Ak)):Ok k (Aaq k a0) ⟨Bau,Aom,Ii a0⟩:=pz k (fz k Tryz.f145 Ih (λ y=> .inr (.inr y.1)) λ y h=>h.2 (.inr y.1) rfl) (.g (.e [[]])) λ _=>an
theorem A1i (a0:(List Ak)) (v1:Int):Ok k (Aaq k a0) ⟨Bep,Tw a0 v1,Pg a0 v1⟩:=pz k Au (.g (.l (.c 0 [[]]))) λ _=>ac bk<|an
theorem A16:Ok k (B1q k) ⟨Arh,I8,Pq⟩:=pz k (fz k Tryz.f145 Ih (λ y=>y.1) λ _ h=>h) (.g (.e [[]])) λ _=>an
theorem A05 (a0:(List Ak)):Ok k (Aaq k a0) ⟨Kw,Ei a0,Oy a0⟩:=pz k Au (.g (.b (.g (.g (.b (.c 0 [[]]) (.c 1 [[]])))) (.c 2 [[]]))) λ v=>ac (A1g k a0)<|ac (A1i k a0 v.1)<|ac (xt Sum.inl λ _ h=>h)<|an
theorem A07 (a0:(List Ak)):Ok k (B1q k) ⟨Kw,Ei a0,λ v=>Option.bind (iter (Oy a0) v) (Sum.elim Pq (λ y=>some y))⟩:=lz k (A05 k a0) (xs (A16 k) xr)
end
theorem Ail:MT 145 Ih:=mz B7v 145 Tryz.f145 Ih [] (λ k=>Au) (.g (.g (.l (.c 0 [[]])))) λ k x=>ac (A07 k x.1)<|an
noncomputable def Qf:FS yeE:=⟨[.str,.str],[.str,.str,.bool],[],[],((List UInt8)×(List UInt8)×Bool),λ x=>Agm x.1 x.2.1,λ r=>(r.1,r.2.1,r.2.2,())⟩
theorem B77:GO (EV [(156,Ae7)] [] false):=GB ⟨Aoq,trivial⟩ trivial
section
variable (k:Kt B77 C F 23 [])
end
theorem Ati:MT 129 Qf:=mz B77 129 Tryz.f129 Qf [] (λ k=>(fz k Tryz.f129 Qf (λ y=>(y.1,y.2.1,y.2.2.1)) λ _ h=>h)) (.g (.g (.g (.b (.g (.e [[]])) (.g (.e [[]])))))) λ k _=>an
noncomputable def Jk:FS yeE:=⟨[.str,.str],[.str,.str,.bool],[],[],((List UInt8)×(List UInt8)×Bool),λ x=>Pu x.1 x.2.1,λ r=>(r.1,r.2.1,r.2.2,())⟩
theorem Cbh:GO (EV [(129,Qf)] [] false):=GB ⟨Ati,trivial⟩ trivial
section
variable (k:Kt Cbh C F 13 [])
end
theorem M5:MT 93 Jk:=mz Cbh 93 Tryz.f93 Jk [] (λ k=>(fz k Tryz.f93 Jk (λ y=>(y.1,y.2.1,y.2.2.1)) λ _ h=>h)) (.g (.g (.e [[]]))) λ k _=>an
noncomputable abbrev Bxn:Env:=EV [] [] false
noncomputable def B9z:=c0 Tryz.f249
noncomputable def Aru:FS yeE:=f1 [(.int .i64)] (.nm 13) λ x=>Ai1 x.1
abbrev Cba (C:Ctx) (F:FT) (y:A4):Prop:=En Bxn C F Tryz.f249 Aru (y,())
def B7c (a0:Int):ST:=⟨5,[oi 0 a0],[]⟩
theorem B9l (G:Bs Bxn P) {y a0} (E:Cba C F y) (h:Ai1 a0=some y):Bv Bxn P C F B9z (B7c a0):=by
 unfold Ai1 at h
 have e:=sj h;subst e
 exact se G E [r0,r0,au] tt
theorem Ad3:MT 249 Aru:=show E1 Bxn _ _ _ from mt (fn:=Tryz.f249) (S:=λ x=>B7c x.1) (GB trivial trivial) λ G _ _ _ _=>B9l G
noncomputable abbrev A8r:Env:=EV [(249,Aru)] [] false
noncomputable def B2t:=c0 Tryz.f226
noncomputable def Ard:FS yeE:=f1 [(.int .i64)] (.nm 14) λ x=>Aaj x.1
abbrev B5q (C:Ctx) (F:FT) (y:B7):Prop:=En A8r C F Tryz.f226 Ard (y,())
def Bw6 (a0:Int):ST:=⟨7,[oi 0 a0],[]⟩
theorem B0r (G:Bs A8r P) {y a0} (E:B5q C F y) (h:Aaj a0=some y):Bv A8r P C F B2t (Bw6 a0):=by
 unfold Aaj at h
 obtain⟨y1,c1,h⟩:=bind_some h
 obtain⟨y2,c2,h⟩:=bind_some h
 have e:=sj h;subst e
 exact se G E [r0,.reg [(1,rs (.nm 13) y1),(2,rs (.nm 13) y2)],au] (e2 (ca c1) (ca c2))
theorem Aps:MT 226 Ard:=show E1 A8r _ _ _ from mt (fn:=Tryz.f226) (S:=λ x=>Bw6 x.1) (GB ⟨Ad3,trivial⟩ trivial) λ G _ _ _ _=>B0r G
noncomputable def Lw:FS yeE:=f1 [.str,(.int .u8)] (.int .i64) λ x=>Xn x.1 x.2.1
theorem B8c:GO (EV [(175,Vj)] [] false):=GB ⟨Agp,trivial⟩ trivial
section
variable (k:Kt B8c C F 8 [])
end
theorem Ao4:MT 201 Lw:=mz B8c 201 Tryz.f201 Lw [] (λ k=>(fz k Tryz.f201 Lw (λ y=>y.1) λ _ h=>h)) (.g (.g (.e [[]]))) λ k _=>an
noncomputable def Hy:FS yeE:=f1 [.str,.str] .bool λ x=>P2 x.1 x.2.1
theorem B8d:GO (EV [] [] false):=GB trivial trivial
section
variable (k:Kt B8d C F 18 [])
end
theorem Agt:MT 293 Hy:=mz B8d 293 Tryz.f293 Hy [] (λ k=>(fz k Tryz.f293 Hy (λ y=>y.1) λ _ h=>h)) (.g (.g (.e [[]]))) λ k _=>an
noncomputable def Hw:FS yeE:=f2 [.str,.str] .str .bool λ x=>Oq x.1 x.2.1
theorem B71:GO (EV [(293,Hy)] [] false):=GB ⟨Agt,trivial⟩ trivial
section
variable (k:Kt B71 C F 15 [])
end
theorem Agq:MT 273 Hw:=mz B71 273 Tryz.f273 Hw [] (λ k=>(fz k Tryz.f273 Hw (λ y=>(y.1,y.2.1)) λ _ h=>h)) (.g (.g (.b (.g (.e [[]])) (.g (.e [[]]))))) λ k _=>an
noncomputable def Mm:FS yeE:=f2 [.str,.str] .str .bool λ x=>Qp x.1 x.2.1
theorem B8q:GO (EV [(273,Hw)] [] false):=GB ⟨Agq,trivial⟩ trivial
section
variable (k:Kt B8q C F 11 [])
end
theorem Aow:MT 250 Mm:=mz B8q 250 Tryz.f250 Mm [] (λ k=>(fz k Tryz.f250 Mm (λ y=>(y.1,y.2.1)) λ _ h=>h)) (.g (.g (.e [[]]))) λ k _=>an
noncomputable def Ju:FS yeE:=f1 [.str] .bool λ x=>Pm x.1
theorem B7g:GO (EV [] [] false):=GB trivial trivial
section
variable (k:Kt B7g C F 20 [])
noncomputable def Bg7:=c0 Tryz.f254
noncomputable def Sy:=ct [0,0,1,4] Bg7
noncomputable def Bh6:=ct [0,3,0,0,3,4] Sy
noncomputable def At4:=ct [0,2,4] Sy
abbrev B0u (y:Bool):Prop:=Ez k Tryz.f254 Ju (y,())
abbrev Arf (a0:(List UInt8)):=Lz k Sy (Gu a0) (Sum.elim (Gz k At4 Ps) (B0u k))
theorem A7a (a0:(List UInt8)):Ok k (Arf k a0) ⟨Bh6,Apb,Ze a0⟩:=pz k (fz k Tryz.f254 Ju (λ y=> .inr (.inr y.1)) λ y h=>h.2 (.inr y.1) rfl) (.g (.e [[]])) λ _=>an
theorem A7x:Ok k (B0u k) ⟨At4,Ps,Zf⟩:=pz k (fz k Tryz.f254 Ju (λ y=>y.1) λ _ h=>h) (.g (.e [[]])) λ _=>an
theorem A57 (a0:(List UInt8)):Ok k (Arf k a0) ⟨Sy,Gu a0,Y3 a0⟩:=pz k Au (.g (.b (.g (.g (.b (.c 0 [[]]) (.g (.l (.c 1 [[]])))))) (.c 2 [[]]))) λ _=>ac (A7a k a0)<|ac bk<|ac (xt Sum.inl λ _ h=>h)<|an
theorem A6y (a0:(List UInt8)):Ok k (B0u k) ⟨Sy,Gu a0,λ v=>Option.bind (iter (Y3 a0) v) (Sum.elim Zf (λ y=>some y))⟩:=lz k (A57 k a0) (xs (A7x k) xr)
end
theorem Akv:MT 254 Ju:=mz B7g 254 Tryz.f254 Ju [] (λ k=>Au) (.g (.g (.l (.c 0 [[]])))) λ k x=>ac (A6y k x.1)<|an
noncomputable def K7:FS yeE:=f1 [.str] .bool λ x=>H0 x.1
theorem B7n:GO (EV [(254,Ju)] [] false):=GB ⟨Akv,trivial⟩ trivial
section
variable (k:Kt B7n C F 22 [])
noncomputable def Apc:=c0 Tryz.f251
noncomputable def Bbv:=ct [0,0,3,4] Apc
noncomputable def Bd8:=ct [0,0,2,4] Apc
abbrev B79 (y:Bool):Prop:=Ez k Tryz.f251 K7 (y,())
theorem A1t:Ok k (B79 k) ⟨Bbv,Anv,Ph⟩:=pz k (fz k Tryz.f251 K7 (λ y=>y.1) λ _ h=>h) (.g (.e [[]])) λ _=>an
theorem A3q (a0:(List UInt8)):Ok k (B79 k) ⟨Bd8,S6 a0,V1 a0⟩:=pz k (fz k Tryz.f251 K7 (λ y=>y.1) λ _ h=>h) (.g (.e [[]])) λ _=>an
end
theorem Ay2:MT 251 K7:=mz B7n 251 Tryz.f251 K7 [] (λ k=>Au) (.g (.g (.b (.c 0 [[]]) (.c 1 [[]])))) λ k x=>ac (A1t k)<|ac (A3q k x.1)<|an
noncomputable abbrev Nn:Env:=EV [] [] false
noncomputable def Av7:=c0 Tryz.f274
noncomputable def T0:FS yeE:=f1 [(.nm 13)] (.int .i64) λ x=>R6 x.1
noncomputable def Buz:=ct [0,0,3,4] Av7
noncomputable def Bez:=ct [0,0,2,4] Av7
noncomputable def Bvq:=ct [0,2,4] Bez
abbrev Asa (C:Ctx) (F:FT) (y:Int):Prop:=En Nn C F Tryz.f274 T0 (y,())
def Bog:ST:=⟨30,[],[]⟩
def Brp:ST:=⟨30,[],[]⟩
def Bsw (a0:A4):ST:=⟨30,[op 1],[bc 1 (Bw a0)]⟩
def Bkm (a0:A4):ST:=⟨30,[og 0 (Bw a0)],[]⟩
theorem Ami (G:Bs Nn P) {y} (E:Asa C F y) (h:Ya=some y):Bv Nn P C F Buz (Bog):=by
 unfold Ya at h
 have e:=sj h;subst e
 exact se G E [r0,au] tt
theorem Axn (G:Bs Nn P) {y} (E:Asa C F y) (h:Af0=some y):Bv Nn P C F Bvq (Brp):=by
 unfold Af0 at h
 have e:=sj h;subst e
 exact se G E [r0,au] tt
theorem Adl (G:Bs Nn P) {y a0} (E:Asa C F y) (h:Uc a0=some y):Bv Nn P C F Bez (Bsw a0):=by
 unfold Uc at h
 rcases Aj h with⟨b7,h⟩|⟨b7,h⟩
 ·rcases Aj h with⟨b8,h⟩|⟨b8,h⟩
  ·have e:=sj h;subst e
   exact se G E [ru [3,7],bt,r0,au] (ar 4 b7<|e1 b8)
  ·exact sg G [ru [3,7],bf,au] (ar 4 b7<|e1 b8) (Axn G E h)
 ·exact sg G [rf [3,7],bf,au] (ar 4 b7<|e1 rF) (Axn G E h)
theorem Bu5 (G:Bs Nn P) {y a0} (E:Asa C F y) (h:R6 a0=some y):Bv Nn P C F Av7 (Bkm a0):=by
 unfold R6 at h
 rcases Aj h with⟨b1,h⟩|⟨b1,h⟩
 ·rcases Aj h with⟨b2,h⟩|⟨b2,h⟩
  ·exact sg G [r0,ru [3,6,7,16],bt,au] (ar 3 b1<|ar 6 b2<|e1 rT) (Ami G E h)
  ·rcases Aj h with⟨b3,h⟩|⟨b3,h⟩
   ·rcases Aj h with⟨b4,h⟩|⟨b4,h⟩
    ·exact sg G [r0,rb [7,16] [3,6,11,15],bt,au] (ar 3 b1<|ar 4 b2<|ar 3 b3<|e4 b2 b3 b2 b4) (Ami G E h)
    ·exact sg G [r0,rb [7,16] [3,6,11,15],bf,au] (ar 3 b1<|ar 4 b2<|ar 3 b3<|e4 b2 b3 b2 b4) (Adl G E h)
   ·exact sg G [r0,rb [7,11,15,16] [3,6],bf,au] (ar 3 b1<|ar 4 b2<|ar 3 b3<|e4 b2 b3 b2 rF) (Adl G E h)
 ·rcases Aj h with⟨b5,h⟩|⟨b5,h⟩
  ·rcases Aj h with⟨b6,h⟩|⟨b6,h⟩
   ·exact sg G [r0,rb [3,6,7,16] [11,15],bt,au] (ar 3 b1<|ar 4 rF<|ar 3 b5<|e4 rF b5 rF b6) (Ami G E h)
   ·exact sg G [r0,rb [3,6,7,16] [11,15],bf,au] (ar 3 b1<|ar 4 rF<|ar 3 b5<|e4 rF b5 rF b6) (Adl G E h)
  ·exact sg G [r0,rf [3,6,7,11,15,16],bf,au] (ar 3 b1<|ar 4 rF<|ar 3 b5<|e4 rF b5 rF rF) (Adl G E h)
theorem R9:MT 274 T0:=show E1 Nn _ _ _ from mt (fn:=Tryz.f274) (S:=λ x=>Bkm x.1) (GB trivial trivial) λ G _ _ _ _=>Bu5 G
noncomputable abbrev X6:Env:=EV [] [] false
noncomputable def A5n:=c0 Tryz.f288
noncomputable def Un:FS yeE:=f2 [(.nm 13)] (.sl (.int .u32)) .bool λ x=>Ic x.1
noncomputable def Brb:=ct [0,0,2,0,0,3,0,4] A5n
abbrev Bci (C:Ctx) (F:FT) (y:((List Int)×Bool)):Prop:=En X6 C F Tryz.f288 Un (y.1,y.2,())
def Bnh (a0:A4) (v1:Int):ST:=⟨42,[op 1,ol 4 (.int .u64 v1)],[bc 1 (Bw a0)]⟩
def Bb4 (a0:A4):ST:=⟨42,[og 0 (Bw a0)],[]⟩
theorem Aue (G:Bs X6 P) {y a0 v1} (E:Bci C F y) (h:Um a0 v1=some y):Bv X6 P C F Brb (Bnh a0 v1):=by
 unfold Um at h
 rcases Aj h with⟨b3,h⟩|⟨b3,h⟩
 ·have e:=sj h;subst e
  exact se G E [r0,bt,r0,au] (e1 b3)
 ·obtain⟨c1,h⟩:=A8 h
  rcases Aj h with⟨b4,h⟩|⟨b4,h⟩
  ·have e:=sj h;subst e
   exact se G E [r0,bf,r0,bt,r0,au] (e3 b3 c1 b4)
  ·obtain⟨c2,h⟩:=A8 h
   have e:=sj h;subst e
   exact se G E [r0,bf,r0,bf,r0,au] (e4 b3 c1 b4 c2)
theorem Bst (G:Bs X6 P) {y a0} (E:Bci C F y) (h:Ic a0=some y):Bv X6 P C F A5n (Bb4 a0):=by
 unfold Ic at h
 rcases Aj h with⟨b1,h⟩|⟨b1,h⟩
 ·have e:=sj h;subst e
  exact se G E [r0,r0,bt,r0,au] (e1 b1)
 ·rcases Aj h with⟨b2,h⟩|⟨b2,h⟩
  ·exact sg G [r0,r0,bf,r0,r0,bt,r0,au] (e2 b1 b2) (Aue G E h)
  ·exact sg G [r0,r0,bf,r0,r0,bf,au] (e2 b1 b2) (Aue G E h)
theorem Wy:MT 288 Un:=show E1 X6 _ _ _ from mt (fn:=Tryz.f288) (S:=λ x=>Bb4 x.1) (GB trivial trivial) λ G _ _ _ _=>Bst G
end
end Go.Ab
