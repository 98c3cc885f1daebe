/- The functions compute what the plain functions tell. Conditions: none beyond those that each theorem names. -/
import Derived.Test.YtgngflkahbpecaaGreatDoorP27
namespace Go.Ab
open Go Go.Proofs
set_option linter.unusedVariables false
section
variable {P:Program} {C:Ctx} {F:FT}
abbrev Be3:List (Tk yeE):=[.S 0 false,.v (.sl (.nm 9)),.S 1 false,.v (.sl (.nm 4)),.S 2 false,.v (.sl (.nm 2)),.S 3 false,.v (.int .i64)]
abbrev A7k:List (Tk yeE):=[.S 0 false,.v .bool]
noncomputable def Fe (R:A0):FX yeE:=⟨Be3,A7k,Bool,λ x=>Vx R x.1 x.2.1 x.2.2.1 x.2.2.2.1,λ r=>(r,())⟩
noncomputable abbrev Ccd (R:A0):Env:=EX [(93,Jk)] [(40,[],(Cy R)),(68,[94],C4),(95,[],(Tp R))] []
theorem Ccy {R:A0} (hR:MX 40 (Cy R)):GO (Ccd R):=GF ⟨M5,trivial⟩ ⟨hR,Aan,(Avi hR),trivial⟩ trivial
section
variable {R:A0} {G:GO (Ccd R)} (k:Kt G C F 90 [])
noncomputable def Bbc:=c0 Tryz.f65
noncomputable def Ik:=ct [0,0,1,4] Bbc
noncomputable def A92:=ct [0,3,0,0,0,0,2,0,0,0,0,3,0,3,4] Ik
noncomputable def Bd9:=ct [0,3,0,0,0,0,2,0,0,0,0,2,0,3,0,3,4] Ik
noncomputable def Bfk:=ct [0,3,0,0,0,0,2,0,0,0,0,3,0,2,4] Ik
noncomputable def Ao7:=ct [0,2,4] Ik
abbrev Cag (y:Bool):Prop:=Ex k Tryz.f65 (Fe R) (y,())
abbrev Tm (a0:(List Aa)) (a1:(List Ax)) (a2:(List Ak)) (a3:Int):=Lz k Ik (Dd a0 a1 a2 a3) (Sum.elim (Gz k Ao7 Ha) (Cag k))
theorem A0z (a0:(List Aa)) (a1:(List Ax)) (a2:(List Ak)) (a3:Int):Ok k (Tm k a0 a1 a2 a3) ⟨A92,An3,Ox R a0 a1 a2 a3⟩:=pz k (fx k Tryz.f65 (Fe R) (λ y=> .inr (.inr y.1)) λ y h=>h.2 (.inr y.1) rfl) (.g (.e [[]])) λ _=>an
theorem A11 (a0:(List Aa)) (a1:(List Ax)) (a2:(List Ak)) (a3:Int) (v1:Int):Ok k (Tm k a0 a1 a2 a3) ⟨Bfk,Dg a0 a1 a2 a3 v1,Dq R a0 a1 a2 a3 v1⟩:=pz k Au (.g (.l (.c 0 [[]]))) λ _=>ac bk<|an
theorem A3u (a0:(List Aa)) (a1:(List Ax)) (a2:(List Ak)) (a3:Int):Ok k (Tm k a0 a1 a2 a3) ⟨Bd9,Aoa,V5 R a0 a1 a2 a3⟩:=pz k (fx k Tryz.f65 (Fe R) (λ y=> .inr (.inr y.1)) λ y h=>h.2 (.inr y.1) rfl) (.g (.e [[]])) λ _=>an
theorem A31:Ok k (Cag k) ⟨Ao7,Ha,Vb R⟩:=pz k (fx k Tryz.f65 (Fe R) (λ y=>y.1) λ _ h=>h) (.g (.e [[]])) λ _=>an
theorem A20 (a0:(List Aa)) (a1:(List Ax)) (a2:(List Ak)) (a3:Int):Ok k (Tm k a0 a1 a2 a3) ⟨Ik,Dd a0 a1 a2 a3,Wz R a0 a1 a2 a3⟩:=pz k (fx k Tryz.f65 (Fe R) (λ y=> .inr (.inr y.1)) λ y h=>h.2 (.inr y.1) rfl) (.g (.b (.g (.g (.g (.g (.b (.g (.b (.g (.e [[]])) (.g (.l (.c 0 [[]]))))) (.g (.g (.g (.g (.b (.g (.b (.c 1 [[]]) (.c 2 [[]]))) (.g (.b (.g (.b (.c 3 [[]]) (.c 2 [[]]))) (.c 2 [[]]))))))))))))) (.c 4 [[]]))) λ v=>ac bk<|ac (A0z k a0 a1 a2 a3)<|ac (A11 k a0 a1 a2 a3 v.1)<|ac (A3u k a0 a1 a2 a3)<|ac (xt Sum.inl λ _ h=>h)<|an
theorem A0s (a0:(List Aa)) (a1:(List Ax)) (a2:(List Ak)) (a3:Int):Ok k (Cag k) ⟨Ik,Dd a0 a1 a2 a3,λ v=>Option.bind (iter (Wz R a0 a1 a2 a3) v) (Sum.elim (Vb R) (λ y=>some y))⟩:=lz k (A20 k a0 a1 a2 a3) (xs (A31 k) xr)
end
theorem Ahf {R:A0} (hR:MX 40 (Cy R)):MX 65 (Fe R):=mw (Ccy hR) 65 Tryz.f65 (Fe R) [] (λ k=>Au) (.g (.g (.l (.c 0 [[]])))) λ k x=>ac (A0s k x.1 x.2.1 x.2.2.1 x.2.2.2.1)<|an
abbrev Bny:List (Tk yeE):=[.S 0 false,.v (.sl (.nm 9)),.S 1 false,.v (.int .i64)]
abbrev Bgd:List (Tk yeE):=[.S 0 true,.s 9,.S 1 false,.v (.int .i64)]
noncomputable def Ls (R:A0):FX yeE:=⟨Bny,Bgd,(Aa×Int),λ x=>Af2 R x.1 x.2.1,λ r=>(r.1,r.2,())⟩
noncomputable abbrev Cbt (R:A0):Env:=EX [(63,Hf),(64,Iq)] [(40,[],(Cy R)),(65,[],(Fe R))] []
theorem Cc5 {R:A0} (hR:MX 40 (Cy R)):GO (Cbt R):=GF ⟨Ai0,Aid,trivial⟩ ⟨hR,(Ahf hR),trivial⟩ trivial
section
variable {R:A0} {G:GO (Cbt R)} (k:Kt G C F 48 [])
noncomputable def Blp:=c0 Tryz.f67
noncomputable def Acj:=ct [0,0,0,2,0,0,2,0,1,4] Blp
noncomputable def Axr:=ct [0,2,4] Acj
abbrev B9e (y:(Aa×Int)):Prop:=Ex k Tryz.f67 (Ls R) (y.1,y.2,())
abbrev Bgc (a0:(List Aa)):=Lz k Acj (J5 a0) (Sum.elim (Gz k Axr Yx) (B9e k))
theorem Bbr:Ok k (B9e k) ⟨Axr,Yx,Ab3 R⟩:=pz k (fx k Tryz.f67 (Ls R) (λ y=>(y.1,y.2.1)) λ _ h=>h) (.g (.e [[]])) λ _=>an
theorem Bem (a0:(List Aa)):Ok k (Bgc k a0) ⟨Acj,J5 a0,Ady R a0⟩:=pz k (fx k Tryz.f67 (Ls R) (λ y=> .inr (.inr (y.1,y.2.1))) λ y h=>h.2 (.inr (y.1,y.2.1)) rfl) (.g (.b (.g (.g (.b (.g (.e [[.st (.cell 4)]])) (.g (.l (.c 0 [[]])))))) (.c 1 [[]]))) λ _=>ac bk<|ac (xt Sum.inl λ _ h=>h)<|an
theorem Bfn (a0:(List Aa)):Ok k (B9e k) ⟨Acj,J5 a0,λ v=>Option.bind (iter (Ady R a0) v) (Sum.elim (Ab3 R) (λ y=>some y))⟩:=lz k (Bem k a0) (xs (Bbr k) xr)
end
theorem A56 {R:A0} (hR:MX 40 (Cy R)):MX 67 (Ls R):=mw (Cc5 hR) 67 Tryz.f67 (Ls R) [] (λ k=>(fx k Tryz.f67 (Ls R) (λ y=>(y.1,y.2.1)) λ _ h=>h)) (.g (.g (.g (.b (.g (.e [[.st (.cell 4)]])) (.g (.g (.b (.g (.e [[.st (.cell 4)]])) (.g (.l (.c 0 [[.st (.cell 4)]])))))))))) λ k x=>ac (Bfn k x.1)<|an
abbrev Bib:List (Tk yeE):=[.S 0 true,.s 4,.S 1 false,.k (.ptr 1000001 0),.C 1000001,.s 4]
abbrev A94:List (Tk yeE):=[.S 0 false,.v .bool,.C 1000001,.s 4]
noncomputable def Zj:FX yeE:=⟨Bib,A94,(Bool×Ax),λ x=>Aqi x.1 x.2.1,λ r=>(r.1,r.2,())⟩
theorem Ccu:GO (EX [] [] []):=GF trivial trivial trivial
section
variable (k:Kt Ccu C F 9 [])
end
theorem A2x:MX 69 Zj:=mw Ccu 69 Tryz.f69 Zj [] (λ k=>(fx k Tryz.f69 Zj (λ y=>(y.1,y.2.1)) λ _ h=>h)) (.g (.g (.e [[]]))) λ k _=>an
abbrev Agy:List (Tk yeE):=[.S 0 false,.v (.sl (.nm 4)),.S 1 false,.k (.clo 69 [.ptr 1000001 0]),.C 1000001,.s 4]
abbrev Ae9:List (Tk yeE):=[.S 0 false,.v (.int .i64),.C 1000001,.s 4]
noncomputable def C5:FX yeE:=⟨Agy,Ae9,(Int×Ax),λ x=>G4 x.1 x.2.1,λ r=>(r.1,r.2,())⟩
theorem Bwz:GO (EX [] [(69,[],Zj)] []):=GF trivial ⟨A2x,trivial⟩ trivial
section
variable (k:Kt Bwz C F 19 [])
noncomputable def Ago:=c0 Tryz.f68
noncomputable def Fv:=ct [0,0,1,4] Ago
noncomputable def Ra:=ct [0,2,4] Fv
abbrev Bma (y:(Int×Ax)):Prop:=Ex k Tryz.f68 C5 (y.1,y.2,())
abbrev Afd (a0:(List Ax)):=Lz k Fv (Ce a0) (Sum.elim (Gz k Ra E5) (Bma k))
theorem Abp:Ok k (Bma k) ⟨Ra,E5,Fu⟩:=pz k (fx k Tryz.f68 C5 (λ y=>(y.1,y.2.1)) λ _ h=>h) (.g (.e [[]])) λ _=>an
theorem Adk (a0:(List Ax)):Ok k (Afd k a0) ⟨Fv,Ce a0,Fx a0⟩:=pz k (fx k Tryz.f68 C5 (λ y=> .inr (.inr (y.1,y.2.1))) λ y h=>h.2 (.inr (y.1,y.2.1)) rfl) (.g (.b (.g (.g (.b (.g (.e [[]])) (.g (.l (.c 0 [[]])))))) (.c 1 [[]]))) λ _=>ac bk<|ac (xt Sum.inl λ _ h=>h)<|an
theorem Ac4 (a0:(List Ax)):Ok k (Bma k) ⟨Fv,Ce a0,λ v=>Option.bind (iter (Fx a0) v) (Sum.elim Fu (λ y=>some y))⟩:=lz k (Adk k a0) (xs (Abp k) xr)
end
theorem Aaw:MX 68 C5:=mw Bwz 68 Tryz.f68 C5 [] (λ k=>Au) (.g (.g (.l (.c 0 [[]])))) λ k x=>ac (Ac4 k x.1)<|an
noncomputable def Brf (R:A0):FX yeE:=⟨Ajn,Ap3,(Bool×Int×(List (D7×Bool))),λ x=>Alq R x.1 x.2.1 x.2.2.1 x.2.2.2.1,λ r=>(r.1,r.2.1,r.2.2,())⟩
noncomputable abbrev Cca (R:A0):Env:=EX [(41,Hq)] [(40,[],(Cy R)),(67,[],(Ls R)),(68,[69],C5)] []
theorem Cc1 {R:A0} (hR:MX 40 (Cy R)):GO (Cca R):=GF ⟨I3,trivial⟩ ⟨hR,(A56 hR),Aaw,trivial⟩ trivial
section
variable {R:A0} {G:GO (Cca R)} (k:Kt G C F 117 [])
noncomputable def Bdf:=c0 Tryz.f40
noncomputable def K0:=ct [0,0,2,0,0,0,2,0,0,2,0,1,4] Bdf
noncomputable def Bb2:=ct [0,3,0,0,0,2,0,0,3,4] K0
noncomputable def Bee:=ct [0,3,0,0,0,2,0,0,2,0,2,0,0,3,4] K0
noncomputable def Apu:=ct [0,2,4] K0
abbrev B97 (y:(Bool×Int×(List (D7×Bool)))):Prop:=Ex k Tryz.f40 (Brf R) (y.1,y.2.1,y.2.2,())
abbrev Aa2 (a0:(List Aa)):=Lz k K0 (Dw a0) (Sum.elim (Gz k Apu I7) (B97 k))
theorem A2k (a0:(List Aa)):Ok k (Aa2 k a0) ⟨Bb2,Aol,Ku R a0⟩:=pz k (fx k Tryz.f40 (Brf R) (λ y=> .inr (.inr (y.1,y.2.1,y.2.2.1))) λ y h=>h.2 (.inr (y.1,y.2.1,y.2.2.1)) rfl) (.g (.e [[]])) λ _=>an
theorem A2v (a0:(List Aa)):Ok k (Aa2 k a0) ⟨Bee,Ani,Wp R a0⟩:=pz k (fx k Tryz.f40 (Brf R) (λ y=> .inr (.inr (y.1,y.2.1,y.2.2.1))) λ y h=>h.2 (.inr (y.1,y.2.1,y.2.2.1)) rfl) (.g (.e [[]])) λ _=>an
theorem A0l:Ok k (B97 k) ⟨Apu,I7,U5 R⟩:=pz k (fx k Tryz.f40 (Brf R) (λ y=>(y.1,y.2.1,y.2.2.1)) λ _ h=>h) (.g (.e [[]])) λ _=>an
theorem A24 (a0:(List Aa)):Ok k (Aa2 k a0) ⟨K0,Dw a0,Vm R a0⟩:=pz k (fx k Tryz.f40 (Brf R) (λ y=> .inr (.inr (y.1,y.2.1,y.2.2.1))) λ y h=>h.2 (.inr (y.1,y.2.1,y.2.2.1)) rfl) (.g (.b (.g (.g (.g (.b (.g (.e [[]])) (.g (.g (.b (.c 0 [[]]) (.g (.b (.g (.l (.c 1 [[]]))) (.g (.g (.b (.c 2 [[]]) (.g (.l (.c 1 [[]]))))))))))))))) (.c 3 [[]]))) λ _=>ac (A2k k a0)<|ac bk<|ac (A2v k a0)<|ac (xt Sum.inl λ _ h=>h)<|an
theorem A3d (a0:(List Aa)):Ok k (B97 k) ⟨K0,Dw a0,λ v=>Option.bind (iter (Vm R a0) v) (Sum.elim (U5 R) (λ y=>some y))⟩:=lz k (A24 k a0) (xs (A0l k) xr)
end
theorem Azs {R:A0} (hR:MX 40 (Cy R)):MX 40 (Brf R):=mw (Cc1 hR) 40 Tryz.f40 (Brf R) [] (λ k=>(fx k Tryz.f40 (Brf R) (λ y=>(y.1,y.2.1,y.2.2.1)) λ _ h=>h)) (.g (.g (.b (.g (.e [[]])) (.g (.g (.g (.b (.g (.e [[]])) (.g (.g (.b (.g (.e [[]])) (.g (.l (.c 0 [[]]))))))))))))) λ k x=>ac (A3d k x.1)<|an
theorem Arq:∀k,MX 40 (Cy (N7 k))
 |0=>m0x (fn:=Tryz.f40) λ _=>rfl
 |k+1=>Azs (Arq k)
noncomputable def Aix:FX yeE:=Cy Pw
theorem Yb:MX 40 Aix:=A3t (T:=yeT) (ins:=Ajn) (λ R x=>R x.1 x.2.1 x.2.2.1 x.2.2.2.1) N7 Pw (λ x=>(λ (a0:(List Aa))=>List.length a0*List.length a0+2) x.1) Arq λ _=>rfl
noncomputable def Ja:FS yeE:=f2 [(.sl (.nm 9)),.str,(.sl (.nm 2))] (.nm 9) (.int .i64) λ x=>Asy x.1 x.2.1 x.2.2.1
theorem Cby:GO (EX [(41,Hq),(63,Hf),(64,Iq)] [(40,[],Aix),(65,[],(Fe Pw))] []):=GF ⟨I3,Ai0,Aid,trivial⟩ ⟨Yb,(Ahf Yb),trivial⟩ trivial
section
variable (k:Kt Cby C F 111 [48,51])
noncomputable def Brj:=c0 Tryz.f33
noncomputable def Zv:=ct [0,0,0,0,2,0,0,2,0,0,1,4] Brj
noncomputable def Ag7:=ct [0,3,0,0,1,4] Zv
noncomputable def A5f:=ct [0,2,4] Ag7
noncomputable def Ah3:=ct [0,2,4] Zv
noncomputable def Bqo:=ct [0,3,4] Ah3
noncomputable def Ag5:=ct [0,2,0,1,4] Ah3
noncomputable def A46:=ct [0,2,4] Ag5
abbrev Br4 (y:(Aa×Int)):Prop:=Ez k Tryz.f33 Ja (y.1,y.2,())
abbrev Bk7 (a0:(List Aa)) (v1:Int) (v2:Int) (v3:Aa) (v4:Aa) (v5:(List Cb)) (v6:(List Int)):=Lz k Ag7 (Mr a0 v1 v2 v3 v4 v5 v6) (Sum.elim (Gz k A5f (Wd a0 v1 v2 v3 v4)) (Br4 k))
abbrev Bk1 (v12:Aa) (v13:Aa):=Lz k Ag5 (Me v12 v13) (Sum.elim (Gz k A46 (Vc v12 v13)) (Br4 k))
abbrev Anb (a0:(List Aa)):=Lz k Zv (Jh a0) (Sum.elim (Gz k Ah3 Ws) (Br4 k))
theorem Bf2 (a0:(List Aa)) (v1:Int) (v2:Int) (v3:Aa) (v4:Aa):Ok k (Anb k a0) ⟨A5f,Wd a0 v1 v2 v3 v4,Ag6 a0 v1 v2 v3 v4⟩:=pz k Au (.g (.l (.c 0 [[]]))) λ _=>ac bk<|an
theorem Bgg (a0:(List Aa)) (v1:Int) (v2:Int) (v3:Aa) (v4:Aa) (v5:(List Cb)) (v6:(List Int)):Ok k (Bk7 k a0 v1 v2 v3 v4 v5 v6) ⟨Ag7,Mr a0 v1 v2 v3 v4 v5 v6,Ahn a0 v1 v2 v3 v4 v5 v6⟩:=pz k (fz k Tryz.f33 Ja (λ y=> .inr (.inr (y.1,y.2.1))) λ y h=>h.2 (.inr (y.1,y.2.1)) rfl) (.g (.b (.g (.g (.b (.g (.e [[]])) (.g (.l (.c 0 [[]])))))) (.c 1 [[]]))) λ _=>ac bk<|ac (xt Sum.inl λ _ h=>h)<|an
theorem Bhg (a0:(List Aa)) (v1:Int) (v2:Int) (v3:Aa) (v4:Aa) (v5:(List Cb)) (v6:(List Int)):Ok k (Anb k a0) ⟨Ag7,Mr a0 v1 v2 v3 v4 v5 v6,λ v=>Option.bind (iter (Ahn a0 v1 v2 v3 v4 v5 v6) v) (Sum.elim (Ag6 a0 v1 v2 v3 v4) (λ y=>some (.inr (.inr y))))⟩:=lz k (Bgg k a0 v1 v2 v3 v4 v5 v6) (xs (Bf2 k a0 v1 v2 v3 v4) (xl (f:=λ y=>Sum.inr y)))
theorem Bgh (v12:Aa):Ok k (Br4 k) ⟨Bqo,Qr v12,Uj v12⟩:=pz k (fz k Tryz.f33 Ja (λ y=>(y.1,y.2.1)) λ _ h=>h) (.g (.e [[]])) λ _=>an
theorem Bgw (v12:Aa) (v13:Aa):Ok k (Br4 k) ⟨A46,Vc v12 v13,Ag9 v12 v13⟩:=pz k (fz k Tryz.f33 Ja (λ y=>(y.1,y.2.1)) λ _ h=>h) (.g (.e [[]])) λ _=>an
theorem Bhu (v12:Aa) (v13:Aa):Ok k (Bk1 k v12 v13) ⟨Ag5,Me v12 v13,Ahb v12 v13⟩:=pz k (fz k Tryz.f33 Ja (λ y=> .inr (.inr (y.1,y.2.1))) λ y h=>h.2 (.inr (y.1,y.2.1)) rfl) (.g (.b (.g (.g (.b (.g (.e [[]])) (.g (.l (.c 0 [[]])))))) (.c 1 [[]]))) λ _=>ac bk<|ac (xt Sum.inl λ _ h=>h)<|an
theorem Bf3 (v12:Aa) (v13:Aa):Ok k (Br4 k) ⟨Ag5,Me v12 v13,λ v=>Option.bind (iter (Ahb v12 v13) v) (Sum.elim (Ag9 v12 v13) (λ y=>some y))⟩:=lz k (Bhu k v12 v13) (xs (Bgw k v12 v13) xr)
theorem Bie:Ok k (Br4 k) ⟨Ah3,Ws,Ahw⟩:=pz k Au (.g (.b (.c 0 [[]]) (.g (.l (.c 1 [[]]))))) λ v=>ac (Bgh k v.1)<|ac (Bf3 k v.1 v.2.1)<|an
theorem Bg2 (a0:(List Aa)):Ok k (Anb k a0) ⟨Zv,Jh a0,Ahs a0⟩:=pz k Au (.g (.b (.g (.g (.l (.c 0 [[]])))) (.c 1 [[]]))) λ v=>ac (Bhg k a0 v.1 v.2.1 v.2.2.1 v.2.2.2.1 v.2.2.2.2.1 v.2.2.2.2.2.1)<|ac (xt Sum.inl λ _ h=>h)<|an
theorem Bgu (a0:(List Aa)):Ok k (Br4 k) ⟨Zv,Jh a0,λ v=>Option.bind (iter (Ahs a0) v) (Sum.elim Ahw (λ y=>some y))⟩:=lz k (Bg2 k a0) (xs (Bie k) xr)
end
theorem Bbq:MT 33 Ja:=mz Cby 33 Tryz.f33 Ja [48,51] (λ k=>(fz k Tryz.f33 Ja (λ y=>(y.1,y.2.1)) λ _ h=>h)) (.g (.g (.g (.g (.b (.g (.e [[]])) (.g (.g (.b (.g (.e [[]])) (.g (.g (.l (.c 0 [[.re 48 48 0,.st (.cell 6)]])))))))))))) λ k x=>ac (Bgu k x.1)<|an
noncomputable def Abo:FS yeE:=f2 [(.sl (.nm 9)),.str] (.nm 9) (.int .i64) λ x=>Aey x.1 x.2.1
theorem Cck:GO (EV [(32,Jm),(33,Ja)] [] false):=GB ⟨An9,Bbq,trivial⟩ trivial
section
variable (k:Kt Cck C F 20 [])
end
theorem A71:MT 10 Abo:=mz Cck 10 Tryz.f10 Abo [] (λ k=>(fz k Tryz.f10 Abo (λ y=>(y.1,y.2.1)) λ _ h=>h)) (.g (.g (.g (.b (.g (.e [[]])) (.g (.e [[]])))))) λ k _=>an
noncomputable def Z5:FS yeE:=f1 [] .bool λ _=>Gf
theorem Akt:MT 13 Z5:=Bhe
noncomputable def Ah0:FS yeE:=f2 [(.sl (.nm 9)),.str,.str] .bool (.int .i64) λ x=>A26 x.1 x.2.1 x.2.2.1
theorem Cbd:GO (EX [(32,Jm),(41,Hq)] [(40,[],Aix)] []):=GF ⟨An9,I3,trivial⟩ ⟨Yb,trivial⟩ trivial
section
variable (k:Kt Cbd C F 28 [])
end
theorem Bbp:MT 14 Ah0:=mz Cbd 14 Tryz.f14 Ah0 [] (λ k=>(fz k Tryz.f14 Ah0 (λ y=>(y.1,y.2.1)) λ _ h=>h)) (.g (.g (.g (.b (.g (.e [[]])) (.g (.e [[]])))))) λ k _=>an
noncomputable def Ff:FS yeE:=f1 [(.sl (.nm 9)),.str] (.int .i64) λ x=>On x.1 x.2.1
theorem Cbn:GO (EV [] [] false):=GB trivial trivial
section
variable (k:Kt Cbn C F 20 [])
noncomputable def Atb:=c0 Tryz.f16
noncomputable def Ko:=ct [0,0,1,4] Atb
noncomputable def Abc:=ct [0,2,4] Ko
abbrev B9j (y:Int):Prop:=Ez k Tryz.f16 Ff (y,())
abbrev Aq6 (a0:(List Aa)) (a1:(List UInt8)):=Lz k Ko (Dt a0 a1) (Sum.elim (Gz k Abc Jg) (B9j k))
theorem Aoo:Ok k (B9j k) ⟨Abc,Jg,Kp⟩:=pz k (fz k Tryz.f16 Ff (λ y=>y.1) λ _ h=>h) (.g (.e [[]])) λ _=>an
theorem Aot (a0:(List Aa)) (a1:(List UInt8)):Ok k (Aq6 k a0 a1) ⟨Ko,Dt a0 a1,Ki a0 a1⟩:=pz k (fz k Tryz.f16 Ff (λ y=> .inr (.inr y.1)) λ y h=>h.2 (.inr y.1) rfl) (.g (.b (.g (.b (.g (.e [[]])) (.g (.l (.c 0 [[]]))))) (.c 1 [[]]))) λ _=>ac bk<|ac (xt Sum.inl λ _ h=>h)<|an
theorem Aop (a0:(List Aa)) (a1:(List UInt8)):Ok k (B9j k) ⟨Ko,Dt a0 a1,λ v=>Option.bind (iter (Ki a0 a1) v) (Sum.elim Kp (λ y=>some y))⟩:=lz k (Aot k a0 a1) (xs (Aoo k) xr)
end
theorem Al2:MT 16 Ff:=mz Cbn 16 Tryz.f16 Ff [] (λ k=>Au) (.g (.g (.l (.c 0 [[]])))) λ k x=>ac (Aop k x.1 x.2.1)<|an
noncomputable def Cn:FS yeE:=f1 [(.nm 9),(.nm 9)] .bool λ x=>Hz x.1 x.2.1
theorem Cav:GO (EV [] [] false):=GB trivial trivial
section
variable (k:Kt Cav C F 50 [])
noncomputable def Ai4:=c0 Tryz.f17
noncomputable def Ef:=ct [0,0,2,0,1,4] Ai4
noncomputable def Ajh:=ct [0,3,0,0,3,4] Ef
noncomputable def R7:=ct [0,2,4] Ef
abbrev B99 (y:Bool):Prop:=Ez k Tryz.f17 Cn (y,())
abbrev Q8 (a0:Aa) (a1:Aa):=Lz k Ef (Ca a0 a1) (Sum.elim (Gz k R7 D4) (B99 k))
theorem Afk (a0:Aa) (a1:Aa):Ok k (Q8 k a0 a1) ⟨Ajh,Q7,Gj a0 a1⟩:=pz k (fz k Tryz.f17 Cn (λ y=> .inr (.inr y.1)) λ y h=>h.2 (.inr y.1) rfl) (.g (.e [[]])) λ _=>an
theorem Ae1:Ok k (B99 k) ⟨R7,D4,Gp⟩:=pz k (fz k Tryz.f17 Cn (λ y=>y.1) λ _ h=>h) (.g (.e [[]])) λ _=>an
theorem Ae0 (a0:Aa) (a1:Aa):Ok k (Q8 k a0 a1) ⟨Ef,Ca a0 a1,Gk a0 a1⟩:=pz k Au (.g (.b (.g (.g (.b (.c 0 [[]]) (.g (.l (.c 1 [[]])))))) (.c 2 [[]]))) λ _=>ac (Afk k a0 a1)<|ac bk<|ac (xt Sum.inl λ _ h=>h)<|an
theorem Afb (a0:Aa) (a1:Aa):Ok k (B99 k) ⟨Ef,Ca a0 a1,λ v=>Option.bind (iter (Gk a0 a1) v) (Sum.elim Gp (λ y=>some y))⟩:=lz k (Ae0 k a0 a1) (xs (Ae1 k) xr)
end
theorem Adt:MT 17 Cn:=mz Cav 17 Tryz.f17 Cn [] (λ k=>(fz k Tryz.f17 Cn (λ y=>y.1) λ _ h=>h)) (.g (.g (.b (.g (.e [[]])) (.g (.l (.c 0 [[]])))))) λ k x=>ac (Afb k x.1 x.2.1)<|an
noncomputable def Dh:FS yeE:=f1 [(.sl (.nm 9)),.str] .bool λ x=>Lt x.1 x.2.1
theorem d5G:GO (EV [(10,Abo),(13,Z5),(14,Ah0),(16,Ff),(17,Cn)] [] false):=GB ⟨A71,Akt,Bbp,Al2,Adt,trivial⟩ trivial
section
variable (k:Kt d5G C F 65 [])
noncomputable def Rp:=c0 Tryz.f5
noncomputable def Aip:=ct [0,0,0,2,0,0,0,0,0,3,4] Rp
noncomputable def Ait:=ct [0,0,0,2,0,0,0,0,0,2,4] Rp
abbrev d5Y (y:Bool):Prop:=Ez k Tryz.f5 Dh (y,())
theorem Afg:Ok k (d5Y k) ⟨Aip,Q5,Gm⟩:=pz k (fz k Tryz.f5 Dh (λ y=>y.1) λ _ h=>h) (.g (.e [[]])) λ _=>an
theorem Afe (a0:(List Aa)) (a1:(List UInt8)):Ok k (d5Y k) ⟨Ait,F3 a0 a1,Ee a0 a1⟩:=pz k (fz k Tryz.f5 Dh (λ y=>y.1) λ _ h=>h) (.g (.g (.e [[]]))) λ _=>an
end
theorem Acx:MT 5 Dh:=mz d5G 5 Tryz.f5 Dh [] (λ k=>(fz k Tryz.f5 Dh (λ y=>y.1) λ _ h=>h)) (.g (.g (.g (.b (.g (.e [[]])) (.g (.g (.g (.g (.g (.b (.c 0 [[]]) (.c 1 [[]]))))))))))) λ k x=>ac (Afg k)<|ac (Afe k x.1 x.2.1)<|an
end
end Go.Ab
