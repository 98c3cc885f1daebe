/- The functions compute what the plain functions tell. Conditions: none beyond those that each theorem names. -/
import Derived.Test.YtgngflkahbpecaaGreatDoorP26
set_option linter.unusedSimpArgs false
namespace Go.Ab
open Go Go.Proofs
set_option linter.unusedVariables false
section
variable {P:Program} {C:Ctx} {F:FT}
noncomputable def Dt:FS yeE:=f1 [(.sl (.nm 9))] (.int .i64) λ x=>P6 x.1
theorem Cbk:GO (EV [(90,El)] [] false):=GB ⟨Avl,trivial⟩ trivial
section
variable (k:Kt Cbk C F 45 [])
noncomputable def Awi:=c0 Tryz.f62
noncomputable def Mv:=ct [0,0,2,0,1,4] Awi
noncomputable def T5:=ct [0,2,4] Mv
noncomputable def Ie:=ct [0,1,4] T5
noncomputable def Mg:=ct [0,3,0,0,1,4] Ie
noncomputable def Agh:=ct [0,2,4] Mg
noncomputable def Ae4:=ct [0,2,4] Ie
abbrev Buk (y:Int):Prop:=Ez k Tryz.f62 Dt (y,())
abbrev Atc (a0:(List Aa)) (v2:Int):=Lz k Mg (D7 a0 v2) (Sum.elim (Gz k Agh (Hi a0 v2)) (Buk k))
abbrev Rg (a0:(List Aa)):=Lz k Ie (Dk a0) (Sum.elim (Gz k Ae4 Hk) (Buk k))
abbrev Atg (a0:(List Aa)):=Lz k Mv (D8 a0) (Sum.elim (Gz k T5 (Hm a0)) (Buk k))
theorem Arz (a0:(List Aa)) (v2:Int):Ok k (Rg k a0) ⟨Agh,Hi a0 v2,Md a0 v2⟩:=pz k Au (.g (.l (.c 0 [[]]))) λ _=>ac bk<|an
theorem Arf (a0:(List Aa)) (v2:Int):Ok k (Atc k a0 v2) ⟨Mg,D7 a0 v2,L6 a0 v2⟩:=pz k (fz k Tryz.f62 Dt (λ y=> .inr (.inr y.1)) λ y h=>h.2 (.inr y.1) rfl) (.g (.b (.g (.g (.b (.g (.e [[]])) (.g (.l (.c 0 [[]])))))) (.c 1 [[]]))) λ _=>ac bk<|ac (xt Sum.inl λ _ h=>h)<|an
theorem Aq9 (a0:(List Aa)) (v2:Int):Ok k (Rg k a0) ⟨Mg,D7 a0 v2,λ v=>Option.bind (iter (L6 a0 v2) v) (Sum.elim (Md a0 v2) (λ y=>some (.inr (.inr y))))⟩:=lz k (Arf k a0 v2) (xs (Arz k a0 v2) (xl (f:=λ y=>Sum.inr y)))
theorem Aq6:Ok k (Buk k) ⟨Ae4,Hk,Mn⟩:=pz k (fz k Tryz.f62 Dt (λ y=>y.1) λ _ h=>h) (.g (.e [[]])) λ _=>an
theorem Arc (a0:(List Aa)):Ok k (Rg k a0) ⟨Ie,Dk a0,Lv a0⟩:=pz k Au (.g (.b (.g (.g (.l (.c 0 [[]])))) (.c 1 [[]]))) λ v=>ac (Aq9 k a0 v.1)<|ac (xt Sum.inl λ _ h=>h)<|an
theorem Apv (a0:(List Aa)):Ok k (Buk k) ⟨Ie,Dk a0,λ v=>Option.bind (iter (Lv a0) v) (Sum.elim Mn (λ y=>some y))⟩:=lz k (Arc k a0) (xs (Aq6 k) xr)
theorem Aql (a0:(List Aa)):Ok k (Buk k) ⟨T5,Hm a0,Lx a0⟩:=pz k Au (.g (.l (.c 0 [[]]))) λ _=>ac (Apv k a0)<|an
theorem Ap1 (a0:(List Aa)):Ok k (Atg k a0) ⟨Mv,D8 a0,Lq a0⟩:=pz k (fz k Tryz.f62 Dt (λ y=> .inr (.inr y.1)) λ y h=>h.2 (.inr y.1) rfl) (.g (.b (.g (.g (.g (.b (.g (.e [[]])) (.g (.l (.c 0 [[]]))))))) (.c 1 [[]]))) λ _=>ac bk<|ac (xt Sum.inl λ _ h=>h)<|an
theorem Aph (a0:(List Aa)):Ok k (Buk k) ⟨Mv,D8 a0,λ v=>Option.bind (iter (Lq a0) v) (Sum.elim (Lx a0) (λ y=>some y))⟩:=lz k (Ap1 k a0) (xs (Aql k a0) xr)
end
theorem Aor:MT 62 Dt:=mz Cbk 62 Tryz.f62 Dt [] (λ k=>(fz k Tryz.f62 Dt (λ y=>y.1) λ _ h=>h)) (.g (.g (.b (.g (.e [[]])) (.g (.l (.c 0 [[]])))))) λ k x=>ac (Aph k x.1)<|an
noncomputable def Jk:FS yeE:=f1 [(.sl (.nm 9)),(.sl .str)] (.int .i64) λ x=>Ae9 x.1 x.2.1
theorem Cbu:GO (EV [(41,Hp),(62,Dt)] [] false):=GB ⟨I3,Aor,trivial⟩ trivial
section
variable (k:Kt Cbu C F 24 [])
noncomputable def Bma:=c0 Tryz.f32
noncomputable def Acf:=ct [0,0,0,2,0,1,4] Bma
noncomputable def Awx:=ct [0,2,4] Acf
abbrev B9r (y:Int):Prop:=Ez k Tryz.f32 Jk (y,())
abbrev Bh9 (a0:(List Aa)) (a1:(List (List UInt8))):=Lz k Acf (Kc a0 a1) (Sum.elim (Gz k Awx Y9) (B9r k))
theorem Bdf:Ok k (B9r k) ⟨Awx,Y9,Adc⟩:=pz k (fz k Tryz.f32 Jk (λ y=>y.1) λ _ h=>h) (.g (.e [[]])) λ _=>an
theorem Bb0 (a0:(List Aa)) (a1:(List (List UInt8))):Ok k (Bh9 k a0 a1) ⟨Acf,Kc a0 a1,Ac0 a0 a1⟩:=pz k (fz k Tryz.f32 Jk (λ y=> .inr (.inr y.1)) λ y h=>h.2 (.inr y.1) rfl) (.g (.b (.g (.g (.b (.g (.e [[]])) (.g (.l (.c 0 [[]])))))) (.c 1 [[]]))) λ _=>ac bk<|ac (xt Sum.inl λ _ h=>h)<|an
theorem A9k (a0:(List Aa)) (a1:(List (List UInt8))):Ok k (B9r k) ⟨Acf,Kc a0 a1,λ v=>Option.bind (iter (Ac0 a0 a1) v) (Sum.elim Adc (λ y=>some y))⟩:=lz k (Bb0 k a0 a1) (xs (Bdf k) xr)
end
theorem Anw:MT 32 Jk:=mz Cbu 32 Tryz.f32 Jk [] (λ k=>(fz k Tryz.f32 Jk (λ y=>y.1) λ _ h=>h)) (.g (.g (.g (.b (.g (.e [[]])) (.g (.l (.c 0 [[]]))))))) λ k x=>ac (A9k k x.1 x.2.1)<|an
noncomputable def Cj:FS yeE:=f1 [.str,(.int .u8)] (.int .i64) λ x=>Ig x.1 x.2.1
theorem B8q:GO (EV [] [] false):=GB trivial trivial
section
variable (k:Kt B8q C F 19 [])
noncomputable def Aay:=c0 Tryz.f106
noncomputable def Eh:=ct [0,0,1,4] Aay
noncomputable def M7:=ct [0,2,4] Eh
abbrev B0v (y:Int):Prop:=Ez k Tryz.f106 Cj (y,())
abbrev Z5 (a0:(List UInt8)) (a1:Int):=Lz k Eh (B4 a0 a1) (Sum.elim (Gz k M7 D9) (B0v k))
theorem X8:Ok k (B0v k) ⟨M7,D9,Ei⟩:=pz k (fz k Tryz.f106 Cj (λ y=>y.1) λ _ h=>h) (.g (.e [[]])) λ _=>an
theorem X0 (a0:(List UInt8)) (a1:Int):Ok k (Z5 k a0 a1) ⟨Eh,B4 a0 a1,Ej a0 a1⟩:=pz k (fz k Tryz.f106 Cj (λ y=> .inr (.inr y.1)) λ y h=>h.2 (.inr y.1) rfl) (.g (.b (.g (.b (.g (.e [[]])) (.g (.l (.c 0 [[]]))))) (.c 1 [[]]))) λ _=>ac bk<|ac (xt Sum.inl λ _ h=>h)<|an
theorem Xt (a0:(List UInt8)) (a1:Int):Ok k (B0v k) ⟨Eh,B4 a0 a1,λ v=>Option.bind (iter (Ej a0 a1) v) (Sum.elim Ei (λ y=>some y))⟩:=lz k (X0 k a0 a1) (xs (X8 k) xr)
end
theorem Xi:MT 106 Cj:=mz B8q 106 Tryz.f106 Cj [] (λ k=>Au) (.g (.g (.l (.c 0 [[]])))) λ k x=>ac (Xt k x.1 x.2.1)<|an
noncomputable def Hq:FS yeE:=f1 [.str,(.int .u8)] (.int .i64) λ x=>Je x.1 x.2.1
theorem Cb5:GO (EV [(106,Cj)] [] false):=GB ⟨Xi,trivial⟩ trivial
section
variable (k:Kt Cb5 C F 8 [])
end
theorem Agn:MT 74 Hq:=mz Cb5 74 Tryz.f74 Hq [] (λ k=>(fz k Tryz.f74 Hq (λ y=>y.1) λ _ h=>h)) (.g (.g (.e [[]]))) λ k _=>an
noncomputable def Fd:FS yeE:=f1 [(.sl (.nm 9)),.str,.str] (.int .i64) λ x=>D0 x.1 x.2.1 x.2.2.1
theorem Cbg:GO (EV [(41,Hp),(74,Hq)] [] false):=GB ⟨I3,Agn,trivial⟩ trivial
section
variable (k:Kt Cbg C F 28 [])
noncomputable def Be0:=c0 Tryz.f43
noncomputable def Afz:=ct [0,1,4] Be0
abbrev Cce (y:Int):Prop:=Ez k Tryz.f43 Fd (y,())
abbrev A78 (a0:(List Aa)) (a2:(List UInt8)):=Lz k Afz (He a0 a2) (Cce k)
theorem A23 (a0:(List Aa)) (a2:(List UInt8)):Ok k (A78 k a0 a2) ⟨Afz,He a0 a2,U2 a0 a2⟩:=pz k (fz k Tryz.f43 Fd (λ y=> .inr y.1) λ y h=>h.2 y.1 rfl) (.g (.g (.b (.g (.e [[]])) (.g (.g (.b (.g (.e [[]])) (.g (.l (.c 0 [[]]))))))))) λ _=>ac bk<|an
theorem A0z (a0:(List Aa)) (a2:(List UInt8)):Ok k (Cce k) ⟨Afz,He a0 a2,λ v=>Option.bind (iter (U2 a0 a2) v) (λ y=>some y)⟩:=lz k (A23 k a0 a2) xr
end
theorem Jr:MT 43 Fd:=mz Cbg 43 Tryz.f43 Fd [] (λ k=>Au) (.g (.l (.c 0 [[]]))) λ k x=>ac (A0z k x.1 x.2.2.1)<|an
noncomputable def Dy:FS yeE:=f1 [(.sl (.int .i64)),(.int .i64)] (.int .i64) λ x=>Ph x.1 x.2.1
theorem B79:GO (EV [] [] false):=GB trivial trivial
section
variable (k:Kt B79 C F 19 [])
noncomputable def Al6:=c0 Tryz.f131
noncomputable def Hx:=ct [0,0,1,4] Al6
noncomputable def Vx:=ct [0,2,4] Hx
abbrev B2i (y:Int):Prop:=Ez k Tryz.f131 Dy (y,())
abbrev Aju (a0:(List Int)) (a1:Int):=Lz k Hx (Ct a0 a1) (Sum.elim (Gz k Vx G4) (B2i k))
theorem Ajj:Ok k (B2i k) ⟨Vx,G4,H0⟩:=pz k (fz k Tryz.f131 Dy (λ y=>y.1) λ _ h=>h) (.g (.e [[]])) λ _=>an
theorem Ajk (a0:(List Int)) (a1:Int):Ok k (Aju k a0 a1) ⟨Hx,Ct a0 a1,Hw a0 a1⟩:=pz k (fz k Tryz.f131 Dy (λ y=> .inr (.inr y.1)) λ y h=>h.2 (.inr y.1) rfl) (.g (.b (.g (.g (.b (.g (.e [[]])) (.g (.l (.c 0 [[]])))))) (.c 1 [[]]))) λ _=>ac bk<|ac (xt Sum.inl λ _ h=>h)<|an
theorem Aiu (a0:(List Int)) (a1:Int):Ok k (B2i k) ⟨Hx,Ct a0 a1,λ v=>Option.bind (iter (Hw a0 a1) v) (Sum.elim H0 (λ y=>some y))⟩:=lz k (Ajk k a0 a1) (xs (Ajj k) xr)
end
theorem Agp:MT 131 Dy:=mz B79 131 Tryz.f131 Dy [] (λ k=>Au) (.g (.g (.l (.c 0 [[]])))) λ k x=>ac (Aiu k x.1 x.2.1)<|an
noncomputable def D3:FS yeE:=f1 [(.sl (.int .i64)),(.int .i64)] .bool λ x=>Et x.1 x.2.1
theorem B7q:GO (EV [(131,Dy)] [] false):=GB ⟨Agp,trivial⟩ trivial
section
variable (k:Kt B7q C F 9 [])
end
theorem M5:MT 107 D3:=mz B7q 107 Tryz.f107 D3 [] (λ k=>(fz k Tryz.f107 D3 (λ y=>y.1) λ _ h=>h)) (.g (.g (.e [[]]))) λ k _=>an
abbrev Apk:List (Tk yeE):=[.S 0 false,.v (.sl (.nm 9)),.S 1 true,.s 18,.S 2 false,.v (.sl (.int .i64)),.S 3 false,.k (.mp 1000001),.S 4 false,.k (.ar 1000002 0),.M 1000001 (.int .i64) .bool,.A 1000002 84 (.nm 18) 0 false]
abbrev Ays:List (Tk yeE):=[.S 0 false,.k (.ar 1000002 0),.S 1 false,.v (.int .i64),.M 1000001 (.int .i64) .bool,.A 1000002 84 (.nm 18) 0 false]
noncomputable def Z8 (R:Gx):FX yeE:=⟨Apk,Ays,(Int×(List (Int×Bool))×(List Ai)),λ x=>R x.1 x.2.1 x.2.2.1 x.2.2.2.1 x.2.2.2.2.1,λ r=>(r.1,r.2.1,r.2.2,())⟩
noncomputable def Byy (R:Gx):FX yeE:=⟨Apk,Ays,(Int×(List (Int×Bool))×(List Ai)),λ x=>Avu R x.1 x.2.1 x.2.2.1 x.2.2.2.1 x.2.2.2.2.1,λ r=>(r.1,r.2.1,r.2.2,())⟩
noncomputable abbrev Cbo (R:Gx):Env:=EX [(43,Fd),(107,D3),(108,Mm)] [(75,[],(Z8 R))] []
theorem Cc1 {R:Gx} (hR:MX 75 (Z8 R)):GO (Cbo R):=GF ⟨Jr,M5,Rc,trivial⟩ ⟨hR,trivial⟩ trivial
section
variable {R:Gx} {G:GO (Cbo R)} (k:Kt G C F 79 [])
noncomputable def Bl0:=c0 Tryz.f75
noncomputable def Abx:=ct [0,0,2,0,2,0,0,1,4] Bl0
noncomputable def Ayd:=ct [0,2,4] Abx
abbrev B9y (y:(Int×(List (Int×Bool))×(List Ai))):Prop:=Ex k Tryz.f75 (Byy R) (y.1,y.2.1,y.2.2,())
abbrev Bie (a0:(List Aa)) (a1:Ai):=Lz k Abx (J3 a0 a1) (Sum.elim (Gz k Ayd (Ro a1)) (B9y k))
theorem Bct (a1:Ai):Ok k (B9y k) ⟨Ayd,Ro a1,Aby R a1⟩:=pz k (fx k Tryz.f75 (Byy R) (λ y=>(y.1,y.2.1,y.2.2.1)) λ _ h=>h) (.g (.g (.e [[.re 1000002 1000002 0]]))) λ _=>an
theorem Bbd (a0:(List Aa)) (a1:Ai):Ok k (Bie k a0 a1) ⟨Abx,J3 a0 a1,Abq R a0 a1⟩:=pz k (fx k Tryz.f75 (Byy R) (λ y=> .inr (.inr (y.1,y.2.1,y.2.2.1))) λ y h=>h.2 (.inr (y.1,y.2.1,y.2.2.1)) rfl) (.g (.b (.g (.g (.g (.b (.g (.e [[.keep [10,11,1000000] [1000001],.own (.slot 10) 0 1000002 84 0]])) (.g (.g (.g (.b (.g (.e [[.keep [10,11,1000000] [1000001],.own (.slot 10) 0 1000002 84 0]])) (.g (.l (.c 0 [[.re 1000002 1000002 0]]))))))))))) (.c 1 [[]]))) λ _=>ac bk<|ac (xt Sum.inl λ _ h=>h)<|an
theorem Bdg (a0:(List Aa)) (a1:Ai):Ok k (B9y k) ⟨Abx,J3 a0 a1,λ v=>Option.bind (iter (Abq R a0 a1) v) (Sum.elim (Aby R a1) (λ y=>some y))⟩:=lz k (Bbd k a0 a1) (xs (Bct k a1) xr)
end
theorem A6g {R:Gx} (hR:MX 75 (Z8 R)):MX 75 (Byy R):=mw (Cc1 hR) 75 Tryz.f75 (Byy R) [] (λ k=>(fx k Tryz.f75 (Byy R) (λ y=>(y.1,y.2.1,y.2.2.1)) λ _ h=>h)) (.g (.g (.b (.g (.e [[.keep [10,11,1000000] [1000001],.own (.slot 10) 0 1000002 84 0]])) (.g (.b (.g (.e [[]])) (.g (.g (.l (.c 0 [[.fix (.slot 2)]]))))))))) λ k x=>ac (Bdg k x.1 x.2.1)<|an
theorem Axq:∀k,MX 75 (Z8 (Uh k))
 |0=>m0x (fn:=Tryz.f75) λ _=>rfl
 |k+1=>A6g (Axq k)
noncomputable def A49:FX yeE:=Z8 Asp
theorem A9n:MX 75 A49:=A0n (T:=yeT) (ins:=Apk) (λ R x=>R x.1 x.2.1 x.2.2.1 x.2.2.2.1 x.2.2.2.2.1) Uh Asp (λ x=>(λ (a0:(List Aa))=>List.length a0+2) x.1) Axq λ _=>rfl
abbrev Bla:List (Tk yeE):=[.S 0 false,.v (.sl (.nm 9)),.S 1 true,.s 18,.S 2 false,.v (.sl (.int .i64)),.S 3 false,.k (.mp 1000001),.S 4 false,.k (.sl (.nm 18) true []),.M 1000001 (.int .i64) .bool]
abbrev Big:List (Tk yeE):=[.S 0 false,.k (.ar 1000002 0),.S 1 false,.v (.int .i64),.M 1000001 (.int .i64) .bool,.A 1000002 84 (.nm 18) 0 false]
noncomputable def Mt:FX yeE:=⟨Bla,Big,(Int×(List (Int×Bool))×(List Ai)),λ x=>Au4 x.1 x.2.1 x.2.2.1 x.2.2.2.1,λ r=>(r.1,r.2.1,r.2.2,())⟩
theorem B06:GO (EX [(43,Fd),(107,D3),(108,Mm)] [(75,[],A49)] []):=GF ⟨Jr,M5,Rc,trivial⟩ ⟨A9n,trivial⟩ trivial
section
variable (k:Kt B06 C F 79 [])
noncomputable def Bkr:=c0 Tryz.f75
noncomputable def Adh:=ct [0,0,2,0,2,0,0,1,4] Bkr
noncomputable def Azm:=ct [0,2,4] Adh
abbrev Buj (y:(Int×(List (Int×Bool))×(List Ai))):Prop:=Ex k Tryz.f75 Mt (y.1,y.2.1,y.2.2,())
abbrev Bhp (a0:(List Aa)) (a1:Ai):=Lz k Adh (J9 a0 a1) (Sum.elim (Gz k Azm (Si a1)) (Buj k))
theorem Bdj (a1:Ai):Ok k (Buj k) ⟨Azm,Si a1,Adk a1⟩:=pz k (fx k Tryz.f75 Mt (λ y=>(y.1,y.2.1,y.2.2.1)) λ _ h=>h) (.g (.g (.e [[.re 270336 1000002 0]]))) λ _=>an
theorem A9u (a0:(List Aa)) (a1:Ai):Ok k (Bhp k a0 a1) ⟨Adh,J9 a0 a1,Aci a0 a1⟩:=pz k (fx k Tryz.f75 Mt (λ y=> .inr (.inr (y.1,y.2.1,y.2.2.1))) λ y h=>h.2 (.inr (y.1,y.2.1,y.2.2.1)) rfl) (.g (.b (.g (.g (.g (.b (.g (.e [[.own (.slot 10) 0 1000002 84 0]])) (.g (.g (.g (.b (.g (.e [[.own (.slot 10) 0 1000002 84 0]])) (.g (.l (.c 0 [[.re 270336 270336 0]]))))))))))) (.c 1 [[]]))) λ _=>ac bk<|ac (xt Sum.inl λ _ h=>h)<|an
theorem Bfl (a0:(List Aa)) (a1:Ai):Ok k (Buj k) ⟨Adh,J9 a0 a1,λ v=>Option.bind (iter (Aci a0 a1) v) (Sum.elim (Adk a1) (λ y=>some y))⟩:=lz k (A9u k a0 a1) (xs (Bdj k a1) xr)
end
theorem A62:MX 75 Mt:=mw B06 75 Tryz.f75 Mt [] (λ k=>(fx k Tryz.f75 Mt (λ y=>(y.1,y.2.1,y.2.2.1)) λ _ h=>h)) (.g (.g (.b (.g (.e [[.own (.slot 10) 0 1000002 84 0]])) (.g (.b (.g (.e [[.own (.slot 10) 0 1000002 84 0]])) (.g (.g (.l (.c 0 [[.fix (.slot 2),.own (.slot 4) 0 270336 84 0]]))))))))) λ k x=>ac (Bfl k x.1 x.2.1)<|an
noncomputable def Py:FS yeE:=f2 [(.sl (.nm 9)),(.int .i64)] (.sl (.nm 18)) (.int .i64) λ x=>U7 x.1 x.2.1
theorem Cb1:GO (EX [] [(75,[],Mt)] []):=GF trivial ⟨A62,trivial⟩ trivial
section
variable (k:Kt Cb1 C F 13 [])
end
theorem Aig:MT 45 Py:=mz Cb1 45 Tryz.f45 Py [] (λ k=>(fz k Tryz.f45 Py (λ y=>(y.1,y.2.1)) λ _ h=>h)) (.g (.g (.e [[.fix (.slot 4)]]))) λ k _=>an
abbrev Bec:List (Tk yeE):=[.S 0 true,.s 2,.S 1 false,.k (.ptr 1000001 0),.C 1000001,.s 2]
abbrev A6q:List (Tk yeE):=[.S 0 false,.v .bool,.C 1000001,.s 2]
noncomputable def W7:FX yeE:=⟨Bec,A6q,(Bool×Ak),λ x=>Alt x.1 x.2.1,λ r=>(r.1,r.2,())⟩
theorem Cbr:GO (EX [] [] []):=GF trivial trivial trivial
section
variable (k:Kt Cbr C F 9 [])
end
theorem Ax3:MX 86 W7:=mw Cbr 86 Tryz.f86 W7 [] (λ k=>(fx k Tryz.f86 W7 (λ y=>(y.1,y.2.1)) λ _ h=>h)) (.g (.g (.e [[]]))) λ k _=>an
abbrev Agx:List (Tk yeE):=[.S 0 false,.v (.sl (.nm 2)),.S 1 false,.k (.clo 86 [.ptr 1000001 0]),.C 1000001,.s 2]
abbrev Af9:List (Tk yeE):=[.S 0 false,.v (.int .i64),.C 1000001,.s 2]
noncomputable def C4:FX yeE:=⟨Agx,Af9,(Int×Ak),λ x=>G7 x.1 x.2.1,λ r=>(r.1,r.2,())⟩
theorem Bw9:GO (EX [] [(86,[],W7)] []):=GF trivial ⟨Ax3,trivial⟩ trivial
section
variable (k:Kt Bw9 C F 19 [])
noncomputable def Agq:=c0 Tryz.f85
noncomputable def Fz:=ct [0,0,1,4] Agq
noncomputable def Ra:=ct [0,2,4] Fz
abbrev Bk3 (y:(Int×Ak)):Prop:=Ex k Tryz.f85 C4 (y.1,y.2,())
abbrev Ae5 (a0:(List Ak)):=Lz k Fz (Cg a0) (Sum.elim (Gz k Ra E9) (Bk3 k))
theorem Ac2:Ok k (Bk3 k) ⟨Ra,E9,Fu⟩:=pz k (fx k Tryz.f85 C4 (λ y=>(y.1,y.2.1)) λ _ h=>h) (.g (.e [[]])) λ _=>an
theorem Acr (a0:(List Ak)):Ok k (Ae5 k a0) ⟨Fz,Cg a0,F3 a0⟩:=pz k (fx k Tryz.f85 C4 (λ y=> .inr (.inr (y.1,y.2.1))) λ y h=>h.2 (.inr (y.1,y.2.1)) rfl) (.g (.b (.g (.g (.b (.g (.e [[]])) (.g (.l (.c 0 [[]])))))) (.c 1 [[]]))) λ _=>ac bk<|ac (xt Sum.inl λ _ h=>h)<|an
theorem Adp (a0:(List Ak)):Ok k (Bk3 k) ⟨Fz,Cg a0,λ v=>Option.bind (iter (F3 a0) v) (Sum.elim Fu (λ y=>some y))⟩:=lz k (Acr k a0) (xs (Ac2 k) xr)
end
theorem Aaw:MX 85 C4:=mw Bw9 85 Tryz.f85 C4 [] (λ k=>Au) (.g (.g (.l (.c 0 [[]])))) λ k x=>ac (Adp k x.1)<|an
noncomputable def Ku:FS yeE:=f1 [(.sl (.nm 2)),(.sl (.nm 2))] (.sl (.nm 2)) λ x=>Xd x.1 x.2.1
theorem Ca7:GO (EX [] [(85,[86],C4)] []):=GF trivial ⟨Aaw,trivial⟩ trivial
section
variable (k:Kt Ca7 C F 53 [])
noncomputable def Bfp:=c0 Tryz.f56
noncomputable def Oq:=ct [0,0,0,0,1,4] Bfp
noncomputable def Bbu:=ct [0,3,0,0,0,3,0,0,4] Oq
noncomputable def Afy:=ct [0,2,4] Oq
noncomputable def Pk:=ct [0,1,4] Afy
noncomputable def Baf:=ct [0,3,0,0,3,0,4] Pk
noncomputable def Apf:=ct [0,2,4] Pk
abbrev B6o (y:(List Ak)):Prop:=Ez k Tryz.f56 Ku (y,())
abbrev An4 (a0:(List Ak)):=Lz k Pk (Fr a0) (Gz k Apf M4)
abbrev Anj (a0:(List Ak)) (a1:(List Ak)):=Lz k Oq (Fl a0 a1) (Gz k Afy (I4 a0))
theorem A15 (a0:(List Ak)) (a1:(List Ak)) (v1:Int):Ok k (Anj k a0 a1) ⟨Bbu,Tj a0 a1 v1,Vg a0 a1 v1⟩:=pz k Au (.g (.g (.l (.c 0 [[.re 34 34 0]])))) λ _=>ac bk<|an
theorem A3p (a0:(List Ak)) (v9:Int):Ok k (An4 k a0) ⟨Baf,Tm a0 v9,Vs a0 v9⟩:=pz k Au (.g (.l (.c 0 [[]]))) λ _=>ac bk<|an
theorem A2q:Ok k (B6o k) ⟨Apf,M4,W6⟩:=pz k (fz k Tryz.f56 Ku (λ y=>y.1) λ _ h=>h) (.g (.e [[.fix (.slot 4)]])) λ _=>an
theorem A2b (a0:(List Ak)):Ok k (An4 k a0) ⟨Pk,Fr a0,U9 a0⟩:=pz k Au (.g (.b (.g (.g (.b (.g (.c 0 [[.re 34 34 0]])) (.c 0 [[]])))) (.c 1 [[]]))) λ v=>ac (A3p k a0 v.1)<|ac (xt id λ _ h=>h)<|an
theorem A21 (a0:(List Ak)):Ok k (B6o k) ⟨Pk,Fr a0,λ v=>Option.bind (iter (U9 a0) v) W6⟩:=lz k (A2b k a0) (A2q k)
theorem A1j (a0:(List Ak)):Ok k (B6o k) ⟨Afy,I4 a0,Ww a0⟩:=pz k Au (.g (.l (.c 0 [[]]))) λ _=>ac (A21 k a0)<|an
theorem A28 (a0:(List Ak)) (a1:(List Ak)):Ok k (Anj k a0 a1) ⟨Oq,Fl a0 a1,W3 a0 a1⟩:=pz k Au (.g (.b (.g (.g (.g (.b (.g (.g (.c 0 [[]]))) (.c 0 [[]]))))) (.c 1 [[]]))) λ v=>ac (A15 k a0 a1 v.1)<|ac (xt id λ _ h=>h)<|an
theorem A0q (a0:(List Ak)) (a1:(List Ak)):Ok k (B6o k) ⟨Oq,Fl a0 a1,λ v=>Option.bind (iter (W3 a0 a1) v) (Ww a0)⟩:=lz k (A28 k a0 a1) (A1j k a0)
end
theorem Ahe:MT 56 Ku:=mz Ca7 56 Tryz.f56 Ku [] (λ k=>Au) (.g (.g (.g (.g (.l (.c 0 [[.own (.slot 5) 0 34 75 0]])))))) λ k x=>ac (A0q k x.1 x.2.1)<|an
noncomputable def Yt:FS yeE:=f1 [(.nm 1)] (.nm 1) λ x=>Arg x.1
theorem B8i:GO (EV [] [] false):=GB trivial trivial
section
variable (k:Kt B8i C F 5 [])
end
theorem A3i:MT 120 Yt:=mz B8i 120 Tryz.f120 Yt [] (λ k=>(fz k Tryz.f120 Yt (λ y=>y.1) λ _ h=>h)) (.g (.g (.g (.e [[]])))) λ k _=>an
abbrev Aa6:List (Tk yeE):=[.S 0 true,.s 1,.S 1 false,.k (.clo 120 [])]
abbrev Akq:List (Tk yeE):=[.S 0 true,.s 1]
noncomputable def M6 (R:Df):FX yeE:=⟨Aa6,Akq,Am,λ x=>R x.1,λ r=>(r,())⟩
noncomputable def Akc (R:Df):FX yeE:=⟨Aa6,Akq,Am,λ x=>Afl R x.1,λ r=>(r,())⟩
noncomputable abbrev Bj2 (R:Df):Env:=EX [(120,Yt)] [(119,[120],(M6 R))] []
theorem By3 {R:Df} (hR:MX 119 (M6 R)):GO (Bj2 R):=GF ⟨A3i,trivial⟩ ⟨hR,trivial⟩ trivial
section
variable {R:Df} {G:GO (Bj2 R)} (k:Kt G C F 34 [])
noncomputable def A3t:=c0 Tryz.f119
noncomputable def Qu:=ct [0,0,2,0,0,0,1,4] A3t
noncomputable def Ajy:=ct [0,2,4] Qu
abbrev Bjg (y:Am):Prop:=Ex k Tryz.f119 (Akc R) (y,())
abbrev Axd (a0:Am):=Lz k Qu (Fb a0) (Gz k Ajy (Ji a0))
theorem Awb (a0:Am):Ok k (Bjg k) ⟨Ajy,Ji a0,P8 R a0⟩:=pz k (fx k Tryz.f119 (Akc R) (λ y=>y.1) λ _ h=>h) (.g (.e [[.fix (.cell 4)]])) λ _=>an
theorem Au0 (a0:Am):Ok k (Axd k a0) ⟨Qu,Fb a0,Qg R a0⟩:=pz k Au (.g (.b (.g (.g (.g (.l (.c 0 [[.re 4000504 4000504 0]]))))) (.c 1 [[]]))) λ _=>ac bk<|ac (xt id λ _ h=>h)<|an
theorem Awn (a0:Am):Ok k (Bjg k) ⟨Qu,Fb a0,λ v=>Option.bind (iter (Qg R a0) v) (P8 R a0)⟩:=lz k (Au0 k a0) (Awb k a0)
end
theorem Ate {R:Df} (hR:MX 119 (M6 R)):MX 119 (Akc R):=mw (By3 hR) 119 Tryz.f119 (Akc R) [] (λ k=>(fx k Tryz.f119 (Akc R) (λ y=>y.1) λ _ h=>h)) (.g (.g (.b (.g (.e [[]])) (.g (.g (.w [.own (.cell 5) 4 4000504 68 0] (.g (.l (.c 0 [[.st (.cell 4)]]))))))))) λ k x=>ac (Awn k x.1)<|an
theorem Ak4:∀k,MX 119 (M6 (I5 k))
 |0=>m0x (fn:=Tryz.f119) λ _=>rfl
 |k+1=>Ate (Ak4 k)
noncomputable def Anx:FX yeE:=M6 Yx
theorem Aut:MX 119 Anx:=A0n (T:=yeT) (ins:=Aa6) (λ R x=>R x.1) I5 Yx (λ x=>(λ (a0:Am)=>SizeOf.sizeOf a0+1) x.1) Ak4 λ _=>rfl
noncomputable def Zx:FS yeE:=f1 [(.nm 1)] (.nm 1) λ x=>Nm x.1
theorem Ccb:GO (EX [] [(119,[120],Anx)] []):=GF trivial ⟨Aut,trivial⟩ trivial
section
variable (k:Kt Ccb C F 5 [])
end
theorem Aqu:MT 87 Zx:=mz Ccb 87 Tryz.f87 Zx [] (λ k=>(fz k Tryz.f87 Zx (λ y=>y.1) λ _ h=>h)) (.g (.g (.e [[]]))) λ k _=>an
noncomputable def K2:FS yeE:=⟨[(.sl (.nm 2))],[(.sl (.nm 2))],[],[[(75,0)]],(List Ak),λ x=>Xf x.1,λ r=>(r,())⟩
theorem Ccs:GO (EV [(87,Zx)] [] false):=GB ⟨Aqu,trivial⟩ trivial
section
variable (k:Kt Ccs C F 28 [])
noncomputable def A1l:=c0 Tryz.f57
noncomputable def Qh:=ct [0,0,0,0,1,4] A1l
noncomputable def Akb:=ct [0,2,4] Qh
abbrev Ca0 (y:(List Ak)):Prop:=Ez k Tryz.f57 K2 (y,())
abbrev Ay0 (a0:(List Ak)):=Lz k Qh (E7 a0) (Gz k Akb Og)
theorem Av8:Ok k (Ca0 k) ⟨Akb,Og,Qi⟩:=pz k (fz k Tryz.f57 K2 (λ y=>y.1) λ _ h=>h) (.g (.e [[]])) λ _=>an
theorem Awm (a0:(List Ak)):Ok k (Ay0 k a0) ⟨Qh,E7 a0,P7 a0⟩:=pz k Au (.g (.b (.g (.g (.g (.l (.c 0 [[]]))))) (.c 1 [[]]))) λ _=>ac bk<|ac (xt id λ _ h=>h)<|an
theorem Av0 (a0:(List Ak)):Ok k (Ca0 k) ⟨Qh,E7 a0,λ v=>Option.bind (iter (P7 a0) v) Qi⟩:=lz k (Awm k a0) (Av8 k)
end
theorem As9:MT 57 K2:=mz Ccs 57 Tryz.f57 K2 [] (λ k=>Au) (.g (.g (.g (.g (.l (.c 0 [[]])))))) λ k x=>ac (Av0 k x.1)<|an
noncomputable def T9:FS yeE:=f2 [(.sl (.nm 9)),.str,(.sl (.nm 2))] (.sl (.nm 2)) .bool λ x=>Aj9 x.1 x.2.1 x.2.2.1
theorem Cbm:GO (EV [(43,Fd),(57,K2)] [] false):=GB ⟨Jr,As9,trivial⟩ trivial
section
variable (k:Kt Cbm C F 42 [])
noncomputable def Bvv:=c0 Tryz.f91
noncomputable def Alm:=ct [0,0,0,1,4] Bvv
noncomputable def Bdk:=ct [0,2,4] Alm
abbrev B85 (y:((List Ak)×Bool)):Prop:=Ez k Tryz.f91 T9 (y.1,y.2,())
abbrev Bsl (a0:(List Aa)) (a1:(List UInt8)):=Lz k Alm (Lj a0 a1) (Sum.elim (Gz k Bdk Ahz) (B85 k))
theorem Bn1:Ok k (B85 k) ⟨Bdk,Ahz,Aly⟩:=pz k (fz k Tryz.f91 T9 (λ y=>(y.1,y.2.1)) λ _ h=>h) (.g (.e [[.fix (.slot 6)]])) λ _=>an
theorem Bn9 (a0:(List Aa)) (a1:(List UInt8)):Ok k (Bsl k a0 a1) ⟨Alm,Lj a0 a1,Alb a0 a1⟩:=pz k (fz k Tryz.f91 T9 (λ y=> .inr (.inr (y.1,y.2.1))) λ y h=>h.2 (.inr (y.1,y.2.1)) rfl) (.g (.b (.g (.g (.b (.g (.l (.c 0 [[]]))) (.g (.g (.b (.g (.e [[]])) (.g (.g (.l (.c 0 [[]])))))))))) (.c 1 [[]]))) λ _=>ac bk<|ac (xt Sum.inl λ _ h=>h)<|an
theorem Ble (a0:(List Aa)) (a1:(List UInt8)):Ok k (B85 k) ⟨Alm,Lj a0 a1,λ v=>Option.bind (iter (Alb a0 a1) v) (Sum.elim Aly (λ y=>some y))⟩:=lz k (Bn9 k a0 a1) (xs (Bn1 k) xr)
end
theorem Aum:MT 91 T9:=mz Cbm 91 Tryz.f91 T9 [] (λ k=>Au) (.g (.g (.g (.l (.c 0 [[]]))))) λ k x=>ac (Ble k x.1 x.2.1)<|an
noncomputable def Rh:FS yeE:=f1 [(.nm 4),(.sl (.nm 2))] (.nm 4) λ x=>Aic x.1 x.2.1
theorem Cbd:GO (EV [(56,Ku),(93,Jb)] [] false):=GB ⟨Ahe,Nl,trivial⟩ trivial
section
variable (k:Kt Cbd C F 54 [])
noncomputable def Bgo:=c0 Tryz.f92
noncomputable def Ri:=ct [0,0,0,1,4] Bgo
noncomputable def Bgr:=ct [0,3,0,0,0,3,4] Ri
noncomputable def Atl:=ct [0,2,4] Ri
abbrev Cbt (y:Ax):Prop:=Ez k Tryz.f92 Rh (y,())
abbrev Ap3 (a1:(List Ak)):=Lz k Ri (Gr a1) (Gz k Atl Pb)
theorem A56 (a1:(List Ak)) (v1:Int) (v3:Ax):Ok k (Ap3 k a1) ⟨Bgr,K0 a1 v1 v3,Nt a1 v1 v3⟩:=pz k Au (.g (.l (.c 0 [[]]))) λ _=>ac bk<|an
theorem A8e:Ok k (Cbt k) ⟨Atl,Pb,Yh⟩:=pz k (fz k Tryz.f92 Rh (λ y=>y.1) λ _ h=>h) (.g (.g (.e [[]]))) λ _=>an
theorem A7x (a1:(List Ak)):Ok k (Ap3 k a1) ⟨Ri,Gr a1,Za a1⟩:=pz k Au (.g (.b (.g (.g (.g (.b (.c 0 [[]]) (.g (.b (.g (.g (.c 0 [[.re 39 39 0]]))) (.g (.b (.g (.c 0 [[]])) (.g (.c 0 [[]])))))))))) (.c 1 [[]]))) λ v=>ac (A56 k a1 v.1 v.2.2.1)<|ac (xt id λ _ h=>h)<|an
theorem A61 (a1:(List Ak)):Ok k (Cbt k) ⟨Ri,Gr a1,λ v=>Option.bind (iter (Za a1) v) Yh⟩:=lz k (A7x k a1) (A8e k)
end
theorem A2l:MT 92 Rh:=mz Cbd 92 Tryz.f92 Rh [] (λ k=>Au) (.g (.g (.g (.l (.c 0 [[.own (.slot 5) 0 39 75 0,.st (.cell 4)]]))))) λ k x=>ac (A61 k x.2.1)<|an
noncomputable def G9:FS yeE:=⟨[(.sl (.nm 9)),(.int .i64),(.sl (.nm 2))],[(.nm 9),(.nm 9),(.int .i64)],[],[],(Aa×Aa×Int),λ x=>Aku x.1 x.2.1 x.2.2.1,λ r=>(r.1,r.2.1,r.2.2,())⟩
theorem Cby:GO (EV [(43,Fd),(45,Py),(56,Ku),(87,Zx),(91,T9),(92,Rh)] [] false):=GB ⟨Jr,Aig,Ahe,Aqu,Aum,A2l,trivial⟩ trivial
section
variable (k:Kt Cby C F 283 [])
noncomputable def Bui:=c0 Tryz.f63
noncomputable def Afh:=ct [0,0,0,2,0,0,0,1,4] Bui
noncomputable def Alo:=ct [0,3,0,0,1,4] Afh
noncomputable def Bcs:=ct [0,2,4] Alo
noncomputable def Awl:=ct [0,2,4] Afh
noncomputable def Ala:=ct [0,0,1,4] Awl
noncomputable def Awj:=ct [0,2,4] Ala
noncomputable def Afp:=ct [0,0,1,4] Awj
noncomputable def Afq:=ct [0,3,0,0,0,1,4] Afp
noncomputable def Bvr:=ct [0,3,0,0,3,0,0,2,0,4] Afq
noncomputable def Aqi:=ct [0,2,4] Afq
noncomputable def Aik:=ct [0,1,4] Aqi
noncomputable def Aqk:=ct [0,2,4] Aik
noncomputable def Zz:=ct [0,0,1,4] Aqk
noncomputable def Aim:=ct [0,3,0,0,0,1,4] Zz
noncomputable def A5k:=ct [0,2,4] Aim
noncomputable def A36:=ct [0,2,4] Zz
noncomputable def A5o:=ct [0,2,4] Afp
abbrev Ban (y:(Aa×Aa×Int)):Prop:=Ez k Tryz.f63 G9 (y.1,y.2.1,y.2.2,())
abbrev Bqd (a0:(List Aa)) (a1:Int) (a2:(List Ak)) (v1:(List Ai)) (v2:(List Ai)) (v3:Int) (v4:Int):=Lz k Alo (Pg a0 a1 a2 v1 v2 v3 v4) (Sum.elim (Gz k Bcs (Aah a0 a1 a2 v1 v2 v3 v4)) (Ban k))
abbrev Bmp (a0:(List Aa)) (a1:Int) (v11:(List Ai)) (v15:Int) (v39:Aa) (v59:Int):=Lz k Aim (Lw a0 a1 v11 v15 v39 v59) (Gz k A5k (Wh a0 a1 v11 v15 v39 v59))
abbrev Amr (a0:(List Aa)) (a1:Int) (v11:(List Ai)) (v15:Int) (v39:Aa):=Lz k Zz (Jj a0 a1 v11 v15 v39) (Gz k A36 (Q0 a0 a1 v11 v15))
abbrev Bl5 (a0:(List Aa)) (a1:Int) (v11:(List Ai)) (v15:Int) (v39:Aa):=Lz k Aik (Ls a0 a1 v11 v15 v39) (Gz k Aqk (V0 a0 a1 v11 v15 v39))
abbrev A5b (a0:(List Aa)) (a1:Int) (v11:(List Ai)) (v15:Int):=Lz k Afq (Ll a0 a1 v11 v15) (Sum.elim (Gz k Aqi (Mj a0 a1 v11 v15)) (Ban k))
abbrev Ox (a0:(List Aa)) (a1:Int) (v11:(List Ai)):=Lz k Afp (Fq a0 a1 v11) (Sum.elim (Gz k A5o (Gp a0 a1)) (Ban k))
abbrev Brp (a0:(List Aa)) (a1:Int) (v11:(List Ai)):=Lz k Ala (O0 a0 a1 v11) (Sum.elim (Gz k Awj (Z1 a0 a1 v11)) (Ban k))
abbrev App (a0:(List Aa)) (a1:Int) (a2:(List Ak)):=Lz k Afh (Ln a0 a1 a2) (Sum.elim (Gz k Awl (Uv a0 a1 a2)) (Ban k))
theorem Bnt (a0:(List Aa)) (a1:Int) (a2:(List Ak)) (v1:(List Ai)) (v2:(List Ai)) (v3:Int) (v4:Int):Ok k (App k a0 a1 a2) ⟨Bcs,Aah a0 a1 a2 v1 v2 v3 v4,Am8 a0 a1 a2 v1 v2 v3 v4⟩:=pz k Au (.g (.l (.c 0 [[]]))) λ _=>ac bk<|an
theorem Bly (a0:(List Aa)) (a1:Int) (a2:(List Ak)) (v1:(List Ai)) (v2:(List Ai)) (v3:Int) (v4:Int):Ok k (Bqd k a0 a1 a2 v1 v2 v3 v4) ⟨Alo,Pg a0 a1 a2 v1 v2 v3 v4,Al9 a0 a1 a2 v1 v2 v3 v4⟩:=pz k (fz k Tryz.f63 G9 (λ y=> .inr (.inr (y.1,y.2.1,y.2.2.1))) λ y h=>h.2 (.inr (y.1,y.2.1,y.2.2.1)) rfl) (.g (.b (.g (.g (.b (.g (.e [[]])) (.g (.g (.l (.c 0 [[]]))))))) (.c 1 [[]]))) λ _=>ac bk<|ac (xt Sum.inl λ _ h=>h)<|an
theorem Boe (a0:(List Aa)) (a1:Int) (a2:(List Ak)) (v1:(List Ai)) (v2:(List Ai)) (v3:Int) (v4:Int):Ok k (App k a0 a1 a2) ⟨Alo,Pg a0 a1 a2 v1 v2 v3 v4,λ v=>Option.bind (iter (Al9 a0 a1 a2 v1 v2 v3 v4) v) (Sum.elim (Am8 a0 a1 a2 v1 v2 v3 v4) (λ y=>some (.inr (.inr y))))⟩:=lz k (Bly k a0 a1 a2 v1 v2 v3 v4) (xs (Bnt k a0 a1 a2 v1 v2 v3 v4) (xl (f:=λ y=>Sum.inr y)))
theorem Bna (a0:(List Aa)) (a1:Int) (v11:(List Ai)) (v15:Int) (v22:(List Ax)) (v23:Int) (v24:Int) (v25:Aa):Ok k (A5b k a0 a1 v11 v15) ⟨Bvr,Aih a0 a1 v11 v15 v22 v23 v24 v25,Afj a0 a1 v11 v15 v22 v23 v24 v25⟩:=pz k (fz k Tryz.f63 G9 (λ y=> .inr (.inr (y.1,y.2.1,y.2.2.1))) λ y h=>h.2 (.inr (y.1,y.2.1,y.2.2.1)) rfl) (.g (.g (.b (.g (.e [[]])) (.g (.g (.g (.g (.l (.c 0 [[.re 4000603 4000603 0,.re 4000703 4000703 0]]))))))))) λ _=>ac bk<|an
theorem Bf5 (a0:(List Aa)) (a1:Int) (v11:(List Ai)) (v15:Int) (v39:Aa) (v59:Int):Ok k (Amr k a0 a1 v11 v15 v39) ⟨A5k,Wh a0 a1 v11 v15 v39 v59,Aid a0 a1 v11 v15 v39 v59⟩:=pz k Au (.g (.g (.l (.c 0 [[.re 4000606 4000606 0]])))) λ _=>ac bk<|an
theorem Bh7 (a0:(List Aa)) (a1:Int) (v11:(List Ai)) (v15:Int) (v39:Aa) (v59:Int):Ok k (Bmp k a0 a1 v11 v15 v39 v59) ⟨Aim,Lw a0 a1 v11 v15 v39 v59,Ail a0 a1 v11 v15 v39 v59⟩:=pz k Au (.g (.b (.g (.g (.g (.l (.c 0 [[.re 4003205 4003205 0]]))))) (.c 1 [[]]))) λ _=>ac bk<|ac (xt id λ _ h=>h)<|an
theorem Bh8 (a0:(List Aa)) (a1:Int) (v11:(List Ai)) (v15:Int) (v39:Aa) (v59:Int):Ok k (Amr k a0 a1 v11 v15 v39) ⟨Aim,Lw a0 a1 v11 v15 v39 v59,λ v=>Option.bind (iter (Ail a0 a1 v11 v15 v39 v59) v) (Aid a0 a1 v11 v15 v39 v59)⟩:=lz k (Bh7 k a0 a1 v11 v15 v39 v59) (Bf5 k a0 a1 v11 v15 v39 v59)
theorem Bhb (a0:(List Aa)) (a1:Int) (v11:(List Ai)) (v15:Int):Ok k (Ox k a0 a1 v11) ⟨A36,Q0 a0 a1 v11 v15,O6 a0 a1 v11 v15⟩:=pz k Au (.g (.l (.c 0 [[]]))) λ _=>ac bk<|an
theorem Bhn (a0:(List Aa)) (a1:Int) (v11:(List Ai)) (v15:Int) (v39:Aa):Ok k (Amr k a0 a1 v11 v15 v39) ⟨Zz,Jj a0 a1 v11 v15 v39,Zt a0 a1 v11 v15 v39⟩:=pz k Au (.g (.b (.g (.g (.w [.own (.cell 32) 5 4003205 128 0] (.g (.l (.c 0 [[]])))))) (.c 1 [[]]))) λ v=>ac (Bh8 k a0 a1 v11 v15 v39 v.1)<|ac (xt id λ _ h=>h)<|an
theorem Bgg (a0:(List Aa)) (a1:Int) (v11:(List Ai)) (v15:Int) (v39:Aa):Ok k (Ox k a0 a1 v11) ⟨Zz,Jj a0 a1 v11 v15 v39,λ v=>Option.bind (iter (Zt a0 a1 v11 v15 v39) v) (O6 a0 a1 v11 v15)⟩:=lz k (Bhn k a0 a1 v11 v15 v39) (Bhb k a0 a1 v11 v15)
theorem Bhe (a0:(List Aa)) (a1:Int) (v11:(List Ai)) (v15:Int) (v39:Aa):Ok k (Ox k a0 a1 v11) ⟨Aqk,V0 a0 a1 v11 v15 v39,Ah2 a0 a1 v11 v15 v39⟩:=pz k Au (.g (.g (.l (.c 0 [[.re 4000605 4000605 0]])))) λ _=>ac (Bgg k a0 a1 v11 v15 v39)<|an
theorem Bia (a0:(List Aa)) (a1:Int) (v11:(List Ai)) (v15:Int) (v39:Aa):Ok k (Bl5 k a0 a1 v11 v15 v39) ⟨Aik,Ls a0 a1 v11 v15 v39,Ag8 a0 a1 v11 v15 v39⟩:=pz k Au (.g (.b (.g (.g (.g (.l (.c 0 [[.re 4000604 4000604 0]]))))) (.c 1 [[]]))) λ _=>ac bk<|ac (xt id λ _ h=>h)<|an
theorem Bhu (a0:(List Aa)) (a1:Int) (v11:(List Ai)) (v15:Int) (v39:Aa):Ok k (Ox k a0 a1 v11) ⟨Aik,Ls a0 a1 v11 v15 v39,λ v=>Option.bind (iter (Ag8 a0 a1 v11 v15 v39) v) (Ah2 a0 a1 v11 v15 v39)⟩:=lz k (Bia k a0 a1 v11 v15 v39) (Bhe k a0 a1 v11 v15 v39)
theorem Bh5 (a0:(List Aa)) (a1:Int) (v11:(List Ai)) (v15:Int):Ok k (Ox k a0 a1 v11) ⟨Aqi,Mj a0 a1 v11 v15,Zv a0 a1 v11 v15⟩:=pz k Au (.g (.l (.c 0 [[]]))) λ v=>ac (Bhu k a0 a1 v11 v15 v.1)<|an
theorem Blf (a0:(List Aa)) (a1:Int) (v11:(List Ai)) (v15:Int):Ok k (A5b k a0 a1 v11 v15) ⟨Afq,Ll a0 a1 v11 v15,Ae6 a0 a1 v11 v15⟩:=pz k (fz k Tryz.f63 G9 (λ y=> .inr (.inr (y.1,y.2.1,y.2.2.1))) λ y h=>h.2 (.inr (y.1,y.2.1,y.2.2.1)) rfl) (.g (.b (.g (.g (.b (.g (.g (.b (.g (.e [[]])) (.g (.c 0 [[]]))))) (.c 0 [[]])))) (.c 1 [[]]))) λ v=>ac (Bna k a0 a1 v11 v15 v.1 v.2.1 v.2.2.1 v.2.2.2.1)<|ac (xt Sum.inl λ _ h=>h)<|an
theorem Blw (a0:(List Aa)) (a1:Int) (v11:(List Ai)) (v15:Int):Ok k (Ox k a0 a1 v11) ⟨Afq,Ll a0 a1 v11 v15,λ v=>Option.bind (iter (Ae6 a0 a1 v11 v15) v) (Sum.elim (Zv a0 a1 v11 v15) (λ y=>some (.inr (.inr y))))⟩:=lz k (Blf k a0 a1 v11 v15) (xs (Bh5 k a0 a1 v11 v15) (xl (f:=λ y=>Sum.inr y)))
theorem Bf7 (a0:(List Aa)) (a1:Int):Ok k (Ban k) ⟨A5o,Gp a0 a1,Ahc a0 a1⟩:=pz k (fz k Tryz.f63 G9 (λ y=>(y.1,y.2.1,y.2.2.1)) λ _ h=>h) (.g (.e [[.fix (.cell 6),.fix (.cell 7)]])) λ _=>an
theorem Bml (a0:(List Aa)) (a1:Int) (v11:(List Ai)):Ok k (Ox k a0 a1 v11) ⟨Afp,Fq a0 a1 v11,Amg a0 a1 v11⟩:=pz k Au (.g (.b (.g (.g (.g (.l (.c 0 [[]]))))) (.c 1 [[]]))) λ v=>ac (Blw k a0 a1 v11 v.1)<|ac (xt Sum.inl λ _ h=>h)<|an
theorem Bnl (a0:(List Aa)) (a1:Int) (v11:(List Ai)):Ok k (Ban k) ⟨Afp,Fq a0 a1 v11,λ v=>Option.bind (iter (Amg a0 a1 v11) v) (Sum.elim (Ahc a0 a1) (λ y=>some y))⟩:=lz k (Bml k a0 a1 v11) (xs (Bf7 k a0 a1) xr)
theorem Bk6 (a0:(List Aa)) (a1:Int) (v11:(List Ai)):Ok k (Ban k) ⟨Awj,Z1 a0 a1 v11,Amu a0 a1 v11⟩:=pz k Au (.g (.g (.l (.c 0 [[.own (.cell 6) 3 4000603 70 0,.own (.cell 6) 4 4000604 100 0,.own (.cell 6) 5 4000605 123 0,.own (.cell 6) 6 4000606 126 0,.own (.cell 7) 3 4000703 70 0]])))) λ _=>ac (Bnl k a0 a1 v11)<|an
theorem Bmv (a0:(List Aa)) (a1:Int) (v11:(List Ai)):Ok k (Brp k a0 a1 v11) ⟨Ala,O0 a0 a1 v11,Ale a0 a1 v11⟩:=pz k (fz k Tryz.f63 G9 (λ y=> .inr (.inr (y.1,y.2.1,y.2.2.1))) λ y h=>h.2 (.inr (y.1,y.2.1,y.2.2.1)) rfl) (.g (.b (.g (.g (.g (.b (.g (.e [[]])) (.g (.g (.l (.c 0 [[]])))))))) (.c 1 [[]]))) λ _=>ac bk<|ac (xt Sum.inl λ _ h=>h)<|an
theorem Bn6 (a0:(List Aa)) (a1:Int) (v11:(List Ai)):Ok k (Ban k) ⟨Ala,O0 a0 a1 v11,λ v=>Option.bind (iter (Ale a0 a1 v11) v) (Sum.elim (Amu a0 a1 v11) (λ y=>some y))⟩:=lz k (Bmv k a0 a1 v11) (xs (Bk6 k a0 a1 v11) xr)
theorem Bn7 (a0:(List Aa)) (a1:Int) (a2:(List Ak)):Ok k (Ban k) ⟨Awl,Uv a0 a1 a2,Al1 a0 a1 a2⟩:=pz k Au (.g (.g (.l (.c 0 [[]])))) λ v=>ac (Bn6 k a0 a1 v.1)<|an
theorem Blp (a0:(List Aa)) (a1:Int) (a2:(List Ak)):Ok k (App k a0 a1 a2) ⟨Afh,Ln a0 a1 a2,Am9 a0 a1 a2⟩:=pz k Au (.g (.b (.g (.g (.l (.c 0 [[]])))) (.c 1 [[]]))) λ v=>ac (Boe k a0 a1 a2 v.1 v.2.1 v.2.2.1 v.2.2.2.1)<|ac (xt Sum.inl λ _ h=>h)<|an
theorem Bnr (a0:(List Aa)) (a1:Int) (a2:(List Ak)):Ok k (Ban k) ⟨Afh,Ln a0 a1 a2,λ v=>Option.bind (iter (Am9 a0 a1 a2) v) (Sum.elim (Al1 a0 a1 a2) (λ y=>some y))⟩:=lz k (Blp k a0 a1 a2) (xs (Bn7 k a0 a1 a2) xr)
end
theorem Ajg:MT 63 G9:=mz Cby 63 Tryz.f63 G9 [] (λ k=>(fz k Tryz.f63 G9 (λ y=>(y.1,y.2.1,y.2.2.1)) λ _ h=>h)) (.g (.g (.g (.b (.g (.e [[]])) (.g (.g (.g (.l (.c 0 [[]]))))))))) λ k x=>ac (Bnr k x.1 x.2.1 x.2.2.1)<|an
noncomputable def Id:FS yeE:=f2 [(.sl (.nm 9)),(.int .i64)] (.sl (.nm 17)) (.int .i64) λ x=>Xb x.1 x.2.1
theorem Cb6:GO (EV [(43,Fd),(45,Py),(63,G9),(91,T9)] [] false):=GB ⟨Jr,Aig,Ajg,Aum,trivial⟩ trivial
section
variable (k:Kt Cb6 C F 86 [])
noncomputable def Bdb:=c0 Tryz.f64
noncomputable def O2:=ct [0,0,0,0,1,4] Bdb
noncomputable def P0:=ct [0,3,0,0,1,4] O2
noncomputable def Ba2:=ct [0,3,0,0,0,0,3,4] P0
noncomputable def Ara:=ct [0,2,4] P0
noncomputable def Arn:=ct [0,2,4] O2
abbrev B5m (y:((List Cb)×Int)):Prop:=Ez k Tryz.f64 Id (y.1,y.2,())
abbrev Aof (a0:(List Aa)) (v1:(List Ai)) (v2:Int) (v3:Int):=Lz k P0 (Fn a0 v1 v2 v3) (Sum.elim (Gz k Ara (I8 a0 v1 v2 v3)) (B5m k))
abbrev Aas (a0:(List Aa)):=Lz k O2 (Fk a0) (Sum.elim (Gz k Arn Nb) (B5m k))
theorem A3y (a0:(List Aa)) (v1:(List Ai)) (v2:Int) (v3:Int):Ok k (Aof k a0 v1 v2 v3) ⟨Ba2,An1,Vk a0 v1 v2 v3⟩:=pz k (fz k Tryz.f64 Id (λ y=> .inr (.inr (y.1,y.2.1))) λ y h=>h.2 (.inr (y.1,y.2.1)) rfl) (.g (.e [[]])) λ _=>an
theorem A0t (a0:(List Aa)) (v1:(List Ai)) (v2:Int) (v3:Int):Ok k (Aas k a0) ⟨Ara,I8 a0 v1 v2 v3,Wi a0 v1 v2 v3⟩:=pz k Au (.g (.l (.c 0 [[]]))) λ _=>ac bk<|an
theorem A08 (a0:(List Aa)) (v1:(List Ai)) (v2:Int) (v3:Int):Ok k (Aof k a0 v1 v2 v3) ⟨P0,Fn a0 v1 v2 v3,W0 a0 v1 v2 v3⟩:=pz k Au (.g (.b (.g (.g (.g (.g (.b (.c 0 [[]]) (.g (.g (.l (.c 1 [[.re 82 82 0]]))))))))) (.c 2 [[]]))) λ _=>ac (A3y k a0 v1 v2 v3)<|ac bk<|ac (xt Sum.inl λ _ h=>h)<|an
theorem A03 (a0:(List Aa)) (v1:(List Ai)) (v2:Int) (v3:Int):Ok k (Aas k a0) ⟨P0,Fn a0 v1 v2 v3,λ v=>Option.bind (iter (W0 a0 v1 v2 v3) v) (Sum.elim (Wi a0 v1 v2 v3) (λ y=>some (.inr (.inr y))))⟩:=lz k (A08 k a0 v1 v2 v3) (xs (A0t k a0 v1 v2 v3) (xl (f:=λ y=>Sum.inr y)))
theorem A2h:Ok k (B5m k) ⟨Arn,Nb,Vl⟩:=pz k (fz k Tryz.f64 Id (λ y=>(y.1,y.2.1)) λ _ h=>h) (.g (.e [[.fix (.slot 4)]])) λ _=>an
theorem A3w (a0:(List Aa)):Ok k (Aas k a0) ⟨O2,Fk a0,Wg a0⟩:=pz k Au (.g (.b (.g (.g (.l (.c 0 [[]])))) (.c 1 [[]]))) λ v=>ac (A03 k a0 v.1 v.2.1 v.2.2.1)<|ac (xt Sum.inl λ _ h=>h)<|an
theorem A00 (a0:(List Aa)):Ok k (B5m k) ⟨O2,Fk a0,λ v=>Option.bind (iter (Wg a0) v) (Sum.elim Vl (λ y=>some y))⟩:=lz k (A3w k a0) (xs (A2h k) xr)
end
theorem Ahy:MT 64 Id:=mz Cb6 64 Tryz.f64 Id [] (λ k=>Au) (.g (.g (.g (.g (.l (.c 0 [[.own (.slot 6) 0 82 118 0]])))))) λ k x=>ac (A00 k x.1)<|an
abbrev A1y:List (Tk yeE):=[.S 0 true,.s 4,.S 1 false,.k (.ptr 1000001 0),.C 1000001,.v .str]
abbrev Az0:List (Tk yeE):=[.S 0 false,.v .bool,.C 1000001,.v .str]
noncomputable def Qb:FX yeE:=⟨A1y,Az0,(Bool×(List UInt8)),λ x=>Aex x.1 x.2.1,λ r=>(r.1,r.2,())⟩
theorem Ccu:GO (EX [] [] []):=GF trivial trivial trivial
section
variable (k:Kt Ccu C F 8 [])
end
theorem As8:MX 94 Qb:=mw Ccu 94 Tryz.f94 Qb [] (λ k=>(fx k Tryz.f94 Qb (λ y=>(y.1,y.2.1)) λ _ h=>h)) (.g (.g (.e [[]]))) λ k _=>an
abbrev Agu:List (Tk yeE):=[.S 0 false,.v (.sl (.nm 4)),.S 1 false,.k (.clo 94 [.ptr 1000001 0]),.C 1000001,.v .str]
abbrev Agk:List (Tk yeE):=[.S 0 false,.v (.int .i64),.C 1000001,.v .str]
noncomputable def C7:FX yeE:=⟨Agu,Agk,(Int×(List UInt8)),λ x=>G8 x.1 x.2.1,λ r=>(r.1,r.2,())⟩
theorem Bxf:GO (EX [] [(94,[],Qb)] []):=GF trivial ⟨As8,trivial⟩ trivial
section
variable (k:Kt Bxf C F 19 [])
noncomputable def Agt:=c0 Tryz.f68
noncomputable def Fs:=ct [0,0,1,4] Agt
noncomputable def Rd:=ct [0,2,4] Fs
abbrev Bm6 (y:(Int×(List UInt8))):Prop:=Ex k Tryz.f68 C7 (y.1,y.2,())
abbrev Aep (a0:(List Ax)):=Lz k Fs (Ch a0) (Sum.elim (Gz k Rd E3) (Bm6 k))
theorem Aca:Ok k (Bm6 k) ⟨Rd,E3,Fy⟩:=pz k (fx k Tryz.f68 C7 (λ y=>(y.1,y.2.1)) λ _ h=>h) (.g (.e [[]])) λ _=>an
theorem Ab2 (a0:(List Ax)):Ok k (Aep k a0) ⟨Fs,Ch a0,F5 a0⟩:=pz k (fx k Tryz.f68 C7 (λ y=> .inr (.inr (y.1,y.2.1))) λ y h=>h.2 (.inr (y.1,y.2.1)) rfl) (.g (.b (.g (.g (.b (.g (.e [[]])) (.g (.l (.c 0 [[]])))))) (.c 1 [[]]))) λ _=>ac bk<|ac (xt Sum.inl λ _ h=>h)<|an
theorem Adu (a0:(List Ax)):Ok k (Bm6 k) ⟨Fs,Ch a0,λ v=>Option.bind (iter (F5 a0) v) (Sum.elim Fy (λ y=>some y))⟩:=lz k (Ab2 k a0) (xs (Aca k) xr)
end
theorem Aap:MX 68 C7:=mw Bxf 68 Tryz.f68 C7 [] (λ k=>Au) (.g (.g (.l (.c 0 [[]])))) λ k x=>ac (Adu k x.1)<|an
abbrev Ajl:List (Tk yeE):=[.S 0 false,.v (.sl (.nm 9)),.S 1 false,.v (.int .i64),.S 2 false,.v (.int .i64),.S 3 false,.k (.mp 1000001),.M 1000001 (.nm 19) .bool]
abbrev Apb:List (Tk yeE):=[.S 0 false,.v .bool,.S 1 false,.v (.int .i64),.M 1000001 (.nm 19) .bool]
noncomputable def Cy (R:A0):FX yeE:=⟨Ajl,Apb,(Bool×Int×(List (D6×Bool))),λ x=>R x.1 x.2.1 x.2.2.1 x.2.2.2.1,λ r=>(r.1,r.2.1,r.2.2,())⟩
abbrev A6i:List (Tk yeE):=[.S 0 false,.v (.sl (.nm 9)),.S 1 false,.v .str,.S 2 false,.v .str]
abbrev A2n:List (Tk yeE):=[.S 0 false,.v .bool]
noncomputable def Td (R:A0):FX yeE:=⟨A6i,A2n,Bool,λ x=>Aja R x.1 x.2.1 x.2.2.1,λ r=>(r,())⟩
noncomputable abbrev Cbs (R:A0):Env:=EX [(41,Hp)] [(40,[],(Cy R))] []
theorem Ccv {R:A0} (hR:MX 40 (Cy R)):GO (Cbs R):=GF ⟨I3,trivial⟩ ⟨hR,trivial⟩ trivial
section
variable {R:A0} {G:GO (Cbs R)} (k:Kt G C F 26 [])
end
theorem Avm {R:A0} (hR:MX 40 (Cy R)):MX 95 (Td R):=mw (Ccv hR) 95 Tryz.f95 (Td R) [] (λ k=>(fx k Tryz.f95 (Td R) (λ y=>y.1) λ _ h=>h)) (.g (.g (.g (.e [[]])))) λ k _=>an
end
end Go.Ab
