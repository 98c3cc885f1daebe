/- The functions compute what the plain functions tell. Conditions: none beyond those that each theorem names. -/
import Derived.Test.YtgngflkahbpecaaGreatDoorP26
namespace Go.Ab
open Go Go.Proofs
set_option linter.unusedVariables false
section
variable {P:Program} {C:Ctx} {F:FT}
noncomputable def Dr:FS yeE:=f1 [(.sl (.nm 9))] (.int .i64) λ x=>Qb x.1
theorem Cbe:GO (EV [(90,Eh)] [] false):=GB ⟨Avf,trivial⟩ trivial
section
variable (k:Kt Cbe C F 45 [])
noncomputable def Avn:=c0 Tryz.f62
noncomputable def Lx:=ct [0,0,2,0,1,4] Avn
noncomputable def T1:=ct [0,2,4] Lx
noncomputable def Ie:=ct [0,1,4] T1
noncomputable def Mq:=ct [0,3,0,0,1,4] Ie
noncomputable def Afy:=ct [0,2,4] Mq
noncomputable def Agl:=ct [0,2,4] Ie
abbrev Bt2 (y:Int):Prop:=Ez k Tryz.f62 Dr (y,())
abbrev Atf (a0:(List Aa)) (v2:Int):=Lz k Mq (D8 a0 v2) (Sum.elim (Gz k Afy (Hk a0 v2)) (Bt2 k))
abbrev Rf (a0:(List Aa)):=Lz k Ie (Dk a0) (Sum.elim (Gz k Agl Hn) (Bt2 k))
abbrev Atd (a0:(List Aa)):=Lz k Lx (D5 a0) (Sum.elim (Gz k T1 (Hj a0)) (Bt2 k))
theorem Arj (a0:(List Aa)) (v2:Int):Ok k (Rf k a0) ⟨Afy,Hk a0 v2,L3 a0 v2⟩:=pz k Au (.g (.l (.c 0 [[]]))) λ _=>ac bk<|an
theorem Apj (a0:(List Aa)) (v2:Int):Ok k (Atf k a0 v2) ⟨Mq,D8 a0 v2,Ly a0 v2⟩:=pz k (fz k Tryz.f62 Dr (λ y=> .inr (.inr y.1)) λ y h=>h.2 (.inr y.1) rfl) (.g (.b (.g (.g (.b (.g (.e [[]])) (.g (.l (.c 0 [[]])))))) (.c 1 [[]]))) λ _=>ac bk<|ac (xt Sum.inl λ _ h=>h)<|an
theorem Ara (a0:(List Aa)) (v2:Int):Ok k (Rf k a0) ⟨Mq,D8 a0 v2,λ v=>Option.bind (iter (Ly a0 v2) v) (Sum.elim (L3 a0 v2) (λ y=>some (.inr (.inr y))))⟩:=lz k (Apj k a0 v2) (xs (Arj k a0 v2) (xl (f:=λ y=>Sum.inr y)))
theorem Arr:Ok k (Bt2 k) ⟨Agl,Hn,Ms⟩:=pz k (fz k Tryz.f62 Dr (λ y=>y.1) λ _ h=>h) (.g (.e [[]])) λ _=>an
theorem Aqe (a0:(List Aa)):Ok k (Rf k a0) ⟨Ie,Dk a0,Lr a0⟩:=pz k Au (.g (.b (.g (.g (.l (.c 0 [[]])))) (.c 1 [[]]))) λ v=>ac (Ara k a0 v.1)<|ac (xt Sum.inl λ _ h=>h)<|an
theorem Aqn (a0:(List Aa)):Ok k (Bt2 k) ⟨Ie,Dk a0,λ v=>Option.bind (iter (Lr a0) v) (Sum.elim Ms (λ y=>some y))⟩:=lz k (Aqe k a0) (xs (Arr k) xr)
theorem Arp (a0:(List Aa)):Ok k (Bt2 k) ⟨T1,Hj a0,Lp a0⟩:=pz k Au (.g (.l (.c 0 [[]]))) λ _=>ac (Aqn k a0)<|an
theorem Arc (a0:(List Aa)):Ok k (Atd k a0) ⟨Lx,D5 a0,L9 a0⟩:=pz k (fz k Tryz.f62 Dr (λ y=> .inr (.inr y.1)) λ y h=>h.2 (.inr y.1) rfl) (.g (.b (.g (.g (.g (.b (.g (.e [[]])) (.g (.l (.c 0 [[]]))))))) (.c 1 [[]]))) λ _=>ac bk<|ac (xt Sum.inl λ _ h=>h)<|an
theorem Aqf (a0:(List Aa)):Ok k (Bt2 k) ⟨Lx,D5 a0,λ v=>Option.bind (iter (L9 a0) v) (Sum.elim (Lp a0) (λ y=>some y))⟩:=lz k (Arc k a0) (xs (Arp k a0) xr)
end
theorem Ao3:MT 62 Dr:=mz Cbe 62 Tryz.f62 Dr [] (λ k=>(fz k Tryz.f62 Dr (λ y=>y.1) λ _ h=>h)) (.g (.g (.b (.g (.e [[]])) (.g (.l (.c 0 [[]])))))) λ k x=>ac (Aqf k x.1)<|an
noncomputable def Jm:FS yeE:=f1 [(.sl (.nm 9)),(.sl .str)] (.int .i64) λ x=>Aes x.1 x.2.1
theorem Cay:GO (EV [(41,Hq),(62,Dr)] [] false):=GB ⟨I3,Ao3,trivial⟩ trivial
section
variable (k:Kt Cay C F 24 [])
noncomputable def Bnr:=c0 Tryz.f32
noncomputable def Ada:=ct [0,0,0,2,0,1,4] Bnr
noncomputable def Axc:=ct [0,2,4] Ada
abbrev B96 (y:Int):Prop:=Ez k Tryz.f32 Jm (y,())
abbrev Bf9 (a0:(List Aa)) (a1:(List (List UInt8))):=Lz k Ada (Jv a0 a1) (Sum.elim (Gz k Axc Y8) (B96 k))
theorem Bae:Ok k (B96 k) ⟨Axc,Y8,Adw⟩:=pz k (fz k Tryz.f32 Jm (λ y=>y.1) λ _ h=>h) (.g (.e [[]])) λ _=>an
theorem Bcr (a0:(List Aa)) (a1:(List (List UInt8))):Ok k (Bf9 k a0 a1) ⟨Ada,Jv a0 a1,Adr a0 a1⟩:=pz k (fz k Tryz.f32 Jm (λ y=> .inr (.inr y.1)) λ y h=>h.2 (.inr y.1) rfl) (.g (.b (.g (.g (.b (.g (.e [[]])) (.g (.l (.c 0 [[]])))))) (.c 1 [[]]))) λ _=>ac bk<|ac (xt Sum.inl λ _ h=>h)<|an
theorem Bd4 (a0:(List Aa)) (a1:(List (List UInt8))):Ok k (B96 k) ⟨Ada,Jv a0 a1,λ v=>Option.bind (iter (Adr a0 a1) v) (Sum.elim Adw (λ y=>some y))⟩:=lz k (Bcr k a0 a1) (xs (Bae k) xr)
end
theorem An9:MT 32 Jm:=mz Cay 32 Tryz.f32 Jm [] (λ k=>(fz k Tryz.f32 Jm (λ y=>y.1) λ _ h=>h)) (.g (.g (.g (.b (.g (.e [[]])) (.g (.l (.c 0 [[]]))))))) λ k x=>ac (Bd4 k x.1 x.2.1)<|an
noncomputable def Cj:FS yeE:=f1 [.str,(.int .u8)] (.int .i64) λ x=>Ij x.1 x.2.1
theorem B7x:GO (EV [] [] false):=GB trivial trivial
section
variable (k:Kt B7x C F 19 [])
noncomputable def Aap:=c0 Tryz.f106
noncomputable def Eg:=ct [0,0,1,4] Aap
noncomputable def M7:=ct [0,2,4] Eg
abbrev B2w (y:Int):Prop:=Ez k Tryz.f106 Cj (y,())
abbrev Z9 (a0:(List UInt8)) (a1:Int):=Lz k Eg (B4 a0 a1) (Sum.elim (Gz k M7 D9) (B2w k))
theorem Xo:Ok k (B2w k) ⟨M7,D9,Ek⟩:=pz k (fz k Tryz.f106 Cj (λ y=>y.1) λ _ h=>h) (.g (.e [[]])) λ _=>an
theorem X3 (a0:(List UInt8)) (a1:Int):Ok k (Z9 k a0 a1) ⟨Eg,B4 a0 a1,El a0 a1⟩:=pz k (fz k Tryz.f106 Cj (λ y=> .inr (.inr y.1)) λ y h=>h.2 (.inr y.1) rfl) (.g (.b (.g (.b (.g (.e [[]])) (.g (.l (.c 0 [[]]))))) (.c 1 [[]]))) λ _=>ac bk<|ac (xt Sum.inl λ _ h=>h)<|an
theorem Xv (a0:(List UInt8)) (a1:Int):Ok k (B2w k) ⟨Eg,B4 a0 a1,λ v=>Option.bind (iter (El a0 a1) v) (Sum.elim Ek (λ y=>some y))⟩:=lz k (X3 k a0 a1) (xs (Xo k) xr)
end
theorem Xj:MT 106 Cj:=mz B7x 106 Tryz.f106 Cj [] (λ k=>Au) (.g (.g (.l (.c 0 [[]])))) λ k x=>ac (Xv k x.1 x.2.1)<|an
noncomputable def Hs:FS yeE:=f1 [.str,(.int .u8)] (.int .i64) λ x=>Je x.1 x.2.1
theorem Cbx:GO (EV [(106,Cj)] [] false):=GB ⟨Xj,trivial⟩ trivial
section
variable (k:Kt Cbx C F 8 [])
end
theorem Agu:MT 74 Hs:=mz Cbx 74 Tryz.f74 Hs [] (λ k=>(fz k Tryz.f74 Hs (λ y=>y.1) λ _ h=>h)) (.g (.g (.e [[]]))) λ k _=>an
noncomputable def E6:FS yeE:=f1 [(.sl (.nm 9)),.str,.str] (.int .i64) λ x=>Dy x.1 x.2.1 x.2.2.1
theorem Cbw:GO (EV [(41,Hq),(74,Hs)] [] false):=GB ⟨I3,Agu,trivial⟩ trivial
section
variable (k:Kt Cbw C F 28 [])
noncomputable def Be4:=c0 Tryz.f43
noncomputable def Aff:=ct [0,1,4] Be4
abbrev Ca5 (y:Int):Prop:=Ez k Tryz.f43 E6 (y,())
abbrev A63 (a0:(List Aa)) (a2:(List UInt8)):=Lz k Aff (Hg a0 a2) (Ca5 k)
theorem A08 (a0:(List Aa)) (a2:(List UInt8)):Ok k (A63 k a0 a2) ⟨Aff,Hg a0 a2,Xe a0 a2⟩:=pz k (fz k Tryz.f43 E6 (λ y=> .inr y.1) λ y h=>h.2 y.1 rfl) (.g (.g (.b (.g (.e [[]])) (.g (.g (.b (.g (.e [[]])) (.g (.l (.c 0 [[]]))))))))) λ _=>ac bk<|an
theorem A0j (a0:(List Aa)) (a2:(List UInt8)):Ok k (Ca5 k) ⟨Aff,Hg a0 a2,λ v=>Option.bind (iter (Xe a0 a2) v) (λ y=>some y)⟩:=lz k (A08 k a0 a2) xr
end
theorem Jd:MT 43 E6:=mz Cbw 43 Tryz.f43 E6 [] (λ k=>Au) (.g (.l (.c 0 [[]]))) λ k x=>ac (A0j k x.1 x.2.2.1)<|an
noncomputable def D0:FS yeE:=f1 [(.sl (.int .i64)),(.int .i64)] (.int .i64) λ x=>Ot x.1 x.2.1
theorem B68:GO (EV [] [] false):=GB trivial trivial
section
variable (k:Kt B68 C F 19 [])
noncomputable def Alm:=c0 Tryz.f131
noncomputable def Ht:=ct [0,0,1,4] Alm
noncomputable def Vu:=ct [0,2,4] Ht
abbrev B00 (y:Int):Prop:=Ez k Tryz.f131 D0 (y,())
abbrev Akz (a0:(List Int)) (a1:Int):=Lz k Ht (Ct a0 a1) (Sum.elim (Gz k Vu G5) (B00 k))
theorem Aje:Ok k (B00 k) ⟨Vu,G5,Hu⟩:=pz k (fz k Tryz.f131 D0 (λ y=>y.1) λ _ h=>h) (.g (.e [[]])) λ _=>an
theorem Ai5 (a0:(List Int)) (a1:Int):Ok k (Akz k a0 a1) ⟨Ht,Ct a0 a1,Hv a0 a1⟩:=pz k (fz k Tryz.f131 D0 (λ y=> .inr (.inr y.1)) λ y h=>h.2 (.inr y.1) rfl) (.g (.b (.g (.g (.b (.g (.e [[]])) (.g (.l (.c 0 [[]])))))) (.c 1 [[]]))) λ _=>ac bk<|ac (xt Sum.inl λ _ h=>h)<|an
theorem Ajb (a0:(List Int)) (a1:Int):Ok k (B00 k) ⟨Ht,Ct a0 a1,λ v=>Option.bind (iter (Hv a0 a1) v) (Sum.elim Hu (λ y=>some y))⟩:=lz k (Ai5 k a0 a1) (xs (Aje k) xr)
end
theorem Agn:MT 131 D0:=mz B68 131 Tryz.f131 D0 [] (λ k=>Au) (.g (.g (.l (.c 0 [[]])))) λ k x=>ac (Ajb k x.1 x.2.1)<|an
noncomputable def D1:FS yeE:=f1 [(.sl (.int .i64)),(.int .i64)] .bool λ x=>Et x.1 x.2.1
theorem B7f:GO (EV [(131,D0)] [] false):=GB ⟨Agn,trivial⟩ trivial
section
variable (k:Kt B7f C F 9 [])
end
theorem Nb:MT 107 D1:=mz B7f 107 Tryz.f107 D1 [] (λ k=>(fz k Tryz.f107 D1 (λ y=>y.1) λ _ h=>h)) (.g (.g (.e [[]]))) λ k _=>an
abbrev Aqh:List (Tk yeE):=[.S 0 false,.v (.sl (.nm 9)),.S 1 true,.s 18,.S 2 false,.v (.sl (.int .i64)),.S 3 false,.k (.mp 1000001),.S 4 false,.k (.ar 1000002 0),.M 1000001 (.int .i64) .bool,.A 1000002 84 (.nm 18) 0 false]
abbrev Ay1:List (Tk yeE):=[.S 0 false,.k (.ar 1000002 0),.S 1 false,.v (.int .i64),.M 1000001 (.int .i64) .bool,.A 1000002 84 (.nm 18) 0 false]
noncomputable def Aag (R:Gv):FX yeE:=⟨Aqh,Ay1,(Int×(List (Int×Bool))×(List Ai)),λ x=>R x.1 x.2.1 x.2.2.1 x.2.2.2.1 x.2.2.2.2.1,λ r=>(r.1,r.2.1,r.2.2,())⟩
noncomputable def B0a (R:Gv):FX yeE:=⟨Aqh,Ay1,(Int×(List (Int×Bool))×(List Ai)),λ x=>Av6 R x.1 x.2.1 x.2.2.1 x.2.2.2.1 x.2.2.2.2.1,λ r=>(r.1,r.2.1,r.2.2,())⟩
noncomputable abbrev Ccl (R:Gv):Env:=EX [(43,E6),(107,D1),(108,Mb)] [(75,[],(Aag R))] []
theorem Ccv {R:Gv} (hR:MX 75 (Aag R)):GO (Ccl R):=GF ⟨Jd,Nb,Q6,trivial⟩ ⟨hR,trivial⟩ trivial
section
variable {R:Gv} {G:GO (Ccl R)} (k:Kt G C F 79 [])
noncomputable def Bmm:=c0 Tryz.f75
noncomputable def Ab8:=ct [0,0,2,0,2,0,0,1,4] Bmm
noncomputable def Ayr:=ct [0,2,4] Ab8
abbrev B9q (y:(Int×(List (Int×Bool))×(List Ai))):Prop:=Ex k Tryz.f75 (B0a R) (y.1,y.2.1,y.2.2,())
abbrev Bgs (a0:(List Aa)) (a1:Ai):=Lz k Ab8 (Jy a0 a1) (Sum.elim (Gz k Ayr (Rr a1)) (B9q k))
theorem A9d (a1:Ai):Ok k (B9q k) ⟨Ayr,Rr a1,Adz R a1⟩:=pz k (fx k Tryz.f75 (B0a R) (λ y=>(y.1,y.2.1,y.2.2.1)) λ _ h=>h) (.g (.g (.e [[.re 1000002 1000002 0]]))) λ _=>an
theorem Bcx (a0:(List Aa)) (a1:Ai):Ok k (Bgs k a0 a1) ⟨Ab8,Jy a0 a1,Acy R a0 a1⟩:=pz k (fx k Tryz.f75 (B0a R) (λ y=> .inr (.inr (y.1,y.2.1,y.2.2.1))) λ y h=>h.2 (.inr (y.1,y.2.1,y.2.2.1)) rfl) (.g (.b (.g (.g (.g (.b (.g (.e [[.keep [10,11,1000000] [1000001],.own (.slot 10) 0 1000002 84 0]])) (.g (.g (.g (.b (.g (.e [[.keep [10,11,1000000] [1000001],.own (.slot 10) 0 1000002 84 0]])) (.g (.l (.c 0 [[.re 1000002 1000002 0]]))))))))))) (.c 1 [[]]))) λ _=>ac bk<|ac (xt Sum.inl λ _ h=>h)<|an
theorem Bad (a0:(List Aa)) (a1:Ai):Ok k (B9q k) ⟨Ab8,Jy a0 a1,λ v=>Option.bind (iter (Acy R a0 a1) v) (Sum.elim (Adz R a1) (λ y=>some y))⟩:=lz k (Bcx k a0 a1) (xs (A9d k a1) xr)
end
theorem A6r {R:Gv} (hR:MX 75 (Aag R)):MX 75 (B0a R):=mw (Ccv hR) 75 Tryz.f75 (B0a R) [] (λ k=>(fx k Tryz.f75 (B0a R) (λ y=>(y.1,y.2.1,y.2.2.1)) λ _ h=>h)) (.g (.g (.b (.g (.e [[.keep [10,11,1000000] [1000001],.own (.slot 10) 0 1000002 84 0]])) (.g (.b (.g (.e [[]])) (.g (.g (.l (.c 0 [[.fix (.slot 2)]]))))))))) λ k x=>ac (Bad k x.1 x.2.1)<|an
theorem A0b:∀k,MX 75 (Aag (Uv k))
 |0=>m0x (fn:=Tryz.f75) λ _=>rfl
 |k+1=>A6r (A0b k)
noncomputable def A41:FX yeE:=Aag Asu
theorem Bdq:MX 75 A41:=A3t (T:=yeT) (ins:=Aqh) (λ R x=>R x.1 x.2.1 x.2.2.1 x.2.2.2.1 x.2.2.2.2.1) Uv Asu (λ x=>(λ (a0:(List Aa))=>List.length a0+2) x.1) A0b λ _=>rfl
abbrev Bkw:List (Tk yeE):=[.S 0 false,.v (.sl (.nm 9)),.S 1 true,.s 18,.S 2 false,.v (.sl (.int .i64)),.S 3 false,.k (.mp 1000001),.S 4 false,.k (.sl (.nm 18) true []),.M 1000001 (.int .i64) .bool]
abbrev Bia:List (Tk yeE):=[.S 0 false,.k (.ar 1000002 0),.S 1 false,.v (.int .i64),.M 1000001 (.int .i64) .bool,.A 1000002 84 (.nm 18) 0 false]
noncomputable def Lq:FX yeE:=⟨Bkw,Bia,(Int×(List (Int×Bool))×(List Ai)),λ x=>Avl x.1 x.2.1 x.2.2.1 x.2.2.2.1,λ r=>(r.1,r.2.1,r.2.2,())⟩
theorem B2n:GO (EX [(43,E6),(107,D1),(108,Mb)] [(75,[],A41)] []):=GF ⟨Jd,Nb,Q6,trivial⟩ ⟨Bdq,trivial⟩ trivial
section
variable (k:Kt B2n C F 79 [])
noncomputable def Boe:=c0 Tryz.f75
noncomputable def Abz:=ct [0,0,2,0,2,0,0,1,4] Boe
noncomputable def Azp:=ct [0,2,4] Abz
abbrev Buf (y:(Int×(List (Int×Bool))×(List Ai))):Prop:=Ex k Tryz.f75 Lq (y.1,y.2.1,y.2.2,())
abbrev Bhi (a0:(List Aa)) (a1:Ai):=Lz k Abz (J4 a0 a1) (Sum.elim (Gz k Azp (Sr a1)) (Buf k))
theorem Bb1 (a1:Ai):Ok k (Buf k) ⟨Azp,Sr a1,Adj a1⟩:=pz k (fx k Tryz.f75 Lq (λ y=>(y.1,y.2.1,y.2.2.1)) λ _ h=>h) (.g (.g (.e [[.re 270336 1000002 0]]))) λ _=>an
theorem Bcg (a0:(List Aa)) (a1:Ai):Ok k (Bhi k a0 a1) ⟨Abz,J4 a0 a1,Adn a0 a1⟩:=pz k (fx k Tryz.f75 Lq (λ y=> .inr (.inr (y.1,y.2.1,y.2.2.1))) λ y h=>h.2 (.inr (y.1,y.2.1,y.2.2.1)) rfl) (.g (.b (.g (.g (.g (.b (.g (.e [[.own (.slot 10) 0 1000002 84 0]])) (.g (.g (.g (.b (.g (.e [[.own (.slot 10) 0 1000002 84 0]])) (.g (.l (.c 0 [[.re 270336 270336 0]]))))))))))) (.c 1 [[]]))) λ _=>ac bk<|ac (xt Sum.inl λ _ h=>h)<|an
theorem A9f (a0:(List Aa)) (a1:Ai):Ok k (Buf k) ⟨Abz,J4 a0 a1,λ v=>Option.bind (iter (Adn a0 a1) v) (Sum.elim (Adj a1) (λ y=>some y))⟩:=lz k (Bcg k a0 a1) (xs (Bb1 k a1) xr)
end
theorem A7w:MX 75 Lq:=mw B2n 75 Tryz.f75 Lq [] (λ k=>(fx k Tryz.f75 Lq (λ y=>(y.1,y.2.1,y.2.2.1)) λ _ h=>h)) (.g (.g (.b (.g (.e [[.own (.slot 10) 0 1000002 84 0]])) (.g (.b (.g (.e [[.own (.slot 10) 0 1000002 84 0]])) (.g (.g (.l (.c 0 [[.fix (.slot 2),.own (.slot 4) 0 270336 84 0]]))))))))) λ k x=>ac (A9f k x.1 x.2.1)<|an
noncomputable def Pd:FS yeE:=f2 [(.sl (.nm 9)),(.int .i64)] (.sl (.nm 18)) (.int .i64) λ x=>Xc x.1 x.2.1
theorem Cbb:GO (EX [] [(75,[],Lq)] []):=GF trivial ⟨A7w,trivial⟩ trivial
section
variable (k:Kt Cbb C F 13 [])
end
theorem Ah5:MT 45 Pd:=mz Cbb 45 Tryz.f45 Pd [] (λ k=>(fz k Tryz.f45 Pd (λ y=>(y.1,y.2.1)) λ _ h=>h)) (.g (.g (.e [[.fix (.slot 4)]]))) λ k _=>an
abbrev Bda:List (Tk yeE):=[.S 0 true,.s 2,.S 1 false,.k (.ptr 1000001 0),.C 1000001,.s 2]
abbrev A64:List (Tk yeE):=[.S 0 false,.v .bool,.C 1000001,.s 2]
noncomputable def W9:FX yeE:=⟨Bda,A64,(Bool×Ak),λ x=>Am9 x.1 x.2.1,λ r=>(r.1,r.2,())⟩
theorem Ccf:GO (EX [] [] []):=GF trivial trivial trivial
section
variable (k:Kt Ccf C F 9 [])
end
theorem Axs:MX 86 W9:=mw Ccf 86 Tryz.f86 W9 [] (λ k=>(fx k Tryz.f86 W9 (λ y=>(y.1,y.2.1)) λ _ h=>h)) (.g (.g (.e [[]]))) λ k _=>an
abbrev Agv:List (Tk yeE):=[.S 0 false,.v (.sl (.nm 2)),.S 1 false,.k (.clo 86 [.ptr 1000001 0]),.C 1000001,.s 2]
abbrev Af9:List (Tk yeE):=[.S 0 false,.v (.int .i64),.C 1000001,.s 2]
noncomputable def C3:FX yeE:=⟨Agv,Af9,(Int×Ak),λ x=>G7 x.1 x.2.1,λ r=>(r.1,r.2,())⟩
theorem Bxi:GO (EX [] [(86,[],W9)] []):=GF trivial ⟨Axs,trivial⟩ trivial
section
variable (k:Kt Bxi C F 19 [])
noncomputable def Agz:=c0 Tryz.f85
noncomputable def Fw:=ct [0,0,1,4] Agz
noncomputable def Rb:=ct [0,2,4] Fw
abbrev Bni (y:(Int×Ak)):Prop:=Ex k Tryz.f85 C3 (y.1,y.2,())
abbrev Afu (a0:(List Ak)):=Lz k Fw (Cg a0) (Sum.elim (Gz k Rb Fa) (Bni k))
theorem Ac7:Ok k (Bni k) ⟨Rb,Fa,F5⟩:=pz k (fx k Tryz.f85 C3 (λ y=>(y.1,y.2.1)) λ _ h=>h) (.g (.e [[]])) λ _=>an
theorem Adq (a0:(List Ak)):Ok k (Afu k a0) ⟨Fw,Cg a0,Ft a0⟩:=pz k (fx k Tryz.f85 C3 (λ y=> .inr (.inr (y.1,y.2.1))) λ y h=>h.2 (.inr (y.1,y.2.1)) rfl) (.g (.b (.g (.g (.b (.g (.e [[]])) (.g (.l (.c 0 [[]])))))) (.c 1 [[]]))) λ _=>ac bk<|ac (xt Sum.inl λ _ h=>h)<|an
theorem Acb (a0:(List Ak)):Ok k (Bni k) ⟨Fw,Cg a0,λ v=>Option.bind (iter (Ft a0) v) (Sum.elim F5 (λ y=>some y))⟩:=lz k (Adq k a0) (xs (Ac7 k) xr)
end
theorem Aai:MX 85 C3:=mw Bxi 85 Tryz.f85 C3 [] (λ k=>Au) (.g (.g (.l (.c 0 [[]])))) λ k x=>ac (Acb k x.1)<|an
noncomputable def K8:FS yeE:=f1 [(.sl (.nm 2)),(.sl (.nm 2))] (.sl (.nm 2)) λ x=>Wx x.1 x.2.1
theorem Caw:GO (EX [] [(85,[86],C3)] []):=GF trivial ⟨Aai,trivial⟩ trivial
section
variable (k:Kt Caw C F 53 [])
noncomputable def Bfx:=c0 Tryz.f56
noncomputable def Pf:=ct [0,0,0,0,1,4] Bfx
noncomputable def A96:=ct [0,3,0,0,0,3,0,0,4] Pf
noncomputable def Ae4:=ct [0,2,4] Pf
noncomputable def Pe:=ct [0,1,4] Ae4
noncomputable def Ba3:=ct [0,3,0,0,3,0,4] Pe
noncomputable def Aqb:=ct [0,2,4] Pe
abbrev B51 (y:(List Ak)):Prop:=Ez k Tryz.f56 K8 (y,())
abbrev Aoe (a0:(List Ak)):=Lz k Pe (Fk a0) (Gz k Aqb Nh)
abbrev An4 (a0:(List Ak)) (a1:(List Ak)):=Lz k Pf (Fm a0 a1) (Gz k Ae4 (Iy a0))
theorem A0w (a0:(List Ak)) (a1:(List Ak)) (v1:Int):Ok k (An4 k a0 a1) ⟨A96,Ta a0 a1 v1,W4 a0 a1 v1⟩:=pz k Au (.g (.g (.l (.c 0 [[.re 34 34 0]])))) λ _=>ac bk<|an
theorem A3i (a0:(List Ak)) (v9:Int):Ok k (Aoe k a0) ⟨Ba3,Tr a0 v9,Wb a0 v9⟩:=pz k Au (.g (.l (.c 0 [[]]))) λ _=>ac bk<|an
theorem A1y:Ok k (B51 k) ⟨Aqb,Nh,Xh⟩:=pz k (fz k Tryz.f56 K8 (λ y=>y.1) λ _ h=>h) (.g (.e [[.fix (.slot 4)]])) λ _=>an
theorem A1m (a0:(List Ak)):Ok k (Aoe k a0) ⟨Pe,Fk a0,Ww a0⟩:=pz k Au (.g (.b (.g (.g (.b (.g (.c 0 [[.re 34 34 0]])) (.c 0 [[]])))) (.c 1 [[]]))) λ v=>ac (A3i k a0 v.1)<|ac (xt id λ _ h=>h)<|an
theorem A32 (a0:(List Ak)):Ok k (B51 k) ⟨Pe,Fk a0,λ v=>Option.bind (iter (Ww a0) v) Xh⟩:=lz k (A1m k a0) (A1y k)
theorem A03 (a0:(List Ak)):Ok k (B51 k) ⟨Ae4,Iy a0,U9 a0⟩:=pz k Au (.g (.l (.c 0 [[]]))) λ _=>ac (A32 k a0)<|an
theorem A1c (a0:(List Ak)) (a1:(List Ak)):Ok k (An4 k a0 a1) ⟨Pf,Fm a0 a1,V8 a0 a1⟩:=pz k Au (.g (.b (.g (.g (.g (.b (.g (.g (.c 0 [[]]))) (.c 0 [[]]))))) (.c 1 [[]]))) λ v=>ac (A0w k a0 a1 v.1)<|ac (xt id λ _ h=>h)<|an
theorem A1z (a0:(List Ak)) (a1:(List Ak)):Ok k (B51 k) ⟨Pf,Fm a0 a1,λ v=>Option.bind (iter (V8 a0 a1) v) (U9 a0)⟩:=lz k (A1c k a0 a1) (A03 k a0)
end
theorem Ahl:MT 56 K8:=mz Caw 56 Tryz.f56 K8 [] (λ k=>Au) (.g (.g (.g (.g (.l (.c 0 [[.own (.slot 5) 0 34 75 0]])))))) λ k x=>ac (A1z k x.1 x.2.1)<|an
noncomputable def Y6:FS yeE:=f1 [(.nm 1)] (.nm 1) λ x=>Are x.1
theorem B6y:GO (EV [] [] false):=GB trivial trivial
section
variable (k:Kt B6y C F 5 [])
end
theorem A1v:MT 120 Y6:=mz B6y 120 Tryz.f120 Y6 [] (λ k=>(fz k Tryz.f120 Y6 (λ y=>y.1) λ _ h=>h)) (.g (.g (.g (.e [[]])))) λ k _=>an
abbrev Aa1:List (Tk yeE):=[.S 0 true,.s 1,.S 1 false,.k (.clo 120 [])]
abbrev Akk:List (Tk yeE):=[.S 0 true,.s 1]
noncomputable def Nj (R:Dc):FX yeE:=⟨Aa1,Akk,Am,λ x=>R x.1,λ r=>(r,())⟩
noncomputable def Aj7 (R:Dc):FX yeE:=⟨Aa1,Akk,Am,λ x=>Aeu R x.1,λ r=>(r,())⟩
noncomputable abbrev Bkj (R:Dc):Env:=EX [(120,Y6)] [(119,[120],(Nj R))] []
theorem Bym {R:Dc} (hR:MX 119 (Nj R)):GO (Bkj R):=GF ⟨A1v,trivial⟩ ⟨hR,trivial⟩ trivial
section
variable {R:Dc} {G:GO (Bkj R)} (k:Kt G C F 34 [])
noncomputable def A28:=c0 Tryz.f119
noncomputable def Qq:=ct [0,0,2,0,0,0,1,4] A28
noncomputable def Ak7:=ct [0,2,4] Qq
abbrev Bj7 (y:Am):Prop:=Ex k Tryz.f119 (Aj7 R) (y,())
abbrev Awr (a0:Am):=Lz k Qq (Fc a0) (Gz k Ak7 (Jp a0))
theorem Awf (a0:Am):Ok k (Bj7 k) ⟨Ak7,Jp a0,Q2 R a0⟩:=pz k (fx k Tryz.f119 (Aj7 R) (λ y=>y.1) λ _ h=>h) (.g (.e [[.fix (.cell 4)]])) λ _=>an
theorem Avc (a0:Am):Ok k (Awr k a0) ⟨Qq,Fc a0,Q4 R a0⟩:=pz k Au (.g (.b (.g (.g (.g (.l (.c 0 [[.re 4000504 4000504 0]]))))) (.c 1 [[]]))) λ _=>ac bk<|ac (xt id λ _ h=>h)<|an
theorem Auw (a0:Am):Ok k (Bj7 k) ⟨Qq,Fc a0,λ v=>Option.bind (iter (Q4 R a0) v) (Q2 R a0)⟩:=lz k (Avc k a0) (Awf k a0)
end
theorem Ata {R:Dc} (hR:MX 119 (Nj R)):MX 119 (Aj7 R):=mw (Bym hR) 119 Tryz.f119 (Aj7 R) [] (λ k=>(fx k Tryz.f119 (Aj7 R) (λ y=>y.1) λ _ h=>h)) (.g (.g (.b (.g (.e [[]])) (.g (.g (.w [.own (.cell 5) 4 4000504 68 0] (.g (.l (.c 0 [[.st (.cell 4)]]))))))))) λ k x=>ac (Auw k x.1)<|an
theorem Aju:∀k,MX 119 (Nj (Ix k))
 |0=>m0x (fn:=Tryz.f119) λ _=>rfl
 |k+1=>Ata (Aju k)
noncomputable def Aoh:FX yeE:=Nj Y4
theorem Au8:MX 119 Aoh:=A3t (T:=yeT) (ins:=Aa1) (λ R x=>R x.1) Ix Y4 (λ x=>(λ (a0:Am)=>SizeOf.sizeOf a0+1) x.1) Aju λ _=>rfl
noncomputable def Z8:FS yeE:=f1 [(.nm 1)] (.nm 1) λ x=>N1 x.1
theorem Cb4:GO (EX [] [(119,[120],Aoh)] []):=GF trivial ⟨Au8,trivial⟩ trivial
section
variable (k:Kt Cb4 C F 5 [])
end
theorem Aqt:MT 87 Z8:=mz Cb4 87 Tryz.f87 Z8 [] (λ k=>(fz k Tryz.f87 Z8 (λ y=>y.1) λ _ h=>h)) (.g (.g (.e [[]]))) λ k _=>an
noncomputable def K1:FS yeE:=⟨[(.sl (.nm 2))],[(.sl (.nm 2))],[],[[(75,0)]],(List Ak),λ x=>Wk x.1,λ r=>(r,())⟩
theorem Cbk:GO (EV [(87,Z8)] [] false):=GB ⟨Aqt,trivial⟩ trivial
section
variable (k:Kt Cbk C F 28 [])
noncomputable def A2l:=c0 Tryz.f57
noncomputable def P7:=ct [0,0,0,0,1,4] A2l
noncomputable def Akw:=ct [0,2,4] P7
abbrev Cce (y:(List Ak)):Prop:=Ez k Tryz.f57 K1 (y,())
abbrev Axd (a0:(List Ak)):=Lz k P7 (E4 a0) (Gz k Akw Ol)
theorem Awa:Ok k (Cce k) ⟨Akw,Ol,Qn⟩:=pz k (fz k Tryz.f57 K1 (λ y=>y.1) λ _ h=>h) (.g (.e [[]])) λ _=>an
theorem Awn (a0:(List Ak)):Ok k (Axd k a0) ⟨P7,E4 a0,Qw a0⟩:=pz k Au (.g (.b (.g (.g (.g (.l (.c 0 [[]]))))) (.c 1 [[]]))) λ _=>ac bk<|ac (xt id λ _ h=>h)<|an
theorem Au9 (a0:(List Ak)):Ok k (Cce k) ⟨P7,E4 a0,λ v=>Option.bind (iter (Qw a0) v) Qn⟩:=lz k (Awn k a0) (Awa k)
end
theorem Atc:MT 57 K1:=mz Cbk 57 Tryz.f57 K1 [] (λ k=>Au) (.g (.g (.g (.g (.l (.c 0 [[]])))))) λ k x=>ac (Au9 k x.1)<|an
noncomputable def T2:FS yeE:=f2 [(.sl (.nm 9)),.str,(.sl (.nm 2))] (.sl (.nm 2)) .bool λ x=>Ajt x.1 x.2.1 x.2.2.1
theorem Ca3:GO (EV [(43,E6),(57,K1)] [] false):=GB ⟨Jd,Atc,trivial⟩ trivial
section
variable (k:Kt Ca3 C F 42 [])
noncomputable def Bt3:=c0 Tryz.f91
noncomputable def Aly:=ct [0,0,0,1,4] Bt3
noncomputable def Bfy:=ct [0,2,4] Aly
abbrev Caf (y:((List Ak)×Bool)):Prop:=Ez k Tryz.f91 T2 (y.1,y.2,())
abbrev Bqn (a0:(List Aa)) (a1:(List UInt8)):=Lz k Aly (Lo a0 a1) (Sum.elim (Gz k Bfy Ag1) (Caf k))
theorem Bn1:Ok k (Caf k) ⟨Bfy,Ag1,Ams⟩:=pz k (fz k Tryz.f91 T2 (λ y=>(y.1,y.2.1)) λ _ h=>h) (.g (.e [[.fix (.slot 6)]])) λ _=>an
theorem Bk4 (a0:(List Aa)) (a1:(List UInt8)):Ok k (Bqn k a0 a1) ⟨Aly,Lo a0 a1,Al6 a0 a1⟩:=pz k (fz k Tryz.f91 T2 (λ y=> .inr (.inr (y.1,y.2.1))) λ y h=>h.2 (.inr (y.1,y.2.1)) rfl) (.g (.b (.g (.g (.b (.g (.l (.c 0 [[]]))) (.g (.g (.b (.g (.e [[]])) (.g (.g (.l (.c 0 [[]])))))))))) (.c 1 [[]]))) λ _=>ac bk<|ac (xt Sum.inl λ _ h=>h)<|an
theorem Bku (a0:(List Aa)) (a1:(List UInt8)):Ok k (Caf k) ⟨Aly,Lo a0 a1,λ v=>Option.bind (iter (Al6 a0 a1) v) (Sum.elim Ams (λ y=>some y))⟩:=lz k (Bk4 k a0 a1) (xs (Bn1 k) xr)
end
theorem Auq:MT 91 T2:=mz Ca3 91 Tryz.f91 T2 [] (λ k=>Au) (.g (.g (.g (.l (.c 0 [[]]))))) λ k x=>ac (Bku k x.1 x.2.1)<|an
noncomputable def Rq:FS yeE:=f1 [(.nm 4),(.sl (.nm 2))] (.nm 4) λ x=>Aim x.1 x.2.1
theorem Cbz:GO (EV [(56,K8),(93,Jk)] [] false):=GB ⟨Ahl,M5,trivial⟩ trivial
section
variable (k:Kt Cbz C F 54 [])
noncomputable def Bhw:=c0 Tryz.f92
noncomputable def Rn:=ct [0,0,0,1,4] Bhw
noncomputable def Bhz:=ct [0,3,0,0,0,3,4] Rn
noncomputable def Atq:=ct [0,2,4] Rn
abbrev Cb3 (y:Ax):Prop:=Ez k Tryz.f92 Rq (y,())
abbrev Apv (a1:(List Ak)):=Lz k Rn (Gt a1) (Gz k Atq O4)
theorem A6k (a1:(List Ak)) (v1:Int) (v3:Ax):Ok k (Apv k a1) ⟨Bhz,Kv a1 v1 v3,N2 a1 v1 v3⟩:=pz k Au (.g (.l (.c 0 [[]]))) λ _=>ac bk<|an
theorem A6a:Ok k (Cb3 k) ⟨Atq,O4,Y5⟩:=pz k (fz k Tryz.f92 Rq (λ y=>y.1) λ _ h=>h) (.g (.g (.e [[]]))) λ _=>an
theorem A6w (a1:(List Ak)):Ok k (Apv k a1) ⟨Rn,Gt a1,Zq a1⟩:=pz k Au (.g (.b (.g (.g (.g (.b (.c 0 [[]]) (.g (.b (.g (.g (.c 0 [[.re 39 39 0]]))) (.g (.b (.g (.c 0 [[]])) (.g (.c 0 [[]])))))))))) (.c 1 [[]]))) λ v=>ac (A6k k a1 v.1 v.2.2.1)<|ac (xt id λ _ h=>h)<|an
theorem A6x (a1:(List Ak)):Ok k (Cb3 k) ⟨Rn,Gt a1,λ v=>Option.bind (iter (Zq a1) v) Y5⟩:=lz k (A6w k a1) (A6a k)
end
theorem A17:MT 92 Rq:=mz Cbz 92 Tryz.f92 Rq [] (λ k=>Au) (.g (.g (.g (.l (.c 0 [[.own (.slot 5) 0 39 75 0,.st (.cell 4)]]))))) λ k x=>ac (A6x k x.2.1)<|an
noncomputable def Hf:FS yeE:=⟨[(.sl (.nm 9)),(.int .i64),(.sl (.nm 2))],[(.nm 9),(.nm 9),(.int .i64)],[],[],(Aa×Aa×Int),λ x=>Ako x.1 x.2.1 x.2.2.1,λ r=>(r.1,r.2.1,r.2.2,())⟩
theorem Cbs:GO (EV [(43,E6),(45,Pd),(56,K8),(87,Z8),(91,T2),(92,Rq)] [] false):=GB ⟨Jd,Ah5,Ahl,Aqt,Auq,A17,trivial⟩ trivial
section
variable (k:Kt Cbs C F 283 [])
noncomputable def Btx:=c0 Tryz.f63
noncomputable def Aew:=ct [0,0,0,2,0,0,0,1,4] Btx
noncomputable def Ama:=ct [0,3,0,0,1,4] Aew
noncomputable def Bas:=ct [0,2,4] Ama
noncomputable def Avq:=ct [0,2,4] Aew
noncomputable def Ak9:=ct [0,0,1,4] Avq
noncomputable def Auz:=ct [0,2,4] Ak9
noncomputable def Agb:=ct [0,0,1,4] Auz
noncomputable def Agk:=ct [0,3,0,0,0,1,4] Agb
noncomputable def Buw:=ct [0,3,0,0,3,0,0,2,0,4] Agk
noncomputable def Apd:=ct [0,2,4] Agk
noncomputable def Aif:=ct [0,1,4] Apd
noncomputable def Aqy:=ct [0,2,4] Aif
noncomputable def Z7:=ct [0,0,1,4] Aqy
noncomputable def Ah4:=ct [0,3,0,0,0,1,4] Z7
noncomputable def A4e:=ct [0,2,4] Ah4
noncomputable def A5j:=ct [0,2,4] Z7
noncomputable def A5h:=ct [0,2,4] Agb
abbrev Bb9 (y:(Aa×Aa×Int)):Prop:=Ez k Tryz.f63 Hf (y.1,y.2.1,y.2.2,())
abbrev Bqe (a0:(List Aa)) (a1:Int) (a2:(List Ak)) (v1:(List Ai)) (v2:(List Ai)) (v3:Int) (v4:Int):=Lz k Ama (O8 a0 a1 a2 v1 v2 v3 v4) (Sum.elim (Gz k Bas (Aab a0 a1 a2 v1 v2 v3 v4)) (Bb9 k))
abbrev Bl9 (a0:(List Aa)) (a1:Int) (v11:(List Ai)) (v15:Int) (v39:Aa) (v59:Int):=Lz k Ah4 (L5 a0 a1 v11 v15 v39 v59) (Gz k A4e (W0 a0 a1 v11 v15 v39 v59))
abbrev Alr (a0:(List Aa)) (a1:Int) (v11:(List Ai)) (v15:Int) (v39:Aa):=Lz k Z7 (Jj a0 a1 v11 v15 v39) (Gz k A5j (Qm a0 a1 v11 v15))
abbrev Blv (a0:(List Aa)) (a1:Int) (v11:(List Ai)) (v15:Int) (v39:Aa):=Lz k Aif (Mv a0 a1 v11 v15 v39) (Gz k Aqy (Vs a0 a1 v11 v15 v39))
abbrev A5u (a0:(List Aa)) (a1:Int) (v11:(List Ai)) (v15:Int):=Lz k Agk (Lj a0 a1 v11 v15) (Sum.elim (Gz k Apd (Mo a0 a1 v11 v15)) (Bb9 k))
abbrev O0 (a0:(List Aa)) (a1:Int) (v11:(List Ai)):=Lz k Agb (Fo a0 a1 v11) (Sum.elim (Gz k A5h (Gi a0 a1)) (Bb9 k))
abbrev Bpd (a0:(List Aa)) (a1:Int) (v11:(List Ai)):=Lz k Ak9 (Pb a0 a1 v11) (Sum.elim (Gz k Auz (Aaa a0 a1 v11)) (Bb9 k))
abbrev Aq2 (a0:(List Aa)) (a1:Int) (a2:(List Ak)):=Lz k Aew (Lk a0 a1 a2) (Sum.elim (Gz k Avq (Uq a0 a1 a2)) (Bb9 k))
theorem Bmf (a0:(List Aa)) (a1:Int) (a2:(List Ak)) (v1:(List Ai)) (v2:(List Ai)) (v3:Int) (v4:Int):Ok k (Aq2 k a0 a1 a2) ⟨Bas,Aab a0 a1 a2 v1 v2 v3 v4,Amm a0 a1 a2 v1 v2 v3 v4⟩:=pz k Au (.g (.l (.c 0 [[]]))) λ _=>ac bk<|an
theorem Bmt (a0:(List Aa)) (a1:Int) (a2:(List Ak)) (v1:(List Ai)) (v2:(List Ai)) (v3:Int) (v4:Int):Ok k (Bqe k a0 a1 a2 v1 v2 v3 v4) ⟨Ama,O8 a0 a1 a2 v1 v2 v3 v4,Amy a0 a1 a2 v1 v2 v3 v4⟩:=pz k (fz k Tryz.f63 Hf (λ y=> .inr (.inr (y.1,y.2.1,y.2.2.1))) λ y h=>h.2 (.inr (y.1,y.2.1,y.2.2.1)) rfl) (.g (.b (.g (.g (.b (.g (.e [[]])) (.g (.g (.l (.c 0 [[]]))))))) (.c 1 [[]]))) λ _=>ac bk<|ac (xt Sum.inl λ _ h=>h)<|an
theorem Bm1 (a0:(List Aa)) (a1:Int) (a2:(List Ak)) (v1:(List Ai)) (v2:(List Ai)) (v3:Int) (v4:Int):Ok k (Aq2 k a0 a1 a2) ⟨Ama,O8 a0 a1 a2 v1 v2 v3 v4,λ v=>Option.bind (iter (Amy a0 a1 a2 v1 v2 v3 v4) v) (Sum.elim (Amm a0 a1 a2 v1 v2 v3 v4) (λ y=>some (.inr (.inr y))))⟩:=lz k (Bmt k a0 a1 a2 v1 v2 v3 v4) (xs (Bmf k a0 a1 a2 v1 v2 v3 v4) (xl (f:=λ y=>Sum.inr y)))
theorem Bk9 (a0:(List Aa)) (a1:Int) (v11:(List Ai)) (v15:Int) (v22:(List Ax)) (v23:Int) (v24:Int) (v25:Aa):Ok k (A5u k a0 a1 v11 v15) ⟨Buw,Ahh a0 a1 v11 v15 v22 v23 v24 v25,Af8 a0 a1 v11 v15 v22 v23 v24 v25⟩:=pz k (fz k Tryz.f63 Hf (λ y=> .inr (.inr (y.1,y.2.1,y.2.2.1))) λ y h=>h.2 (.inr (y.1,y.2.1,y.2.2.1)) rfl) (.g (.g (.b (.g (.e [[]])) (.g (.g (.g (.g (.l (.c 0 [[.re 4000603 4000603 0,.re 4000703 4000703 0]]))))))))) λ _=>ac bk<|an
theorem Bf5 (a0:(List Aa)) (a1:Int) (v11:(List Ai)) (v15:Int) (v39:Aa) (v59:Int):Ok k (Alr k a0 a1 v11 v15 v39) ⟨A4e,W0 a0 a1 v11 v15 v39 v59,Aih a0 a1 v11 v15 v39 v59⟩:=pz k Au (.g (.g (.l (.c 0 [[.re 4000606 4000606 0]])))) λ _=>ac bk<|an
theorem Bhx (a0:(List Aa)) (a1:Int) (v11:(List Ai)) (v15:Int) (v39:Aa) (v59:Int):Ok k (Bl9 k a0 a1 v11 v15 v39 v59) ⟨Ah4,L5 a0 a1 v11 v15 v39 v59,Ahu a0 a1 v11 v15 v39 v59⟩:=pz k Au (.g (.b (.g (.g (.g (.l (.c 0 [[.re 4003205 4003205 0]]))))) (.c 1 [[]]))) λ _=>ac bk<|ac (xt id λ _ h=>h)<|an
theorem Bf6 (a0:(List Aa)) (a1:Int) (v11:(List Ai)) (v15:Int) (v39:Aa) (v59:Int):Ok k (Alr k a0 a1 v11 v15 v39) ⟨Ah4,L5 a0 a1 v11 v15 v39 v59,λ v=>Option.bind (iter (Ahu a0 a1 v11 v15 v39 v59) v) (Aih a0 a1 v11 v15 v39 v59)⟩:=lz k (Bhx k a0 a1 v11 v15 v39 v59) (Bf5 k a0 a1 v11 v15 v39 v59)
theorem Bho (a0:(List Aa)) (a1:Int) (v11:(List Ai)) (v15:Int):Ok k (O0 k a0 a1 v11) ⟨A5j,Qm a0 a1 v11 v15,P0 a0 a1 v11 v15⟩:=pz k Au (.g (.l (.c 0 [[]]))) λ _=>ac bk<|an
theorem Bhj (a0:(List Aa)) (a1:Int) (v11:(List Ai)) (v15:Int) (v39:Aa):Ok k (Alr k a0 a1 v11 v15 v39) ⟨Z7,Jj a0 a1 v11 v15 v39,Aad a0 a1 v11 v15 v39⟩:=pz k Au (.g (.b (.g (.g (.w [.own (.cell 32) 5 4003205 128 0] (.g (.l (.c 0 [[]])))))) (.c 1 [[]]))) λ v=>ac (Bf6 k a0 a1 v11 v15 v39 v.1)<|ac (xt id λ _ h=>h)<|an
theorem Bgj (a0:(List Aa)) (a1:Int) (v11:(List Ai)) (v15:Int) (v39:Aa):Ok k (O0 k a0 a1 v11) ⟨Z7,Jj a0 a1 v11 v15 v39,λ v=>Option.bind (iter (Aad a0 a1 v11 v15 v39) v) (P0 a0 a1 v11 v15)⟩:=lz k (Bhj k a0 a1 v11 v15 v39) (Bho k a0 a1 v11 v15)
theorem Bgp (a0:(List Aa)) (a1:Int) (v11:(List Ai)) (v15:Int) (v39:Aa):Ok k (O0 k a0 a1 v11) ⟨Aqy,Vs a0 a1 v11 v15 v39,Ah1 a0 a1 v11 v15 v39⟩:=pz k Au (.g (.g (.l (.c 0 [[.re 4000605 4000605 0]])))) λ _=>ac (Bgj k a0 a1 v11 v15 v39)<|an
theorem Bgb (a0:(List Aa)) (a1:Int) (v11:(List Ai)) (v15:Int) (v39:Aa):Ok k (Blv k a0 a1 v11 v15 v39) ⟨Aif,Mv a0 a1 v11 v15 v39,Aik a0 a1 v11 v15 v39⟩:=pz k Au (.g (.b (.g (.g (.g (.l (.c 0 [[.re 4000604 4000604 0]]))))) (.c 1 [[]]))) λ _=>ac bk<|ac (xt id λ _ h=>h)<|an
theorem Bhp (a0:(List Aa)) (a1:Int) (v11:(List Ai)) (v15:Int) (v39:Aa):Ok k (O0 k a0 a1 v11) ⟨Aif,Mv a0 a1 v11 v15 v39,λ v=>Option.bind (iter (Aik a0 a1 v11 v15 v39) v) (Ah1 a0 a1 v11 v15 v39)⟩:=lz k (Bgb k a0 a1 v11 v15 v39) (Bgp k a0 a1 v11 v15 v39)
theorem Bgq (a0:(List Aa)) (a1:Int) (v11:(List Ai)) (v15:Int):Ok k (O0 k a0 a1 v11) ⟨Apd,Mo a0 a1 v11 v15,Z1 a0 a1 v11 v15⟩:=pz k Au (.g (.l (.c 0 [[]]))) λ v=>ac (Bhp k a0 a1 v11 v15 v.1)<|an
theorem Bn9 (a0:(List Aa)) (a1:Int) (v11:(List Ai)) (v15:Int):Ok k (A5u k a0 a1 v11 v15) ⟨Agk,Lj a0 a1 v11 v15,Afx a0 a1 v11 v15⟩:=pz k (fz k Tryz.f63 Hf (λ y=> .inr (.inr (y.1,y.2.1,y.2.2.1))) λ y h=>h.2 (.inr (y.1,y.2.1,y.2.2.1)) rfl) (.g (.b (.g (.g (.b (.g (.g (.b (.g (.e [[]])) (.g (.c 0 [[]]))))) (.c 0 [[]])))) (.c 1 [[]]))) λ v=>ac (Bk9 k a0 a1 v11 v15 v.1 v.2.1 v.2.2.1 v.2.2.2.1)<|ac (xt Sum.inl λ _ h=>h)<|an
theorem Bmh (a0:(List Aa)) (a1:Int) (v11:(List Ai)) (v15:Int):Ok k (O0 k a0 a1 v11) ⟨Agk,Lj a0 a1 v11 v15,λ v=>Option.bind (iter (Afx a0 a1 v11 v15) v) (Sum.elim (Z1 a0 a1 v11 v15) (λ y=>some (.inr (.inr y))))⟩:=lz k (Bn9 k a0 a1 v11 v15) (xs (Bgq k a0 a1 v11 v15) (xl (f:=λ y=>Sum.inr y)))
theorem Bgv (a0:(List Aa)) (a1:Int):Ok k (Bb9 k) ⟨A5h,Gi a0 a1,Ah8 a0 a1⟩:=pz k (fz k Tryz.f63 Hf (λ y=>(y.1,y.2.1,y.2.2.1)) λ _ h=>h) (.g (.e [[.fix (.cell 6),.fix (.cell 7)]])) λ _=>an
theorem Bl3 (a0:(List Aa)) (a1:Int) (v11:(List Ai)):Ok k (O0 k a0 a1 v11) ⟨Agb,Fo a0 a1 v11,Amt a0 a1 v11⟩:=pz k Au (.g (.b (.g (.g (.g (.l (.c 0 [[]]))))) (.c 1 [[]]))) λ v=>ac (Bmh k a0 a1 v11 v.1)<|ac (xt Sum.inl λ _ h=>h)<|an
theorem Bky (a0:(List Aa)) (a1:Int) (v11:(List Ai)):Ok k (Bb9 k) ⟨Agb,Fo a0 a1 v11,λ v=>Option.bind (iter (Amt a0 a1 v11) v) (Sum.elim (Ah8 a0 a1) (λ y=>some y))⟩:=lz k (Bl3 k a0 a1 v11) (xs (Bgv k a0 a1) xr)
theorem Bnv (a0:(List Aa)) (a1:Int) (v11:(List Ai)):Ok k (Bb9 k) ⟨Auz,Aaa a0 a1 v11,Alx a0 a1 v11⟩:=pz k Au (.g (.g (.l (.c 0 [[.own (.cell 6) 3 4000603 70 0,.own (.cell 6) 4 4000604 100 0,.own (.cell 6) 5 4000605 123 0,.own (.cell 6) 6 4000606 126 0,.own (.cell 7) 3 4000703 70 0]])))) λ _=>ac (Bky k a0 a1 v11)<|an
theorem Bkv (a0:(List Aa)) (a1:Int) (v11:(List Ai)):Ok k (Bpd k a0 a1 v11) ⟨Ak9,Pb a0 a1 v11,Alv a0 a1 v11⟩:=pz k (fz k Tryz.f63 Hf (λ y=> .inr (.inr (y.1,y.2.1,y.2.2.1))) λ y h=>h.2 (.inr (y.1,y.2.1,y.2.2.1)) rfl) (.g (.b (.g (.g (.g (.b (.g (.e [[]])) (.g (.g (.l (.c 0 [[]])))))))) (.c 1 [[]]))) λ _=>ac bk<|ac (xt Sum.inl λ _ h=>h)<|an
theorem Bmc (a0:(List Aa)) (a1:Int) (v11:(List Ai)):Ok k (Bb9 k) ⟨Ak9,Pb a0 a1 v11,λ v=>Option.bind (iter (Alv a0 a1 v11) v) (Sum.elim (Alx a0 a1 v11) (λ y=>some y))⟩:=lz k (Bkv k a0 a1 v11) (xs (Bnv k a0 a1 v11) xr)
theorem Bl4 (a0:(List Aa)) (a1:Int) (a2:(List Ak)):Ok k (Bb9 k) ⟨Avq,Uq a0 a1 a2,Amb a0 a1 a2⟩:=pz k Au (.g (.g (.l (.c 0 [[]])))) λ v=>ac (Bmc k a0 a1 v.1)<|an
theorem Bno (a0:(List Aa)) (a1:Int) (a2:(List Ak)):Ok k (Aq2 k a0 a1 a2) ⟨Aew,Lk a0 a1 a2,Alf a0 a1 a2⟩:=pz k Au (.g (.b (.g (.g (.l (.c 0 [[]])))) (.c 1 [[]]))) λ v=>ac (Bm1 k a0 a1 a2 v.1 v.2.1 v.2.2.1 v.2.2.2.1)<|ac (xt Sum.inl λ _ h=>h)<|an
theorem Bna (a0:(List Aa)) (a1:Int) (a2:(List Ak)):Ok k (Bb9 k) ⟨Aew,Lk a0 a1 a2,λ v=>Option.bind (iter (Alf a0 a1 a2) v) (Sum.elim (Amb a0 a1 a2) (λ y=>some y))⟩:=lz k (Bno k a0 a1 a2) (xs (Bl4 k a0 a1 a2) xr)
end
theorem Ai0:MT 63 Hf:=mz Cbs 63 Tryz.f63 Hf [] (λ k=>(fz k Tryz.f63 Hf (λ y=>(y.1,y.2.1,y.2.2.1)) λ _ h=>h)) (.g (.g (.g (.b (.g (.e [[]])) (.g (.g (.g (.l (.c 0 [[]]))))))))) λ k x=>ac (Bna k x.1 x.2.1 x.2.2.1)<|an
noncomputable def Iq:FS yeE:=f2 [(.sl (.nm 9)),(.int .i64)] (.sl (.nm 17)) (.int .i64) λ x=>Wg x.1 x.2.1
theorem Ccs:GO (EV [(43,E6),(45,Pd),(63,Hf),(91,T2)] [] false):=GB ⟨Jd,Ah5,Ai0,Auq,trivial⟩ trivial
section
variable (k:Kt Ccs C F 86 [])
noncomputable def Bfv:=c0 Tryz.f64
noncomputable def Pi:=ct [0,0,0,0,1,4] Bfv
noncomputable def O2:=ct [0,3,0,0,1,4] Pi
noncomputable def Bck:=ct [0,3,0,0,0,0,3,4] O2
noncomputable def Ari:=ct [0,2,4] O2
noncomputable def Art:=ct [0,2,4] Pi
abbrev B6m (y:((List Cb)×Int)):Prop:=Ez k Tryz.f64 Iq (y.1,y.2,())
abbrev Anf (a0:(List Aa)) (v1:(List Ai)) (v2:Int) (v3:Int):=Lz k O2 (Fn a0 v1 v2 v3) (Sum.elim (Gz k Ari (I0 a0 v1 v2 v3)) (B6m k))
abbrev Aa3 (a0:(List Aa)):=Lz k Pi (Fq a0) (Sum.elim (Gz k Art M6) (B6m k))
theorem A1j (a0:(List Aa)) (v1:(List Ai)) (v2:Int) (v3:Int):Ok k (Anf k a0 v1 v2 v3) ⟨Bck,Anq,W8 a0 v1 v2 v3⟩:=pz k (fz k Tryz.f64 Iq (λ y=> .inr (.inr (y.1,y.2.1))) λ y h=>h.2 (.inr (y.1,y.2.1)) rfl) (.g (.e [[]])) λ _=>an
theorem A1p (a0:(List Aa)) (v1:(List Ai)) (v2:Int) (v3:Int):Ok k (Aa3 k a0) ⟨Ari,I0 a0 v1 v2 v3,Vp a0 v1 v2 v3⟩:=pz k Au (.g (.l (.c 0 [[]]))) λ _=>ac bk<|an
theorem A3e (a0:(List Aa)) (v1:(List Ai)) (v2:Int) (v3:Int):Ok k (Anf k a0 v1 v2 v3) ⟨O2,Fn a0 v1 v2 v3,Vg a0 v1 v2 v3⟩:=pz k Au (.g (.b (.g (.g (.g (.g (.b (.c 0 [[]]) (.g (.g (.l (.c 1 [[.re 82 82 0]]))))))))) (.c 2 [[]]))) λ _=>ac (A1j k a0 v1 v2 v3)<|ac bk<|ac (xt Sum.inl λ _ h=>h)<|an
theorem A2c (a0:(List Aa)) (v1:(List Ai)) (v2:Int) (v3:Int):Ok k (Aa3 k a0) ⟨O2,Fn a0 v1 v2 v3,λ v=>Option.bind (iter (Vg a0 v1 v2 v3) v) (Sum.elim (Vp a0 v1 v2 v3) (λ y=>some (.inr (.inr y))))⟩:=lz k (A3e k a0 v1 v2 v3) (xs (A1p k a0 v1 v2 v3) (xl (f:=λ y=>Sum.inr y)))
theorem A2u:Ok k (B6m k) ⟨Art,M6,Vl⟩:=pz k (fz k Tryz.f64 Iq (λ y=>(y.1,y.2.1)) λ _ h=>h) (.g (.e [[.fix (.slot 4)]])) λ _=>an
theorem A1a (a0:(List Aa)):Ok k (Aa3 k a0) ⟨Pi,Fq a0,Wa a0⟩:=pz k Au (.g (.b (.g (.g (.l (.c 0 [[]])))) (.c 1 [[]]))) λ v=>ac (A2c k a0 v.1 v.2.1 v.2.2.1)<|ac (xt Sum.inl λ _ h=>h)<|an
theorem A2f (a0:(List Aa)):Ok k (B6m k) ⟨Pi,Fq a0,λ v=>Option.bind (iter (Wa a0) v) (Sum.elim Vl (λ y=>some y))⟩:=lz k (A1a k a0) (xs (A2u k) xr)
end
theorem Aid:MT 64 Iq:=mz Ccs 64 Tryz.f64 Iq [] (λ k=>Au) (.g (.g (.g (.g (.l (.c 0 [[.own (.slot 6) 0 82 118 0]])))))) λ k x=>ac (A2f k x.1)<|an
abbrev A1x:List (Tk yeE):=[.S 0 true,.s 4,.S 1 false,.k (.ptr 1000001 0),.C 1000001,.v .str]
abbrev A0g:List (Tk yeE):=[.S 0 false,.v .bool,.C 1000001,.v .str]
noncomputable def Qz:FX yeE:=⟨A1x,A0g,(Bool×(List UInt8)),λ x=>Ae6 x.1 x.2.1,λ r=>(r.1,r.2,())⟩
theorem Ccb:GO (EX [] [] []):=GF trivial trivial trivial
section
variable (k:Kt Ccb C F 8 [])
end
theorem Ate:MX 94 Qz:=mw Ccb 94 Tryz.f94 Qz [] (λ k=>(fx k Tryz.f94 Qz (λ y=>(y.1,y.2.1)) λ _ h=>h)) (.g (.g (.e [[]]))) λ k _=>an
abbrev Agw:List (Tk yeE):=[.S 0 false,.v (.sl (.nm 4)),.S 1 false,.k (.clo 94 [.ptr 1000001 0]),.C 1000001,.v .str]
abbrev Afp:List (Tk yeE):=[.S 0 false,.v (.int .i64),.C 1000001,.v .str]
noncomputable def C4:FX yeE:=⟨Agw,Afp,(Int×(List UInt8)),λ x=>G6 x.1 x.2.1,λ r=>(r.1,r.2,())⟩
theorem Bxo:GO (EX [] [(94,[],Qz)] []):=GF trivial ⟨Ate,trivial⟩ trivial
section
variable (k:Kt Bxo C F 19 [])
noncomputable def Ags:=c0 Tryz.f68
noncomputable def F0:=ct [0,0,1,4] Ags
noncomputable def Rc:=ct [0,2,4] F0
abbrev Bnz (y:(Int×(List UInt8))):Prop:=Ex k Tryz.f68 C4 (y.1,y.2,())
abbrev Aep (a0:(List Ax)):=Lz k F0 (Cf a0) (Sum.elim (Gz k Rc Fd) (Bnz k))
theorem Ach:Ok k (Bnz k) ⟨Rc,Fd,F4⟩:=pz k (fx k Tryz.f68 C4 (λ y=>(y.1,y.2.1)) λ _ h=>h) (.g (.e [[]])) λ _=>an
theorem Ade (a0:(List Ax)):Ok k (Aep k a0) ⟨F0,Cf a0,F1 a0⟩:=pz k (fx k Tryz.f68 C4 (λ y=> .inr (.inr (y.1,y.2.1))) λ y h=>h.2 (.inr (y.1,y.2.1)) rfl) (.g (.b (.g (.g (.b (.g (.e [[]])) (.g (.l (.c 0 [[]])))))) (.c 1 [[]]))) λ _=>ac bk<|ac (xt Sum.inl λ _ h=>h)<|an
theorem Ac3 (a0:(List Ax)):Ok k (Bnz k) ⟨F0,Cf a0,λ v=>Option.bind (iter (F1 a0) v) (Sum.elim F4 (λ y=>some y))⟩:=lz k (Ade k a0) (xs (Ach k) xr)
end
theorem Aan:MX 68 C4:=mw Bxo 68 Tryz.f68 C4 [] (λ k=>Au) (.g (.g (.l (.c 0 [[]])))) λ k x=>ac (Ac3 k x.1)<|an
abbrev Ajn:List (Tk yeE):=[.S 0 false,.v (.sl (.nm 9)),.S 1 false,.v (.int .i64),.S 2 false,.v (.int .i64),.S 3 false,.k (.mp 1000001),.M 1000001 (.nm 19) .bool]
abbrev Ap3:List (Tk yeE):=[.S 0 false,.v .bool,.S 1 false,.v (.int .i64),.M 1000001 (.nm 19) .bool]
noncomputable def Cy (R:A0):FX yeE:=⟨Ajn,Ap3,(Bool×Int×(List (D7×Bool))),λ x=>R x.1 x.2.1 x.2.2.1 x.2.2.2.1,λ r=>(r.1,r.2.1,r.2.2,())⟩
abbrev A76:List (Tk yeE):=[.S 0 false,.v (.sl (.nm 9)),.S 1 false,.v .str,.S 2 false,.v .str]
abbrev A0x:List (Tk yeE):=[.S 0 false,.v .bool]
noncomputable def Tp (R:A0):FX yeE:=⟨A76,A0x,Bool,λ x=>Ai2 R x.1 x.2.1 x.2.2.1,λ r=>(r,())⟩
noncomputable abbrev Cbo (R:A0):Env:=EX [(41,Hq)] [(40,[],(Cy R))] []
theorem Cc3 {R:A0} (hR:MX 40 (Cy R)):GO (Cbo R):=GF ⟨I3,trivial⟩ ⟨hR,trivial⟩ trivial
section
variable {R:A0} {G:GO (Cbo R)} (k:Kt G C F 26 [])
end
theorem Avi {R:A0} (hR:MX 40 (Cy R)):MX 95 (Tp R):=mw (Cc3 hR) 95 Tryz.f95 (Tp R) [] (λ k=>(fx k Tryz.f95 (Tp R) (λ y=>y.1) λ _ h=>h)) (.g (.g (.g (.e [[]])))) λ k _=>an
end
end Go.Ab
