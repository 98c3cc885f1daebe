/- The functions compute what the plain functions tell. Conditions: none beyond those that each theorem names. -/
import Derived.Test.YtgngflkahbpecaaGreatDoorP27
set_option linter.unusedSimpArgs false
namespace Go.Ab
open Go Go.Proofs
set_option linter.unusedVariables false
section
variable {P:Program} {C:Ctx} {F:FT}
abbrev Bfq:List (Tk yeE):=[.S 0 false,.v (.sl (.nm 9)),.S 1 false,.v (.sl (.nm 4)),.S 2 false,.v (.sl (.nm 2)),.S 3 false,.v (.int .i64)]
abbrev A6m:List (Tk yeE):=[.S 0 false,.v .bool]
noncomputable def E4 (R:A0):FX yeE:=⟨Bfq,A6m,Bool,λ x=>Wt R x.1 x.2.1 x.2.2.1 x.2.2.2.1,λ r=>(r,())⟩
noncomputable abbrev Ccp (R:A0):Env:=EX [(93,Jb)] [(40,[],(Cy R)),(68,[94],C7),(95,[],(Td R))] []
theorem Cc4 {R:A0} (hR:MX 40 (Cy R)):GO (Ccp R):=GF ⟨Nl,trivial⟩ ⟨hR,Aap,(Avm hR),trivial⟩ trivial
section
variable {R:A0} {G:GO (Ccp R)} (k:Kt G C F 90 [])
noncomputable def Bas:=c0 Tryz.f65
noncomputable def Iq:=ct [0,0,1,4] Bas
noncomputable def Bda:=ct [0,3,0,0,0,0,2,0,0,0,0,3,0,3,4] Iq
noncomputable def A9q:=ct [0,3,0,0,0,0,2,0,0,0,0,2,0,3,0,3,4] Iq
noncomputable def Bd3:=ct [0,3,0,0,0,0,2,0,0,0,0,3,0,2,4] Iq
noncomputable def Ark:=ct [0,2,4] Iq
abbrev B9u (y:Bool):Prop:=Ex k Tryz.f65 (E4 R) (y,())
abbrev S8 (a0:(List Aa)) (a1:(List Ax)) (a2:(List Ak)) (a3:Int):=Lz k Iq (Db a0 a1 a2 a3) (Sum.elim (Gz k Ark Hd) (B9u k))
theorem A22 (a0:(List Aa)) (a1:(List Ax)) (a2:(List Ak)) (a3:Int):Ok k (S8 k a0 a1 a2 a3) ⟨Bda,Anp,Ow R a0 a1 a2 a3⟩:=pz k (fx k Tryz.f65 (E4 R) (λ y=> .inr (.inr y.1)) λ y h=>h.2 (.inr y.1) rfl) (.g (.e [[]])) λ _=>an
theorem A2t (a0:(List Aa)) (a1:(List Ax)) (a2:(List Ak)) (a3:Int) (v1:Int):Ok k (S8 k a0 a1 a2 a3) ⟨Bd3,Da a0 a1 a2 a3 v1,Du R a0 a1 a2 a3 v1⟩:=pz k Au (.g (.l (.c 0 [[]]))) λ _=>ac bk<|an
theorem A1d (a0:(List Aa)) (a1:(List Ax)) (a2:(List Ak)) (a3:Int):Ok k (S8 k a0 a1 a2 a3) ⟨A9q,Aob,Wv R a0 a1 a2 a3⟩:=pz k (fx k Tryz.f65 (E4 R) (λ y=> .inr (.inr y.1)) λ y h=>h.2 (.inr y.1) rfl) (.g (.e [[]])) λ _=>an
theorem A0j:Ok k (B9u k) ⟨Ark,Hd,Xh R⟩:=pz k (fx k Tryz.f65 (E4 R) (λ y=>y.1) λ _ h=>h) (.g (.e [[]])) λ _=>an
theorem A3o (a0:(List Aa)) (a1:(List Ax)) (a2:(List Ak)) (a3:Int):Ok k (S8 k a0 a1 a2 a3) ⟨Iq,Db a0 a1 a2 a3,Vi R a0 a1 a2 a3⟩:=pz k (fx k Tryz.f65 (E4 R) (λ y=> .inr (.inr y.1)) λ y h=>h.2 (.inr y.1) rfl) (.g (.b (.g (.g (.g (.g (.b (.g (.b (.g (.e [[]])) (.g (.l (.c 0 [[]]))))) (.g (.g (.g (.g (.b (.g (.b (.c 1 [[]]) (.c 2 [[]]))) (.g (.b (.g (.b (.c 3 [[]]) (.c 2 [[]]))) (.c 2 [[]]))))))))))))) (.c 4 [[]]))) λ v=>ac bk<|ac (A22 k a0 a1 a2 a3)<|ac (A2t k a0 a1 a2 a3 v.1)<|ac (A1d k a0 a1 a2 a3)<|ac (xt Sum.inl λ _ h=>h)<|an
theorem A1h (a0:(List Aa)) (a1:(List Ax)) (a2:(List Ak)) (a3:Int):Ok k (B9u k) ⟨Iq,Db a0 a1 a2 a3,λ v=>Option.bind (iter (Vi R a0 a1 a2 a3) v) (Sum.elim (Xh R) (λ y=>some y))⟩:=lz k (A3o k a0 a1 a2 a3) (xs (A0j k) xr)
end
theorem Aha {R:A0} (hR:MX 40 (Cy R)):MX 65 (E4 R):=mw (Cc4 hR) 65 Tryz.f65 (E4 R) [] (λ k=>Au) (.g (.g (.l (.c 0 [[]])))) λ k x=>ac (A1h k x.1 x.2.1 x.2.2.1 x.2.2.2.1)<|an
abbrev Bmc:List (Tk yeE):=[.S 0 false,.v (.sl (.nm 9)),.S 1 false,.v (.int .i64)]
abbrev Bgv:List (Tk yeE):=[.S 0 true,.s 9,.S 1 false,.v (.int .i64)]
noncomputable def Lu (R:A0):FX yeE:=⟨Bmc,Bgv,(Aa×Int),λ x=>Afm R x.1 x.2.1,λ r=>(r.1,r.2,())⟩
noncomputable abbrev Ca3 (R:A0):Env:=EX [(63,G9),(64,Id)] [(40,[],(Cy R)),(65,[],(E4 R))] []
theorem Ccx {R:A0} (hR:MX 40 (Cy R)):GO (Ca3 R):=GF ⟨Ajg,Ahy,trivial⟩ ⟨hR,(Aha hR),trivial⟩ trivial
section
variable {R:A0} {G:GO (Ca3 R)} (k:Kt G C F 48 [])
noncomputable def Blo:=c0 Tryz.f67
noncomputable def Ab7:=ct [0,0,0,2,0,0,2,0,1,4] Blo
noncomputable def Axz:=ct [0,2,4] Ab7
abbrev Caj (y:(Aa×Int)):Prop:=Ex k Tryz.f67 (Lu R) (y.1,y.2,())
abbrev Bf0 (a0:(List Aa)):=Lz k Ab7 (Ke a0) (Sum.elim (Gz k Axz Yn) (Caj k))
theorem Bd9:Ok k (Caj k) ⟨Axz,Yn,Acg R⟩:=pz k (fx k Tryz.f67 (Lu R) (λ y=>(y.1,y.2.1)) λ _ h=>h) (.g (.e [[]])) λ _=>an
theorem Bbz (a0:(List Aa)):Ok k (Bf0 k a0) ⟨Ab7,Ke a0,Ab9 R a0⟩:=pz k (fx k Tryz.f67 (Lu R) (λ y=> .inr (.inr (y.1,y.2.1))) λ y h=>h.2 (.inr (y.1,y.2.1)) rfl) (.g (.b (.g (.g (.b (.g (.e [[.st (.cell 4)]])) (.g (.l (.c 0 [[]])))))) (.c 1 [[]]))) λ _=>ac bk<|ac (xt Sum.inl λ _ h=>h)<|an
theorem Bc8 (a0:(List Aa)):Ok k (Caj k) ⟨Ab7,Ke a0,λ v=>Option.bind (iter (Ab9 R a0) v) (Sum.elim (Acg R) (λ y=>some y))⟩:=lz k (Bbz k a0) (xs (Bd9 k) xr)
end
theorem A63 {R:A0} (hR:MX 40 (Cy R)):MX 67 (Lu R):=mw (Ccx hR) 67 Tryz.f67 (Lu R) [] (λ k=>(fx k Tryz.f67 (Lu R) (λ y=>(y.1,y.2.1)) λ _ h=>h)) (.g (.g (.g (.b (.g (.e [[.st (.cell 4)]])) (.g (.g (.b (.g (.e [[.st (.cell 4)]])) (.g (.l (.c 0 [[.st (.cell 4)]])))))))))) λ k x=>ac (Bc8 k x.1)<|an
abbrev Bh6:List (Tk yeE):=[.S 0 true,.s 4,.S 1 false,.k (.ptr 1000001 0),.C 1000001,.s 4]
abbrev Ba4:List (Tk yeE):=[.S 0 false,.v .bool,.C 1000001,.s 4]
noncomputable def Yw:FX yeE:=⟨Bh6,Ba4,(Bool×Ax),λ x=>Aqj x.1 x.2.1,λ r=>(r.1,r.2,())⟩
theorem Cav:GO (EX [] [] []):=GF trivial trivial trivial
section
variable (k:Kt Cav C F 9 [])
end
theorem A1s:MX 69 Yw:=mw Cav 69 Tryz.f69 Yw [] (λ k=>(fx k Tryz.f69 Yw (λ y=>(y.1,y.2.1)) λ _ h=>h)) (.g (.g (.e [[]]))) λ k _=>an
abbrev Ags:List (Tk yeE):=[.S 0 false,.v (.sl (.nm 4)),.S 1 false,.k (.clo 69 [.ptr 1000001 0]),.C 1000001,.s 4]
abbrev Af6:List (Tk yeE):=[.S 0 false,.v (.int .i64),.C 1000001,.s 4]
noncomputable def C6:FX yeE:=⟨Ags,Af6,(Int×Ax),λ x=>G6 x.1 x.2.1,λ r=>(r.1,r.2,())⟩
theorem Bv8:GO (EX [] [(69,[],Yw)] []):=GF trivial ⟨A1s,trivial⟩ trivial
section
variable (k:Kt Bv8 C F 19 [])
noncomputable def Agw:=c0 Tryz.f68
noncomputable def Fv:=ct [0,0,1,4] Agw
noncomputable def Q6:=ct [0,2,4] Fv
abbrev Bn0 (y:(Int×Ax)):Prop:=Ex k Tryz.f68 C6 (y.1,y.2,())
abbrev Ae0 (a0:(List Ax)):=Lz k Fv (Ce a0) (Sum.elim (Gz k Q6 Fe) (Bn0 k))
theorem Ac6:Ok k (Bn0 k) ⟨Q6,Fe,Ft⟩:=pz k (fx k Tryz.f68 C6 (λ y=>(y.1,y.2.1)) λ _ h=>h) (.g (.e [[]])) λ _=>an
theorem Acs (a0:(List Ax)):Ok k (Ae0 k a0) ⟨Fv,Ce a0,F0 a0⟩:=pz k (fx k Tryz.f68 C6 (λ y=> .inr (.inr (y.1,y.2.1))) λ y h=>h.2 (.inr (y.1,y.2.1)) rfl) (.g (.b (.g (.g (.b (.g (.e [[]])) (.g (.l (.c 0 [[]])))))) (.c 1 [[]]))) λ _=>ac bk<|ac (xt Sum.inl λ _ h=>h)<|an
theorem Ad0 (a0:(List Ax)):Ok k (Bn0 k) ⟨Fv,Ce a0,λ v=>Option.bind (iter (F0 a0) v) (Sum.elim Ft (λ y=>some y))⟩:=lz k (Acs k a0) (xs (Ac6 k) xr)
end
theorem Aal:MX 68 C6:=mw Bv8 68 Tryz.f68 C6 [] (λ k=>Au) (.g (.g (.l (.c 0 [[]])))) λ k x=>ac (Ad0 k x.1)<|an
noncomputable def Bqt (R:A0):FX yeE:=⟨Ajl,Apb,(Bool×Int×(List (D6×Bool))),λ x=>Ali R x.1 x.2.1 x.2.2.1 x.2.2.2.1,λ r=>(r.1,r.2.1,r.2.2,())⟩
noncomputable abbrev Ccr (R:A0):Env:=EX [(41,Hp)] [(40,[],(Cy R)),(67,[],(Lu R)),(68,[69],C6)] []
theorem Cc2 {R:A0} (hR:MX 40 (Cy R)):GO (Ccr R):=GF ⟨I3,trivial⟩ ⟨hR,(A63 hR),Aal,trivial⟩ trivial
section
variable {R:A0} {G:GO (Ccr R)} (k:Kt G C F 117 [])
noncomputable def Bdh:=c0 Tryz.f40
noncomputable def La:=ct [0,0,2,0,0,0,2,0,0,2,0,1,4] Bdh
noncomputable def A9f:=ct [0,3,0,0,0,2,0,0,3,4] La
noncomputable def Bb9:=ct [0,3,0,0,0,2,0,0,2,0,2,0,0,3,4] La
noncomputable def Arh:=ct [0,2,4] La
abbrev B9d (y:(Bool×Int×(List (D6×Bool)))):Prop:=Ex k Tryz.f40 (Bqt R) (y.1,y.2.1,y.2.2,())
abbrev Aak (a0:(List Aa)):=Lz k La (Dw a0) (Sum.elim (Gz k Arh Ix) (B9d k))
theorem A1m (a0:(List Aa)):Ok k (Aak k a0) ⟨A9f,Aoa,Ld R a0⟩:=pz k (fx k Tryz.f40 (Bqt R) (λ y=> .inr (.inr (y.1,y.2.1,y.2.2.1))) λ y h=>h.2 (.inr (y.1,y.2.1,y.2.2.1)) rfl) (.g (.e [[]])) λ _=>an
theorem A2i (a0:(List Aa)):Ok k (Aak k a0) ⟨Bb9,Aoc,Wc R a0⟩:=pz k (fx k Tryz.f40 (Bqt R) (λ y=> .inr (.inr (y.1,y.2.1,y.2.2.1))) λ y h=>h.2 (.inr (y.1,y.2.1,y.2.2.1)) rfl) (.g (.e [[]])) λ _=>an
theorem A2y:Ok k (B9d k) ⟨Arh,Ix,Vm R⟩:=pz k (fx k Tryz.f40 (Bqt R) (λ y=>(y.1,y.2.1,y.2.2.1)) λ _ h=>h) (.g (.e [[]])) λ _=>an
theorem A0y (a0:(List Aa)):Ok k (Aak k a0) ⟨La,Dw a0,Vv R a0⟩:=pz k (fx k Tryz.f40 (Bqt R) (λ y=> .inr (.inr (y.1,y.2.1,y.2.2.1))) λ y h=>h.2 (.inr (y.1,y.2.1,y.2.2.1)) rfl) (.g (.b (.g (.g (.g (.b (.g (.e [[]])) (.g (.g (.b (.c 0 [[]]) (.g (.b (.g (.l (.c 1 [[]]))) (.g (.g (.b (.c 2 [[]]) (.g (.l (.c 1 [[]]))))))))))))))) (.c 3 [[]]))) λ _=>ac (A1m k a0)<|ac bk<|ac (A2i k a0)<|ac (xt Sum.inl λ _ h=>h)<|an
theorem A1p (a0:(List Aa)):Ok k (B9d k) ⟨La,Dw a0,λ v=>Option.bind (iter (Vv R a0) v) (Sum.elim (Vm R) (λ y=>some y))⟩:=lz k (A0y k a0) (xs (A2y k) xr)
end
theorem Ayn {R:A0} (hR:MX 40 (Cy R)):MX 40 (Bqt R):=mw (Cc2 hR) 40 Tryz.f40 (Bqt R) [] (λ k=>(fx k Tryz.f40 (Bqt R) (λ y=>(y.1,y.2.1,y.2.2.1)) λ _ h=>h)) (.g (.g (.b (.g (.e [[]])) (.g (.g (.g (.b (.g (.e [[]])) (.g (.g (.b (.g (.e [[]])) (.g (.l (.c 0 [[]]))))))))))))) λ k x=>ac (A1p k x.1)<|an
theorem Aqr:∀k,MX 40 (Cy (Nv k))
 |0=>m0x (fn:=Tryz.f40) λ _=>rfl
 |k+1=>Ayn (Aqr k)
noncomputable def Ai2:FX yeE:=Cy Pe
theorem Xy:MX 40 Ai2:=A0n (T:=yeT) (ins:=Ajl) (λ R x=>R x.1 x.2.1 x.2.2.1 x.2.2.2.1) Nv Pe (λ x=>(λ (a0:(List Aa))=>List.length a0*List.length a0+2) x.1) Aqr λ _=>rfl
noncomputable def Jc:FS yeE:=f2 [(.sl (.nm 9)),.str,(.sl (.nm 2))] (.nm 9) (.int .i64) λ x=>Aso x.1 x.2.1 x.2.2.1
theorem Ca6:GO (EX [(41,Hp),(63,G9),(64,Id)] [(40,[],Ai2),(65,[],(E4 Pe))] []):=GF ⟨I3,Ajg,Ahy,trivial⟩ ⟨Xy,(Aha Xy),trivial⟩ trivial
section
variable (k:Kt Ca6 C F 111 [48,51])
noncomputable def Bq8:=c0 Tryz.f33
noncomputable def Z9:=ct [0,0,0,0,2,0,0,2,0,0,1,4] Bq8
noncomputable def Aht:=ct [0,3,0,0,1,4] Z9
noncomputable def A5a:=ct [0,2,4] Aht
noncomputable def Ag5:=ct [0,2,4] Z9
noncomputable def Bpo:=ct [0,3,4] Ag5
noncomputable def Ah7:=ct [0,2,0,1,4] Ag5
noncomputable def A4e:=ct [0,2,4] Ah7
abbrev Bpe (y:(Aa×Int)):Prop:=Ez k Tryz.f33 Jc (y.1,y.2,())
abbrev Bnw (a0:(List Aa)) (v1:Int) (v2:Int) (v3:Aa) (v4:Aa) (v5:(List Cb)) (v6:(List Int)):=Lz k Aht (Ly a0 v1 v2 v3 v4 v5 v6) (Sum.elim (Gz k A5a (Xg a0 v1 v2 v3 v4)) (Bpe k))
abbrev Bmq (v12:Aa) (v13:Aa):=Lz k Ah7 (Mq v12 v13) (Sum.elim (Gz k A4e (U5 v12 v13)) (Bpe k))
abbrev Alu (a0:(List Aa)):=Lz k Z9 (Jd a0) (Sum.elim (Gz k Ag5 Xe) (Bpe k))
theorem Bg1 (a0:(List Aa)) (v1:Int) (v2:Int) (v3:Aa) (v4:Aa):Ok k (Alu k a0) ⟨A5a,Xg a0 v1 v2 v3 v4,Ag3 a0 v1 v2 v3 v4⟩:=pz k Au (.g (.l (.c 0 [[]]))) λ _=>ac bk<|an
theorem Bgm (a0:(List Aa)) (v1:Int) (v2:Int) (v3:Aa) (v4:Aa) (v5:(List Cb)) (v6:(List Int)):Ok k (Bnw k a0 v1 v2 v3 v4 v5 v6) ⟨Aht,Ly a0 v1 v2 v3 v4 v5 v6,Ag0 a0 v1 v2 v3 v4 v5 v6⟩:=pz k (fz k Tryz.f33 Jc (λ y=> .inr (.inr (y.1,y.2.1))) λ y h=>h.2 (.inr (y.1,y.2.1)) rfl) (.g (.b (.g (.g (.b (.g (.e [[]])) (.g (.l (.c 0 [[]])))))) (.c 1 [[]]))) λ _=>ac bk<|ac (xt Sum.inl λ _ h=>h)<|an
theorem Bg2 (a0:(List Aa)) (v1:Int) (v2:Int) (v3:Aa) (v4:Aa) (v5:(List Cb)) (v6:(List Int)):Ok k (Alu k a0) ⟨Aht,Ly a0 v1 v2 v3 v4 v5 v6,λ v=>Option.bind (iter (Ag0 a0 v1 v2 v3 v4 v5 v6) v) (Sum.elim (Ag3 a0 v1 v2 v3 v4) (λ y=>some (.inr (.inr y))))⟩:=lz k (Bgm k a0 v1 v2 v3 v4 v5 v6) (xs (Bg1 k a0 v1 v2 v3 v4) (xl (f:=λ y=>Sum.inr y)))
theorem Bgx (v12:Aa):Ok k (Bpe k) ⟨Bpo,Qp v12,Uq v12⟩:=pz k (fz k Tryz.f33 Jc (λ y=>(y.1,y.2.1)) λ _ h=>h) (.g (.e [[]])) λ _=>an
theorem Bg6 (v12:Aa) (v13:Aa):Ok k (Bpe k) ⟨A4e,U5 v12 v13,Ag6 v12 v13⟩:=pz k (fz k Tryz.f33 Jc (λ y=>(y.1,y.2.1)) λ _ h=>h) (.g (.e [[]])) λ _=>an
theorem Bho (v12:Aa) (v13:Aa):Ok k (Bmq k v12 v13) ⟨Ah7,Mq v12 v13,Ag2 v12 v13⟩:=pz k (fz k Tryz.f33 Jc (λ y=> .inr (.inr (y.1,y.2.1))) λ y h=>h.2 (.inr (y.1,y.2.1)) rfl) (.g (.b (.g (.g (.b (.g (.e [[]])) (.g (.l (.c 0 [[]])))))) (.c 1 [[]]))) λ _=>ac bk<|ac (xt Sum.inl λ _ h=>h)<|an
theorem Bib (v12:Aa) (v13:Aa):Ok k (Bpe k) ⟨Ah7,Mq v12 v13,λ v=>Option.bind (iter (Ag2 v12 v13) v) (Sum.elim (Ag6 v12 v13) (λ y=>some y))⟩:=lz k (Bho k v12 v13) (xs (Bg6 k v12 v13) xr)
theorem Bgh:Ok k (Bpe k) ⟨Ag5,Xe,Ahg⟩:=pz k Au (.g (.b (.c 0 [[]]) (.g (.l (.c 1 [[]]))))) λ v=>ac (Bgx k v.1)<|ac (Bib k v.1 v.2.1)<|an
theorem Bhg (a0:(List Aa)):Ok k (Alu k a0) ⟨Z9,Jd a0,Ahh a0⟩:=pz k Au (.g (.b (.g (.g (.l (.c 0 [[]])))) (.c 1 [[]]))) λ v=>ac (Bg2 k a0 v.1 v.2.1 v.2.2.1 v.2.2.2.1 v.2.2.2.2.1 v.2.2.2.2.2.1)<|ac (xt Sum.inl λ _ h=>h)<|an
theorem Bge (a0:(List Aa)):Ok k (Bpe k) ⟨Z9,Jd a0,λ v=>Option.bind (iter (Ahh a0) v) (Sum.elim Ahg (λ y=>some y))⟩:=lz k (Bhg k a0) (xs (Bgh k) xr)
end
theorem Bfy:MT 33 Jc:=mz Ca6 33 Tryz.f33 Jc [48,51] (λ k=>(fz k Tryz.f33 Jc (λ y=>(y.1,y.2.1)) λ _ h=>h)) (.g (.g (.g (.g (.b (.g (.e [[]])) (.g (.g (.b (.g (.e [[]])) (.g (.g (.l (.c 0 [[.re 48 48 0,.st (.cell 6)]])))))))))))) λ k x=>ac (Bge k x.1)<|an
noncomputable def Acb:FS yeE:=f2 [(.sl (.nm 9)),.str] (.nm 9) (.int .i64) λ x=>Afc x.1 x.2.1
theorem Ccf:GO (EV [(32,Jk),(33,Jc)] [] false):=GB ⟨Anw,Bfy,trivial⟩ trivial
section
variable (k:Kt Ccf C F 20 [])
end
theorem A71:MT 10 Acb:=mz Ccf 10 Tryz.f10 Acb [] (λ k=>(fz k Tryz.f10 Acb (λ y=>(y.1,y.2.1)) λ _ h=>h)) (.g (.g (.g (.b (.g (.e [[]])) (.g (.e [[]])))))) λ k _=>an
noncomputable def Aac:FS yeE:=f1 [] .bool λ _=>Gf
theorem Ak0:MT 13 Aac:=Bhc
noncomputable def Ahp:FS yeE:=f2 [(.sl (.nm 9)),.str,.str] .bool (.int .i64) λ x=>A2j x.1 x.2.1 x.2.2.1
theorem Cb8:GO (EX [(32,Jk),(41,Hp)] [(40,[],Ai2)] []):=GF ⟨Anw,I3,trivial⟩ ⟨Xy,trivial⟩ trivial
section
variable (k:Kt Cb8 C F 28 [])
end
theorem A92:MT 14 Ahp:=mz Cb8 14 Tryz.f14 Ahp [] (λ k=>(fz k Tryz.f14 Ahp (λ y=>(y.1,y.2.1)) λ _ h=>h)) (.g (.g (.g (.b (.g (.e [[]])) (.g (.e [[]])))))) λ k _=>an
noncomputable def Fh:FS yeE:=f1 [(.sl (.nm 9)),.str] (.int .i64) λ x=>Of x.1 x.2.1
theorem Cbe:GO (EV [] [] false):=GB trivial trivial
section
variable (k:Kt Cbe C F 20 [])
noncomputable def Ath:=c0 Tryz.f16
noncomputable def Kr:=ct [0,0,1,4] Ath
noncomputable def Abn:=ct [0,2,4] Kr
abbrev B9c (y:Int):Prop:=Ez k Tryz.f16 Fh (y,())
abbrev Aq5 (a0:(List Aa)) (a1:(List UInt8)):=Lz k Kr (Dv a0 a1) (Sum.elim (Gz k Abn Jm) (B9c k))
theorem Aos:Ok k (B9c k) ⟨Abn,Jm,Ko⟩:=pz k (fz k Tryz.f16 Fh (λ y=>y.1) λ _ h=>h) (.g (.e [[]])) λ _=>an
theorem Ao1 (a0:(List Aa)) (a1:(List UInt8)):Ok k (Aq5 k a0 a1) ⟨Kr,Dv a0 a1,Kn a0 a1⟩:=pz k (fz k Tryz.f16 Fh (λ y=> .inr (.inr y.1)) λ y h=>h.2 (.inr y.1) rfl) (.g (.b (.g (.b (.g (.e [[]])) (.g (.l (.c 0 [[]]))))) (.c 1 [[]]))) λ _=>ac bk<|ac (xt Sum.inl λ _ h=>h)<|an
theorem Aoq (a0:(List Aa)) (a1:(List UInt8)):Ok k (B9c k) ⟨Kr,Dv a0 a1,λ v=>Option.bind (iter (Kn a0 a1) v) (Sum.elim Ko (λ y=>some y))⟩:=lz k (Ao1 k a0 a1) (xs (Aos k) xr)
end
theorem Ak9:MT 16 Fh:=mz Cbe 16 Tryz.f16 Fh [] (λ k=>Au) (.g (.g (.l (.c 0 [[]])))) λ k x=>ac (Aoq k x.1 x.2.1)<|an
noncomputable def Cm:FS yeE:=f1 [(.nm 9),(.nm 9)] .bool λ x=>Hu x.1 x.2.1
theorem Ca5:GO (EV [] [] false):=GB trivial trivial
section
variable (k:Kt Ca5 C F 50 [])
noncomputable def Aip:=c0 Tryz.f17
noncomputable def Ec:=ct [0,0,2,0,1,4] Aip
noncomputable def Aiv:=ct [0,3,0,0,3,4] Ec
noncomputable def Sw:=ct [0,2,4] Ec
abbrev B9z (y:Bool):Prop:=Ez k Tryz.f17 Cm (y,())
abbrev Q9 (a0:Aa) (a1:Aa):=Lz k Ec (Ca a0 a1) (Sum.elim (Gz k Sw D1) (B9z k))
theorem Aga (a0:Aa) (a1:Aa):Ok k (Q9 k a0 a1) ⟨Aiv,Q7,Gk a0 a1⟩:=pz k (fz k Tryz.f17 Cm (λ y=> .inr (.inr y.1)) λ y h=>h.2 (.inr y.1) rfl) (.g (.e [[]])) λ _=>an
theorem Aeu:Ok k (B9z k) ⟨Sw,D1,Gl⟩:=pz k (fz k Tryz.f17 Cm (λ y=>y.1) λ _ h=>h) (.g (.e [[]])) λ _=>an
theorem Ae7 (a0:Aa) (a1:Aa):Ok k (Q9 k a0 a1) ⟨Ec,Ca a0 a1,Gn a0 a1⟩:=pz k Au (.g (.b (.g (.g (.b (.c 0 [[]]) (.g (.l (.c 1 [[]])))))) (.c 2 [[]]))) λ _=>ac (Aga k a0 a1)<|ac bk<|ac (xt Sum.inl λ _ h=>h)<|an
theorem Agg (a0:Aa) (a1:Aa):Ok k (B9z k) ⟨Ec,Ca a0 a1,λ v=>Option.bind (iter (Gn a0 a1) v) (Sum.elim Gl (λ y=>some y))⟩:=lz k (Ae7 k a0 a1) (xs (Aeu k) xr)
end
theorem Ac3:MT 17 Cm:=mz Ca5 17 Tryz.f17 Cm [] (λ k=>(fz k Tryz.f17 Cm (λ y=>y.1) λ _ h=>h)) (.g (.g (.b (.g (.e [[]])) (.g (.l (.c 0 [[]])))))) λ k x=>ac (Agg k x.1 x.2.1)<|an
noncomputable def Dj:FS yeE:=f1 [(.sl (.nm 9)),.str] .bool λ x=>Mw x.1 x.2.1
theorem d5G:GO (EV [(10,Acb),(13,Aac),(14,Ahp),(16,Fh),(17,Cm)] [] false):=GB ⟨A71,Ak0,A92,Ak9,Ac3,trivial⟩ trivial
section
variable (k:Kt d5G C F 65 [])
noncomputable def Sn:=c0 Tryz.f5
noncomputable def Ai4:=ct [0,0,0,2,0,0,0,0,0,3,4] Sn
noncomputable def Ajd:=ct [0,0,0,2,0,0,0,0,0,2,4] Sn
abbrev d5Y (y:Bool):Prop:=Ez k Tryz.f5 Dj (y,())
theorem Af4:Ok k (d5Y k) ⟨Ai4,Rb,Gi⟩:=pz k (fz k Tryz.f5 Dj (λ y=>y.1) λ _ h=>h) (.g (.e [[]])) λ _=>an
theorem Af7 (a0:(List Aa)) (a1:(List UInt8)):Ok k (d5Y k) ⟨Ajd,F4 a0 a1,Ed a0 a1⟩:=pz k (fz k Tryz.f5 Dj (λ y=>y.1) λ _ h=>h) (.g (.g (.e [[]]))) λ _=>an
end
theorem Ade:MT 5 Dj:=mz d5G 5 Tryz.f5 Dj [] (λ k=>(fz k Tryz.f5 Dj (λ y=>y.1) λ _ h=>h)) (.g (.g (.g (.b (.g (.e [[]])) (.g (.g (.g (.g (.g (.b (.c 0 [[]]) (.c 1 [[]]))))))))))) λ k x=>ac (Af4 k)<|ac (Af7 k x.1 x.2.1)<|an
end
end Go.Ab
