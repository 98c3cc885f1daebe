/- The functions compute what the plain functions tell. Conditions: none beyond those that each theorem names. -/
import Derived.Test.YtgngflkahbpecaaGreatDoorP25
set_option linter.unusedSimpArgs false
namespace Go.Ab
open Go Go.Proofs
set_option linter.unusedVariables false
section
variable {P:Program} {C:Ctx} {F:FT}
noncomputable def Cn:FS yeE:=f1 [(.nm 9)] .bool λ x=>Qk x.1
theorem B6v:GO (EV [(144,Lb),(145,Ii),(146,Ka),(147,J1)] [] false):=GB ⟨U6,Ah8,A1i,A2z,trivial⟩ trivial
section
variable (k:Kt B6v C F 99 [])
noncomputable def Aen:=c0 Tryz.f123
noncomputable def Au6:=ct [0,0,3,4] Aen
noncomputable def Ip:=ct [0,0,2,0,1,4] Aen
noncomputable def Av9:=ct [0,3,0,0,3,4] Ip
noncomputable def T2:=ct [0,2,4] Ip
noncomputable def Mp:=ct [0,1,4] T2
noncomputable def Ua:=ct [0,2,4] Mp
noncomputable def Ij:=ct [0,1,4] Ua
noncomputable def Au1:=ct [0,3,0,0,3,4] Ij
noncomputable def T6:=ct [0,2,4] Ij
noncomputable def Hn:=ct [0,1,4] T6
noncomputable def Kp:=ct [0,3,0,0,1,4] Hn
noncomputable def Abm:=ct [0,2,4] Kp
noncomputable def Abe:=ct [0,2,4] Hn
abbrev Ah4 (y:Bool):Prop:=Ez k Tryz.f123 Cn (y,())
abbrev Ap6 (a0:Aa) (v4:Int):=Lz k Kp (Dr a0 v4) (Sum.elim (Gz k Abm (Gy a0 v4)) (Ah4 k))
abbrev Px (a0:Aa):=Lz k Hn (C2 a0) (Sum.elim (Gz k Abe Gs) (Ah4 k))
abbrev Abh (a0:Aa):=Lz k Ij (Dm a0) (Sum.elim (Gz k T6 (Ff a0)) (Ah4 k))
abbrev Atb (a0:Aa):=Lz k Mp (D5 a0) (Sum.elim (Gz k Ua (Hj a0)) (Ah4 k))
abbrev Abi (a0:Aa):=Lz k Ip (Dl a0) (Sum.elim (Gz k T2 (Fg a0)) (Ah4 k))
theorem Aps:Ok k (Ah4 k) ⟨Au6,Abl,Iv⟩:=pz k (fz k Tryz.f123 Cn (λ y=>y.1) λ _ h=>h) (.g (.e [[]])) λ _=>an
theorem Ap2 (a0:Aa):Ok k (Abi k a0) ⟨Av9,Abj,L3 a0⟩:=pz k (fz k Tryz.f123 Cn (λ y=> .inr (.inr y.1)) λ y h=>h.2 (.inr y.1) rfl) (.g (.e [[]])) λ _=>an
theorem Ap9 (a0:Aa):Ok k (Abh k a0) ⟨Au1,Abc,Is a0⟩:=pz k (fz k Tryz.f123 Cn (λ y=> .inr (.inr y.1)) λ y h=>h.2 (.inr y.1) rfl) (.g (.e [[]])) λ _=>an
theorem Aov (a0:Aa) (v4:Int):Ok k (Px k a0) ⟨Abm,Gy a0 v4,Kj a0 v4⟩:=pz k Au (.g (.l (.c 0 [[]]))) λ _=>ac bk<|an
theorem Aoo (a0:Aa) (v4:Int):Ok k (Ap6 k a0 v4) ⟨Kp,Dr a0 v4,Km a0 v4⟩:=pz k (fz k Tryz.f123 Cn (λ y=> .inr (.inr y.1)) λ y h=>h.2 (.inr y.1) rfl) (.g (.b (.g (.g (.b (.g (.e [[]])) (.g (.l (.c 0 [[]])))))) (.c 1 [[]]))) λ _=>ac bk<|ac (xt Sum.inl λ _ h=>h)<|an
theorem Ao0 (a0:Aa) (v4:Int):Ok k (Px k a0) ⟨Kp,Dr a0 v4,λ v=>Option.bind (iter (Km a0 v4) v) (Sum.elim (Kj a0 v4) (λ y=>some (.inr (.inr y))))⟩:=lz k (Aoo k a0 v4) (xs (Aov k a0 v4) (xl (f:=λ y=>Sum.inr y)))
theorem Aow:Ok k (Ah4 k) ⟨Abe,Gs,Kl⟩:=pz k (fz k Tryz.f123 Cn (λ y=>y.1) λ _ h=>h) (.g (.e [[]])) λ _=>an
theorem Ao3 (a0:Aa):Ok k (Px k a0) ⟨Hn,C2 a0,Kq a0⟩:=pz k Au (.g (.b (.g (.g (.l (.c 0 [[]])))) (.c 1 [[]]))) λ v=>ac (Ao0 k a0 v.1)<|ac (xt Sum.inl λ _ h=>h)<|an
theorem Aoy (a0:Aa):Ok k (Ah4 k) ⟨Hn,C2 a0,λ v=>Option.bind (iter (Kq a0) v) (Sum.elim Kl (λ y=>some y))⟩:=lz k (Ao3 k a0) (xs (Aow k) xr)
theorem Aqf (a0:Aa):Ok k (Ah4 k) ⟨T6,Ff a0,Ms a0⟩:=pz k Au (.g (.l (.c 0 [[]]))) λ _=>ac (Aoy k a0)<|an
theorem Apt (a0:Aa):Ok k (Abh k a0) ⟨Ij,Dm a0,L5 a0⟩:=pz k Au (.g (.b (.g (.g (.b (.c 0 [[]]) (.g (.l (.c 1 [[]])))))) (.c 2 [[]]))) λ _=>ac (Ap9 k a0)<|ac bk<|ac (xt Sum.inl λ _ h=>h)<|an
theorem Ar1 (a0:Aa):Ok k (Ah4 k) ⟨Ij,Dm a0,λ v=>Option.bind (iter (L5 a0) v) (Sum.elim (Ms a0) (λ y=>some y))⟩:=lz k (Apt k a0) (xs (Aqf k a0) xr)
theorem Apq (a0:Aa):Ok k (Ah4 k) ⟨Ua,Hj a0,Mf a0⟩:=pz k Au (.g (.l (.c 0 [[]]))) λ _=>ac (Ar1 k a0)<|an
theorem Arm (a0:Aa):Ok k (Atb k a0) ⟨Mp,D5 a0,Mu a0⟩:=pz k (fz k Tryz.f123 Cn (λ y=> .inr (.inr y.1)) λ y h=>h.2 (.inr y.1) rfl) (.g (.b (.g (.g (.b (.g (.e [[]])) (.g (.l (.c 0 [[]])))))) (.c 1 [[]]))) λ _=>ac bk<|ac (xt Sum.inl λ _ h=>h)<|an
theorem Aqs (a0:Aa):Ok k (Ah4 k) ⟨Mp,D5 a0,λ v=>Option.bind (iter (Mu a0) v) (Sum.elim (Mf a0) (λ y=>some y))⟩:=lz k (Arm k a0) (xs (Apq k a0) xr)
theorem Apz (a0:Aa):Ok k (Ah4 k) ⟨T2,Fg a0,Mc a0⟩:=pz k Au (.g (.l (.c 0 [[]]))) λ _=>ac (Aqs k a0)<|an
theorem Ap4 (a0:Aa):Ok k (Abi k a0) ⟨Ip,Dl a0,L8 a0⟩:=pz k Au (.g (.b (.g (.g (.b (.c 0 [[]]) (.g (.l (.c 1 [[]])))))) (.c 2 [[]]))) λ _=>ac (Ap2 k a0)<|ac bk<|ac (xt Sum.inl λ _ h=>h)<|an
theorem Ao6 (a0:Aa):Ok k (Ah4 k) ⟨Ip,Dl a0,λ v=>Option.bind (iter (L8 a0) v) (Sum.elim (Mc a0) (λ y=>some y))⟩:=lz k (Ap4 k a0) (xs (Apz k a0) xr)
end
theorem Ao2:MT 123 Cn:=mz B6v 123 Tryz.f123 Cn [] (λ k=>Au) (.g (.g (.b (.c 0 [[]]) (.g (.l (.c 1 [[]])))))) λ k x=>ac (Aps k)<|ac (Ao6 k x.1)<|an
noncomputable def K1:FS yeE:=f1 [(.sl (.nm 2))] .bool λ x=>L9 x.1
theorem B6x:GO (EV [] [] false):=GB trivial trivial
section
variable (k:Kt B6x C F 27 [])
noncomputable def Bfz:=c0 Tryz.f148
noncomputable def Ps:=ct [0,0,1,4] Bfz
noncomputable def Vu:=ct [0,3,0,0,1,4] Ps
noncomputable def Aqm:=ct [0,2,4] Vu
noncomputable def Apy:=ct [0,2,4] Ps
abbrev Bwe (y:Bool):Prop:=Ez k Tryz.f148 K1 (y,())
abbrev A7j (a0:(List Ak)) (v1:Int):=Lz k Vu (Ha a0 v1) (Sum.elim (Gz k Aqm (Nf a0 v1)) (Bwe k))
abbrev Aaj (a0:(List Ak)):=Lz k Ps (Fm a0) (Sum.elim (Gz k Apy Nh) (Bwe k))
theorem A2k (a0:(List Ak)) (v1:Int):Ok k (Aaj k a0) ⟨Aqm,Nf a0 v1,Xc a0 v1⟩:=pz k Au (.g (.l (.c 0 [[]]))) λ _=>ac bk<|an
theorem A2s (a0:(List Ak)) (v1:Int):Ok k (A7j k a0 v1) ⟨Vu,Ha a0 v1,Wd a0 v1⟩:=pz k (fz k Tryz.f148 K1 (λ y=> .inr (.inr y.1)) λ y h=>h.2 (.inr y.1) rfl) (.g (.b (.g (.g (.b (.g (.e [[]])) (.g (.l (.c 0 [[]])))))) (.c 1 [[]]))) λ _=>ac bk<|ac (xt Sum.inl λ _ h=>h)<|an
theorem A0l (a0:(List Ak)) (v1:Int):Ok k (Aaj k a0) ⟨Vu,Ha a0 v1,λ v=>Option.bind (iter (Wd a0 v1) v) (Sum.elim (Xc a0 v1) (λ y=>some (.inr (.inr y))))⟩:=lz k (A2s k a0 v1) (xs (A2k k a0 v1) (xl (f:=λ y=>Sum.inr y)))
theorem A2d:Ok k (Bwe k) ⟨Apy,Nh,Wk⟩:=pz k (fz k Tryz.f148 K1 (λ y=>y.1) λ _ h=>h) (.g (.e [[]])) λ _=>an
theorem A1b (a0:(List Ak)):Ok k (Aaj k a0) ⟨Ps,Fm a0,V1 a0⟩:=pz k Au (.g (.b (.g (.g (.l (.c 0 [[]])))) (.c 1 [[]]))) λ v=>ac (A0l k a0 v.1)<|ac (xt Sum.inl λ _ h=>h)<|an
theorem A30 (a0:(List Ak)):Ok k (Bwe k) ⟨Ps,Fm a0,λ v=>Option.bind (iter (V1 a0) v) (Sum.elim Wk (λ y=>some y))⟩:=lz k (A1b k a0) (xs (A2d k) xr)
end
theorem Ax7:MT 148 K1:=mz B6x 148 Tryz.f148 K1 [] (λ k=>Au) (.g (.g (.l (.c 0 [[]])))) λ k x=>ac (A30 k x.1)<|an
noncomputable def Jf:FS yeE:=f1 [(.nm 9)] (.int .i64) λ x=>Alp x.1
theorem B61:GO (EV [(148,K1)] [] false):=GB ⟨Ax7,trivial⟩ trivial
section
variable (k:Kt B61 C F 50 [])
noncomputable def Blu:=c0 Tryz.f124
noncomputable def Vj:=ct [0,0,1,4] Blu
noncomputable def Abo:=ct [0,3,0,0,1,4] Vj
noncomputable def Aws:=ct [0,2,4] Abo
noncomputable def Am7:=ct [0,2,4] Vj
noncomputable def Adi:=ct [0,1,4] Am7
noncomputable def Ay7:=ct [0,2,4] Adi
abbrev Bcr (y:Int):Prop:=Ez k Tryz.f124 Jf (y,())
abbrev Bgy (a0:Aa) (v1:Int):=Lz k Abo (Jv a0 v1) (Sum.elim (Gz k Aws (Ru a0 v1)) (Bcr k))
abbrev Bhf (a0:Aa):=Lz k Adi (J5 a0) (Sum.elim (Gz k Ay7 Ze) (Bcr k))
abbrev Ai0 (a0:Aa):=Lz k Vj (H3 a0) (Sum.elim (Gz k Am7 (Nr a0)) (Bcr k))
theorem Bd1 (a0:Aa) (v1:Int):Ok k (Ai0 k a0) ⟨Aws,Ru a0 v1,Ac4 a0 v1⟩:=pz k (fz k Tryz.f124 Jf (λ y=> .inr (.inr y.1)) λ y h=>h.2 (.inr y.1) rfl) (.g (.b (.g (.e [[]])) (.g (.l (.c 0 [[]]))))) λ _=>ac bk<|an
theorem Beq (a0:Aa) (v1:Int):Ok k (Bgy k a0 v1) ⟨Abo,Jv a0 v1,Adv a0 v1⟩:=pz k (fz k Tryz.f124 Jf (λ y=> .inr (.inr y.1)) λ y h=>h.2 (.inr y.1) rfl) (.g (.b (.g (.g (.b (.g (.e [[]])) (.g (.l (.c 0 [[]])))))) (.c 1 [[]]))) λ _=>ac bk<|ac (xt Sum.inl λ _ h=>h)<|an
theorem Bdm (a0:Aa) (v1:Int):Ok k (Ai0 k a0) ⟨Abo,Jv a0 v1,λ v=>Option.bind (iter (Adv a0 v1) v) (Sum.elim (Ac4 a0 v1) (λ y=>some (.inr (.inr y))))⟩:=lz k (Beq k a0 v1) (xs (Bd1 k a0 v1) (xl (f:=λ y=>Sum.inr y)))
theorem Bai:Ok k (Bcr k) ⟨Ay7,Ze,Ace⟩:=pz k (fz k Tryz.f124 Jf (λ y=>y.1) λ _ h=>h) (.g (.e [[]])) λ _=>an
theorem Bd5 (a0:Aa):Ok k (Bhf k a0) ⟨Adi,J5 a0,Adn a0⟩:=pz k (fz k Tryz.f124 Jf (λ y=> .inr (.inr y.1)) λ y h=>h.2 (.inr y.1) rfl) (.g (.b (.g (.g (.b (.g (.e [[]])) (.g (.l (.c 0 [[]])))))) (.c 1 [[]]))) λ _=>ac bk<|ac (xt Sum.inl λ _ h=>h)<|an
theorem Bbq (a0:Aa):Ok k (Bcr k) ⟨Adi,J5 a0,λ v=>Option.bind (iter (Adn a0) v) (Sum.elim Ace (λ y=>some y))⟩:=lz k (Bd5 k a0) (xs (Bai k) xr)
theorem Bar (a0:Aa):Ok k (Bcr k) ⟨Am7,Nr a0,Acm a0⟩:=pz k Au (.g (.l (.c 0 [[]]))) λ _=>ac (Bbq k a0)<|an
theorem Bdr (a0:Aa):Ok k (Ai0 k a0) ⟨Vj,H3 a0,Abu a0⟩:=pz k Au (.g (.b (.g (.g (.l (.c 0 [[]])))) (.c 1 [[]]))) λ v=>ac (Bdm k a0 v.1)<|ac (xt Sum.inl λ _ h=>h)<|an
theorem Bcn (a0:Aa):Ok k (Bcr k) ⟨Vj,H3 a0,λ v=>Option.bind (iter (Abu a0) v) (Sum.elim (Acm a0) (λ y=>some y))⟩:=lz k (Bdr k a0) (xs (Bar k a0) xr)
end
theorem A7l:MT 124 Jf:=mz B61 124 Tryz.f124 Jf [] (λ k=>Au) (.g (.g (.l (.c 0 [[]])))) λ k x=>ac (Bcn k x.1)<|an
abbrev Bce:List (Tk yeE):=[.S 0 false,.v (.sl (.nm 2)),.S 1 false,.k (.ptr 1000001 0),.C 1000001,.k (.ar 1000002 0),.A 1000002 181 (.nm 10) 0 false]
abbrev A7u:List (Tk yeE):=[.C 1000001,.k (.ar 1000002 0),.A 1000002 181 (.nm 10) 0 false]
noncomputable def Pq:FX yeE:=⟨Bce,A7u,(List A5),λ x=>Wn x.1 x.2.1,λ r=>(r,())⟩
theorem B66:GO (EX [] [] []):=GF trivial trivial trivial
section
variable (k:Kt B66 C F 21 [])
noncomputable def Bbs:=c0 Tryz.f149
noncomputable def We:=ct [0,1,4] Bbs
noncomputable def Bb7:=ct [0,3,0,0,3,0,4] We
abbrev B81 (y:(List A5)):Prop:=Ex k Tryz.f149 Pq (y,())
abbrev An6 (a0:(List Ak)):=Lz k We (Fo a0) (B81 k)
theorem A2o (a0:(List Ak)) (v1:Int):Ok k (An6 k a0) ⟨Bb7,S6 a0 v1,Wr a0 v1⟩:=pz k Au (.g (.l (.c 0 [[]]))) λ _=>ac bk<|an
theorem A2c (a0:(List Ak)):Ok k (An6 k a0) ⟨We,Fo a0,U8 a0⟩:=pz k (fx k Tryz.f149 Pq (λ y=> .inr y.1) λ y h=>h.2 y.1 rfl) (.g (.b (.g (.g (.b (.g (.c 0 [[.re 1000002 1000002 0]])) (.c 0 [[]])))) (.e [[]]))) λ v=>ac (A2o k a0 v.1)<|an
theorem A10 (a0:(List Ak)):Ok k (B81 k) ⟨We,Fo a0,λ v=>Option.bind (iter (U8 a0) v) (λ y=>some y)⟩:=lz k (A2c k a0) xr
end
theorem Az4:MX 149 Pq:=mw B66 149 Tryz.f149 Pq [] (λ k=>Au) (.g (.l (.c 0 [[]]))) λ k x=>ac (A10 k x.1)<|an
noncomputable def Wz:FS yeE:=f1 [(.nm 9)] (.sl (.nm 10)) λ x=>Alf x.1
theorem B8x:GO (EX [(150,Oc)] [(149,[],Pq)] []):=GF ⟨Xz,trivial⟩ ⟨Az4,trivial⟩ trivial
section
variable (k:Kt B8x C F 106 [])
noncomputable def Bod:=c0 Tryz.f125
noncomputable def Adj:=ct [0,0,0,0,1,4] Bod
noncomputable def Amy:=ct [0,2,4] Adj
noncomputable def V6:=ct [0,1,4] Amy
noncomputable def Axi:=ct [0,3,0,0,0,3,0,4] V6
noncomputable def Bm4:=ct [0,3,0,4] Axi
noncomputable def Aln:=ct [0,2,4] V6
noncomputable def Acq:=ct [0,1,4] Aln
noncomputable def Ak8:=ct [0,2,4] Acq
noncomputable def Xa:=ct [0,1,4] Ak8
noncomputable def Yj:=ct [0,3,0,0,0,1,4] Xa
noncomputable def At4:=ct [0,2,4] Yj
noncomputable def Aud:=ct [0,2,4] Xa
abbrev A43 (y:(List A5)):Prop:=Ez k Tryz.f125 Wz (y,())
abbrev Be9 (a0:Aa) (v12:Int):=Lz k Yj (Ik a0 v12) (Gz k At4 (Ot a0 v12))
abbrev Ain (a0:Aa):=Lz k Xa (H4 a0) (Gz k Aud O9)
abbrev Bg4 (a0:Aa):=Lz k Acq (Jx a0) (Gz k Ak8 (R3 a0))
abbrev Ai9 (a0:Aa):=Lz k V6 (Gh a0) (Gz k Aln (J7 a0))
abbrev Bgu (a0:Aa):=Lz k Adj (Jy a0) (Gz k Amy (R4 a0))
theorem Bej (a0:Aa) (v4:Int):Ok k (Ai9 k a0) ⟨Bm4,Zk a0 v4,Adb a0 v4⟩:=pz k Au (.g (.l (.c 0 [[]]))) λ _=>ac bk<|an
theorem Bck (a0:Aa) (v4:Int):Ok k (Ai9 k a0) ⟨Axi,Yi a0 v4,Wm a0 v4⟩:=pz k Au (.g (.b (.g (.c 0 [[.re 4000003 4000003 0]])) (.c 0 [[]]))) λ _=>ac (Bej k a0 v4)<|an
theorem A8b (a0:Aa) (v12:Int):Ok k (Ain k a0) ⟨At4,Ot a0 v12,Yv a0 v12⟩:=pz k Au (.g (.l (.c 0 [[]]))) λ _=>ac bk<|an
theorem A7z (a0:Aa) (v12:Int):Ok k (Be9 k a0 v12) ⟨Yj,Ik a0 v12,Y5 a0 v12⟩:=pz k Au (.g (.b (.g (.g (.g (.l (.c 0 [[.re 4000003 4000003 0]]))))) (.c 1 [[]]))) λ _=>ac bk<|ac (xt id λ _ h=>h)<|an
theorem A6c (a0:Aa) (v12:Int):Ok k (Ain k a0) ⟨Yj,Ik a0 v12,λ v=>Option.bind (iter (Y5 a0 v12) v) (Yv a0 v12)⟩:=lz k (A7z k a0 v12) (A8b k a0 v12)
theorem A77:Ok k (A43 k) ⟨Aud,O9,Y6⟩:=pz k (fz k Tryz.f125 Wz (λ y=>y.1) λ _ h=>h) (.g (.e [[.fix (.slot 2)]])) λ _=>an
theorem Baz (a0:Aa):Ok k (Ain k a0) ⟨Xa,H4 a0,Ab4 a0⟩:=pz k Au (.g (.b (.g (.g (.g (.l (.c 0 [[.re 4000003 4000003 0]]))))) (.c 1 [[]]))) λ v=>ac (A6c k a0 v.1)<|ac (xt id λ _ h=>h)<|an
theorem Beb (a0:Aa):Ok k (A43 k) ⟨Xa,H4 a0,λ v=>Option.bind (iter (Ab4 a0) v) Y6⟩:=lz k (Baz k a0) (A77 k)
theorem Bdp (a0:Aa):Ok k (A43 k) ⟨Ak8,R3 a0,Abr a0⟩:=pz k Au (.g (.l (.c 0 [[]]))) λ _=>ac (Beb k a0)<|an
theorem Bci (a0:Aa):Ok k (Bg4 k a0) ⟨Acq,Jx a0,Abz a0⟩:=pz k Au (.g (.b (.g (.g (.g (.l (.c 0 [[.re 4000003 4000003 0]]))))) (.c 1 [[]]))) λ _=>ac bk<|ac (xt id λ _ h=>h)<|an
theorem Bca (a0:Aa):Ok k (A43 k) ⟨Acq,Jx a0,λ v=>Option.bind (iter (Abz a0) v) (Abr a0)⟩:=lz k (Bci k a0) (Bdp k a0)
theorem Be3 (a0:Aa):Ok k (A43 k) ⟨Aln,J7 a0,Vn a0⟩:=pz k Au (.g (.l (.c 0 [[]]))) λ _=>ac (Bca k a0)<|an
theorem Beg (a0:Aa):Ok k (Ai9 k a0) ⟨V6,Gh a0,Ab0 a0⟩:=pz k Au (.g (.b (.g (.g (.g (.b (.g (.c 0 [[.re 4000003 4000003 0]])) (.c 0 [[.re 4000003 4000003 0]]))))) (.c 1 [[]]))) λ v=>ac (Bck k a0 v.1)<|ac (xt id λ _ h=>h)<|an
theorem Baj (a0:Aa):Ok k (A43 k) ⟨V6,Gh a0,λ v=>Option.bind (iter (Ab0 a0) v) (Vn a0)⟩:=lz k (Beg k a0) (Be3 k a0)
theorem Bed (a0:Aa):Ok k (A43 k) ⟨Amy,R4 a0,Ab3 a0⟩:=pz k Au (.g (.l (.c 0 [[]]))) λ _=>ac (Baj k a0)<|an
theorem A9y (a0:Aa):Ok k (Bgu k a0) ⟨Adj,Jy a0,Abp a0⟩:=pz k Au (.g (.b (.g (.g (.g (.l (.c 0 [[.re 4000003 4000003 0]]))))) (.c 1 [[]]))) λ _=>ac bk<|ac (xt id λ _ h=>h)<|an
theorem Bei (a0:Aa):Ok k (A43 k) ⟨Adj,Jy a0,λ v=>Option.bind (iter (Abp a0) v) (Ab3 a0)⟩:=lz k (A9y k a0) (Bed k a0)
end
theorem A6p:MT 125 Wz:=mz B8x 125 Tryz.f125 Wz [] (λ k=>Au) (.g (.g (.g (.g (.l (.c 0 [[.own (.cell 3) 0 4000003 181 0]])))))) λ k x=>ac (Bei k x.1)<|an
abbrev Ai5:List (Tk yeE):=[.S 0 true,.s 1,.S 1 false,.v (.int .i64),.S 2 false,.k (.ptr 1000001 0),.C 1000001,.v (.int .i64)]
abbrev Aqh:List (Tk yeE):=[.S 0 false,.v .bool,.C 1000001,.v (.int .i64)]
noncomputable def C0 (R:Bh):FX yeE:=⟨Ai5,Aqh,(Bool×Int),λ x=>R x.1 x.2.1 x.2.2.1,λ r=>(r.1,r.2,())⟩
abbrev A8d:List (Tk yeE):=[.S 0 true,.s 1,.S 1 false,.k (.ptr 1000001 0),.S 2 false,.k (.ptr 1000002 0),.C 1000001,.v (.int .i64),.C 1000002,.k (.ptr 1000003 0),.C 1000003,.v (.int .i64)]
abbrev A09:List (Tk yeE):=[.S 0 false,.v .bool,.C 1000001,.v (.int .i64),.C 1000002,.k (.ptr 1000003 0),.C 1000003,.v (.int .i64)]
noncomputable def To (R:Bh):FX yeE:=⟨A8d,A09,(Bool×Int×Int),λ x=>Ai1 R x.1 x.2.1 x.2.2.1,λ r=>(r.1,r.2.1,r.2.2,())⟩
noncomputable abbrev B8k (R:Bh):Env:=EX [] [(151,[],(C0 R))] []
theorem Cbz {R:Bh} (hR:MX 151 (C0 R)):GO (B8k R):=GF trivial ⟨hR,trivial⟩ trivial
section
variable {R:Bh} {G:GO (B8k R)} (k:Kt G C F 10 [])
end
theorem Awa {R:Bh} (hR:MX 151 (C0 R)):MX 165 (To R):=mw (Cbz hR) 165 Tryz.f165 (To R) [] (λ k=>(fx k Tryz.f165 (To R) (λ y=>(y.1,y.2.1,y.2.2.1)) λ _ h=>h)) (.g (.g (.e [[]]))) λ k _=>an
abbrev Acd:List (Tk yeE):=[.S 0 false,.v (.sl (.nm 1)),.S 1 false,.k (.clo 165 [.ptr 1000001 0,.ptr 1000002 0]),.C 1000001,.v (.int .i64),.C 1000002,.k (.ptr 1000003 0),.C 1000003,.v (.int .i64)]
abbrev Aaz:List (Tk yeE):=[.S 0 false,.v (.int .i64),.C 1000001,.v (.int .i64),.C 1000002,.k (.ptr 1000003 0),.C 1000003,.v (.int .i64)]
noncomputable def Cp (R:Bh):FX yeE:=⟨Acd,Aaz,(Int×Int×Int),λ x=>Iw R x.1 x.2.1 x.2.2.1,λ r=>(r.1,r.2.1,r.2.2,())⟩
noncomputable abbrev Bii (R:Bh):Env:=EX [] [(151,[],(C0 R)),(165,[],(To R))] []
theorem By7 {R:Bh} (hR:MX 151 (C0 R)):GO (Bii R):=GF trivial ⟨hR,(Awa hR),trivial⟩ trivial
section
variable {R:Bh} {G:GO (Bii R)} (k:Kt G C F 19 [])
noncomputable def Abw:=c0 Tryz.f197
noncomputable def Ey:=ct [0,0,1,4] Abw
noncomputable def Oe:=ct [0,2,4] Ey
abbrev A2x (y:(Int×Int×Int)):Prop:=Ex k Tryz.f197 (Cp R) (y.1,y.2.1,y.2.2,())
abbrev Aao (a0:(List Am)):=Lz k Ey (B9 a0) (Sum.elim (Gz k Oe Ek) (A2x k))
theorem Aaf:Ok k (A2x k) ⟨Oe,Ek,Ew R⟩:=pz k (fx k Tryz.f197 (Cp R) (λ y=>(y.1,y.2.1,y.2.2.1)) λ _ h=>h) (.g (.e [[]])) λ _=>an
theorem Zw (a0:(List Am)):Ok k (Aao k a0) ⟨Ey,B9 a0,E0 R a0⟩:=pz k (fx k Tryz.f197 (Cp R) (λ y=> .inr (.inr (y.1,y.2.1,y.2.2.1))) λ y h=>h.2 (.inr (y.1,y.2.1,y.2.2.1)) rfl) (.g (.b (.g (.g (.b (.g (.e [[]])) (.g (.l (.c 0 [[]])))))) (.c 1 [[]]))) λ _=>ac bk<|ac (xt Sum.inl λ _ h=>h)<|an
theorem Aag (a0:(List Am)):Ok k (A2x k) ⟨Ey,B9 a0,λ v=>Option.bind (iter (E0 R a0) v) (Sum.elim (Ew R) (λ y=>some y))⟩:=lz k (Zw k a0) (xs (Aaf k) xr)
end
theorem X7 {R:Bh} (hR:MX 151 (C0 R)):MX 197 (Cp R):=mw (By7 hR) 197 Tryz.f197 (Cp R) [] (λ k=>Au) (.g (.g (.l (.c 0 [[]])))) λ k x=>ac (Aag k x.1)<|an
abbrev X6:List (Tk yeE):=[.S 0 false,.v (.sl (.nm 1)),.S 1 false,.k (.clo 165 [.ptr 1000001 0,.ptr 1000002 0]),.C 1000001,.v (.int .i64),.C 1000002,.k (.ptr 1000003 0),.C 1000003,.v (.int .i64)]
abbrev Xj:List (Tk yeE):=[.S 0 false,.v .bool,.C 1000001,.v (.int .i64),.C 1000002,.k (.ptr 1000003 0),.C 1000003,.v (.int .i64)]
noncomputable def Dz (R:Bh):FX yeE:=⟨X6,Xj,(Bool×Int×Int),λ x=>Hb R x.1 x.2.1 x.2.2.1,λ r=>(r.1,r.2.1,r.2.2,())⟩
noncomputable abbrev Bi1 (R:Bh):Env:=EX [] [(151,[],(C0 R)),(197,[165],(Cp R))] []
theorem B0h {R:Bh} (hR:MX 151 (C0 R)):GO (Bi1 R):=GF trivial ⟨hR,(X7 hR),trivial⟩ trivial
section
variable {R:Bh} {G:GO (Bi1 R)} (k:Kt G C F 9 [])
end
theorem Uy {R:Bh} (hR:MX 151 (C0 R)):MX 164 (Dz R):=mw (B0h hR) 164 Tryz.f164 (Dz R) [] (λ k=>(fx k Tryz.f164 (Dz R) (λ y=>(y.1,y.2.1,y.2.2.1)) λ _ h=>h)) (.g (.g (.e [[]]))) λ k _=>an
noncomputable def Brs (R:Bh):FX yeE:=⟨Ai5,Aqh,(Bool×Int),λ x=>Al3 R x.1 x.2.1 x.2.2.1,λ r=>(r.1,r.2,())⟩
noncomputable abbrev B6s (R:Bh):Env:=EX [] [(151,[],(C0 R)),(164,[165],(Dz R))] []
theorem Ccq {R:Bh} (hR:MX 151 (C0 R)):GO (B6s R):=GF trivial ⟨hR,(Uy hR),trivial⟩ trivial
section
variable {R:Bh} {G:GO (B6s R)} (k:Kt G C F 24 [])
noncomputable def Bad:=c0 Tryz.f151
noncomputable def Baq:=ct [0,0,0,3,4] Bad
abbrev Cb2 (y:(Bool×Int)):Prop:=Ex k Tryz.f151 (Brs R) (y.1,y.2,())
theorem A1r (a2:Int):Ok k (Cb2 k) ⟨Baq,Tq a2,Vz R a2⟩:=pz k (fx k Tryz.f151 (Brs R) (λ y=>(y.1,y.2.1)) λ _ h=>h) (.g (.e [[]])) λ _=>an
end
theorem Ayu {R:Bh} (hR:MX 151 (C0 R)):MX 151 (Brs R):=mw (Ccq hR) 151 Tryz.f151 (Brs R) [] (λ k=>(fx k Tryz.f151 (Brs R) (λ y=>(y.1,y.2.1)) λ _ h=>h)) (.g (.g (.g (.b (.c 0 [[]]) (.g (.e [[]])))))) λ k x=>ac (A1r k x.2.2.1)<|an
theorem Api:∀k,MX 151 (C0 (Nw k))
 |0=>m0x (fn:=Tryz.f151) λ _=>rfl
 |k+1=>Ayu (Api k)
noncomputable def Auj:FX yeE:=C0 Aia
theorem A3v:MX 151 Auj:=A0n (T:=yeT) (ins:=Ai5) (λ R x=>R x.1 x.2.1 x.2.2.1) Nw Aia (λ x=>(λ (a0:Am)=>SizeOf.sizeOf a0+1) x.1) Api λ _=>rfl
noncomputable def Pt:FS yeE:=f1 [(.int .i64)] (.int .i64) λ x=>Aj3 x.1
theorem B6p:GO (EV [] [] false):=GB trivial trivial
section
variable (k:Kt B6p C F 31 [])
noncomputable def Buv:=c0 Tryz.f166
noncomputable def Av4:=ct [0,0,2,4] Buv
noncomputable def Bul:=ct [0,3,4] Av4
noncomputable def Bdt:=ct [0,2,4] Av4
noncomputable def Buh:=ct [0,2,4] Bdt
abbrev Bwp (y:Int):Prop:=Ez k Tryz.f166 Pt (y,())
theorem Bk4:Ok k (Bwp k) ⟨Bul,A4b,Aez⟩:=pz k (fz k Tryz.f166 Pt (λ y=>y.1) λ _ h=>h) (.g (.e [[]])) λ _=>an
theorem Bmm (a0:Int):Ok k (Bwp k) ⟨Buh,Aif a0,Alv a0⟩:=pz k (fz k Tryz.f166 Pt (λ y=>y.1) λ _ h=>h) (.g (.b (.g (.e [[]])) (.g (.e [[]])))) λ _=>an
theorem Bnc (a0:Int):Ok k (Bwp k) ⟨Bdt,Ag9 a0,Alh a0⟩:=pz k (fz k Tryz.f166 Pt (λ y=>y.1) λ _ h=>h) (.g (.b (.g (.e [[]])) (.c 0 [[]]))) λ _=>ac (Bmm k a0)<|an
theorem Bnq (a0:Int):Ok k (Bwp k) ⟨Av4,Ah6 a0,Amc a0⟩:=pz k Au (.g (.b (.c 0 [[]]) (.c 1 [[]]))) λ _=>ac (Bk4 k)<|ac (Bnc k a0)<|an
end
theorem Bg3:MT 166 Pt:=mz B6p 166 Tryz.f166 Pt [] (λ k=>(fz k Tryz.f166 Pt (λ y=>y.1) λ _ h=>h)) (.g (.g (.b (.g (.e [[]])) (.c 0 [[]])))) λ k x=>ac (Bnq k x.1)<|an
noncomputable abbrev N7:Env:=EV [] [] false
noncomputable def Awg:=c0 Tryz.f167
noncomputable def Avx:FS yeE:=f1 [(.nm 0)] .bool λ x=>Zy x.1
noncomputable def Bt3:=ct [0,0,3,4] Awg
noncomputable def Avr:=ct [0,0,2,0,1] Awg
noncomputable def Btc:=ct [0,2,4] Avr
abbrev A0h (C:Ctx) (F:FT) (y:Bool):Prop:=En N7 C F Tryz.f167 Avx (y,())
def Bl4 (r1:Int):ST:=⟨39,[oi 3 r1],[]⟩
def Bol:ST:=⟨39,[],[]⟩
def A5z (v:Int×Int):ST:=⟨39,[oi 3 v.1,oi 4 v.2],[]⟩
def Bj6 (a0:Bd):ST:=⟨39,[og 0 (Yd a0)],[]⟩
theorem Acw (G:Bs N7 P) {y} (E:A0h C F y) (h:Uf=some y):Bv N7 P C F Bt3 (Bol):=by
 unfold Uf at h
 have e:=sj h;subst e
 exact se G E [r0,au] tt
theorem Bln (G:Bs N7 P) {y} (E:A0h C F y) (v:Int×Int) o (h:Am3 v.1 v.2=some o) (L:LP N7 P C F Avr A5z (GX N7 P C F Btc Bl4) o):Bv N7 P C F Avr (A5z v):=by
 unfold Am3 at h
 rcases Aj h with⟨b5,h⟩|⟨b5,h⟩
 ·obtain⟨c1,h⟩:=A8 h
  exact sg G [r0,bt,r0,en] (e2 b5 c1) (L.1 _ (si h))
 ·exact sg G [r0,bf,au] (e1 b5) (L.2 _ (si h))
theorem Bts (G:Bs N7 P) {y a0} (E:A0h C F y) (h:Zy a0=some y):Bv N7 P C F Awg (Bj6 a0):=by
 unfold Zy at h
 rcases Aj h with⟨b1,h⟩|⟨b1,h⟩
 ·exact sg G [r0,ru [3,7,8,12,13,17],bt,au] (ar 4 b1<|ar 9 rT<|tt) (Acw G E h)
 ·rcases Aj h with⟨b2,h⟩|⟨b2,h⟩
  ·exact sg G [r0,rb [3,7] [8,12,13,17],bt,au] (ar 4 b1<|ar 4 b2<|ar 5 rT<|tt) (Acw G E h)
  ·rcases Aj h with⟨b3,h⟩|⟨b3,h⟩
   ·exact sg G [r0,rb [3,7,8,12] [13,17],bt,au] (ar 4 b1<|ar 4 b2<|ar 4 b3<|e1 rT) (Acw G E h)
   ·rcases Aj h with⟨b4,h⟩|⟨b4,h⟩
    ·exact sg G [r0,rf [3,7,8,12,13,17],bt,au] (ar 4 b1<|ar 4 b2<|ar 4 b3<|e1 b4) (Acw G E h)
    ·obtain⟨r1,hi,h⟩:=bind_some h
     refine sg G [r0,rf [3,7,8,12,13,17],bf,r0,en] (ar 4 b1<|ar 4 b2<|ar 4 b3<|e1 b4) (lg (Bln G E) hi ?_)
     rcases Aj h with⟨b6,h⟩|⟨b6,h⟩
     ·have e:=sj h;subst e
      exact se G E [ru [2,5],au] (ar 3 b6<|tt)
     ·have e:=sj h;subst e
      exact se G E [rf [2,5],au] (ar 3 b6<|tt)
theorem Bhr:MT 167 Avx:=show E1 N7 _ _ _ from mt (fn:=Tryz.f167) (S:=λ x=>Bj6 x.1) (GB trivial trivial) λ G _ _ _ _=>Bts G
noncomputable def Oy:FS yeE:=f1 [(.int .u8)] .bool λ x=>L4 x.1
theorem B8b:GO (EV [] [] false):=GB trivial trivial
section
variable (k:Kt B8b C F 17 [])
end
theorem Ah5:MT 198 Oy:=mz B8b 198 Tryz.f198 Oy [] (λ k=>(fz k Tryz.f198 Oy (λ y=>y.1) λ _ h=>h)) (.g (.g (.e [[]]))) λ k _=>an
noncomputable def Ads:FS yeE:=f1 [.str] .bool λ x=>Xk x.1
theorem B6y:GO (EV [] [] false):=GB trivial trivial
section
variable (k:Kt B6y C F 16 [])
end
theorem A6o:MT 199 Ads:=mz B6y 199 Tryz.f199 Ads [] (λ k=>(fz k Tryz.f199 Ads (λ y=>y.1) λ _ h=>h)) (.g (.g (.g (.b (.b (.g (.e [[]])) (.e [])) (.g (.b (.b (.g (.e [[]])) (.e [])) (.g (.b (.b (.g (.e [[]])) (.e [])) (.g (.b (.b (.g (.e [[]])) (.e [])) (.g (.b (.b (.g (.e [[]])) (.e [])) (.g (.b (.b (.g (.e [[]])) (.e [])) (.g (.b (.b (.g (.e [[]])) (.e [])) (.g (.b (.b (.g (.e [[]])) (.e [])) (.g (.b (.b (.g (.e [[]])) (.e [])) (.g (.b (.b (.g (.e [[]])) (.e [])) (.g (.b (.g (.e [[]])) (.g (.e [[]])))))))))))))))))))))))))) λ k _=>an
noncomputable def Yy:FS yeE:=f1 [(.int .u8)] .bool λ x=>Ur x.1
theorem B7h:GO (EV [] [] false):=GB trivial trivial
section
variable (k:Kt B7h C F 9 [])
end
theorem A3e:MT 238 Yy:=mz B7h 238 Tryz.f238 Yy [] (λ k=>(fz k Tryz.f238 Yy (λ y=>y.1) λ _ h=>h)) (.g (.g (.e [[]]))) λ k _=>an
noncomputable def Zm:FS yeE:=f1 [(.int .u8)] .bool λ x=>Uo x.1
theorem B75:GO (EV [(198,Oy),(238,Yy)] [] false):=GB ⟨Ah5,A3e,trivial⟩ trivial
section
variable (k:Kt B75 C F 25 [])
end
theorem A3l:MT 200 Zm:=mz B75 200 Tryz.f200 Zm [] (λ k=>(fz k Tryz.f200 Zm (λ y=>y.1) λ _ h=>h)) (.g (.g (.e [[]]))) λ k _=>an
noncomputable def My:FS yeE:=f1 [.str] .bool λ x=>Po x.1
theorem B8t:GO (EV [(198,Oy),(199,Ads),(200,Zm)] [] false):=GB ⟨Ah5,A6o,A3l,trivial⟩ trivial
section
variable (k:Kt B8t C F 32 [])
noncomputable def Axj:=c0 Tryz.f168
noncomputable def Bkw:=ct [0,0,3,4] Axj
noncomputable def Acz:=ct [0,0,2,0,1,4] Axj
noncomputable def Azr:=ct [0,2,4] Acz
abbrev Bws (y:Bool):Prop:=Ez k Tryz.f168 My (y,())
abbrev Bid (a0:(List UInt8)):=Lz k Acz (J4 a0) (Sum.elim (Gz k Azr Zi) (Bws k))
theorem Be8:Ok k (Bws k) ⟨Bkw,Atk,Q2⟩:=pz k (fz k Tryz.f168 My (λ y=>y.1) λ _ h=>h) (.g (.e [[]])) λ _=>an
theorem Bb6:Ok k (Bws k) ⟨Azr,Zi,Ab5⟩:=pz k (fz k Tryz.f168 My (λ y=>y.1) λ _ h=>h) (.g (.e [[]])) λ _=>an
theorem Bef (a0:(List UInt8)):Ok k (Bid k a0) ⟨Acz,J4 a0,Ab6 a0⟩:=pz k (fz k Tryz.f168 My (λ y=> .inr (.inr y.1)) λ y h=>h.2 (.inr y.1) rfl) (.g (.b (.g (.g (.b (.g (.e [[]])) (.g (.l (.c 0 [[]])))))) (.c 1 [[]]))) λ _=>ac bk<|ac (xt Sum.inl λ _ h=>h)<|an
theorem Bal (a0:(List UInt8)):Ok k (Bws k) ⟨Acz,J4 a0,λ v=>Option.bind (iter (Ab6 a0) v) (Sum.elim Ab5 (λ y=>some y))⟩:=lz k (Bef k a0) (xs (Bb6 k) xr)
end
theorem A7a:MT 168 My:=mz B8t 168 Tryz.f168 My [] (λ k=>Au) (.g (.g (.b (.c 0 [[]]) (.g (.l (.c 1 [[]])))))) λ k x=>ac (Be8 k)<|ac (Bal k x.1)<|an
noncomputable def Acl:FS yeE:=f1 [(.nm 1)] .bool λ x=>Xl x.1
theorem B7e:GO (EV [(166,Pt),(167,Avx),(168,My)] [] false):=GB ⟨Bg3,Bhr,A7a,trivial⟩ trivial
section
variable (k:Kt B7e C F 66 [])
end
theorem A67:MT 153 Acl:=mz B7e 153 Tryz.f153 Acl [] (λ k=>(fz k Tryz.f153 Acl (λ y=>y.1) λ _ h=>h)) (.g (.g (.g (.b (.g (.e [[]])) (.g (.g (.b (.g (.e [[]])) (.g (.b (.b (.g (.e [[]])) (.e [])) (.g (.b (.b (.g (.e [[]])) (.e [])) (.g (.b (.g (.e [[]])) (.g (.b (.g (.e [[]])) (.g (.e [[]]))))))))))))))))) λ k _=>an
abbrev Aav:List (Tk yeE):=[.S 0 true,.s 1,.S 1 false,.k (.clo 153 [])]
abbrev Akd:List (Tk yeE):=[.S 0 false,.v .bool]
noncomputable def Nk (R:Dg):FX yeE:=⟨Aav,Akd,Bool,λ x=>R x.1,λ r=>(r,())⟩
noncomputable def Ad6 (R:Dg):FX yeE:=⟨Aav,Akd,Bool,λ x=>Aes R x.1,λ r=>(r,())⟩
noncomputable abbrev Bi7 (R:Dg):Env:=EX [(153,Acl)] [(152,[153],(Nk R))] []
theorem B0a {R:Dg} (hR:MX 152 (Nk R)):GO (Bi7 R):=GF ⟨A67,trivial⟩ ⟨hR,trivial⟩ trivial
section
variable {R:Dg} {G:GO (Bi7 R)} (k:Kt G C F 23 [])
noncomputable def A1z:=c0 Tryz.f152
noncomputable def Qw:=ct [0,0,2,0,1,4] A1z
noncomputable def Akv:=ct [0,2,4] Qw
abbrev A0i (y:Bool):Prop:=Ex k Tryz.f152 (Ad6 R) (y,())
abbrev A0d (a0:Am):=Lz k Qw (E6 a0) (Sum.elim (Gz k Akv Oi) (A0i k))
theorem Avh:Ok k (A0i k) ⟨Akv,Oi,Qd R⟩:=pz k (fx k Tryz.f152 (Ad6 R) (λ y=>y.1) λ _ h=>h) (.g (.e [[]])) λ _=>an
theorem Auw (a0:Am):Ok k (A0d k a0) ⟨Qw,E6 a0,Qq R a0⟩:=pz k (fx k Tryz.f152 (Ad6 R) (λ y=> .inr (.inr y.1)) λ y h=>h.2 (.inr y.1) rfl) (.g (.b (.g (.g (.b (.g (.e [[]])) (.g (.l (.c 0 [[]])))))) (.c 1 [[]]))) λ _=>ac bk<|ac (xt Sum.inl λ _ h=>h)<|an
theorem Avf (a0:Am):Ok k (A0i k) ⟨Qw,E6 a0,λ v=>Option.bind (iter (Qq R a0) v) (Sum.elim (Qd R) (λ y=>some y))⟩:=lz k (Auw k a0) (xs (Avh k) xr)
end
theorem Ati {R:Dg} (hR:MX 152 (Nk R)):MX 152 (Ad6 R):=mw (B0a hR) 152 Tryz.f152 (Ad6 R) [] (λ k=>(fx k Tryz.f152 (Ad6 R) (λ y=>y.1) λ _ h=>h)) (.g (.g (.b (.g (.e [[]])) (.g (.l (.c 0 [[]])))))) λ k x=>ac (Avf k x.1)<|an
theorem Ajq:∀k,MX 152 (Nk (Iy k))
 |0=>m0x (fn:=Tryz.f152) λ _=>rfl
 |k+1=>Ati (Ajq k)
noncomputable def Ans:FX yeE:=Nk Zq
theorem Auy:MX 152 Ans:=A0n (T:=yeT) (ins:=Aav) (λ R x=>R x.1) Iy Zq (λ x=>(λ (a0:Am)=>SizeOf.sizeOf a0+1) x.1) Ajq λ _=>rfl
noncomputable def Adf:FS yeE:=f1 [(.int .i64)] .bool λ x=>Xx x.1
theorem B8j:GO (EV [] [] false):=GB trivial trivial
section
variable (k:Kt B8j C F 13 [])
end
theorem A7f:MT 169 Adf:=mz B8j 169 Tryz.f169 Adf [] (λ k=>(fz k Tryz.f169 Adf (λ y=>y.1) λ _ h=>h)) (.g (.g (.e [[]]))) λ k _=>an
noncomputable def Te:FS yeE:=f1 [(.int .i64),(.int .i64)] .bool λ x=>Nn x.1 x.2.1
theorem B77:GO (EV [] [] false):=GB trivial trivial
section
variable (k:Kt B77 C F 23 [])
end
theorem Avs:MT 170 Te:=mz B77 170 Tryz.f170 Te [] (λ k=>(fz k Tryz.f170 Te (λ y=>y.1) λ _ h=>h)) (.g (.g (.e [[]]))) λ k _=>an
noncomputable def N3:FS yeE:=f1 [(.nm 1)] .bool λ x=>Ahl x.1
theorem B67:GO (EV [(169,Adf),(170,Te)] [] false):=GB ⟨A7f,Avs,trivial⟩ trivial
section
variable (k:Kt B67 C F 22 [])
noncomputable def Bf2:=c0 Tryz.f154
noncomputable def Yu:=ct [0,0,1,4] Bf2
noncomputable def Aup:=ct [0,2,4] Yu
abbrev B3e (y:Bool):Prop:=Ez k Tryz.f154 N3 (y,())
abbrev Bfo (a0:Am):=Lz k Yu (Io a0) (Sum.elim (Gz k Aup V4) (B3e k))
theorem A6k:Ok k (B3e k) ⟨Aup,V4,Yg⟩:=pz k (fz k Tryz.f154 N3 (λ y=>y.1) λ _ h=>h) (.g (.e [[]])) λ _=>an
theorem A60 (a0:Am):Ok k (Bfo k a0) ⟨Yu,Io a0,Yl a0⟩:=pz k (fz k Tryz.f154 N3 (λ y=> .inr (.inr y.1)) λ y h=>h.2 (.inr y.1) rfl) (.g (.b (.g (.g (.b (.g (.e [[]])) (.g (.l (.c 0 [[]])))))) (.c 1 [[]]))) λ _=>ac bk<|ac (xt Sum.inl λ _ h=>h)<|an
theorem A7b (a0:Am):Ok k (B3e k) ⟨Yu,Io a0,λ v=>Option.bind (iter (Yl a0) v) (Sum.elim Yg (λ y=>some y))⟩:=lz k (A60 k a0) (xs (A6k k) xr)
end
theorem A2m:MT 154 N3:=mz B67 154 Tryz.f154 N3 [] (λ k=>Au) (.g (.g (.l (.c 0 [[]])))) λ k x=>ac (A7b k x.1)<|an
abbrev Aat:List (Tk yeE):=[.S 0 true,.s 1,.S 1 false,.k (.clo 154 [])]
abbrev Ajz:List (Tk yeE):=[.S 0 false,.v .bool]
noncomputable def Mz (R:De):FX yeE:=⟨Aat,Ajz,Bool,λ x=>R x.1,λ r=>(r,())⟩
noncomputable def Aej (R:De):FX yeE:=⟨Aat,Ajz,Bool,λ x=>Age R x.1,λ r=>(r,())⟩
noncomputable abbrev Bjl (R:De):Env:=EX [(154,N3)] [(152,[154],(Mz R))] []
theorem B0j {R:De} (hR:MX 152 (Mz R)):GO (Bjl R):=GF ⟨A2m,trivial⟩ ⟨hR,trivial⟩ trivial
section
variable {R:De} {G:GO (Bjl R)} (k:Kt G C F 23 [])
noncomputable def A05:=c0 Tryz.f152
noncomputable def P9:=ct [0,0,2,0,1,4] A05
noncomputable def Aj4:=ct [0,2,4] P9
abbrev A1a (y:Bool):Prop:=Ex k Tryz.f152 (Aej R) (y,())
abbrev Azu (a0:Am):=Lz k P9 (E8 a0) (Sum.elim (Gz k Aj4 Oj) (A1a k))
theorem Av2:Ok k (A1a k) ⟨Aj4,Oj,Q3 R⟩:=pz k (fx k Tryz.f152 (Aej R) (λ y=>y.1) λ _ h=>h) (.g (.e [[]])) λ _=>an
theorem Avp (a0:Am):Ok k (Azu k a0) ⟨P9,E8 a0,Qx R a0⟩:=pz k (fx k Tryz.f152 (Aej R) (λ y=> .inr (.inr y.1)) λ y h=>h.2 (.inr y.1) rfl) (.g (.b (.g (.g (.b (.g (.e [[]])) (.g (.l (.c 0 [[]])))))) (.c 1 [[]]))) λ _=>ac bk<|ac (xt Sum.inl λ _ h=>h)<|an
theorem Auu (a0:Am):Ok k (A1a k) ⟨P9,E8 a0,λ v=>Option.bind (iter (Qx R a0) v) (Sum.elim (Q3 R) (λ y=>some y))⟩:=lz k (Avp k a0) (xs (Av2 k) xr)
end
theorem Atf {R:De} (hR:MX 152 (Mz R)):MX 152 (Aej R):=mw (B0j hR) 152 Tryz.f152 (Aej R) [] (λ k=>(fx k Tryz.f152 (Aej R) (λ y=>y.1) λ _ h=>h)) (.g (.g (.b (.g (.e [[]])) (.g (.l (.c 0 [[]])))))) λ k x=>ac (Auu k x.1)<|an
theorem Akx:∀k,MX 152 (Mz (Iz k))
 |0=>m0x (fn:=Tryz.f152) λ _=>rfl
 |k+1=>Atf (Akx k)
noncomputable def Aoe:FX yeE:=Mz Zh
theorem Avt:MX 152 Aoe:=A0n (T:=yeT) (ins:=Aat) (λ R x=>R x.1) Iz Zh (λ x=>(λ (a0:Am)=>SizeOf.sizeOf a0+1) x.1) Akx λ _=>rfl
noncomputable def Ws:FS yeE:=f1 [(.nm 1)] (.int .i64) λ x=>Acu x.1
theorem B8u:GO (EX [] [(151,[],Auj),(152,[153],Ans),(152,[154],Aoe)] []):=GF trivial ⟨A3v,Auy,Avt,trivial⟩ trivial
section
variable (k:Kt B8u C F 15 [])
end
theorem Axs:MT 126 Ws:=mz B8u 126 Tryz.f126 Ws [] (λ k=>(fz k Tryz.f126 Ws (λ y=>y.1) λ _ h=>h)) (.g (.g (.g (.b (.g (.e [[]])) (.g (.b (.g (.e [[]])) (.g (.b (.g (.e [[]])) (.g (.e [[]])))))))))) λ k _=>an
noncomputable def O4 (R:Cv):FS yeE:=f1 [(.nm 1)] .bool λ x=>R x.1
noncomputable def Bjt (R:Cv):FS yeE:=f1 [(.nm 1)] .bool λ x=>Ajf R x.1
noncomputable abbrev B68 (R:Cv):Env:=EV [(127,O4 R),(117,Om),(155,Ahw)] [] false
theorem Cb0 {R:Cv} (hR:MT 127 (O4 R)):GO (B68 R):=GB ⟨hR,Aae,Aqg,trivial⟩ trivial
section
variable {R:Cv} {G:GO (B68 R)} (k:Kt G C F 32 [])
noncomputable def A6s:=c0 Tryz.f127
noncomputable def Ano:=ct [0,0,0,0,3,0,4] A6s
noncomputable def Ane:=ct [0,2,4] Ano
noncomputable def Tw:=ct [0,1,4] Ane
noncomputable def Ang:=ct [0,2,4] Tw
abbrev Bo3 (y:Bool):Prop:=Ez k Tryz.f127 (Bjt R) (y,())
abbrev A0p (a0:Am):=Lz k Tw (F8 a0) (Sum.elim (Gz k Ang Qj) (Bo3 k))
theorem Azy:Ok k (Bo3 k) ⟨Ang,Qj,Tp R⟩:=pz k (fz k Tryz.f127 (Bjt R) (λ y=>y.1) λ _ h=>h) (.g (.e [[]])) λ _=>an
theorem Ayc (a0:Am):Ok k (A0p k a0) ⟨Tw,F8 a0,Tb R a0⟩:=pz k (fz k Tryz.f127 (Bjt R) (λ y=> .inr (.inr y.1)) λ y h=>h.2 (.inr y.1) rfl) (.g (.b (.g (.g (.b (.g (.e [[]])) (.g (.l (.c 0 [[]])))))) (.c 1 [[]]))) λ _=>ac bk<|ac (xt Sum.inl λ _ h=>h)<|an
theorem Aw7 (a0:Am):Ok k (Bo3 k) ⟨Tw,F8 a0,λ v=>Option.bind (iter (Tb R a0) v) (Sum.elim (Tp R) (λ y=>some y))⟩:=lz k (Ayc k a0) (xs (Azy k) xr)
theorem Ay9 (a0:Am):Ok k (Bo3 k) ⟨Ane,Qz a0,Na R a0⟩:=pz k Au (.g (.l (.c 0 [[]]))) λ _=>ac (Aw7 k a0)<|an
theorem Azl (a0:Am):Ok k (Bo3 k) ⟨Ano,Qm a0,Nd R a0⟩:=pz k (fz k Tryz.f127 (Bjt R) (λ y=>y.1) λ _ h=>h) (.g (.b (.g (.e [[]])) (.c 0 [[]]))) λ _=>ac (Ay9 k a0)<|an
end
theorem Av7 {R:Cv} (hR:MT 127 (O4 R)):MT 127 (Bjt R):=mz (Cb0 hR) 127 Tryz.f127 (Bjt R) [] (λ k=>Au) (.g (.g (.g (.g (.b (.g (.c 0 [[]])) (.c 0 [[]])))))) λ k x=>ac (Azl k x.1)<|an
theorem Aa3:∀k,MT 127 (O4 (Il k))
 |0=>m0 (fn:=Tryz.f127) λ _=>rfl
 |k+1=>Av7 (Aa3 k)
noncomputable def Arw:FS yeE:=O4 Alj
theorem Aw5:MT 127 Arw:=⟨(Aa3 0).1,λ x y h=>(Aa3 ((λ (a0:Am)=>SizeOf.sizeOf a0+1) x.1)).2 x y (Eq.trans (by kernel_rfl) h)⟩
noncomputable def Ml:FS yeE:=f1 [(.nm 1)] .bool λ x=>H9 x.1
theorem B8z:GO (EV [] [] false):=GB trivial trivial
section
variable (k:Kt B8z C F 11 [])
end
theorem Aop:MT 128 Ml:=mz B8z 128 Tryz.f128 Ml [] (λ k=>(fz k Tryz.f128 Ml (λ y=>y.1) λ _ h=>h)) (.g (.g (.g (.b (.b (.g (.e [[]])) (.e [])) (.g (.b (.b (.g (.e [[]])) (.e [])) (.g (.b (.b (.g (.e [[]])) (.e [])) (.g (.b (.b (.g (.e [[]])) (.e [])) (.g (.b (.g (.e [[]])) (.g (.e [[]])))))))))))))) λ k _=>an
noncomputable def El:FS yeE:=f1 [(.nm 9)] (.int .i64) λ x=>Yr x.1
theorem Cbf:GO (EV [(122,Ho),(123,Cn),(124,Jf),(125,Wz),(126,Ws),(127,Arw),(128,Ml)] [] false):=GB ⟨A6w,Ao2,A7l,A6p,Axs,Aw5,Aop,trivial⟩ trivial
section
variable (k:Kt Cbf C F 64 [])
noncomputable def A53:=c0 Tryz.f90
noncomputable def S5:=ct [0,0,0,2,0,2,0,0,2,0,0,1,4] A53
noncomputable def Aau:=ct [0,2,4] S5
noncomputable def S7:=ct [0,1,4] Aau
noncomputable def Aai:=ct [0,2,4] S7
noncomputable def Tu:=ct [0,1,4] Aai
noncomputable def Aod:=ct [0,2,4] Tu
abbrev Bk0 (y:Int):Prop:=Ez k Tryz.f90 El (y,())
abbrev A0w (v5:(List A5)):=Lz k Tu (Ge v5) (Sum.elim (Gz k Aod Q4) (Bk0 k))
abbrev A2a (v5:(List A5)):=Lz k S7 (F7 v5) (Sum.elim (Gz k Aai (Le v5)) (Bk0 k))
abbrev A26:=Lz k S5 Kw (Sum.elim (Gz k Aau Qy) (Bk0 k))
theorem Axb:Ok k (Bk0 k) ⟨Aod,Q4,Tv⟩:=pz k (fz k Tryz.f90 El (λ y=>y.1) λ _ h=>h) (.g (.e [[]])) λ _=>an
theorem Awq (v5:(List A5)):Ok k (A0w k v5) ⟨Tu,Ge v5,S9 v5⟩:=pz k (fz k Tryz.f90 El (λ y=> .inr (.inr y.1)) λ y h=>h.2 (.inr y.1) rfl) (.g (.b (.g (.g (.b (.g (.e [[]])) (.g (.l (.c 0 [[]])))))) (.c 1 [[]]))) λ _=>ac bk<|ac (xt Sum.inl λ _ h=>h)<|an
theorem Ayw (v5:(List A5)):Ok k (Bk0 k) ⟨Tu,Ge v5,λ v=>Option.bind (iter (S9 v5) v) (Sum.elim Tv (λ y=>some y))⟩:=lz k (Awq k v5) (xs (Axb k) xr)
theorem Azw (v5:(List A5)):Ok k (Bk0 k) ⟨Aai,Le v5,Tg v5⟩:=pz k Au (.g (.l (.c 0 [[]]))) λ _=>ac (Ayw k v5)<|an
theorem Axx (v5:(List A5)):Ok k (A2a k v5) ⟨S7,F7 v5,Tc v5⟩:=pz k (fz k Tryz.f90 El (λ y=> .inr (.inr y.1)) λ y h=>h.2 (.inr y.1) rfl) (.g (.b (.g (.g (.b (.g (.e [[]])) (.g (.l (.c 0 [[]])))))) (.c 1 [[]]))) λ _=>ac bk<|ac (xt Sum.inl λ _ h=>h)<|an
theorem Axf (v5:(List A5)):Ok k (Bk0 k) ⟨S7,F7 v5,λ v=>Option.bind (iter (Tc v5) v) (Sum.elim (Tg v5) (λ y=>some y))⟩:=lz k (Axx k v5) (xs (Azw k v5) xr)
theorem Ayq:Ok k (Bk0 k) ⟨Aau,Qy,Ta⟩:=pz k Au (.g (.l (.c 0 [[]]))) λ v=>ac (Axf k v.1)<|an
theorem Awt:Ok k (A26 k) ⟨S5,Kw,Tt⟩:=pz k (fz k Tryz.f90 El (λ y=> .inr (.inr y.1)) λ y h=>h.2 (.inr y.1) rfl) (.g (.b (.g (.g (.g (.b (.g (.e [[]])) (.g (.l (.c 0 [[]]))))))) (.c 1 [[]]))) λ _=>ac bk<|ac (xt Sum.inl λ _ h=>h)<|an
theorem Azs:Ok k (Bk0 k) ⟨S5,Kw,λ v=>Option.bind (iter Tt v) (Sum.elim Ta (λ y=>some y))⟩:=lz k (Awt k) (xs (Ayq k) xr)
end
theorem Avl:MT 90 El:=mz Cbf 90 Tryz.f90 El [] (λ k=>(fz k Tryz.f90 El (λ y=>y.1) λ _ h=>h)) (.g (.g (.g (.b (.g (.e [[]])) (.g (.b (.g (.e [[]])) (.g (.g (.b (.g (.e [[]])) (.g (.g (.l (.c 0 [[]]))))))))))))) λ k _=>ac (Azs k)<|an
end
end Go.Ab
