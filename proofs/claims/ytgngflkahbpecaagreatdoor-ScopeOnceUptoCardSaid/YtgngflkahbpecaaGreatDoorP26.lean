/- The functions compute what the plain functions tell. Conditions: none beyond those that each theorem names. -/
import Derived.Test.YtgngflkahbpecaaGreatDoorP25
namespace Go.Ab
open Go Go.Proofs
set_option linter.unusedVariables false
section
variable {P:Program} {C:Ctx} {F:FT}
noncomputable def Cm:FS yeE:=f1 [(.nm 9)] .bool λ x=>Qo x.1
theorem B8e:GO (EV [(144,K9),(145,Ih),(146,J1),(147,Kc)] [] false):=GB ⟨Vo,Ail,A3m,A10,trivial⟩ trivial
section
variable (k:Kt B8e C F 99 [])
noncomputable def Afs:=c0 Tryz.f123
noncomputable def Av4:=ct [0,0,3,4] Afs
noncomputable def Il:=ct [0,0,2,0,1,4] Afs
noncomputable def Av1:=ct [0,3,0,0,3,4] Il
noncomputable def Ue:=ct [0,2,4] Il
noncomputable def L4:=ct [0,1,4] Ue
noncomputable def Ug:=ct [0,2,4] L4
noncomputable def Id:=ct [0,1,4] Ug
noncomputable def Avw:=ct [0,3,0,0,3,4] Id
noncomputable def Ud:=ct [0,2,4] Id
noncomputable def Hm:=ct [0,1,4] Ud
noncomputable def Kl:=ct [0,3,0,0,1,4] Hm
noncomputable def Abe:=ct [0,2,4] Kl
noncomputable def Abg:=ct [0,2,4] Hm
abbrev Ahp (y:Bool):Prop:=Ez k Tryz.f123 Cm (y,())
abbrev Aq7 (a0:Aa) (v4:Int):=Lz k Kl (Dv a0 v4) (Sum.elim (Gz k Abe (Gr a0 v4)) (Ahp k))
abbrev Pr (a0:Aa):=Lz k Hm (C2 a0) (Sum.elim (Gz k Abg Gx) (Ahp k))
abbrev Abj (a0:Aa):=Lz k Id (Dm a0) (Sum.elim (Gz k Ud (Fi a0)) (Ahp k))
abbrev As8 (a0:Aa):=Lz k L4 (D6 a0) (Sum.elim (Gz k Ug (Hl a0)) (Ahp k))
abbrev Abi (a0:Aa):=Lz k Il (Dl a0) (Sum.elim (Gz k Ue (Fg a0)) (Ahp k))
theorem Ar3:Ok k (Ahp k) ⟨Av4,Abm,Im⟩:=pz k (fz k Tryz.f123 Cm (λ y=>y.1) λ _ h=>h) (.g (.e [[]])) λ _=>an
theorem Aqr (a0:Aa):Ok k (Abi k a0) ⟨Av1,Abk,Mt a0⟩:=pz k (fz k Tryz.f123 Cm (λ y=> .inr (.inr y.1)) λ y h=>h.2 (.inr y.1) rfl) (.g (.e [[]])) λ _=>an
theorem Aqc (a0:Aa):Ok k (Abj k a0) ⟨Avw,Abl,Ip a0⟩:=pz k (fz k Tryz.f123 Cm (λ y=> .inr (.inr y.1)) λ y h=>h.2 (.inr y.1) rfl) (.g (.e [[]])) λ _=>an
theorem Ao1 (a0:Aa) (v4:Int):Ok k (Pr k a0) ⟨Abe,Gr a0 v4,Kn a0 v4⟩:=pz k Au (.g (.l (.c 0 [[]]))) λ _=>ac bk<|an
theorem Ao5 (a0:Aa) (v4:Int):Ok k (Aq7 k a0 v4) ⟨Kl,Dv a0 v4,Kk a0 v4⟩:=pz k (fz k Tryz.f123 Cm (λ y=> .inr (.inr y.1)) λ y h=>h.2 (.inr y.1) rfl) (.g (.b (.g (.g (.b (.g (.e [[]])) (.g (.l (.c 0 [[]])))))) (.c 1 [[]]))) λ _=>ac bk<|ac (xt Sum.inl λ _ h=>h)<|an
theorem Aoz (a0:Aa) (v4:Int):Ok k (Pr k a0) ⟨Kl,Dv a0 v4,λ v=>Option.bind (iter (Kk a0 v4) v) (Sum.elim (Kn a0 v4) (λ y=>some (.inr (.inr y))))⟩:=lz k (Ao5 k a0 v4) (xs (Ao1 k a0 v4) (xl (f:=λ y=>Sum.inr y)))
theorem Aov:Ok k (Ahp k) ⟨Abg,Gx,Kr⟩:=pz k (fz k Tryz.f123 Cm (λ y=>y.1) λ _ h=>h) (.g (.e [[]])) λ _=>an
theorem Aou (a0:Aa):Ok k (Pr k a0) ⟨Hm,C2 a0,Kj a0⟩:=pz k Au (.g (.b (.g (.g (.l (.c 0 [[]])))) (.c 1 [[]]))) λ v=>ac (Aoz k a0 v.1)<|ac (xt Sum.inl λ _ h=>h)<|an
theorem Aor (a0:Aa):Ok k (Ahp k) ⟨Hm,C2 a0,λ v=>Option.bind (iter (Kj a0) v) (Sum.elim Kr (λ y=>some y))⟩:=lz k (Aou k a0) (xs (Aov k) xr)
theorem Arm (a0:Aa):Ok k (Ahp k) ⟨Ud,Fi a0,Lu a0⟩:=pz k Au (.g (.l (.c 0 [[]]))) λ _=>ac (Aor k a0)<|an
theorem Aqj (a0:Aa):Ok k (Abj k a0) ⟨Id,Dm a0,Mn a0⟩:=pz k Au (.g (.b (.g (.g (.b (.c 0 [[]]) (.g (.l (.c 1 [[]])))))) (.c 2 [[]]))) λ _=>ac (Aqc k a0)<|ac bk<|ac (xt Sum.inl λ _ h=>h)<|an
theorem Ap5 (a0:Aa):Ok k (Ahp k) ⟨Id,Dm a0,λ v=>Option.bind (iter (Mn a0) v) (Sum.elim (Lu a0) (λ y=>some y))⟩:=lz k (Aqj k a0) (xs (Arm k a0) xr)
theorem Aqz (a0:Aa):Ok k (Ahp k) ⟨Ug,Hl a0,L6 a0⟩:=pz k Au (.g (.l (.c 0 [[]]))) λ _=>ac (Ap5 k a0)<|an
theorem Aq1 (a0:Aa):Ok k (As8 k a0) ⟨L4,D6 a0,Mi a0⟩:=pz k (fz k Tryz.f123 Cm (λ y=> .inr (.inr y.1)) λ y h=>h.2 (.inr y.1) rfl) (.g (.b (.g (.g (.b (.g (.e [[]])) (.g (.l (.c 0 [[]])))))) (.c 1 [[]]))) λ _=>ac bk<|ac (xt Sum.inl λ _ h=>h)<|an
theorem Aqp (a0:Aa):Ok k (Ahp k) ⟨L4,D6 a0,λ v=>Option.bind (iter (Mi a0) v) (Sum.elim (L6 a0) (λ y=>some y))⟩:=lz k (Aq1 k a0) (xs (Aqz k a0) xr)
theorem Aq8 (a0:Aa):Ok k (Ahp k) ⟨Ue,Fg a0,Ma a0⟩:=pz k Au (.g (.l (.c 0 [[]]))) λ _=>ac (Aqp k a0)<|an
theorem Aro (a0:Aa):Ok k (Abi k a0) ⟨Il,Dl a0,Mg a0⟩:=pz k Au (.g (.b (.g (.g (.b (.c 0 [[]]) (.g (.l (.c 1 [[]])))))) (.c 2 [[]]))) λ _=>ac (Aqr k a0)<|ac bk<|ac (xt Sum.inl λ _ h=>h)<|an
theorem Aq4 (a0:Aa):Ok k (Ahp k) ⟨Il,Dl a0,λ v=>Option.bind (iter (Mg a0) v) (Sum.elim (Ma a0) (λ y=>some y))⟩:=lz k (Aro k a0) (xs (Aq8 k a0) xr)
end
theorem Aos:MT 123 Cm:=mz B8e 123 Tryz.f123 Cm [] (λ k=>Au) (.g (.g (.b (.c 0 [[]]) (.g (.l (.c 1 [[]])))))) λ k x=>ac (Ar3 k)<|ac (Aq4 k x.1)<|an
noncomputable def K2:FS yeE:=f1 [(.sl (.nm 2))] .bool λ x=>Mh x.1
theorem B8m:GO (EV [] [] false):=GB trivial trivial
section
variable (k:Kt B8m C F 27 [])
noncomputable def A88:=c0 Tryz.f148
noncomputable def Px:=ct [0,0,1,4] A88
noncomputable def Wq:=ct [0,3,0,0,1,4] Px
noncomputable def Arg:=ct [0,2,4] Wq
noncomputable def Apy:=ct [0,2,4] Px
abbrev Bw8 (y:Bool):Prop:=Ez k Tryz.f148 K2 (y,())
abbrev A7o (a0:(List Ak)) (v1:Int):=Lz k Wq (Hb a0 v1) (Sum.elim (Gz k Arg (M4 a0 v1)) (Bw8 k))
abbrev Aav (a0:(List Ak)):=Lz k Px (Fp a0) (Sum.elim (Gz k Apy Nd) (Bw8 k))
theorem A2o (a0:(List Ak)) (v1:Int):Ok k (Aav k a0) ⟨Arg,M4 a0 v1,Wr a0 v1⟩:=pz k Au (.g (.l (.c 0 [[]]))) λ _=>ac bk<|an
theorem A2h (a0:(List Ak)) (v1:Int):Ok k (A7o k a0 v1) ⟨Wq,Hb a0 v1,Wl a0 v1⟩:=pz k (fz k Tryz.f148 K2 (λ y=> .inr (.inr y.1)) λ y h=>h.2 (.inr y.1) rfl) (.g (.b (.g (.g (.b (.g (.e [[]])) (.g (.l (.c 0 [[]])))))) (.c 1 [[]]))) λ _=>ac bk<|ac (xt Sum.inl λ _ h=>h)<|an
theorem A2i (a0:(List Ak)) (v1:Int):Ok k (Aav k a0) ⟨Wq,Hb a0 v1,λ v=>Option.bind (iter (Wl a0 v1) v) (Sum.elim (Wr a0 v1) (λ y=>some (.inr (.inr y))))⟩:=lz k (A2h k a0 v1) (xs (A2o k a0 v1) (xl (f:=λ y=>Sum.inr y)))
theorem A1s:Ok k (Bw8 k) ⟨Apy,Nd,Xa⟩:=pz k (fz k Tryz.f148 K2 (λ y=>y.1) λ _ h=>h) (.g (.e [[]])) λ _=>an
theorem A0y (a0:(List Ak)):Ok k (Aav k a0) ⟨Px,Fp a0,Wt a0⟩:=pz k Au (.g (.b (.g (.g (.l (.c 0 [[]])))) (.c 1 [[]]))) λ v=>ac (A2i k a0 v.1)<|ac (xt Sum.inl λ _ h=>h)<|an
theorem A2g (a0:(List Ak)):Ok k (Bw8 k) ⟨Px,Fp a0,λ v=>Option.bind (iter (Wt a0) v) (Sum.elim Xa (λ y=>some y))⟩:=lz k (A0y k a0) (xs (A1s k) xr)
end
theorem Azo:MT 148 K2:=mz B8m 148 Tryz.f148 K2 [] (λ k=>Au) (.g (.g (.l (.c 0 [[]])))) λ k x=>ac (A2g k x.1)<|an
noncomputable def Jb:FS yeE:=f1 [(.nm 9)] (.int .i64) λ x=>Amv x.1
theorem B76:GO (EV [(148,K2)] [] false):=GB ⟨Azo,trivial⟩ trivial
section
variable (k:Kt B76 C F 50 [])
noncomputable def Bls:=c0 Tryz.f124
noncomputable def Wo:=ct [0,0,1,4] Bls
noncomputable def Ab5:=ct [0,3,0,0,1,4] Wo
noncomputable def Ax1:=ct [0,2,4] Ab5
noncomputable def Ald:=ct [0,2,4] Wo
noncomputable def Abu:=ct [0,1,4] Ald
noncomputable def Awu:=ct [0,2,4] Abu
abbrev Bfm (y:Int):Prop:=Ez k Tryz.f124 Jb (y,())
abbrev Bic (a0:Aa) (v1:Int):=Lz k Ab5 (J9 a0 v1) (Sum.elim (Gz k Ax1 (Sg a0 v1)) (Bfm k))
abbrev Bh1 (a0:Aa):=Lz k Abu (J6 a0) (Sum.elim (Gz k Awu Zh) (Bfm k))
abbrev Ajg (a0:Aa):=Lz k Wo (H6 a0) (Sum.elim (Gz k Ald (Nt a0)) (Bfm k))
theorem Bbw (a0:Aa) (v1:Int):Ok k (Ajg k a0) ⟨Ax1,Sg a0 v1,Acl a0 v1⟩:=pz k (fz k Tryz.f124 Jb (λ y=> .inr (.inr y.1)) λ y h=>h.2 (.inr y.1) rfl) (.g (.b (.g (.e [[]])) (.g (.l (.c 0 [[]]))))) λ _=>ac bk<|an
theorem Beq (a0:Aa) (v1:Int):Ok k (Bic k a0 v1) ⟨Ab5,J9 a0 v1,Ad0 a0 v1⟩:=pz k (fz k Tryz.f124 Jb (λ y=> .inr (.inr y.1)) λ y h=>h.2 (.inr y.1) rfl) (.g (.b (.g (.g (.b (.g (.e [[]])) (.g (.l (.c 0 [[]])))))) (.c 1 [[]]))) λ _=>ac bk<|ac (xt Sum.inl λ _ h=>h)<|an
theorem Bcw (a0:Aa) (v1:Int):Ok k (Ajg k a0) ⟨Ab5,J9 a0 v1,λ v=>Option.bind (iter (Ad0 a0 v1) v) (Sum.elim (Acl a0 v1) (λ y=>some (.inr (.inr y))))⟩:=lz k (Beq k a0 v1) (xs (Bbw k a0 v1) (xl (f:=λ y=>Sum.inr y)))
theorem Bdl:Ok k (Bfm k) ⟨Awu,Zh,Aby⟩:=pz k (fz k Tryz.f124 Jb (λ y=>y.1) λ _ h=>h) (.g (.e [[]])) λ _=>an
theorem Bc1 (a0:Aa):Ok k (Bh1 k a0) ⟨Abu,J6 a0,Abr a0⟩:=pz k (fz k Tryz.f124 Jb (λ y=> .inr (.inr y.1)) λ y h=>h.2 (.inr y.1) rfl) (.g (.b (.g (.g (.b (.g (.e [[]])) (.g (.l (.c 0 [[]])))))) (.c 1 [[]]))) λ _=>ac bk<|ac (xt Sum.inl λ _ h=>h)<|an
theorem Ben (a0:Aa):Ok k (Bfm k) ⟨Abu,J6 a0,λ v=>Option.bind (iter (Abr a0) v) (Sum.elim Aby (λ y=>some y))⟩:=lz k (Bc1 k a0) (xs (Bdl k) xr)
theorem Bbn (a0:Aa):Ok k (Bfm k) ⟨Ald,Nt a0,Ab0 a0⟩:=pz k Au (.g (.l (.c 0 [[]]))) λ _=>ac (Ben k a0)<|an
theorem Bc4 (a0:Aa):Ok k (Ajg k a0) ⟨Wo,H6 a0,Abs a0⟩:=pz k Au (.g (.b (.g (.g (.l (.c 0 [[]])))) (.c 1 [[]]))) λ v=>ac (Bcw k a0 v.1)<|ac (xt Sum.inl λ _ h=>h)<|an
theorem Bdc (a0:Aa):Ok k (Bfm k) ⟨Wo,H6 a0,λ v=>Option.bind (iter (Abs a0) v) (Sum.elim (Ab0 a0) (λ y=>some y))⟩:=lz k (Bc4 k a0) (xs (Bbn k a0) xr)
end
theorem A7d:MT 124 Jb:=mz B76 124 Tryz.f124 Jb [] (λ k=>Au) (.g (.g (.l (.c 0 [[]])))) λ k x=>ac (Bdc k x.1)<|an
abbrev Bd1:List (Tk yeE):=[.S 0 false,.v (.sl (.nm 2)),.S 1 false,.k (.ptr 1000001 0),.C 1000001,.k (.ar 1000002 0),.A 1000002 181 (.nm 10) 0 false]
abbrev A7c:List (Tk yeE):=[.C 1000001,.k (.ar 1000002 0),.A 1000002 181 (.nm 10) 0 false]
noncomputable def P3:FX yeE:=⟨Bd1,A7c,(List A5),λ x=>Xb x.1 x.2.1,λ r=>(r,())⟩
theorem B7k:GO (EX [] [] []):=GF trivial trivial trivial
section
variable (k:Kt B7k C F 21 [])
noncomputable def Bfi:=c0 Tryz.f149
noncomputable def Wf:=ct [0,1,4] Bfi
noncomputable def Bbz:=ct [0,3,0,0,3,0,4] Wf
abbrev B8j (y:(List A5)):Prop:=Ex k Tryz.f149 P3 (y,())
abbrev Anp (a0:(List Ak)):=Lz k Wf (Fr a0) (B8j k)
theorem A0v (a0:(List Ak)) (v1:Int):Ok k (Anp k a0) ⟨Bbz,Tz a0 v1,V9 a0 v1⟩:=pz k Au (.g (.l (.c 0 [[]]))) λ _=>ac bk<|an
theorem A3s (a0:(List Ak)):Ok k (Anp k a0) ⟨Wf,Fr a0,W7 a0⟩:=pz k (fx k Tryz.f149 P3 (λ y=> .inr y.1) λ y h=>h.2 y.1 rfl) (.g (.b (.g (.g (.b (.g (.c 0 [[.re 1000002 1000002 0]])) (.c 0 [[]])))) (.e [[]]))) λ v=>ac (A0v k a0 v.1)<|an
theorem A1r (a0:(List Ak)):Ok k (B8j k) ⟨Wf,Fr a0,λ v=>Option.bind (iter (W7 a0) v) (λ y=>some y)⟩:=lz k (A3s k a0) xr
end
theorem Aw3:MX 149 P3:=mw B7k 149 Tryz.f149 P3 [] (λ k=>Au) (.g (.l (.c 0 [[]]))) λ k x=>ac (A1r k x.1)<|an
noncomputable def W6:FS yeE:=f1 [(.nm 9)] (.sl (.nm 10)) λ x=>Am6 x.1
theorem B67:GO (EX [(150,Nr)] [(149,[],P3)] []):=GF ⟨X8,trivial⟩ ⟨Aw3,trivial⟩ trivial
section
variable (k:Kt B67 C F 106 [])
noncomputable def Bnt:=c0 Tryz.f125
noncomputable def Abv:=ct [0,0,0,0,1,4] Bnt
noncomputable def Amk:=ct [0,2,4] Abv
noncomputable def Wm:=ct [0,1,4] Amk
noncomputable def Ayg:=ct [0,3,0,0,0,3,0,4] Wm
noncomputable def Bks:=ct [0,3,0,4] Ayg
noncomputable def All:=ct [0,2,4] Wm
noncomputable def Ab7:=ct [0,1,4] All
noncomputable def Am8:=ct [0,2,4] Ab7
noncomputable def Wc:=ct [0,1,4] Am8
noncomputable def Y0:=ct [0,3,0,0,0,1,4] Wc
noncomputable def At7:=ct [0,2,4] Y0
noncomputable def Auo:=ct [0,2,4] Wc
abbrev A4c (y:(List A5)):Prop:=Ez k Tryz.f125 W6 (y,())
abbrev Bdw (a0:Aa) (v12:Int):=Lz k Y0 (Ig a0 v12) (Gz k At7 (O3 a0 v12))
abbrev Ajf (a0:Aa):=Lz k Wc (H5 a0) (Gz k Auo O5)
abbrev Bgt (a0:Aa):=Lz k Ab7 (Kd a0) (Gz k Am8 (Rs a0))
abbrev Ajc (a0:Aa):=Lz k Wm (Gh a0) (Gz k All (J7 a0))
abbrev Bgx (a0:Aa):=Lz k Abv (Jx a0) (Gz k Amk (Rz a0))
theorem A9w (a0:Aa) (v4:Int):Ok k (Ajc k a0) ⟨Bks,Zp a0 v4,Abq a0 v4⟩:=pz k Au (.g (.l (.c 0 [[]]))) λ _=>ac bk<|an
theorem A9b (a0:Aa) (v4:Int):Ok k (Ajc k a0) ⟨Ayg,Yt a0 v4,Ve a0 v4⟩:=pz k Au (.g (.b (.g (.c 0 [[.re 4000003 4000003 0]])) (.c 0 [[]]))) λ _=>ac (A9w k a0 v4)<|an
theorem A7q (a0:Aa) (v12:Int):Ok k (Ajf k a0) ⟨At7,O3 a0 v12,Yr a0 v12⟩:=pz k Au (.g (.l (.c 0 [[]]))) λ _=>ac bk<|an
theorem A8e (a0:Aa) (v12:Int):Ok k (Bdw k a0 v12) ⟨Y0,Ig a0 v12,Y2 a0 v12⟩:=pz k Au (.g (.b (.g (.g (.g (.l (.c 0 [[.re 4000003 4000003 0]]))))) (.c 1 [[]]))) λ _=>ac bk<|ac (xt id λ _ h=>h)<|an
theorem A6o (a0:Aa) (v12:Int):Ok k (Ajf k a0) ⟨Y0,Ig a0 v12,λ v=>Option.bind (iter (Y2 a0 v12) v) (Yr a0 v12)⟩:=lz k (A8e k a0 v12) (A7q k a0 v12)
theorem A53:Ok k (A4c k) ⟨Auo,O5,Y1⟩:=pz k (fz k Tryz.f125 W6 (λ y=>y.1) λ _ h=>h) (.g (.e [[.fix (.slot 2)]])) λ _=>an
theorem Ba8 (a0:Aa):Ok k (Ajf k a0) ⟨Wc,H5 a0,Abx a0⟩:=pz k Au (.g (.b (.g (.g (.g (.l (.c 0 [[.re 4000003 4000003 0]]))))) (.c 1 [[]]))) λ v=>ac (A6o k a0 v.1)<|ac (xt id λ _ h=>h)<|an
theorem Ba7 (a0:Aa):Ok k (A4c k) ⟨Wc,H5 a0,λ v=>Option.bind (iter (Abx a0) v) Y1⟩:=lz k (Ba8 k a0) (A53 k)
theorem A9p (a0:Aa):Ok k (A4c k) ⟨Am8,Rs a0,Acf a0⟩:=pz k Au (.g (.l (.c 0 [[]]))) λ _=>ac (Ba7 k a0)<|an
theorem A90 (a0:Aa):Ok k (Bgt k a0) ⟨Ab7,Kd a0,Acu a0⟩:=pz k Au (.g (.b (.g (.g (.g (.l (.c 0 [[.re 4000003 4000003 0]]))))) (.c 1 [[]]))) λ _=>ac bk<|ac (xt id λ _ h=>h)<|an
theorem Bav (a0:Aa):Ok k (A4c k) ⟨Ab7,Kd a0,λ v=>Option.bind (iter (Acu a0) v) (Acf a0)⟩:=lz k (A90 k a0) (A9p k a0)
theorem Bet (a0:Aa):Ok k (A4c k) ⟨All,J7 a0,Vq a0⟩:=pz k Au (.g (.l (.c 0 [[]]))) λ _=>ac (Bav k a0)<|an
theorem Bd6 (a0:Aa):Ok k (Ajc k a0) ⟨Wm,Gh a0,Abt a0⟩:=pz k Au (.g (.b (.g (.g (.g (.b (.g (.c 0 [[.re 4000003 4000003 0]])) (.c 0 [[.re 4000003 4000003 0]]))))) (.c 1 [[]]))) λ v=>ac (A9b k a0 v.1)<|ac (xt id λ _ h=>h)<|an
theorem Bbu (a0:Aa):Ok k (A4c k) ⟨Wm,Gh a0,λ v=>Option.bind (iter (Abt a0) v) (Vq a0)⟩:=lz k (Bd6 k a0) (Bet k a0)
theorem Bfu (a0:Aa):Ok k (A4c k) ⟨Amk,Rz a0,Ab1 a0⟩:=pz k Au (.g (.l (.c 0 [[]]))) λ _=>ac (Bbu k a0)<|an
theorem Bfa (a0:Aa):Ok k (Bgx k a0) ⟨Abv,Jx a0,Aco a0⟩:=pz k Au (.g (.b (.g (.g (.g (.l (.c 0 [[.re 4000003 4000003 0]]))))) (.c 1 [[]]))) λ _=>ac bk<|ac (xt id λ _ h=>h)<|an
theorem Bc5 (a0:Aa):Ok k (A4c k) ⟨Abv,Jx a0,λ v=>Option.bind (iter (Aco a0) v) (Ab1 a0)⟩:=lz k (Bfa k a0) (Bfu k a0)
end
theorem A62:MT 125 W6:=mz B67 125 Tryz.f125 W6 [] (λ k=>Au) (.g (.g (.g (.g (.l (.c 0 [[.own (.cell 3) 0 4000003 181 0]])))))) λ k x=>ac (Bc5 k x.1)<|an
abbrev Ain:List (Tk yeE):=[.S 0 true,.s 1,.S 1 false,.v (.int .i64),.S 2 false,.k (.ptr 1000001 0),.C 1000001,.v (.int .i64)]
abbrev Arv:List (Tk yeE):=[.S 0 false,.v .bool,.C 1000001,.v (.int .i64)]
noncomputable def C0 (R:Bh):FX yeE:=⟨Ain,Arv,(Bool×Int),λ x=>R x.1 x.2.1 x.2.2.1,λ r=>(r.1,r.2,())⟩
abbrev A6g:List (Tk yeE):=[.S 0 true,.s 1,.S 1 false,.k (.ptr 1000001 0),.S 2 false,.k (.ptr 1000002 0),.C 1000001,.v (.int .i64),.C 1000002,.k (.ptr 1000003 0),.C 1000003,.v (.int .i64)]
abbrev A30:List (Tk yeE):=[.S 0 false,.v .bool,.C 1000001,.v (.int .i64),.C 1000002,.k (.ptr 1000003 0),.C 1000003,.v (.int .i64)]
noncomputable def S7 (R:Bh):FX yeE:=⟨A6g,A30,(Bool×Int×Int),λ x=>Aio R x.1 x.2.1 x.2.2.1,λ r=>(r.1,r.2.1,r.2.2,())⟩
noncomputable abbrev B8f (R:Bh):Env:=EX [] [(151,[],(C0 R))] []
theorem Cb8 {R:Bh} (hR:MX 151 (C0 R)):GO (B8f R):=GF trivial ⟨hR,trivial⟩ trivial
section
variable {R:Bh} {G:GO (B8f R)} (k:Kt G C F 10 [])
end
theorem Avz {R:Bh} (hR:MX 151 (C0 R)):MX 165 (S7 R):=mw (Cb8 hR) 165 Tryz.f165 (S7 R) [] (λ k=>(fx k Tryz.f165 (S7 R) (λ y=>(y.1,y.2.1,y.2.2.1)) λ _ h=>h)) (.g (.g (.e [[]]))) λ k _=>an
abbrev Add:List (Tk yeE):=[.S 0 false,.v (.sl (.nm 1)),.S 1 false,.k (.clo 165 [.ptr 1000001 0,.ptr 1000002 0]),.C 1000001,.v (.int .i64),.C 1000002,.k (.ptr 1000003 0),.C 1000003,.v (.int .i64)]
abbrev Aay:List (Tk yeE):=[.S 0 false,.v (.int .i64),.C 1000001,.v (.int .i64),.C 1000002,.k (.ptr 1000003 0),.C 1000003,.v (.int .i64)]
noncomputable def Cp (R:Bh):FX yeE:=⟨Add,Aay,(Int×Int×Int),λ x=>Iw R x.1 x.2.1 x.2.2.1,λ r=>(r.1,r.2.1,r.2.2,())⟩
noncomputable abbrev Bi8 (R:Bh):Env:=EX [] [(151,[],(C0 R)),(165,[],(S7 R))] []
theorem Byz {R:Bh} (hR:MX 151 (C0 R)):GO (Bi8 R):=GF trivial ⟨hR,(Avz hR),trivial⟩ trivial
section
variable {R:Bh} {G:GO (Bi8 R)} (k:Kt G C F 19 [])
noncomputable def Ab2:=c0 Tryz.f197
noncomputable def Ey:=ct [0,0,1,4] Ab2
noncomputable def Oe:=ct [0,2,4] Ey
abbrev A2a (y:(Int×Int×Int)):Prop:=Ex k Tryz.f197 (Cp R) (y.1,y.2.1,y.2.2,())
abbrev Aak (a0:(List Am)):=Lz k Ey (B9 a0) (Sum.elim (Gz k Oe Ep) (A2a k))
theorem Z0:Ok k (A2a k) ⟨Oe,Ep,Ew R⟩:=pz k (fx k Tryz.f197 (Cp R) (λ y=>(y.1,y.2.1,y.2.2.1)) λ _ h=>h) (.g (.e [[]])) λ _=>an
theorem Zy (a0:(List Am)):Ok k (Aak k a0) ⟨Ey,B9 a0,E0 R a0⟩:=pz k (fx k Tryz.f197 (Cp R) (λ y=> .inr (.inr (y.1,y.2.1,y.2.2.1))) λ y h=>h.2 (.inr (y.1,y.2.1,y.2.2.1)) rfl) (.g (.b (.g (.g (.b (.g (.e [[]])) (.g (.l (.c 0 [[]])))))) (.c 1 [[]]))) λ _=>ac bk<|ac (xt Sum.inl λ _ h=>h)<|an
theorem Zx (a0:(List Am)):Ok k (A2a k) ⟨Ey,B9 a0,λ v=>Option.bind (iter (E0 R a0) v) (Sum.elim (Ew R) (λ y=>some y))⟩:=lz k (Zy k a0) (xs (Z0 k) xr)
end
theorem Xz {R:Bh} (hR:MX 151 (C0 R)):MX 197 (Cp R):=mw (Byz hR) 197 Tryz.f197 (Cp R) [] (λ k=>Au) (.g (.g (.l (.c 0 [[]])))) λ k x=>ac (Zx k x.1)<|an
abbrev Xx:List (Tk yeE):=[.S 0 false,.v (.sl (.nm 1)),.S 1 false,.k (.clo 165 [.ptr 1000001 0,.ptr 1000002 0]),.C 1000001,.v (.int .i64),.C 1000002,.k (.ptr 1000003 0),.C 1000003,.v (.int .i64)]
abbrev Xi:List (Tk yeE):=[.S 0 false,.v .bool,.C 1000001,.v (.int .i64),.C 1000002,.k (.ptr 1000003 0),.C 1000003,.v (.int .i64)]
noncomputable def Dz (R:Bh):FX yeE:=⟨Xx,Xi,(Bool×Int×Int),λ x=>Hd R x.1 x.2.1 x.2.2.1,λ r=>(r.1,r.2.1,r.2.2,())⟩
noncomputable abbrev Bjp (R:Bh):Env:=EX [] [(151,[],(C0 R)),(197,[165],(Cp R))] []
theorem B0i {R:Bh} (hR:MX 151 (C0 R)):GO (Bjp R):=GF trivial ⟨hR,(Xz hR),trivial⟩ trivial
section
variable {R:Bh} {G:GO (Bjp R)} (k:Kt G C F 9 [])
end
theorem Ux {R:Bh} (hR:MX 151 (C0 R)):MX 164 (Dz R):=mw (B0i hR) 164 Tryz.f164 (Dz R) [] (λ k=>(fx k Tryz.f164 (Dz R) (λ y=>(y.1,y.2.1,y.2.2.1)) λ _ h=>h)) (.g (.g (.e [[]]))) λ k _=>an
noncomputable def Bpv (R:Bh):FX yeE:=⟨Ain,Arv,(Bool×Int),λ x=>Amh R x.1 x.2.1 x.2.2.1,λ r=>(r.1,r.2,())⟩
noncomputable abbrev B6w (R:Bh):Env:=EX [] [(151,[],(C0 R)),(164,[165],(Dz R))] []
theorem Ca2 {R:Bh} (hR:MX 151 (C0 R)):GO (B6w R):=GF trivial ⟨hR,(Ux hR),trivial⟩ trivial
section
variable {R:Bh} {G:GO (B6w R)} (k:Kt G C F 24 [])
noncomputable def Baq:=c0 Tryz.f151
noncomputable def Bfb:=ct [0,0,0,3,4] Baq
abbrev Cbr (y:(Bool×Int)):Prop:=Ex k Tryz.f151 (Bpv R) (y.1,y.2,())
theorem A19 (a2:Int):Ok k (Cbr k) ⟨Bfb,Tb a2,Vn R a2⟩:=pz k (fx k Tryz.f151 (Bpv R) (λ y=>(y.1,y.2.1)) λ _ h=>h) (.g (.e [[]])) λ _=>an
end
theorem Azw {R:Bh} (hR:MX 151 (C0 R)):MX 151 (Bpv R):=mw (Ca2 hR) 151 Tryz.f151 (Bpv R) [] (λ k=>(fx k Tryz.f151 (Bpv R) (λ y=>(y.1,y.2.1)) λ _ h=>h)) (.g (.g (.g (.b (.c 0 [[]]) (.g (.e [[]])))))) λ k x=>ac (A19 k x.2.2.1)<|an
theorem Apr:∀k,MX 151 (C0 (Ob k))
 |0=>m0x (fn:=Tryz.f151) λ _=>rfl
 |k+1=>Azw (Apr k)
noncomputable def Aty:FX yeE:=C0 Aia
theorem A2j:MX 151 Aty:=A3t (T:=yeT) (ins:=Ain) (λ R x=>R x.1 x.2.1 x.2.2.1) Ob Aia (λ x=>(λ (a0:Am)=>SizeOf.sizeOf a0+1) x.1) Apr λ _=>rfl
noncomputable def Po:FS yeE:=f1 [(.int .i64)] (.int .i64) λ x=>Ak0 x.1
theorem B61:GO (EV [] [] false):=GB trivial trivial
section
variable (k:Kt B61 C F 31 [])
noncomputable def Bs8:=c0 Tryz.f166
noncomputable def Au2:=ct [0,0,2,4] Bs8
noncomputable def Btj:=ct [0,3,4] Au2
noncomputable def Bfe:=ct [0,2,4] Au2
noncomputable def Bvb:=ct [0,2,4] Bfe
abbrev Bv1 (y:Int):Prop:=Ez k Tryz.f166 Po (y,())
theorem Bmp:Ok k (Bv1 k) ⟨Btj,A49,Agg⟩:=pz k (fz k Tryz.f166 Po (λ y=>y.1) λ _ h=>h) (.g (.e [[]])) λ _=>an
theorem Bl0 (a0:Int):Ok k (Bv1 k) ⟨Bvb,Ahy a0,Amd a0⟩:=pz k (fz k Tryz.f166 Po (λ y=>y.1) λ _ h=>h) (.g (.b (.g (.e [[]])) (.g (.e [[]])))) λ _=>an
theorem Bm5 (a0:Int):Ok k (Bv1 k) ⟨Bfe,Aht a0,Alw a0⟩:=pz k (fz k Tryz.f166 Po (λ y=>y.1) λ _ h=>h) (.g (.b (.g (.e [[]])) (.c 0 [[]]))) λ _=>ac (Bl0 k a0)<|an
theorem Bkn (a0:Int):Ok k (Bv1 k) ⟨Au2,Aig a0,Alj a0⟩:=pz k Au (.g (.b (.c 0 [[]]) (.c 1 [[]]))) λ _=>ac (Bmp k)<|ac (Bm5 k a0)<|an
end
theorem Bf1:MT 166 Po:=mz B61 166 Tryz.f166 Po [] (λ k=>(fz k Tryz.f166 Po (λ y=>y.1) λ _ h=>h)) (.g (.g (.b (.g (.e [[]])) (.c 0 [[]])))) λ k x=>ac (Bkn k x.1)<|an
noncomputable abbrev N0:Env:=EV [] [] false
noncomputable def Avr:=c0 Tryz.f167
noncomputable def Awc:FS yeE:=f1 [(.nm 0)] .bool λ x=>Z4 x.1
noncomputable def Btp:=ct [0,0,3,4] Avr
noncomputable def Aur:=ct [0,0,2,0,1] Avr
noncomputable def Btt:=ct [0,2,4] Aur
abbrev A25 (C:Ctx) (F:FT) (y:Bool):Prop:=En N0 C F Tryz.f167 Awc (y,())
def Bnd (r1:Int):ST:=⟨39,[oi 3 r1],[]⟩
def Bq3:ST:=⟨39,[],[]⟩
def A47 (v:Int×Int):ST:=⟨39,[oi 3 v.1,oi 4 v.2],[]⟩
def Bki (a0:Bd):ST:=⟨39,[og 0 (Xt a0)],[]⟩
theorem Acr (G:Bs N0 P) {y} (E:A25 C F y) (h:T5=some y):Bv N0 P C F Btp (Bq3):=by
 unfold T5 at h
 have e:=sj h;subst e
 exact se G E [r0,au] tt
theorem Bm3 (G:Bs N0 P) {y} (E:A25 C F y) (v:Int×Int) o (h:Ali v.1 v.2=some o) (L:LP N0 P C F Aur A47 (GX N0 P C F Btt Bnd) o):Bv N0 P C F Aur (A47 v):=by
 unfold Ali at h
 rcases Aj h with⟨b5,h⟩|⟨b5,h⟩
 ·obtain⟨c1,h⟩:=A8 h
  exact sg G [r0,bt,r0,en] (e2 b5 c1) (L.1 _ (si h))
 ·exact sg G [r0,bf,au] (e1 b5) (L.2 _ (si h))
theorem Btn (G:Bs N0 P) {y a0} (E:A25 C F y) (h:Z4 a0=some y):Bv N0 P C F Avr (Bki a0):=by
 unfold Z4 at h
 rcases Aj h with⟨b1,h⟩|⟨b1,h⟩
 ·exact sg G [r0,ru [3,7,8,12,13,17],bt,au] (ar 4 b1<|ar 9 rT<|tt) (Acr G E h)
 ·rcases Aj h with⟨b2,h⟩|⟨b2,h⟩
  ·exact sg G [r0,rb [3,7] [8,12,13,17],bt,au] (ar 4 b1<|ar 4 b2<|ar 5 rT<|tt) (Acr G E h)
  ·rcases Aj h with⟨b3,h⟩|⟨b3,h⟩
   ·exact sg G [r0,rb [3,7,8,12] [13,17],bt,au] (ar 4 b1<|ar 4 b2<|ar 4 b3<|e1 rT) (Acr G E h)
   ·rcases Aj h with⟨b4,h⟩|⟨b4,h⟩
    ·exact sg G [r0,rf [3,7,8,12,13,17],bt,au] (ar 4 b1<|ar 4 b2<|ar 4 b3<|e1 b4) (Acr G E h)
    ·obtain⟨r1,hi,h⟩:=bind_some h
     refine sg G [r0,rf [3,7,8,12,13,17],bf,r0,en] (ar 4 b1<|ar 4 b2<|ar 4 b3<|e1 b4) (lg (Bm3 G E) hi ?_)
     rcases Aj h with⟨b6,h⟩|⟨b6,h⟩
     ·have e:=sj h;subst e
      exact se G E [ru [2,5],au] (ar 3 b6<|tt)
     ·have e:=sj h;subst e
      exact se G E [rf [2,5],au] (ar 3 b6<|tt)
theorem Bid:MT 167 Awc:=show E1 N0 _ _ _ from mt (fn:=Tryz.f167) (S:=λ x=>Bki x.1) (GB trivial trivial) λ G _ _ _ _=>Btn G
noncomputable def Ou:FS yeE:=f1 [(.int .u8)] .bool λ x=>Ml x.1
theorem B60:GO (EV [] [] false):=GB trivial trivial
section
variable (k:Kt B60 C F 17 [])
end
theorem Aic:MT 198 Ou:=mz B60 198 Tryz.f198 Ou [] (λ k=>(fz k Tryz.f198 Ou (λ y=>y.1) λ _ h=>h)) (.g (.g (.e [[]]))) λ k _=>an
noncomputable def Adc:FS yeE:=f1 [.str] .bool λ x=>Xs x.1
theorem B7s:GO (EV [] [] false):=GB trivial trivial
section
variable (k:Kt B7s C F 16 [])
end
theorem A61:MT 199 Adc:=mz B7s 199 Tryz.f199 Adc [] (λ k=>(fz k Tryz.f199 Adc (λ y=>y.1) λ _ h=>h)) (.g (.g (.g (.b (.b (.g (.e [[]])) (.e [])) (.g (.b (.b (.g (.e [[]])) (.e [])) (.g (.b (.b (.g (.e [[]])) (.e [])) (.g (.b (.b (.g (.e [[]])) (.e [])) (.g (.b (.b (.g (.e [[]])) (.e [])) (.g (.b (.b (.g (.e [[]])) (.e [])) (.g (.b (.b (.g (.e [[]])) (.e [])) (.g (.b (.b (.g (.e [[]])) (.e [])) (.g (.b (.b (.g (.e [[]])) (.e [])) (.g (.b (.b (.g (.e [[]])) (.e [])) (.g (.b (.g (.e [[]])) (.g (.e [[]])))))))))))))))))))))))))) λ k _=>an
noncomputable def Yw:FS yeE:=f1 [(.int .u8)] .bool λ x=>Uk x.1
theorem B6s:GO (EV [] [] false):=GB trivial trivial
section
variable (k:Kt B6s C F 9 [])
end
theorem A14:MT 238 Yw:=mz B6s 238 Tryz.f238 Yw [] (λ k=>(fz k Tryz.f238 Yw (λ y=>y.1) λ _ h=>h)) (.g (.g (.e [[]]))) λ k _=>an
noncomputable def Za:FS yeE:=f1 [(.int .u8)] .bool λ x=>Uh x.1
theorem B7i:GO (EV [(198,Ou),(238,Yw)] [] false):=GB ⟨Aic,A14,trivial⟩ trivial
section
variable (k:Kt B7i C F 25 [])
end
theorem A0p:MT 200 Za:=mz B7i 200 Tryz.f200 Za [] (λ k=>(fz k Tryz.f200 Za (λ y=>y.1) λ _ h=>h)) (.g (.g (.e [[]]))) λ k _=>an
noncomputable def Mp:FS yeE:=f1 [.str] .bool λ x=>P1 x.1
theorem B7l:GO (EV [(198,Ou),(199,Adc),(200,Za)] [] false):=GB ⟨Aic,A61,A0p,trivial⟩ trivial
section
variable (k:Kt B7l C F 32 [])
noncomputable def Axo:=c0 Tryz.f168
noncomputable def Bmq:=ct [0,0,3,4] Axo
noncomputable def Adi:=ct [0,0,2,0,1,4] Axo
noncomputable def Ay3:=ct [0,2,4] Adi
abbrev Bxu (y:Bool):Prop:=Ez k Tryz.f168 Mp (y,())
abbrev Bhs (a0:(List UInt8)):=Lz k Adi (J8 a0) (Sum.elim (Gz k Ay3 Yo) (Bxu k))
theorem Bfg:Ok k (Bxu k) ⟨Bmq,Aum,Qt⟩:=pz k (fz k Tryz.f168 Mp (λ y=>y.1) λ _ h=>h) (.g (.e [[]])) λ _=>an
theorem Be0:Ok k (Bxu k) ⟨Ay3,Yo,Adv⟩:=pz k (fz k Tryz.f168 Mp (λ y=>y.1) λ _ h=>h) (.g (.e [[]])) λ _=>an
theorem Bah (a0:(List UInt8)):Ok k (Bhs k a0) ⟨Adi,J8 a0,Adf a0⟩:=pz k (fz k Tryz.f168 Mp (λ y=> .inr (.inr y.1)) λ y h=>h.2 (.inr y.1) rfl) (.g (.b (.g (.g (.b (.g (.e [[]])) (.g (.l (.c 0 [[]])))))) (.c 1 [[]]))) λ _=>ac bk<|ac (xt Sum.inl λ _ h=>h)<|an
theorem Bal (a0:(List UInt8)):Ok k (Bxu k) ⟨Adi,J8 a0,λ v=>Option.bind (iter (Adf a0) v) (Sum.elim Adv (λ y=>some y))⟩:=lz k (Bah k a0) (xs (Be0 k) xr)
end
theorem A75:MT 168 Mp:=mz B7l 168 Tryz.f168 Mp [] (λ k=>Au) (.g (.g (.b (.c 0 [[]]) (.g (.l (.c 1 [[]])))))) λ k x=>ac (Bfg k)<|ac (Bal k x.1)<|an
noncomputable def Abw:FS yeE:=f1 [(.nm 1)] .bool λ x=>Xl x.1
theorem B8u:GO (EV [(166,Po),(167,Awc),(168,Mp)] [] false):=GB ⟨Bf1,Bid,A75,trivial⟩ trivial
section
variable (k:Kt B8u C F 66 [])
end
theorem A7p:MT 153 Abw:=mz B8u 153 Tryz.f153 Abw [] (λ k=>(fz k Tryz.f153 Abw (λ y=>y.1) λ _ h=>h)) (.g (.g (.g (.b (.g (.e [[]])) (.g (.g (.b (.g (.e [[]])) (.g (.b (.b (.g (.e [[]])) (.e [])) (.g (.b (.b (.g (.e [[]])) (.e [])) (.g (.b (.g (.e [[]])) (.g (.b (.g (.e [[]])) (.g (.e [[]]))))))))))))))))) λ k _=>an
abbrev Aaz:List (Tk yeE):=[.S 0 true,.s 1,.S 1 false,.k (.clo 153 [])]
abbrev Akb:List (Tk yeE):=[.S 0 false,.v .bool]
noncomputable def Ng (R:Db):FX yeE:=⟨Aaz,Akb,Bool,λ x=>R x.1,λ r=>(r,())⟩
noncomputable def Ad7 (R:Db):FX yeE:=⟨Aaz,Akb,Bool,λ x=>Afv R x.1,λ r=>(r,())⟩
noncomputable abbrev Bj8 (R:Db):Env:=EX [(153,Abw)] [(152,[153],(Ng R))] []
theorem B0o {R:Db} (hR:MX 152 (Ng R)):GO (Bj8 R):=GF ⟨A7p,trivial⟩ ⟨hR,trivial⟩ trivial
section
variable {R:Db} {G:GO (Bj8 R)} (k:Kt G C F 23 [])
noncomputable def A1q:=c0 Tryz.f152
noncomputable def Qe:=ct [0,0,2,0,1,4] A1q
noncomputable def Aj5:=ct [0,2,4] Qe
abbrev A1d (y:Bool):Prop:=Ex k Tryz.f152 (Ad7 R) (y,())
abbrev Ayf (a0:Am):=Lz k Qe (E3 a0) (Sum.elim (Gz k Aj5 Oj) (A1d k))
theorem Avx:Ok k (A1d k) ⟨Aj5,Oj,P6 R⟩:=pz k (fx k Tryz.f152 (Ad7 R) (λ y=>y.1) λ _ h=>h) (.g (.e [[]])) λ _=>an
theorem Au3 (a0:Am):Ok k (Ayf k a0) ⟨Qe,E3 a0,Q3 R a0⟩:=pz k (fx k Tryz.f152 (Ad7 R) (λ y=> .inr (.inr y.1)) λ y h=>h.2 (.inr y.1) rfl) (.g (.b (.g (.g (.b (.g (.e [[]])) (.g (.l (.c 0 [[]])))))) (.c 1 [[]]))) λ _=>ac bk<|ac (xt Sum.inl λ _ h=>h)<|an
theorem Avh (a0:Am):Ok k (A1d k) ⟨Qe,E3 a0,λ v=>Option.bind (iter (Q3 R a0) v) (Sum.elim (P6 R) (λ y=>some y))⟩:=lz k (Au3 k a0) (xs (Avx k) xr)
end
theorem Atg {R:Db} (hR:MX 152 (Ng R)):MX 152 (Ad7 R):=mw (B0o hR) 152 Tryz.f152 (Ad7 R) [] (λ k=>(fx k Tryz.f152 (Ad7 R) (λ y=>y.1) λ _ h=>h)) (.g (.g (.b (.g (.e [[]])) (.g (.l (.c 0 [[]])))))) λ k x=>ac (Avh k x.1)<|an
theorem Aky:∀k,MX 152 (Ng (I5 k))
 |0=>m0x (fn:=Tryz.f152) λ _=>rfl
 |k+1=>Atg (Aky k)
noncomputable def Aob:FX yeE:=Ng Zc
theorem Aut:MX 152 Aob:=A3t (T:=yeT) (ins:=Aaz) (λ R x=>R x.1) I5 Zc (λ x=>(λ (a0:Am)=>SizeOf.sizeOf a0+1) x.1) Aky λ _=>rfl
noncomputable def Adx:FS yeE:=f1 [(.int .i64)] .bool λ x=>Xr x.1
theorem B7p:GO (EV [] [] false):=GB trivial trivial
section
variable (k:Kt B7p C F 13 [])
end
theorem A7r:MT 169 Adx:=mz B7p 169 Tryz.f169 Adx [] (λ k=>(fz k Tryz.f169 Adx (λ y=>y.1) λ _ h=>h)) (.g (.g (.e [[]]))) λ k _=>an
noncomputable def Tg:FS yeE:=f1 [(.int .i64),(.int .i64)] .bool λ x=>N6 x.1 x.2.1
theorem B63:GO (EV [] [] false):=GB trivial trivial
section
variable (k:Kt B63 C F 23 [])
end
theorem Av9:MT 170 Tg:=mz B63 170 Tryz.f170 Tg [] (λ k=>(fz k Tryz.f170 Tg (λ y=>y.1) λ _ h=>h)) (.g (.g (.e [[]]))) λ k _=>an
noncomputable def Oa:FS yeE:=f1 [(.nm 1)] .bool λ x=>Ahd x.1
theorem B81:GO (EV [(169,Adx),(170,Tg)] [] false):=GB ⟨A7r,Av9,trivial⟩ trivial
section
variable (k:Kt B81 C F 22 [])
noncomputable def Bhk:=c0 Tryz.f154
noncomputable def Yg:=ct [0,0,1,4] Bhk
noncomputable def At9:=ct [0,2,4] Yg
abbrev B10 (y:Bool):Prop:=Ez k Tryz.f154 Oa (y,())
abbrev Bdi (a0:Am):=Lz k Yg (Is a0) (Sum.elim (Gz k At9 Wn) (B10 k))
theorem A72:Ok k (B10 k) ⟨At9,Wn,Yy⟩:=pz k (fz k Tryz.f154 Oa (λ y=>y.1) λ _ h=>h) (.g (.e [[]])) λ _=>an
theorem A8b (a0:Am):Ok k (Bdi k a0) ⟨Yg,Is a0,Yv a0⟩:=pz k (fz k Tryz.f154 Oa (λ y=> .inr (.inr y.1)) λ y h=>h.2 (.inr y.1) rfl) (.g (.b (.g (.g (.b (.g (.e [[]])) (.g (.l (.c 0 [[]])))))) (.c 1 [[]]))) λ _=>ac bk<|ac (xt Sum.inl λ _ h=>h)<|an
theorem A6c (a0:Am):Ok k (B10 k) ⟨Yg,Is a0,λ v=>Option.bind (iter (Yv a0) v) (Sum.elim Yy (λ y=>some y))⟩:=lz k (A8b k a0) (xs (A72 k) xr)
end
theorem A0r:MT 154 Oa:=mz B81 154 Tryz.f154 Oa [] (λ k=>Au) (.g (.g (.l (.c 0 [[]])))) λ k x=>ac (A6c k x.1)<|an
abbrev Aam:List (Tk yeE):=[.S 0 true,.s 1,.S 1 false,.k (.clo 154 [])]
abbrev Aki:List (Tk yeE):=[.S 0 false,.v .bool]
noncomputable def Na (R:Da):FX yeE:=⟨Aam,Aki,Bool,λ x=>R x.1,λ r=>(r,())⟩
noncomputable def Ad4 (R:Da):FX yeE:=⟨Aam,Aki,Bool,λ x=>Ae8 R x.1,λ r=>(r,())⟩
noncomputable abbrev Bjk (R:Da):Env:=EX [(154,Oa)] [(152,[154],(Na R))] []
theorem Bz3 {R:Da} (hR:MX 152 (Na R)):GO (Bjk R):=GF ⟨A0r,trivial⟩ ⟨hR,trivial⟩ trivial
section
variable {R:Da} {G:GO (Bjk R)} (k:Kt G C F 23 [])
noncomputable def A04:=c0 Tryz.f152
noncomputable def Qd:=ct [0,0,2,0,1,4] A04
noncomputable def Ajv:=ct [0,2,4] Qd
abbrev A1l (y:Bool):Prop:=Ex k Tryz.f152 (Ad4 R) (y,())
abbrev Ayj (a0:Am):=Lz k Qd (Fb a0) (Sum.elim (Gz k Ajv Of) (A1l k))
theorem Au4:Ok k (A1l k) ⟨Ajv,Of,Qu R⟩:=pz k (fx k Tryz.f152 (Ad4 R) (λ y=>y.1) λ _ h=>h) (.g (.e [[]])) λ _=>an
theorem Au5 (a0:Am):Ok k (Ayj k a0) ⟨Qd,Fb a0,Qv R a0⟩:=pz k (fx k Tryz.f152 (Ad4 R) (λ y=> .inr (.inr y.1)) λ y h=>h.2 (.inr y.1) rfl) (.g (.b (.g (.g (.b (.g (.e [[]])) (.g (.l (.c 0 [[]])))))) (.c 1 [[]]))) λ _=>ac bk<|ac (xt Sum.inl λ _ h=>h)<|an
theorem Avv (a0:Am):Ok k (A1l k) ⟨Qd,Fb a0,λ v=>Option.bind (iter (Qv R a0) v) (Sum.elim (Qu R) (λ y=>some y))⟩:=lz k (Au5 k a0) (xs (Au4 k) xr)
end
theorem As9 {R:Da} (hR:MX 152 (Na R)):MX 152 (Ad4 R):=mw (Bz3 hR) 152 Tryz.f152 (Ad4 R) [] (λ k=>(fx k Tryz.f152 (Ad4 R) (λ y=>y.1) λ _ h=>h)) (.g (.g (.b (.g (.e [[]])) (.g (.l (.c 0 [[]])))))) λ k x=>ac (Avv k x.1)<|an
theorem Aj1:∀k,MX 152 (Na (I6 k))
 |0=>m0x (fn:=Tryz.f152) λ _=>rfl
 |k+1=>As9 (Aj1 k)
noncomputable def Anc:FX yeE:=Na Yj
theorem Avt:MX 152 Anc:=A3t (T:=yeT) (ins:=Aam) (λ R x=>R x.1) I6 Yj (λ x=>(λ (a0:Am)=>SizeOf.sizeOf a0+1) x.1) Aj1 λ _=>rfl
noncomputable def Wi:FS yeE:=f1 [(.nm 1)] (.int .i64) λ x=>Adg x.1
theorem B7t:GO (EX [] [(151,[],Aty),(152,[153],Aob),(152,[154],Anc)] []):=GF trivial ⟨A2j,Aut,Avt,trivial⟩ trivial
section
variable (k:Kt B7t C F 15 [])
end
theorem Axg:MT 126 Wi:=mz B7t 126 Tryz.f126 Wi [] (λ k=>(fz k Tryz.f126 Wi (λ y=>y.1) λ _ h=>h)) (.g (.g (.g (.b (.g (.e [[]])) (.g (.b (.g (.e [[]])) (.g (.b (.g (.e [[]])) (.g (.e [[]])))))))))) λ k _=>an
noncomputable def O7 (R:Cw):FS yeE:=f1 [(.nm 1)] .bool λ x=>R x.1
noncomputable def Bix (R:Cw):FS yeE:=f1 [(.nm 1)] .bool λ x=>Ai7 R x.1
noncomputable abbrev B6z (R:Cw):Env:=EV [(127,O7 R),(117,Od),(155,Ahr)] [] false
theorem Cci {R:Cw} (hR:MT 127 (O7 R)):GO (B6z R):=GB ⟨hR,Z2,Ar0,trivial⟩ trivial
section
variable {R:Cw} {G:GO (B6z R)} (k:Kt G C F 32 [])
noncomputable def A7l:=c0 Tryz.f127
noncomputable def Anr:=ct [0,0,0,0,3,0,4] A7l
noncomputable def An2:=ct [0,2,4] Anr
noncomputable def Tv:=ct [0,1,4] An2
noncomputable def An5:=ct [0,2,4] Tv
abbrev Bqj (y:Bool):Prop:=Ez k Tryz.f127 (Bix R) (y,())
abbrev A3k (a0:Am):=Lz k Tv (F8 a0) (Sum.elim (Gz k An5 P4) (Bqj k))
theorem Aw1:Ok k (Bqj k) ⟨An5,P4,S5 R⟩:=pz k (fz k Tryz.f127 (Bix R) (λ y=>y.1) λ _ h=>h) (.g (.e [[]])) λ _=>an
theorem Axp (a0:Am):Ok k (A3k k a0) ⟨Tv,F8 a0,Te R a0⟩:=pz k (fz k Tryz.f127 (Bix R) (λ y=> .inr (.inr y.1)) λ y h=>h.2 (.inr y.1) rfl) (.g (.b (.g (.g (.b (.g (.e [[]])) (.g (.l (.c 0 [[]])))))) (.c 1 [[]]))) λ _=>ac bk<|ac (xt Sum.inl λ _ h=>h)<|an
theorem Aw2 (a0:Am):Ok k (Bqj k) ⟨Tv,F8 a0,λ v=>Option.bind (iter (Te R a0) v) (Sum.elim (S5 R) (λ y=>some y))⟩:=lz k (Axp k a0) (xs (Aw1 k) xr)
theorem Ayb (a0:Am):Ok k (Bqj k) ⟨An2,P8 a0,Ni R a0⟩:=pz k Au (.g (.l (.c 0 [[]]))) λ _=>ac (Aw2 k a0)<|an
theorem Axa (a0:Am):Ok k (Bqj k) ⟨Anr,Ql a0,M9 R a0⟩:=pz k (fz k Tryz.f127 (Bix R) (λ y=>y.1) λ _ h=>h) (.g (.b (.g (.e [[]])) (.c 0 [[]]))) λ _=>ac (Ayb k a0)<|an
end
theorem Auy {R:Cw} (hR:MT 127 (O7 R)):MT 127 (Bix R):=mz (Cci hR) 127 Tryz.f127 (Bix R) [] (λ k=>Au) (.g (.g (.g (.g (.b (.g (.c 0 [[]])) (.c 0 [[]])))))) λ k x=>ac (Axa k x.1)<|an
theorem Aal:∀k,MT 127 (O7 (Iv k))
 |0=>m0 (fn:=Tryz.f127) λ _=>rfl
 |k+1=>Auy (Aal k)
noncomputable def Aph:FS yeE:=O7 Al9
theorem Az3:MT 127 Aph:=⟨(Aal 0).1,λ x y h=>(Aal ((λ (a0:Am)=>SizeOf.sizeOf a0+1) x.1)).2 x y (Eq.trans (by kernel_rfl) h)⟩
noncomputable def L8:FS yeE:=f1 [(.nm 1)] .bool λ x=>Ia x.1
theorem B8l:GO (EV [] [] false):=GB trivial trivial
section
variable (k:Kt B8l C F 11 [])
end
theorem Aox:MT 128 L8:=mz B8l 128 Tryz.f128 L8 [] (λ k=>(fz k Tryz.f128 L8 (λ y=>y.1) λ _ h=>h)) (.g (.g (.g (.b (.b (.g (.e [[]])) (.e [])) (.g (.b (.b (.g (.e [[]])) (.e [])) (.g (.b (.b (.g (.e [[]])) (.e [])) (.g (.b (.b (.g (.e [[]])) (.e [])) (.g (.b (.g (.e [[]])) (.g (.e [[]])))))))))))))) λ k _=>an
noncomputable def Eh:FS yeE:=f1 [(.nm 9)] (.int .i64) λ x=>Zg x.1
theorem Ca1:GO (EV [(122,Hp),(123,Cm),(124,Jb),(125,W6),(126,Wi),(127,Aph),(128,L8)] [] false):=GB ⟨A7e,Aos,A7d,A62,Axg,Az3,Aox,trivial⟩ trivial
section
variable (k:Kt Ca1 C F 64 [])
noncomputable def A79:=c0 Tryz.f90
noncomputable def Tn:=ct [0,0,0,2,0,2,0,0,2,0,0,1,4] A79
noncomputable def Aat:=ct [0,2,4] Tn
noncomputable def To:=ct [0,1,4] Aat
noncomputable def Aar:=ct [0,2,4] To
noncomputable def Tf:=ct [0,1,4] Aar
noncomputable def An0:=ct [0,2,4] Tf
abbrev Blr (y:Int):Prop:=Ez k Tryz.f90 Eh (y,())
abbrev A1w (v5:(List A5)):=Lz k Tf (Ga v5) (Sum.elim (Gz k An0 Qi) (Blr k))
abbrev A02 (v5:(List A5)):=Lz k To (F7 v5) (Sum.elim (Gz k Aar (Ky v5)) (Blr k))
abbrev A3a:=Lz k Tn Kz (Sum.elim (Gz k Aat Qj) (Blr k))
theorem Azj:Ok k (Blr k) ⟨An0,Qi,S4⟩:=pz k (fz k Tryz.f90 Eh (λ y=>y.1) λ _ h=>h) (.g (.e [[]])) λ _=>an
theorem Axy (v5:(List A5)):Ok k (A1w k v5) ⟨Tf,Ga v5,S9 v5⟩:=pz k (fz k Tryz.f90 Eh (λ y=> .inr (.inr y.1)) λ y h=>h.2 (.inr y.1) rfl) (.g (.b (.g (.g (.b (.g (.e [[]])) (.g (.l (.c 0 [[]])))))) (.c 1 [[]]))) λ _=>ac bk<|ac (xt Sum.inl λ _ h=>h)<|an
theorem Axb (v5:(List A5)):Ok k (Blr k) ⟨Tf,Ga v5,λ v=>Option.bind (iter (S9 v5) v) (Sum.elim S4 (λ y=>some y))⟩:=lz k (Axy k v5) (xs (Azj k) xr)
theorem Azk (v5:(List A5)):Ok k (Blr k) ⟨Aar,Ky v5,Tu v5⟩:=pz k Au (.g (.l (.c 0 [[]]))) λ _=>ac (Axb k v5)<|an
theorem Azg (v5:(List A5)):Ok k (A02 k v5) ⟨To,F7 v5,Tj v5⟩:=pz k (fz k Tryz.f90 Eh (λ y=> .inr (.inr y.1)) λ y h=>h.2 (.inr y.1) rfl) (.g (.b (.g (.g (.b (.g (.e [[]])) (.g (.l (.c 0 [[]])))))) (.c 1 [[]]))) λ _=>ac bk<|ac (xt Sum.inl λ _ h=>h)<|an
theorem Aw6 (v5:(List A5)):Ok k (Blr k) ⟨To,F7 v5,λ v=>Option.bind (iter (Tj v5) v) (Sum.elim (Tu v5) (λ y=>some y))⟩:=lz k (Azg k v5) (xs (Azk k v5) xr)
theorem A0f:Ok k (Blr k) ⟨Aat,Qj,Tt⟩:=pz k Au (.g (.l (.c 0 [[]]))) λ v=>ac (Aw6 k v.1)<|an
theorem Axk:Ok k (A3a k) ⟨Tn,Kz,Th⟩:=pz k (fz k Tryz.f90 Eh (λ y=> .inr (.inr y.1)) λ y h=>h.2 (.inr y.1) rfl) (.g (.b (.g (.g (.g (.b (.g (.e [[]])) (.g (.l (.c 0 [[]]))))))) (.c 1 [[]]))) λ _=>ac bk<|ac (xt Sum.inl λ _ h=>h)<|an
theorem Ayx:Ok k (Blr k) ⟨Tn,Kz,λ v=>Option.bind (iter Th v) (Sum.elim Tt (λ y=>some y))⟩:=lz k (Axk k) (xs (A0f k) xr)
end
theorem Avf:MT 90 Eh:=mz Ca1 90 Tryz.f90 Eh [] (λ k=>(fz k Tryz.f90 Eh (λ y=>y.1) λ _ h=>h)) (.g (.g (.g (.b (.g (.e [[]])) (.g (.b (.g (.e [[]])) (.g (.g (.b (.g (.e [[]])) (.g (.g (.l (.c 0 [[]]))))))))))))) λ k _=>ac (Ayx k)<|an
end
end Go.Ab
