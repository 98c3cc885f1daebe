/- That the functions of expressions end. Numbers read from digits, and numbers of texts. Numbers of texts. That units are read. Conditions: none beyond those that each theorem names. -/
import Derived.Test.YtgngflkahbpecaaGreatDoorP31
namespace Go.Ab
open Go
set_option linter.unusedVariables false
inductive EB:Am->Prop
 |mk (e:Am) (h1:e.Kids.length<1099511627776) (h2:∀k∈e.Kids,EB k):EB e
theorem EB.len {e:Am} (h:EB e):e.Kids.length<9223372036854775807:=by cases h;omega
theorem EB.z:EB D2:=⟨_,by show 0<_;omega,λ _ h=>by cases h⟩
theorem EB.at {e:Am} (h:EB e) (j:Nat):EB (e.Kids.getD j D2):=by cases h with|mk _ _ h2=>exact O9 EB.z h2 j
theorem Bc0 {e:Am} {j:Nat} (h:j<e.Kids.length):SizeOf.sizeOf (e.Kids.getD j D2)<SizeOf.sizeOf e:=by
 have h1:=List.sizeOf_lt_of_mem (E7 D2 h)
 have h2:SizeOf.sizeOf e=1+SizeOf.sizeOf e.Op+SizeOf.sizeOf e.Name+SizeOf.sizeOf e.N+SizeOf.sizeOf e.Kids:=by cases e;simp
 omega
theorem Bfo:∀(k:Nat) (e:Am) (a b:Int),SizeOf.sizeOf e<k->EB e->Al (Ob k e a b) λ _=>True
 |0,_,_,_,h,_=>by omega
 |k+1,e,a,b,h,hb=>by
  unfold Ob Amh Vn Hd Iw
  simp only[gv]
  intro _ _
  refine Bc e.Kids.length hb.len (λ _ _=>True) trivial λ i s hi _=> ?_
  obtain⟨s1,s2,_⟩:=s
  unfold E0 Ew Aio
  simp only[gv,Bg]
  intro hlt
  exact(Bfo k _ _ _ (by have:=Bc0 hlt;omega) (hb.at i)).mono λ r _ _=>hlt
theorem Byg (e:Am) (h:EB e) (a b:Int):Al (Aia e a b) λ _=>True:=Bfo _ e a b (by omega) h
theorem B92 (x:Int):Al (Ak0 x) λ _=>True:=by
 unfold Ak0 Alj Alw Amd Agg
 simp only[gv]
noncomputable def Cb6 (x:Int):Int:=(Ak0 x).getD 0
theorem B59 (x:Int):Ak0 x=some (Cb6 x):=eqD _ (B92 x)
theorem B5n (x:Bd):Al (Z4 x) λ _=>True:=by
 unfold Z4 T5
 simp only[gv]
 intro a1 a2 a3 a4
 refine Ci (λ v:Int×Int=>0<=v.2\/0<= -v.2) (λ v=>v.2.natAbs) (by show 0<=x.D\/_;omega) λ s _=> ?_
 obtain⟨p,q⟩:=s
 unfold Ali
 simp only[gv]
 refine λ h=>⟨by omega, ?_⟩
 have:=Int.natAbs_tmod p q
 rw[this]
 exact Nat.mod_lt _ (by omega)
noncomputable def B9r (x:Bd):Bool:=(Z4 x).getD false
theorem B4h (x:Bd):Z4 x=some (B9r x):=eqD _ (B5n x)
theorem Bj0 (x:Int):Al (Ml x) λ b=>b=true->x<128:=by unfold Ml;simp only[gv];simp;omega
theorem Bou (x:Int):Al (Uk x) λ b=>b=true->x<128:=by unfold Uk;simp only[gv];simp;omega
theorem B6k (x:List UInt8):Al (Xs x) λ _=>True:=by unfold Xs;simp only[gv]
noncomputable def B3e (x:Int):Bool:=(Ml x).getD false
theorem Bdn (x:Int):Ml x=some (B3e x):=eqD _ (Bj0 x)
noncomputable def B55 (x:Int):Bool:=(Uk x).getD false
theorem B0b (x:Int):Uk x=some (B55 x):=eqD _ (Bou x)
noncomputable def B9k (x:List UInt8):Bool:=(Xs x).getD false
theorem B2d (x:List UInt8):Xs x=some (B9k x):=eqD _ (B6k x)
theorem Boh (x:Int):Al (Uh x) λ b=>b=true->x<128:=by
 unfold Uh;simp only[gv,Bdn,B0b]
 refine⟨λ h _=>Nw false (Bj0 x) h,λ _=>⟨λ h _=>Nw false (Bou x) h,λ _=> ?_⟩⟩
 omega
noncomputable def Bwj (x:Int):Bool:=(Uh x).getD false
theorem Bzb (x:Int):Uh x=some (Bwj x):=eqD _ (Boh x)
def Asc (s:List UInt8):Prop:=s.length<=60/\∀x∈s,x.toNat<128
theorem Asc.nil:Asc []:=⟨by simp,by simp⟩
theorem Bq9 (s:List UInt8):Al (P1 s) λ b=>b=true->Asc s:=by
 unfold P1 Qt
 simp only[gv,Bdn,B2d]
 refine⟨by simp,λ h1=>⟨by simp,λ h2=>⟨⟨by omega,by have:=List.length_pos_iff.2 h1;omega⟩,by simp,λ _=>⟨by simp,λ _=> ?_⟩⟩⟩⟩
 refine Bc s.length (by omega) (λ i _=>∀j,j<i->(s.getD j 0).toNat<128) (λ j hj=>by omega) λ i _ hi hI=> ?_
 unfold Adf Adv
 simp only[gv,Bzb]
 refine⟨λ h=>⟨by simp,λ h1=>⟨h,Es hI ?_⟩⟩,λ h _=>⟨by omega,T7 (z:=0) λ j hj=>hI j (by omega)⟩⟩
 have:=Nw false (Boh ((s.getD i 0).toNat:Int)) (by simpa [Bwj]using h1)
 omega
noncomputable def Bw1 (s:List UInt8):Bool:=(P1 s).getD false
theorem By4 (s:List UInt8):P1 s=some (Bw1 s):=eqD _ (Bq9 s)
theorem Awb {s:List UInt8} (h:Bw1 s=true):Asc s:=Nw false (Bq9 s) h
theorem Bpg (e:Am):Al (Xl e) λ b=>b=true->Asc e.Name:=by
 unfold Xl
 simp only[gv,B59,By4,B4h]
 refine⟨by simp,λ _=>⟨λ _=>⟨λ h _=>by rw[h];exact Asc.nil,by simp⟩,λ _=>⟨λ _=>⟨λ h _=>Awb h,by simp⟩,λ _=>⟨λ _=>⟨λ h _=>Awb h,by simp⟩,λ _=>⟨λ _=>⟨λ h _=>Awb h,by simp⟩,λ _=>⟨λ _=>⟨λ h=> ?_,by simp⟩,λ _=>⟨λ h _=>by rw[h];exact Asc.nil,by simp⟩⟩⟩⟩⟩⟩⟩
 rw[h]
 exact⟨λ _=>⟨λ _ _=>Asc.nil,by simp⟩,by simp⟩
noncomputable def Bw3 (e:Am):Bool:=(Xl e).getD false
theorem B0e (e:Am):Xl e=some (Bw3 e):=eqD _ (Bpg e)
theorem Bsz {e:Am} (h:Bw3 e=true):Asc e.Name:=Nw false (Bpg e) h
inductive EN:Am->Prop
 |mk (e:Am) (h1:Asc e.Name) (h2:∀j,j<e.Kids.length->EN (e.Kids.getD j D2)):EN e
theorem Bju:∀(k:Nat) (e:Am),SizeOf.sizeOf e<k->EB e->Al (I5 k e) λ b=>b=true->EN e
 |0,_,h,_=>by omega
 |k+1,e,h,hb=>by
  unfold I5 Afv
  simp only[gv,Bg,B0e]
  refine⟨by simp,λ hn=> ?_⟩
  refine Bc e.Kids.length hb.len (λ i _=>∀j,j<i->EN (e.Kids.getD j D2)) (λ j hj=>by omega) λ i s hi hI=> ?_
  unfold Q3 P6
  simp only[gv,Bg]
  refine⟨λ hlt=>(Bju k _ (by have:=Bc0 hlt;omega) (hb.at i)).mono λ r hr=>⟨by simp,λ h1=>⟨hlt,Es hI (hr (by simpa using h1))⟩⟩,λ hge _=>⟨_,Bsz (by simpa using hn),λ j hj=>hI j (by omega)⟩⟩
theorem B1m (e:Am) (h:EB e):Al (Zc e) λ b=>b=true->EN e:=Bju _ e (by omega) h
theorem B1a (x:Int):Al (Xr x) λ _=>True:=by unfold Xr;simp only[gv]
theorem Bru (x y:Int):Al (N6 x y) λ _=>True:=by unfold N6;simp only[gv]
noncomputable def B6i (x:Int):Bool:=(Xr x).getD false
theorem Bx5 (x:Int):Xr x=some (B6i x):=eqD _ (B1a x)
noncomputable def Bvg (x y:Int):Bool:=(N6 x y).getD false
theorem Bnx (x y:Int):N6 x y=some (Bvg x y):=eqD _ (Bru x y)
theorem Byj (e:Am) (hb:EB e):Al (Ahd e) λ _=>True:=by
 unfold Ahd
 simp only[gv]
 refine Bc e.Kids.length hb.len (λ _ _=>True) trivial λ i s hi _=> ?_
 unfold Yv Yy
 simp only[gv,Bx5,Bnx]
 repeat' (first|exact⟨(),trivial⟩|apply And.intro|intro _|omega)
theorem Bkh:∀(k:Nat) (e:Am),SizeOf.sizeOf e<k->EB e->Al (I6 k e) λ b=>True
 |0,_,h,_=>by omega
 |k+1,e,h,hb=>by
  unfold I6 Ae8
  simp only[gv,Bg]
  refine(Byj e hb).mono λ r _ _=> ?_
  refine Bc e.Kids.length hb.len (λ i _=>True) trivial λ i s hi hI=> ?_
  unfold Qv Qu
  simp only[gv,Bg]
  refine λ hlt=>(Bkh k _ (by have:=Bc0 hlt;omega) (hb.at i)).mono λ r hr _=>hlt
theorem B4k (e:Am) (h:EB e):Al (Yj e) λ b=>True:=Bkh _ e (by omega) h
theorem Bbo (e:Am) (h:EB e):Al (Adg e) λ r=>r=0->EN e:=by
 unfold Adg
 simp only[gv,Bg]
 refine(Byg e h _ _).mono λ r _=>⟨by simp,λ _=>(B1m e h).mono λ r hr=>⟨by simp,λ h1=>(B4k e h).mono λ _ _=>⟨by simp,λ _ _=>hr (by simpa using h1)⟩⟩⟩
theorem Blb {p:Nat->Bool}:∀{n i j:Nat},fst p i n=some j->j<i+n
 |0,_,_,h=>by cases h
 |n+1,i,j,h=>by
  unfold fst at h
  split at h
  ·cases h;omega
  ·have:=Blb h;omega
theorem B17 {p:Nat->Bool} {n:Nat}:Aas (fst p 0 n)<=n:=by
 cases h:fst p 0 n with
 |none=>simp[Aas]
 |some j=>have:=Blb h;simp[Aas];omega
theorem A9x:∀(k:Nat) (e:Am),SizeOf.sizeOf e<k->EB e->EN e->Al (Iv k e) λ b=>True
 |0,_,h,_,_=>by omega
 |k+1,e,h,hb,hn=>by
  cases hn with
  |mk _ n1 n2=>
  have key:∀v,Al (M9 (Iv k) e v) λ _=>True:=by
   intro v
   have k2:Al (Ni (Iv k) e ()) λ _=>True:=by
    unfold Ni
    simp only[gv]
    refine Bc e.Kids.length hb.len (λ i _=>True) trivial λ i s hi hI=> ?_
    unfold Te S5
    simp only[gv,Bg]
    refine λ hlt=>(A9x k _ (by have:=Bc0 hlt;omega) (hb.at i) (n2 i hlt)).mono λ r hr _=>hlt
   unfold M9
   simp only[gv,Aun]
   exact⟨λ _ _=>k2,λ _=>k2⟩
  unfold Iv Ai7 Tq
  simp only[gv]
  have hl:=n1.1
  have hx:= @B17 (λ k=>([46,91]:List UInt8).contains (e.Name.getD k 0)) e.Name.length
  refine⟨⟨n1.2,by decide,by omega,by decide⟩,λ h0=>⟨by omega,h0,hx,key _⟩,λ _=>key _⟩
theorem Bz6 (e:Am) (h:EB e) (hn:EN e):Al (Al9 e) λ b=>True:=A9x _ e (by omega) h hn
theorem Bhf (e:Am):Al (Ia e) λ _=>True:=by unfold Ia;simp only[gv]
noncomputable def Bnn (e:Am):Bool:=(Ia e).getD false
theorem Bd5 (e:Am):Ia e=some (Bnn e):=eqD _ (Bhf e)
theorem Aee (a:Nat) (c:UInt8) (r:List UInt8):Si a (c::r)=Si (a*10+(c.toNat-48)) r:=Eq.trans rfl rfl
theorem Bro (p c:List UInt8):∀a:Nat,Si a (p++c)=Si (Si a p) c:=by
 induction p with
 |nil=>intro a;rfl
 |cons x p ih=>intro a;rw[List.cons_append,Aee,Aee];exact ih _
theorem Bnf (a d e q:Nat):(a*10+d)*q+e=a*(q*10)+((0*10+d)*q+e):=by grind
theorem Bai (c:List UInt8):∀a:Nat,Si a c=a*10^c.length+Si 0 c:=by
 induction c with
 |nil=>intro a;exact(Nat.mul_one a).symm
 |cons x c ih=>
  intro a
  have h1:=ih (a*10+(x.toNat-48))
  have h2:=ih (0*10+(x.toNat-48))
  rw[Aee,Aee,List.length_cons,Nat.pow_succ]
  exact h1.trans (Eq.trans (Bnf a (x.toNat-48) (Si 0 c) (10^c.length)) (congrArg _ h2.symm))
theorem Bk2 (c:List UInt8):c.all Uo=true->Si 0 c<10^c.length:=by
 induction c with
 |nil=>intro _;exact Nat.one_pos
 |cons x c ih=>
  intro h
  simp only[List.all_cons,Bool.and_eq_true,Uo,decide_eq_true_eq]at h
  have:=ih h.2
  rw[Aee,List.length_cons,Bai c,Nat.pow_succ]
  have h1:(0*10+(x.toNat-48))*10^c.length<=9*10^c.length:=Nat.mul_le_mul_right _ (by omega)
  omega
theorem B2f {p:UInt8->Bool} {s:List UInt8} (n:Nat) (h:s.all p=true):(s.take n).all p=true:=by
 rw[List.all_eq_true]at h ⊢;exact λ x hx=>h x (List.mem_of_mem_take hx)
theorem Cb9 (n:Nat):(((10:Nat)^n:Nat):Int)=(10:Int)^n:=by rw[Int.natCast_pow];rfl
theorem Ccn {n:Nat} (h:n<=9):(10:Int)^n<=1000000000:=by
 have e:(10:Nat)^9=1000000000:=by decide
 have:(10:Nat)^n<=10^9:=Nat.pow_le_pow_right (by decide) h
 rw[e]at this
 have c:=Cb9 n
 omega
theorem Vv (s:List UInt8) (hl:s.length<=40) (hd:s.all Uo=true):Al (Uu s) λ z=>ZOk z/\Bi z=(Si 0 s:Int):=by
 unfold Uu Ahi Ai1
 simp only[gv]
 refine Ci (λ v:List UInt8×A4×A4×Unit=>∃p,s=p++v.1/\ZOk v.2.2.1/\Bi v.2.2.1=(Si 0 p:Int)) (λ v=>v.1.length) ⟨[],rfl,ZOk.small (by decide) (by decide),by rw[By];rfl⟩ ?_
 rintro⟨v1,v2,v3,_⟩ ⟨p,h1,h2,h3⟩
 simp only at h1 h2 h3
 subst h1
 have hlp:p.length+v1.length<=40:=by simpa using hl
 rw[List.all_append,Bool.and_eq_true]at hd
 unfold Aha
 simp only[gv]
 obtain⟨n,hn,hn9,hnl,hn1⟩:∃n:Nat,(if(9:Int)<(v1.length:Int)then(9:Int)else(v1.length:Int))=(n:Int)/\n<=9/\n<=v1.length/\(0<v1.length->0<n):=by
  by_cases h:(9:Int)<v1.length
  ·exact⟨9,by rw[if_pos h];rfl,by omega,by omega,by omega⟩
  ·exact⟨v1.length,by rw[if_neg h],by omega,by omega,by omega⟩
 rw[hn]
 refine⟨λ hpos=>⟨by decide,by omega,by omega, ?_⟩,λ hz=> ?_⟩
 ·have hn0:=hn1 (by omega)
  simp only[Int.toNat_natCast,Int.toNat_zero,List.drop_zero,Nat.sub_zero]
  have hlt:(v1.take n).length=n:=by rw[List.length_take];omega
  have hc:=B2f n hd.2
  unfold Apx
  simp only[gv]
  refine⟨⟨by omega,by intro h;rw[h]at hlt;simp at hlt;omega,hc⟩, ?_⟩
  refine Cc (λ i (v:Int)=>((n:Int),(Si 0 (v1.take n):Int),v,(n:Int),i,())) n (by omega) (λ i v=>v=10^i) (s:=1) (by simp) λ i v hi hv=> ?_
  subst hv
  have hpw:=Ccn (n:=i) (by omega)
  have hpw0:(0:Int)<10^i:=Int.pow_pos (by decide)
  unfold Aie
  simp only[gv,Ed]
  refine⟨λ h=>⟨IntKind.wrap .i64 (10^i*10),rfl,by rw[Dj (by omega) (by omega),Int.pow_succ]⟩,λ h=> ?_⟩
  have hin:i=n:=by omega
  subst hin
  have ha:=Bk2 _ hc
  have hb:=Bk2 _ hd.1
  rw[hlt]at ha
  have ha':((Si 0 (v1.take i):Nat):Int)<10^i:=by have:=Cb9 i;omega
  have hb1:(10:Nat)^p.length<=10^40:=Nat.pow_le_pow_right (by decide) (by omega)
  have e40:(10:Nat)^40=10000000000000000000000000000000000000000:=by decide
  rw[e40]at hb1
  have hb2:((Si 0 p:Nat):Int)<10000000000000000000000000000000000000000:=by omega
  unfold Ahm Ai1
  simp only[gv]
  have k5:(4294967296:Int)^5=1461501637330902918203684832716283019655932542976:=by decide
  refine(Aus h2 (ZOk.small (by omega) (by omega)) (K:=5) (by decide) (by unfold ZLt;rw[h3,k5];omega) (by unfold ZLt;rw[By,k5];omega)).mono λ y ⟨y1,y2⟩=> ?_
  have hv:Bi y=(Si 0 p:Int)*10^i:=by rw[y2,h3,By]
  have hle:(Si 0 p:Int)*10^i<=(Si 0 p:Int)*1000000000:=Int.mul_le_mul_of_nonneg_left hpw (by omega)
  have hge:0<=(Si 0 p:Int)*10^i:=Int.mul_nonneg (by omega) (by omega)
  refine(Bea y1 (ZOk.small (by omega) (by omega)) (K:=6) (by decide) (by unfold ZLt;rw[hv];have k6:(4294967296:Int)^6=6277101735386680763835789423207666416102355444464034512896:=by decide
                                                                                rw[k6];omega) (by unfold ZLt;rw[By];have k6:(4294967296:Int)^6=6277101735386680763835789423207666416102355444464034512896:=by decide
                                                                                                  rw[k6];omega)).mono λ x ⟨x1,x2⟩=> ?_
  refine⟨Int.natCast_nonneg _,Int.ofNat_le.2 hnl,Int.le_refl _,⟨p++v1.take i, ?_,x1, ?_⟩, ?_⟩
  ·rw[List.append_assoc,List.take_of_length_le (l:=List.drop i v1) (by simp),List.take_append_drop]
  ·rw[x2,hv,By,Bro,Bai _ (Si 0 p),hlt]
   push_cast;rfl
  ·simp only[List.length_take,List.length_drop];omega
 ·have:v1=[]:=List.length_eq_zero_iff.1 (by omega)
  subst this
  exact⟨h2,by simpa using h3⟩
theorem Au0 (s:List UInt8) (hl:s.length<9223372036854775807):Al (Pm s) λ b=>b=true->s.all Uo=true:=by
 unfold Pm
 simp only[gv]
 refine Bc s.length hl (λ i _=>∀j,j<i->Uo (s.getD j 0)=true) (λ j hj=>by omega) λ i _ hi hI=> ?_
 unfold Y3 Ze Zf
 simp only[gv]
 refine⟨λ h=>⟨by simp,λ h1=>⟨h,by simp,λ h2=>⟨h,Es hI (by simp only[Uo,Bool.and_eq_true,decide_eq_true_eq];omega)⟩⟩⟩,λ h _=> ?_⟩
 rw[List.all_eq_true]
 exact T7 (z:=0) λ j hj=>hI j (by omega)
noncomputable def Bjz (s:List UInt8):Bool:=(Pm s).getD false
theorem Bsp {s:List UInt8} (hl:s.length<9223372036854775807):Pm s=some (Bjz s):=eqD _ (Au0 s hl)
theorem Bnj {s:List UInt8} (hl:s.length<9223372036854775807) (h:Bjz s=true):s.all Uo=true:=Nw false (Au0 s hl) h
structure A8x (s:List UInt8):Prop where
 ne:s≠[]
 le:s.length<=20
 dig:s.all Uo=true
 top:s.getD 0 0=48->s.length=1
theorem A4r (s:List UInt8):Al (H0 s) λ b=>b=true->A8x s:=by
 unfold H0 Ph V1
 simp only[gv]
 refine⟨by simp,λ h1=>⟨by simp,λ h2=> ?_⟩⟩
 have hp:=List.length_pos_iff.2 h1
 have hx:=Au0 s (by omega)
 refine⟨⟨by omega,by omega⟩,λ h3=>⟨by simp,λ h4=>hx.mono λ r hr h=>⟨h1,by omega,hr h,λ _=>by omega⟩⟩,λ h3=>hx.mono λ r hr h=>⟨h1,by omega,hr h,λ h=> ?_⟩⟩
 exact absurd (by rw[show(Int.toNat 0)=0 from rfl,h];rfl) h3
noncomputable def Bel (s:List UInt8):Bool:=(H0 s).getD false
theorem Bmv (s:List UInt8):H0 s=some (Bel s):=eqD _ (A4r s)
theorem Yu {s:List UInt8} (h:Bel s=true):A8x s:=Nw false (A4r s) h
theorem Bqw {c:UInt8} {r:List UInt8} (h:48<c.toNat):0<Si 0 (c::r):=by
 rw[Aee,Bai]
 have:0<(0*10+(c.toNat-48))*10^r.length:=Nat.mul_pos (by omega) (Nat.pow_pos (by decide))
 omega
theorem A8x.pos {s:List UInt8} (h:A8x s) (h0:s≠[48]):0<Si 0 s:=by
 obtain⟨h1,h2,h3,h4⟩:=h
 cases s with
 |nil=>exact absurd rfl h1
 |cons c r=>
  have hc:Uo c=true:=by simp only[List.all_cons,Bool.and_eq_true]at h3;exact h3.1
  simp only[Uo,Bool.and_eq_true,decide_eq_true_eq]at hc
  refine Bqw ?_
  rcases Nat.lt_or_eq_of_le hc.1 with h|h
  ·exact h
  ·exfalso
   have e:c=48:=by apply UInt8.toNat_inj.1;rw[<-h];rfl
   subst e
   have:=h4 rfl
   have:r=[]:=List.length_eq_zero_iff.1 (by simpa using this)
   subst this
   exact h0 rfl
theorem Bmo (s t:List UInt8):Al (Qp s t) λ r=>r.1.length<=s.length:=by
 unfold Qp Oq P2
 simp only[gv]
 refine⟨λ h=>⟨by decide,by omega,h,λ _=>by omega,λ _=>⟨by omega,h,by omega,by simp⟩⟩,λ h=>⟨λ _=>by omega,λ h=>by simp at h⟩⟩
theorem Aks (s:List UInt8) (c:UInt8) (hl:s.length<9223372036854775807):Al (Pu s [c]) λ r=>r.1.length<=s.length/\r.2.1.length<=s.length:=by
 unfold Pu Agm Qh
 simp only[gv]
 refine⟨rfl,λ h=> ?_,λ h=>⟨by omega,by simp⟩⟩
 cases hf:fst (λ k=>decide (s.getD k 0=([c]:List UInt8).getD 0 0)) 0 s.length with
 |none=>rw[hf]at h;simp[Aas]at h
 |some k=>
  have hk:=Blb hf
  simp only[Aas,List.length_singleton,Int.toNat_natCast]
  rw[show((1:Nat):Int)=1 from rfl,Dj (by omega) (by omega)]
  refine⟨by decide,by omega,by omega,by omega,by omega,by omega,by simp;omega,by simp⟩
def AR (x:Bd) (r:Rat):Prop:=x.N=r.num/\x.D=(r.den:Int)/\ -1000000000000<=r.num/\r.num<=1000000000000/\(r.den:Int)<=1000000000000
theorem Bjn {q:B7} {r:Rat} (h:Agh q r):Al (Alo q) λ y=>y.2=true->AR y.1 r:=by
 unfold Alo Akg
 simp only[gv]
 refine(A9g h.okN (most:=1000000000000) (by decide) (by decide)).mono λ y hy=> ?_
 refine(A9g h.okD (most:=1000000000000) (by decide) (by decide)).mono λ z hz=> ?_
 refine⟨λ _ h=>by simp at h,λ h1=>⟨λ _ h=>by simp at h,λ h2 _=> ?_⟩⟩
 have h1:y.2=true:=by simpa using h1
 have h2:z.2=true:=by simpa using h2
 have e1:=hy.1.1 h1
 have e2:=hz.1.1 h2
 rw[h.num]at e1
 rw[h.den]at e2
 exact⟨by rw[<-h.num];exact hy.2.1 h1,by rw[<-h.den];exact hz.2.1 h2,e1.1,e1.2,e2.2⟩
theorem Bs0 {q:B7} {r:Rat} (h:Agh q r):Al (A8g q) λ y=>(y.2=0/\AR y.1 r)\/y.2=3:=by
 unfold A8g
 simp only[gv]
 exact(Bjn h).mono λ y hy=>⟨λ _=> .inr trivial,λ h=> .inl (hy (by simpa using h))⟩
theorem k2:(4294967296:Int)^2=18446744073709551616:=by decide
theorem Bpq {x:Bd} {r:Rat} (h:AR x r):Al (Beo x) λ q=>Agh q r/\Sz r 2:=by
 obtain⟨h1,h2,h3,h4,h5⟩:=h
 unfold Beo Ai1
 simp only[gv]
 refine⟨⟨ZOk.small (by show _<=x.N;omega) (by show x.N<_;omega),ZOk.small (by show _<=x.D;omega) (by show x.D<_;omega),by show Bi ⟨x.N,[],false⟩=_;rw[By,h1],by show Bi ⟨x.D,[],false⟩=_;rw[By,h2]⟩, ?_⟩
 unfold Sz
 rw[k2]
 omega
def PR (s:List UInt8) (y:Bd×Int):Prop:=y.2=2\/(0<s.length/\(y.2=3\/(y.2=0/\∃r,AR y.1 r)))
theorem Ajo {s:List UInt8} (hs:0<s.length) {b:Bool} {z:Bd} {q:B7} {r:Rat} (h:Agh q r) (hz:Sz r 5):Al (X9 (b,z,q,())) (PR s):=by
 have fin:∀{q:B7} {r:Rat},Agh q r->Al (Aft z (q,())) (PR s):=by
  intro q r h
  unfold Aft
  simp only[gv]
  refine(Bs0 h).mono λ y hy=> ?_
  rcases hy with⟨h1,h2⟩|h1
  ·exact .inr ⟨hs,.inr ⟨h1,r,h2⟩⟩
  ·exact .inr ⟨hs,.inl h1⟩
 unfold X9
 simp only[gv]
 refine⟨λ _=>(Bo7 h).mono λ y hy=>⟨λ _=> .inl rfl,λ _=>(Bu8 h hz (by decide)).mono λ x hx=>fin hx⟩,λ _=>fin h⟩
theorem Bte {s:List UInt8} (hl:s.length<=40) (hd:s.all Uo=true) {z:A4} (h:Bi z=(Si 0 s:Int)):ZLt z 5:=by
 have ha:=Bk2 _ hd
 have hb1:(10:Nat)^s.length<=10^40:=Nat.pow_le_pow_right (by decide) hl
 have e40:(10:Nat)^40=10000000000000000000000000000000000000000:=by decide
 rw[e40]at hb1
 have k5:(4294967296:Int)^5=1461501637330902918203684832716283019655932542976:=by decide
 unfold ZLt
 rw[k5,h]
 omega
theorem Bwn {a b:List UInt8} (la:a.length<=40) (lb:b.length<=40) (ha:a.all Uo=true) (hb:b.all Uo=true) (h0:0<Si 0 b) {x y:A4} (hx:ZOk x/\Bi x=(Si 0 a:Int)) (hy:ZOk y/\Bi y=(Si 0 b:Int)):Al (Oi x y) λ q=>∃r,Agh q r/\Sz r 5:=by
 have l1:=Bte la ha hx.2
 have l2:=Bte lb hb hy.2
 have hne:Bi y≠0:=by rw[hy.2];omega
 exact(Af1 hx.1 hy.1 (K:=5) (by decide) l1 l2 hne).mono λ q hq=>⟨_,hq,Aek hne l1 l2⟩
theorem Bzw (n:Nat):(List.replicate n ([48]:List UInt8)).flatten=List.replicate n 48:=by
 induction n with
 |zero=>rfl
 |succ n ih=>rw[List.replicate_succ,List.flatten_cons,ih,List.replicate_succ];rfl
theorem Bo1 (s:List UInt8) (hl:s.length<4611686018427387904):Al (Ayq s) (PR s):=by
 unfold Ayq Agd Xm
 simp only[gv]
 refine(Bmo s [45]).mono λ y1 h1=> ?_
 refine(Aks y1.1 47 (by omega)).mono λ y2 h2=> ?_
 unfold Xn Ji
 simp only[gv,Bmv]
 refine⟨by decide,λ _=>⟨λ _=> .inl rfl,λ n1=>⟨λ _=> .inl rfl,λ n2=>⟨λ _=> .inl rfl,λ h0=> ?_⟩⟩⟩,λ _=>⟨λ hi=> ?_,λ _=>⟨λ _=> .inl rfl,λ n1=> ?_⟩⟩⟩
 ·have m1:=Yu (s:=y2.1) (by simpa using n1)
  have m2:=Yu (s:=y2.2.1) (by simpa using n2)
  refine(Vv y2.1 (by have:=m1.le;omega) m1.dig).mono λ a ha=>(Vv y2.2.1 (by have:=m2.le;omega) m2.dig).mono λ b hb=> ?_
  refine(Bwn (by have:=m1.le;omega) (by have:=m2.le;omega) m1.dig m2.dig (m2.pos h0) ha hb).mono λ q ⟨r,hq,hz⟩=> ?_
  exact Ajo (by have:=List.length_pos_iff.2 m1.ne;omega) hq hz
 ·have hx:= @B17 (λ k=>decide (((y1.1.getD k 0).toNat:Int)=46)) y1.1.length
  obtain⟨k,hk⟩:=Int.eq_ofNat_of_zero_le hi
  rw[hk]at hx hi ⊢
  cases hf:fst (λ k=>decide (((y1.1.getD k 0).toNat:Int)=46)) 0 y1.1.length with
  |none=>rw[hf]at hk;simp[Aas]at hk
  |some j=>
   have hj:=Blb hf
   rw[hf]at hk
   have hjk:j=k:=by simp only[Aas]at hk;omega
   subst hjk
   rw[Dj (by omega) (by omega)]
   simp only[Int.toNat_natCast,Int.toNat_zero,List.drop_zero,Nat.sub_zero]
   have e1:((j:Int)+1).toNat=j+1:=by omega
   rw[e1]
   have lt:(List.take (y1.1.length-(j+1)) (List.drop (j+1) y1.1)).length=y1.1.length-(j+1):=by simp
   have lh:(List.take j y1.1).length=j:=by rw[List.length_take];omega
   refine⟨by decide,by omega,by omega,by omega,by omega,by omega,λ _=> .inl rfl,λ n1=>⟨λ _=> .inl rfl,λ n2=>⟨λ _=> .inl rfl,λ n3=> ?_⟩⟩⟩
   rw[Bsp (by rw[lt];omega)]
   simp only[gv]
   have m1:=Yu (s:=List.take j y1.1) (by simpa using n1)
   have l1:=m1.le
   refine⟨λ _=> .inl rfl,λ n4=> ?_⟩
   have d2:=Bnj (by rw[lt];omega) (by simpa using n4)
   rw[lt]at n3 ⊢
   rw[lh]at l1 ⊢
   refine⟨by unfold As;omega, ?_⟩
   have dall:(List.take j y1.1++List.take (y1.1.length-(j+1)) (List.drop (j+1) y1.1)).all Uo=true:=by rw[List.all_append,m1.dig,d2];rfl
   refine(Vv _ (by rw[List.length_append,lt,lh];omega) dall).mono λ a ha=> ?_
   unfold Yz
   simp only[gv,Bzw]
   refine⟨⟨by omega,by simp only[List.length_singleton];omega,by omega⟩,by unfold As;simp only[List.length_singleton,List.length_replicate];omega, ?_⟩
   have d3:(([49]:List UInt8)++List.replicate (y1.1.length-(j+1)) 48).all Uo=true:=by
    rw[List.all_eq_true];intro x hx
    rcases List.mem_append.1 hx with h|h
    ·rw[List.mem_singleton.1 h];decide
    ·rw[List.eq_of_mem_replicate h];decide
   have l3:(([49]:List UInt8)++List.replicate (y1.1.length-(j+1)) 48).length<=40:=by simp only[List.length_append,List.length_singleton,List.length_replicate];omega
   refine(Vv _ l3 d3).mono λ b hb=> ?_
   refine(Bwn (by rw[List.length_append,lt,lh];omega) l3 dall d3 (Bqw (c:=49) (by decide)) ha hb).mono λ q ⟨r,hq,hz⟩=> ?_
   exact Ajo (by omega) hq hz
 ·have m1:=Yu (s:=y1.1) (by simpa using n1)
  refine(Vv y1.1 (by have:=m1.le;omega) m1.dig).mono λ a ha=> ?_
  unfold Ai1
  simp only[gv]
  have l1:=Bte (by have:=m1.le;omega) m1.dig ha.2
  have l2:ZLt ⟨1,[],false⟩ 5:=by unfold ZLt;rw[By];decide
  refine(Af1 ha.1 (ZOk.small (v:=1) (n:=false) (by decide) (by decide)) (K:=5) (by decide) l1 l2 (by rw[By];decide)).mono λ q hq=> ?_
  exact Ajo (by have:=List.length_pos_iff.2 m1.ne;omega) hq (Aek (by rw[By];decide) l1 l2)
theorem nn {b:Bool} (h:¬(!b)=true):b=true:=by cases b<;>simp at h ⊢
def QG (k:Nat) (q:B7):Prop:=∃r:Rat,Agh q r/\Sz r k/\r≠0
theorem QG.mono {k m:Nat} {q:B7} (h:QG k q) (hk:k<=m):QG m q:=by obtain⟨r,h1,h2,h3⟩:=h;exact⟨r,h1,h2.mono hk,h3⟩
theorem B4r {a b:B7} {k m:Nat} (ha:QG k a) (hb:QG m b) (hk:k+m+1<=1099511627776):Al (Aci a b) (QG (k+m)):=by
 obtain⟨x,x1,x2,x3⟩:=ha
 obtain⟨y,y1,y2,y3⟩:=hb
 exact(Btb x1 y1 x2 y2 hk).mono λ c hc=>⟨_,hc,x2.mul y2,by simp[Rat.mul_eq_zero,x3,y3]⟩
theorem B7e:Al (Aaj 1) (QG 1):=(A9v (n:=1) (by decide) (by decide)).mono λ q hq=>⟨_,hq,by unfold Sz;decide,by decide⟩
theorem B1n {n:Int} (h0:0<n) (h1:n<4294967296):Al (Aaj n) (QG 1):=(A9v (n:=n) (by omega) (by omega)).mono λ q hq=>⟨_,hq,by unfold Sz;simp only[Rat.num_intCast,Rat.den_intCast];omega,λ h=>by have:=congrArg Rat.num h;simp only[Rat.num_intCast]at this;exact absurd this (by show n≠0;omega)⟩
theorem A4o {a b:Int} (hb:b≠0) (h:Rat.divInt a b=0):a=0:=by
 have:=(Rat.divInt_eq_divInt_iff hb (by decide:(1:Int)≠0)).1 (h.trans (Rat.zero_divInt 1).symm)
 omega
theorem Cbf {k:Nat} {a:B7} (h:QG k a) (hk:k<=1099511627776):Al (Oi a.D a.N) (QG k):=by
 obtain⟨x,x1,x2,x3⟩:=h
 have hn:Bi a.N≠0:=by rw[x1.num];exact λ h=>x3 (Rat.num_eq_zero.1 h)
 have l1:=x1.ltN x2
 have l2:=x1.ltD x2
 refine(Af1 x1.okD x1.okN hk l2 l1 hn).mono λ q hq=>⟨_,hq,Aek hn l2 l1,λ h=> ?_⟩
 have h:=A4o hn h
 rw[x1.den]at h
 have:=x.den_nz
 omega
theorem A44 (j:Nat) {k:Nat} {a:B7} {n:Int} (h:QG k a) (h0:0<=n) (h1:n<=9) (hk:k<=1000000):Al (Aed (j+1) a n) (QG (9*k+1)):=by
 unfold Aed Ayc
 simp only[gv]
 refine⟨λ h=>by omega,λ _=>B7e.mono λ q hq=> ?_⟩
 obtain⟨m,rfl⟩:=Int.eq_ofNat_of_zero_le h0
 refine Bc m (by omega) (λ i (s:B7×B7×Unit)=>QG (i*k+1) s.2.1) (by simpa using hq) λ i s hi hs=> ?_
 obtain⟨s1,s2,_⟩:=s
 unfold Alg Al3
 simp only[gv]
 have hik:i*k<=9*k:=Nat.mul_le_mul_right _ (by omega)
 refine⟨λ h2=>(B4r hs h (by omega)).mono λ q hq=>⟨h2, ?_⟩,λ _=>QG.mono hs (by omega)⟩
 rw[Nat.add_mul]
 exact hq.mono (by omega)
theorem Byh {k:Nat} {a:B7} {n:Int} (h:QG k a) (h0: -9<=n) (h1:n<=9) (hk:k<=1000000):Al (A8t a n) (QG (9*k+1)):=by
 by_cases hn:0<=n
 ·exact A44 2 h hn h1 hk
 ·unfold A8t Aed Ayc
  simp only[gv]
  refine⟨λ _=>(Cbf h (by omega)).mono λ q hq=> ?_,λ h=>by omega⟩
  rw[Dj (by omega) (by omega)]
  exact A44 1 hq (by omega) (by omega) hk
def tOk (x:Bd):Bool:=decide (1<=x.N)&&decide (x.N<=1000000000000)&&decide (1<=x.D)&&decide (x.D<=1000000000000)&&(Nat.gcd x.N.natAbs x.D.natAbs==1)
theorem B9p {x:Bd} (h:tOk x=true):∃r,AR x r/\r≠0:=by
 simp only[tOk,Bool.and_eq_true,decide_eq_true_eq,beq_iff_eq]at h
 obtain⟨⟨⟨⟨h1,h2⟩,h3⟩,h4⟩,h5⟩:=h
 refine⟨⟨x.N,x.D.natAbs,by omega,h5⟩,⟨rfl,by show x.D=(x.D.natAbs:Int);omega,by show _<=x.N;omega,by show x.N<=_;omega,by show(x.D.natAbs:Int)<=_;omega⟩,λ h=> ?_⟩
 have:=congrArg Rat.num h
 have:x.N=0:=this
 omega
def Bsc:List (List UInt8×A7)->Bool
 |[]=>true
 |e::r=>tOk e.2.F&&Bsc r
theorem B3b:(match Ak6 with|some t=>Bsc t|none=>false)=true:=by kernel_rfl
theorem Bod {x:List UInt8}:∀{l:List (List UInt8×A7)},Bsc l=true->Option.isSome (Kh kqS x l)=true->tOk (Option.getD (Kh kqS x l) Aex).F=true
 |[],_,h=>by cases h
 |(y,v)::r,h1,h2=>by
  simp only[Bsc,Bool.and_eq_true]at h1
  unfold Kh at h2 ⊢
  split
  ·exact h1.1
  ·rename_i hk;rw[if_neg hk]at h2;exact Bod h1.2 h2
theorem Bo0:Al Ak6 λ t=>Bsc t=true:=by
 have h:=B3b
 cases ht:Ak6 with
 |none=>rw[ht]at h;cases h
 |some t=>rw[ht]at h;exact⟨t,rfl,h⟩
theorem Az7 {u:A7} (h:tOk u.F=true):Al (Bdv u) λ b=>QG 2 b.f:=by
 obtain⟨r,h1,h2⟩:=B9p h
 unfold Bdv
 simp only[gv]
 exact(Bpq h1).mono λ q hq=>⟨r,hq.1,hq.2,h2⟩
theorem Bs3 {d:Int} (h0:0<d) (h1:d<4294967296):Al (Asd 1 d) (QG 1):=by
 unfold Asd Ai1
 simp only[gv]
 have hd:Bi ⟨d,[],false⟩≠0:=by rw[By];omega
 have l1:ZLt ⟨1,[],false⟩ 1:=by unfold ZLt;rw[By];decide
 have l2:ZLt ⟨d,[],false⟩ 1:=by unfold ZLt;rw[By];omega
 refine(Af1 (ZOk.small (v:=1) (n:=false) (by decide) (by decide)) (ZOk.small (v:=d) (n:=false) (by omega) (by omega)) (K:=1) (by decide) l1 l2 hd).mono λ q hq=>⟨_,hq,Aek hd l1 l2,λ h=> ?_⟩
 have h:=A4o hd h
 rw[By]at h
 omega
theorem Bh9 (c:Int):Al (Alk c) λ r=>r.2=true->QG 1 r.1:=by
 unfold Alk
 simp only[gv]
 refine⟨λ _=>(Bs3 (by decide) (by decide)).mono λ q hq _=>hq,λ _=>⟨λ _=>(Bs3 (by decide) (by decide)).mono λ q hq _=>hq,λ _=>⟨λ _=>(Bs3 (by decide) (by decide)).mono λ q hq _=>hq,λ _=>⟨λ _=>(B1n (by decide) (by decide)).mono λ q hq _=>hq,λ _=>⟨λ _=>(B1n (by decide) (by decide)).mono λ q hq _=>hq,λ _=>⟨λ _=>(B1n (by decide) (by decide)).mono λ q hq _=>hq,λ _ h=>by cases h⟩⟩⟩⟩⟩⟩
theorem Brv (s:List UInt8):Al (Asg s) λ r=>r.2=true->QG 4 r.1.f:=by
 unfold Asg Li
 simp only[gv]
 refine Bo0.mono λ t ht=>⟨λ h=>(Az7 (Bod ht h)).mono λ b hb _=>QG.mono hb (by omega),λ _=>⟨λ _ h=>(by cases h),λ hl=>⟨⟨by omega,by omega⟩,(Bh9 _).mono λ p hp=> ?_⟩⟩⟩
 have hs:(1:Int)<=s.length:=by omega
 refine⟨by decide,hs,by omega,λ _ h=>(by cases h),λ hp2=>⟨λ _ h=>(by cases h),λ hm=>⟨by decide,hs,by omega,λ _ h=>(by cases h),λ _=>⟨by decide,hs,by omega,λ _ h=>(by cases h),λ _=>⟨by decide,hs,by omega,λ _ h=>(by cases h),λ _=>⟨by decide,hs,by omega,λ _ h=>(by cases h),λ _=> ?_⟩⟩⟩⟩⟩⟩
 refine(Az7 (Bod ht (nn hm))).mono λ b hb=>(B4r hb (hp (by simpa using hp2)) (by omega)).mono λ q hq _=>QG.mono hq (by omega)
theorem Bsf {k:Nat} {u v:Bu} {n:Int} (hu:QG k u.f) (hv:QG 4 v.f) (h0: -9<=n) (h1:n<=9) (hk:k<=1000000):Al (Adm u v n) λ r=>QG (k+37) r.f:=by
 unfold Adm
 simp only[gv]
 exact(Byh hv h0 h1 (by omega)).mono λ p hp=>(B4r hu hp (by omega)).mono λ q hq=>hq
theorem Bnl {k:Nat} {u:Bu} (hu:QG k u.f):Al (Am5 u) λ _=>True:=by
 obtain⟨r,hr,_⟩:=hu
 unfold Am5
 simp only[gv]
 refine(Bjn hr).mono λ y _=> ?_
 unfold Vi Vz Vy V7 U7 Xd V4
 simp only[gv]
def FOk (f:Bm):Prop:= -9<=f.n/\f.n<=9
theorem Bzm (x:Int):Al (P9 x) λ _=>True:=by unfold P9;simp only[gv]
noncomputable def B3z (x:Int):Bool:=(P9 x).getD false
theorem Bu4 (x:Int):P9 x=some (B3z x):=eqD _ (Bzm x)
def pE (L:List (List UInt8)) (i:Int) (out:List Bm):List (List UInt8)×Int×Int×List Bm×Unit:=(L,(L.length:Int),i,out,())
def pI (i:Nat) (out:List Bm):Prop:=out.length=i/\∀f∈out,FOk f
theorem Atm (s:List UInt8) (hl:s.length<=600) (sg:Int) (hs:sg=1\/sg= -1):Al (Zr s sg) λ r=>r.1.length<=601/\∀f∈r.1,FOk f:=by
 have hp:=Sh s []
 unfold Zr Mu Iz
 simp only[gv]
 refine⟨by omega, ?_⟩
 refine Cc (pE (B3 [] s)) (B3 [] s).length (by omega) pI (s:=[]) ⟨rfl,by simp⟩ λ i out hi hI=> ?_
 have hq:((B3 [] s).getD i []).length<=600:=by
  have:=O9 (l:=B3 [] s) (z:=[]) (P:=λ p=>p.length<=s.length) (by simp) (λ p h=>by have:=Asw s [] p h;simpa using this) i
  omega
 unfold Y7 pE
 simp only[gv]
 have j6:∀(f:Bm),FOk f->i<(B3 [] s).length->Al (Sa sg (B3 [] s) ((B3 [] s).length:Int) (i:Int) (f,out,())) (Awy (pE (B3 [] s)) (B3 [] s).length i pI λ r=>Al (Sum.elim H8 (λ y=>some y) r) λ r=>r.1.length<=601/\∀f∈r.1,FOk f):=by
  intro f hf h
  unfold Sa
  simp only[gv,Ed]
  have h1:=hI.1
  refine⟨by unfold As;simp only[List.length_singleton];omega,h,out++[f],rfl,by simp[h1], ?_⟩
  intro x hx
  rcases List.mem_append.1 hx with hx|hx
  ·exact hI.2 x hx
  ·rw[List.mem_singleton.1 hx];exact hf
 have j5:Al (N9 sg ()) (Awy (pE (B3 [] s)) (B3 [] s).length i pI λ r=>Al (Sum.elim H8 (λ y=>some y) r) λ r=>r.1.length<=601/\∀f∈r.1,FOk f):=by
  unfold N9
  simp only[gv]
  exact⟨by simp,by simp⟩
 have j4:∀(t:List UInt8) (f:Bm),(f.n=1\/f.n= -1)->i<(B3 [] s).length->Al (Rh sg (B3 [] s) ((B3 [] s).length:Int) (i:Int) (t,f,out,())) (Awy (pE (B3 [] s)) (B3 [] s).length i pI λ r=>Al (Sum.elim H8 (λ y=>some y) r) λ r=>r.1.length<=601/\∀f∈r.1,FOk f):=by
  intro t f hf h
  unfold Rh
  simp only[gv]
  refine⟨λ _=>j5,λ h1=>⟨⟨by omega,by omega⟩,λ _=>j5,λ h2=>⟨⟨by omega,by omega⟩,λ _=>j5,λ h3=>⟨⟨by omega,by omega⟩,j6 _ ?_ h⟩⟩⟩⟩
  unfold FOk
  simp only
  rw[w8,Int.emod_eq_of_lt (by omega) (by omega),Dj (x:=((t.getD (Int.toNat 0) 0).toNat:Int) -48) (by omega) (by omega)]
  rcases hf with hf|hf<;>rw[hf]
  ·rw[Dj (by omega) (by omega)];omega
  ·rw[Dj (by omega) (by omega)];omega
 have j3:∀(k:Nat),k<=((B3 [] s).getD i []).length->i<(B3 [] s).length->Al (Se sg (B3 [] s) ((B3 [] s).length:Int) (i:Int) ((k:Int),out,())) (Awy (pE (B3 [] s)) (B3 [] s).length i pI λ r=>Al (Sum.elim H8 (λ y=>some y) r) λ r=>r.1.length<=601/\∀f∈r.1,FOk f):=by
  intro k hk h
  have hsg:IntKind.wrap .i64 (0-sg)= -sg:=by rw[Dj (by omega) (by omega)];omega
  have hk':(k:Int)<=(((B3 [] s).getD i []).length:Int):=by omega
  unfold Se
  simp only[gv,hsg]
  refine⟨by decide,by omega,hk',by omega,hk',by omega,λ _=>⟨by simp,by simp⟩,λ h1=>⟨λ h2=> ?_,λ _=>j6 _ (by unfold FOk;simp only;omega) h⟩⟩
  have hlen:=List.length_pos_iff.2 h2
  refine⟨⟨by omega,by omega⟩,λ _=>⟨by decide,by omega,by omega,j4 _ _ (by simp only;omega) h⟩,λ _=>j4 _ _ (by simp only;omega) h⟩
 refine⟨λ h=> ?_,λ h=> ?_⟩
 ·refine Cc (λ i (_:Unit)=>(i,out,())) ((B3 [] s).getD i []).length (by omega) (λ _ _=>True) (s:=()) trivial λ k _ hk _=> ?_
  unfold Ys
  simp only[gv,Bu4,Ed]
  exact⟨λ h1=>⟨λ _=>⟨h1,(),trivial⟩,λ _=>j3 k (by omega) h⟩,λ _=>j3 k (by omega) h⟩
 ·unfold H8
  simp only[gv]
  exact⟨by have:=hI.1;omega,hI.2⟩
theorem Bnk (s:List UInt8) (hl:s.length<=600):Al (Ame s) λ r=>(r.2.2=0->QG 2 r.1)/\r.2.1.length<=600:=by
 unfold Ame Acq
 simp only[gv]
 refine(Aks s 32 (by omega)).mono λ y1 h1=>⟨λ _=>B7e.mono λ q hq=>⟨λ _=>hq.mono (by omega),hl⟩,λ _=>(Bo1 y1.1 (by omega)).mono λ y3 h3=>⟨λ _=>⟨λ h=>(by cases h),by simp⟩,λ h2=> ?_⟩⟩
 obtain⟨hpos,h3⟩:0<y1.1.length/\(y3.2=3\/(y3.2=0/\∃r,AR y3.1 r)):=h3.resolve_left h2
 have j3:∀z,(y3.2=0->¬y3.1.N<1)->Al (Vf y1.2.1 y3.2 z y3.1 ()) λ r=>(r.2.2=0->QG 2 r.1)/\r.2.1.length<=600:=by
  intro z hN
  unfold Vf
  simp only[gv]
  refine⟨λ h=>⟨λ h'=>absurd h' h,by omega⟩,λ h=> ?_⟩
  have h0:y3.2=0:=by omega
  rcases h3 with h|⟨_,r,hr⟩
  ·omega
  ·refine(Bpq hr).mono λ q hq=>⟨λ _=>⟨r,hq.1,hq.2,λ e=> ?_⟩,by omega⟩
   have:=hN h0
   rw[hr.1,e]at this
   exact this (by decide)
 have j2:∀z,(y3.2=0->¬y3.1.N<1)->Al (Vr (y1.1,y1.2.1,y3.2,z,y3.1,())) λ r=>(r.2.2=0->QG 2 r.1)/\r.2.1.length<=600:=by
  intro z hN
  unfold Vr
  simp only[gv]
  exact⟨λ _=>⟨⟨by omega,by omega⟩,λ _=>⟨λ h=>(by cases h),by simp⟩,λ _=>j3 z hN⟩,λ _=>j3 z hN⟩
 exact⟨λ h0=>⟨λ _=>⟨λ h=>(by cases h),by simp⟩,λ h=>j2 _ λ _=>h⟩,λ h0=>j2 _ λ h=>absurd h h0⟩
theorem Ax3 {e:Int} {z:A7} {q:B7} (hq:e=0->QG 2 q) {l:List Bm} (hl:l.length<=1202) (hf:∀f∈l,FOk f):Al (Zt e z q (l,())) λ _=>True:=by
 unfold Zt
 simp only[gv]
 refine Bc l.length (by omega) (λ i (s:Bu×List Bm×Unit)=>s.2.1=l/\(e=0->QG (2+37*i) s.1.f)) ⟨rfl,hq⟩ λ i s hi hI=> ?_
 obtain⟨u,l',_⟩:=s
 obtain⟨h1,h2⟩:=hI
 simp only at h1 h2
 subst h1
 unfold Aho Ah2
 simp only[gv]
 refine⟨λ h=>(Brv _).mono λ y hy hn=>⟨λ h0=> ?_,λ h0=>⟨h,λ h=>absurd h h0⟩⟩,λ h=> ?_⟩
 ·have hF:=hf _ (E7 Ag4 h)
  exact(Bsf (h2 h0) (hy (nn hn)) hF.1 hF.2 (by omega)).mono λ r hr=>⟨h,λ _=>hr.mono (by omega)⟩
 ·unfold Aij
  simp only[gv]
  exact λ h0=>(Bnl (h2 (by omega))).mono λ _ _=>trivial
theorem Bp7 (s:List UInt8):Al (Aem s) λ _=>True:=by
 unfold Aem
 simp only[gv]
 intro hl
 refine(Bnk s (by omega)).mono λ y1 h1 _=>(Aks y1.2.1 47 (by have:=h1.2;omega)).mono λ y2 h2=> ?_
 have l1:=h1.2
 have j1:∀z (l:List Bm),l.length<=601->(∀f∈l,FOk f)->Al (Aaf (y1.2.2,y2.2.1,y2.2.2,z,y1.1,l,())) λ _=>True:=by
  intro z l hll hf
  unfold Aaf
  simp only[gv]
  refine⟨λ _=>(Atm y2.2.1 (by omega) (-1) (.inr rfl)).mono λ y h _=>⟨by unfold As;omega,Ax3 h1.1 (by simp;omega) λ f hx=> ?_⟩,λ _=>Ax3 h1.1 (by omega) hf⟩
  rcases List.mem_append.1 hx with hx|hx
  ·exact hf f hx
  ·exact h.2 f hx
 exact⟨λ _=>(Atm y2.1 (by omega) 1 (.inl rfl)).mono λ y h _=>j1 _ _ h.1 h.2,λ _=>j1 _ _ (by simp) (by simp)⟩
noncomputable def Bug (s:List UInt8):A7×Int:=(Aem s).getD (Aex,0)
theorem Blq (s:List UInt8):Aem s=some (Bug s):=eqD _ (Bp7 s)
end Go.Ab
