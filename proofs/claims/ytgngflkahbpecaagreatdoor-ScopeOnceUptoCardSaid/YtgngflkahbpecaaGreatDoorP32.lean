/- That the functions of expressions end. Numbers read from digits, and numbers of texts. Numbers of texts. That units are read. Conditions: none beyond those that each theorem names. -/
import Derived.Test.YtgngflkahbpecaaGreatDoorP31
set_option linter.unusedSimpArgs false
namespace Go.Ab
open Go
set_option linter.unusedVariables false
inductive EB:Am->Prop
 |mk (e:Am) (h1:e.Kids.length<1099511627776) (h2:∀k∈e.Kids,EB k):EB e
theorem EB.len {e:Am} (h:EB e):e.Kids.length<9223372036854775807:=by cases h;omega
theorem EB.z:EB D4:=⟨_,by show 0<_;omega,λ _ h=>by cases h⟩
theorem EB.at {e:Am} (h:EB e) (j:Nat):EB (e.Kids.getD j D4):=by cases h with|mk _ _ h2=>exact Pi EB.z h2 j
theorem Ber {e:Am} {j:Nat} (h:j<e.Kids.length):SizeOf.sizeOf (e.Kids.getD j D4)<SizeOf.sizeOf e:=by
 have h1:=List.sizeOf_lt_of_mem (Fc D4 h)
 have h2:SizeOf.sizeOf e=1+SizeOf.sizeOf e.Op+SizeOf.sizeOf e.Name+SizeOf.sizeOf e.N+SizeOf.sizeOf e.Kids:=by cases e;simp
 omega
theorem Bc3:∀(k:Nat) (e:Am) (a b:Int),SizeOf.sizeOf e<k->EB e->Al (Nw k e a b) λ _=>True
 |0,_,_,_,h,_=>by omega
 |k+1,e,a,b,h,hb=>by
  unfold Nw Al3 Vz Hb Iw
  simp only[gv]
  intro _ _
  refine Bc e.Kids.length hb.len (λ _ _=>True) trivial λ i s hi _=> ?_
  obtain⟨s1,s2,_⟩:=s
  unfold E0 Ew Ai1
  simp only[gv,Bg]
  intro hlt
  exact(Bc3 k _ _ _ (by have:=Ber hlt;omega) (hb.at i)).mono λ r _ _=>hlt
theorem Byr (e:Am) (h:EB e) (a b:Int):Al (Aia e a b) λ _=>True:=Bc3 _ e a b (by omega) h
theorem Cak (x:Int):Al (Aj3 x) λ _=>True:=by
 unfold Aj3 Amc Alh Alv Aez
 simp only[gv]
noncomputable def Ca9 (x:Int):Int:=(Aj3 x).getD 0
theorem B5i (x:Int):Aj3 x=some (Ca9 x):=eqD _ (Cak x)
theorem B4z (x:Bd):Al (Zy x) λ _=>True:=by
 unfold Zy Uf
 simp only[gv]
 intro a1 a2 a3 a4
 refine Ci (λ v:Int×Int=>0<=v.2\/0<= -v.2) (λ v=>v.2.natAbs) (by show 0<=x.D\/_;omega) λ s _=> ?_
 obtain⟨p,q⟩:=s
 unfold Am3
 simp only[gv]
 refine λ h=>⟨by omega, ?_⟩
 have:=Int.natAbs_tmod p q
 rw[this]
 exact Nat.mod_lt _ (by omega)
noncomputable def Caa (x:Bd):Bool:=(Zy x).getD false
theorem B2y (x:Bd):Zy x=some (Caa x):=eqD _ (B4z x)
theorem Bje (x:Int):Al (L4 x) λ b=>b=true->x<128:=by unfold L4;simp only[gv];simp;omega
theorem Bop (x:Int):Al (Ur x) λ b=>b=true->x<128:=by unfold Ur;simp only[gv];simp;omega
theorem B6m (x:List UInt8):Al (Xk x) λ _=>True:=by unfold Xk;simp only[gv]
noncomputable def B36 (x:Int):Bool:=(L4 x).getD false
theorem Ba8 (x:Int):L4 x=some (B36 x):=eqD _ (Bje x)
noncomputable def B5h (x:Int):Bool:=(Ur x).getD false
theorem Bz1 (x:Int):Ur x=some (B5h x):=eqD _ (Bop x)
noncomputable def B83 (x:List UInt8):Bool:=(Xk x).getD false
theorem B3n (x:List UInt8):Xk x=some (B83 x):=eqD _ (B6m x)
theorem Bor (x:Int):Al (Uo x) λ b=>b=true->x<128:=by
 unfold Uo;simp only[gv,Ba8,Bz1]
 refine⟨λ h _=>N0 false (Bje x) h,λ _=>⟨λ h _=>N0 false (Bop x) h,λ _=> ?_⟩⟩
 omega
noncomputable def Bxt (x:Int):Bool:=(Uo x).getD false
theorem Byh (x:Int):Uo x=some (Bxt x):=eqD _ (Bor x)
def Asc (s:List UInt8):Prop:=s.length<=60/\∀x∈s,x.toNat<128
theorem Asc.nil:Asc []:=⟨by simp,by simp⟩
theorem Bpc (s:List UInt8):Al (Po s) λ b=>b=true->Asc s:=by
 unfold Po Q2
 simp only[gv,Ba8,B3n]
 refine⟨by simp,λ h1=>⟨by simp,λ h2=>⟨⟨by omega,by have:=List.length_pos_iff.2 h1;omega⟩,by simp,λ _=>⟨by simp,λ _=> ?_⟩⟩⟩⟩
 refine Bc s.length (by omega) (λ i _=>∀j,j<i->(s.getD j 0).toNat<128) (λ j hj=>by omega) λ i _ hi hI=> ?_
 unfold Ab6 Ab5
 simp only[gv,Byh]
 refine⟨λ h=>⟨by simp,λ h1=>⟨h,Eu hI ?_⟩⟩,λ h _=>⟨by omega,T7 (z:=0) λ j hj=>hI j (by omega)⟩⟩
 have:=N0 false (Bor ((s.getD i 0).toNat:Int)) (by simpa [Bxt]using h1)
 omega
noncomputable def Bwa (s:List UInt8):Bool:=(Po s).getD false
theorem Bz8 (s:List UInt8):Po s=some (Bwa s):=eqD _ (Bpc s)
theorem Awc {s:List UInt8} (h:Bwa s=true):Asc s:=N0 false (Bpc s) h
theorem Bp6 (e:Am):Al (Xl e) λ b=>b=true->Asc e.Name:=by
 unfold Xl
 simp only[gv,B5i,Bz8,B2y]
 refine⟨by simp,λ _=>⟨λ _=>⟨λ h _=>by rw[h];exact Asc.nil,by simp⟩,λ _=>⟨λ _=>⟨λ h _=>Awc h,by simp⟩,λ _=>⟨λ _=>⟨λ h _=>Awc h,by simp⟩,λ _=>⟨λ _=>⟨λ h _=>Awc h,by simp⟩,λ _=>⟨λ _=>⟨λ h=> ?_,by simp⟩,λ _=>⟨λ h _=>by rw[h];exact Asc.nil,by simp⟩⟩⟩⟩⟩⟩⟩
 rw[h]
 exact⟨λ _=>⟨λ _ _=>Asc.nil,by simp⟩,by simp⟩
noncomputable def Bxg (e:Am):Bool:=(Xl e).getD false
theorem Bzk (e:Am):Xl e=some (Bxg e):=eqD _ (Bp6 e)
theorem Bth {e:Am} (h:Bxg e=true):Asc e.Name:=N0 false (Bp6 e) h
inductive EN:Am->Prop
 |mk (e:Am) (h1:Asc e.Name) (h2:∀j,j<e.Kids.length->EN (e.Kids.getD j D4)):EN e
theorem Bj1:∀(k:Nat) (e:Am),SizeOf.sizeOf e<k->EB e->Al (Iy k e) λ b=>b=true->EN e
 |0,_,h,_=>by omega
 |k+1,e,h,hb=>by
  unfold Iy Aes
  simp only[gv,Bg,Bzk]
  refine⟨by simp,λ hn=> ?_⟩
  refine Bc e.Kids.length hb.len (λ i _=>∀j,j<i->EN (e.Kids.getD j D4)) (λ j hj=>by omega) λ i s hi hI=> ?_
  unfold Qq Qd
  simp only[gv,Bg]
  refine⟨λ hlt=>(Bj1 k _ (by have:=Ber hlt;omega) (hb.at i)).mono λ r hr=>⟨by simp,λ h1=>⟨hlt,Eu hI (hr (by simpa using h1))⟩⟩,λ hge _=>⟨_,Bth (by simpa using hn),λ j hj=>hI j (by omega)⟩⟩
theorem B1c (e:Am) (h:EB e):Al (Zq e) λ b=>b=true->EN e:=Bj1 _ e (by omega) h
theorem B4d (x:Int):Al (Xx x) λ _=>True:=by unfold Xx;simp only[gv]
theorem Bsd (x y:Int):Al (Nn x y) λ _=>True:=by unfold Nn;simp only[gv]
noncomputable def B5j (x:Int):Bool:=(Xx x).getD false
theorem Byj (x:Int):Xx x=some (B5j x):=eqD _ (B4d x)
noncomputable def Bs3 (x y:Int):Bool:=(Nn x y).getD false
theorem Bkp (x y:Int):Nn x y=some (Bs3 x y):=eqD _ (Bsd x y)
theorem Bzq (e:Am) (hb:EB e):Al (Ahl e) λ _=>True:=by
 unfold Ahl
 simp only[gv]
 refine Bc e.Kids.length hb.len (λ _ _=>True) trivial λ i s hi _=> ?_
 unfold Yl Yg
 simp only[gv,Byj,Bkp]
 repeat' (first|exact⟨(),trivial⟩|apply And.intro|intro _|omega)
theorem Bj4:∀(k:Nat) (e:Am),SizeOf.sizeOf e<k->EB e->Al (Iz k e) λ b=>True
 |0,_,h,_=>by omega
 |k+1,e,h,hb=>by
  unfold Iz Age
  simp only[gv,Bg]
  refine(Bzq e hb).mono λ r _ _=> ?_
  refine Bc e.Kids.length hb.len (λ i _=>True) trivial λ i s hi hI=> ?_
  unfold Qx Q3
  simp only[gv,Bg]
  refine λ hlt=>(Bj4 k _ (by have:=Ber hlt;omega) (hb.at i)).mono λ r hr _=>hlt
theorem B23 (e:Am) (h:EB e):Al (Zh e) λ b=>True:=Bj4 _ e (by omega) h
theorem A89 (e:Am) (h:EB e):Al (Acu e) λ r=>r=0->EN e:=by
 unfold Acu
 simp only[gv,Bg]
 refine(Byr e h _ _).mono λ r _=>⟨by simp,λ _=>(B1c e h).mono λ r hr=>⟨by simp,λ h1=>(B23 e h).mono λ _ _=>⟨by simp,λ _ _=>hr (by simpa using h1)⟩⟩⟩
theorem Bns {p:Nat->Bool}:∀{n i j:Nat},fst p i n=some j->j<i+n
 |0,_,_,h=>by cases h
 |n+1,i,j,h=>by
  unfold fst at h
  split at h
  ·cases h;omega
  ·have:=Bns h;omega
theorem B2o {p:Nat->Bool} {n:Nat}:Aa5 (fst p 0 n)<=n:=by
 cases h:fst p 0 n with
 |none=>simp[Aa5]
 |some j=>have:=Bns h;simp[Aa5];omega
theorem Bcj:∀(k:Nat) (e:Am),SizeOf.sizeOf e<k->EB e->EN e->Al (Il k e) λ b=>True
 |0,_,h,_,_=>by omega
 |k+1,e,h,hb,hn=>by
  cases hn with
  |mk _ n1 n2=>
  have key:∀v,Al (Nd (Il k) e v) λ _=>True:=by
   intro v
   have k2:Al (Na (Il k) e ()) λ _=>True:=by
    unfold Na
    simp only[gv]
    refine Bc e.Kids.length hb.len (λ i _=>True) trivial λ i s hi hI=> ?_
    unfold Tb Tp
    simp only[gv,Bg]
    refine λ hlt=>(Bcj k _ (by have:=Ber hlt;omega) (hb.at i) (n2 i hlt)).mono λ r hr _=>hlt
   unfold Nd
   simp only[gv,Ats]
   exact⟨λ _ _=>k2,λ _=>k2⟩
  unfold Il Ajf S4
  simp only[gv]
  have hl:=n1.1
  have hx:= @B2o (λ k=>([46,91]:List UInt8).contains (e.Name.getD k 0)) e.Name.length
  refine⟨⟨n1.2,by decide,by omega,by decide⟩,λ h0=>⟨by omega,h0,hx,key _⟩,λ _=>key _⟩
theorem Bzb (e:Am) (h:EB e) (hn:EN e):Al (Alj e) λ b=>True:=Bcj _ e (by omega) h hn
theorem Bgl (e:Am):Al (H9 e) λ _=>True:=by unfold H9;simp only[gv]
noncomputable def Bkz (e:Am):Bool:=(H9 e).getD false
theorem Bes (e:Am):H9 e=some (Bkz e):=eqD _ (Bgl e)
theorem Ad9 (a:Nat) (c:UInt8) (r:List UInt8):Re a (c::r)=Re (a*10+(c.toNat-48)) r:=Eq.trans rfl rfl
theorem Bpq (p c:List UInt8):∀a:Nat,Re a (p++c)=Re (Re a p) c:=by
 induction p with
 |nil=>intro a;rfl
 |cons x p ih=>intro a;rw[List.cons_append,Ad9,Ad9];exact ih _
theorem Bny (a d e q:Nat):(a*10+d)*q+e=a*(q*10)+((0*10+d)*q+e):=by grind
theorem Bcf (c:List UInt8):∀a:Nat,Re a c=a*10^c.length+Re 0 c:=by
 induction c with
 |nil=>intro a;exact(Nat.mul_one a).symm
 |cons x c ih=>
  intro a
  have h1:=ih (a*10+(x.toNat-48))
  have h2:=ih (0*10+(x.toNat-48))
  rw[Ad9,Ad9,List.length_cons,Nat.pow_succ]
  exact h1.trans (Eq.trans (Bny a (x.toNat-48) (Re 0 c) (10^c.length)) (congrArg _ h2.symm))
theorem Bng (c:List UInt8):c.all Uu=true->Re 0 c<10^c.length:=by
 induction c with
 |nil=>intro _;exact Nat.one_pos
 |cons x c ih=>
  intro h
  simp only[List.all_cons,Bool.and_eq_true,Uu,decide_eq_true_eq]at h
  have:=ih h.2
  rw[Ad9,List.length_cons,Bcf c,Nat.pow_succ]
  have h1:(0*10+(x.toNat-48))*10^c.length<=9*10^c.length:=Nat.mul_le_mul_right _ (by omega)
  omega
theorem B3i {p:UInt8->Bool} {s:List UInt8} (n:Nat) (h:s.all p=true):(s.take n).all p=true:=by
 rw[List.all_eq_true]at h ⊢;exact λ x hx=>h x (List.mem_of_mem_take hx)
theorem Cck (n:Nat):(((10:Nat)^n:Nat):Int)=(10:Int)^n:=by rw[Int.natCast_pow];rfl
theorem Cb7 {n:Nat} (h:n<=9):(10:Int)^n<=1000000000:=by
 have e:(10:Nat)^9=1000000000:=by decide
 have:(10:Nat)^n<=10^9:=Nat.pow_le_pow_right (by decide) h
 rw[e]at this
 have c:=Cck n
 omega
theorem Wy (s:List UInt8) (hl:s.length<=40) (hd:s.all Uu=true):Al (Ul s) λ z=>ZOk z/\Bi z=(Re 0 s:Int):=by
 unfold Ul Ahx Ajc
 simp only[gv]
 refine Ci (λ v:List UInt8×A4×A4×Unit=>∃p,s=p++v.1/\ZOk v.2.2.1/\Bi v.2.2.1=(Re 0 p:Int)) (λ v=>v.1.length) ⟨[],rfl,ZOk.small (by decide) (by decide),by rw[By];rfl⟩ ?_
 rintro⟨v1,v2,v3,_⟩ ⟨p,h1,h2,h3⟩
 simp only at h1 h2 h3
 subst h1
 have hlp:p.length+v1.length<=40:=by simpa using hl
 rw[List.all_append,Bool.and_eq_true]at hd
 unfold Ag1
 simp only[gv]
 obtain⟨n,hn,hn9,hnl,hn1⟩:∃n:Nat,(if(9:Int)<(v1.length:Int)then(9:Int)else(v1.length:Int))=(n:Int)/\n<=9/\n<=v1.length/\(0<v1.length->0<n):=by
  by_cases h:(9:Int)<v1.length
  ·exact⟨9,by rw[if_pos h];rfl,by omega,by omega,by omega⟩
  ·exact⟨v1.length,by rw[if_neg h],by omega,by omega,by omega⟩
 rw[hn]
 refine⟨λ hpos=>⟨by decide,by omega,by omega, ?_⟩,λ hz=> ?_⟩
 ·have hn0:=hn1 (by omega)
  simp only[Int.toNat_natCast,Int.toNat_zero,List.drop_zero,Nat.sub_zero]
  have hlt:(v1.take n).length=n:=by rw[List.length_take];omega
  have hc:=B3i n hd.2
  unfold Apr
  simp only[gv]
  refine⟨⟨by omega,by intro h;rw[h]at hlt;simp at hlt;omega,hc⟩, ?_⟩
  refine Cf (λ i (v:Int)=>((n:Int),(Re 0 (v1.take n):Int),v,(n:Int),i,())) n (by omega) (λ i v=>v=10^i) (s:=1) (by simp) λ i v hi hv=> ?_
  subst hv
  have hpw:=Cb7 (n:=i) (by omega)
  have hpw0:(0:Int)<10^i:=Int.pow_pos (by decide)
  unfold Aii
  simp only[gv,Ee]
  refine⟨λ h=>⟨IntKind.wrap .i64 (10^i*10),rfl,by rw[Dh (by omega) (by omega),Int.pow_succ]⟩,λ h=> ?_⟩
  have hin:i=n:=by omega
  subst hin
  have ha:=Bng _ hc
  have hb:=Bng _ hd.1
  rw[hlt]at ha
  have ha':((Re 0 (v1.take i):Nat):Int)<10^i:=by have:=Cck i;omega
  have hb1:(10:Nat)^p.length<=10^40:=Nat.pow_le_pow_right (by decide) (by omega)
  have e40:(10:Nat)^40=10000000000000000000000000000000000000000:=by decide
  rw[e40]at hb1
  have hb2:((Re 0 p:Nat):Int)<10000000000000000000000000000000000000000:=by omega
  unfold Ahr Ajc
  simp only[gv]
  have k5:(4294967296:Int)^5=1461501637330902918203684832716283019655932542976:=by decide
  refine(Avv h2 (ZOk.small (by omega) (by omega)) (K:=5) (by decide) (by unfold ZLt;rw[h3,k5];omega) (by unfold ZLt;rw[By,k5];omega)).mono λ y ⟨y1,y2⟩=> ?_
  have hv:Bi y=(Re 0 p:Int)*10^i:=by rw[y2,h3,By]
  have hle:(Re 0 p:Int)*10^i<=(Re 0 p:Int)*1000000000:=Int.mul_le_mul_of_nonneg_left hpw (by omega)
  have hge:0<=(Re 0 p:Int)*10^i:=Int.mul_nonneg (by omega) (by omega)
  have k6:(4294967296:Int)^6=6277101735386680763835789423207666416102355444464034512896:=by decide
  have l6:ZLt y 6:=by
   unfold ZLt
   rw[hv,k6]
   omega
  have m6:ZLt ⟨(Re 0 (v1.take i):Int),[],false⟩ 6:=by
   unfold ZLt
   rw[By,k6]
   omega
  refine(A9a y1 (ZOk.small (by omega) (by omega)) (K:=6) (by decide) l6 m6).mono λ x ⟨x1,x2⟩=> ?_
  refine⟨Int.natCast_nonneg _,Int.ofNat_le.2 hnl,Int.le_refl _,⟨p++v1.take i, ?_,x1, ?_⟩, ?_⟩
  ·rw[List.append_assoc,List.take_of_length_le (l:=List.drop i v1) (by simp),List.take_append_drop]
  ·rw[x2,hv,By,Bpq,Bcf _ (Re 0 p),hlt]
   push_cast;rfl
  ·simp only[List.length_take,List.length_drop];omega
 ·have:v1=[]:=List.length_eq_zero_iff.1 (by omega)
  subst this
  exact⟨h2,by simpa using h3⟩
theorem Avk (s:List UInt8) (hl:s.length<9223372036854775807):Al (Pp s) λ b=>b=true->s.all Uu=true:=by
 unfold Pp
 simp only[gv]
 refine Bc s.length hl (λ i _=>∀j,j<i->Uu (s.getD j 0)=true) (λ j hj=>by omega) λ i _ hi hI=> ?_
 unfold Zc Zn Yq
 simp only[gv]
 refine⟨λ h=>⟨by simp,λ h1=>⟨h,by simp,λ h2=>⟨h,Eu hI (by simp only[Uu,Bool.and_eq_true,decide_eq_true_eq];omega)⟩⟩⟩,λ h _=> ?_⟩
 rw[List.all_eq_true]
 exact T7 (z:=0) λ j hj=>hI j (by omega)
noncomputable def Bij (s:List UInt8):Bool:=(Pp s).getD false
theorem Boo {s:List UInt8} (hl:s.length<9223372036854775807):Pp s=some (Bij s):=eqD _ (Avk s hl)
theorem Bnn {s:List UInt8} (hl:s.length<9223372036854775807) (h:Bij s=true):s.all Uu=true:=N0 false (Avk s hl) h
structure A8n (s:List UInt8):Prop where
 ne:s≠[]
 le:s.length<=20
 dig:s.all Uu=true
 top:s.getD 0 0=48->s.length=1
theorem A4u (s:List UInt8):Al (Ht s) λ b=>b=true->A8n s:=by
 unfold Ht Oz Wb
 simp only[gv]
 refine⟨by simp,λ h1=>⟨by simp,λ h2=> ?_⟩⟩
 have hp:=List.length_pos_iff.2 h1
 have hx:=Avk s (by omega)
 refine⟨⟨by omega,by omega⟩,λ h3=>⟨by simp,λ h4=>hx.mono λ r hr h=>⟨h1,by omega,hr h,λ _=>by omega⟩⟩,λ h3=>hx.mono λ r hr h=>⟨h1,by omega,hr h,λ h=> ?_⟩⟩
 exact absurd (by rw[show(Int.toNat 0)=0 from rfl,h];rfl) h3
noncomputable def Bee (s:List UInt8):Bool:=(Ht s).getD false
theorem Bmg (s:List UInt8):Ht s=some (Bee s):=eqD _ (A4u s)
theorem Zf {s:List UInt8} (h:Bee s=true):A8n s:=N0 false (A4u s) h
theorem Br8 {c:UInt8} {r:List UInt8} (h:48<c.toNat):0<Re 0 (c::r):=by
 rw[Ad9,Bcf]
 have:0<(0*10+(c.toNat-48))*10^r.length:=Nat.mul_pos (by omega) (Nat.pow_pos (by decide))
 omega
theorem A8n.pos {s:List UInt8} (h:A8n s) (h0:s≠[48]):0<Re 0 s:=by
 obtain⟨h1,h2,h3,h4⟩:=h
 cases s with
 |nil=>exact absurd rfl h1
 |cons c r=>
  have hc:Uu c=true:=by simp only[List.all_cons,Bool.and_eq_true]at h3;exact h3.1
  simp only[Uu,Bool.and_eq_true,decide_eq_true_eq]at hc
  refine Br8 ?_
  rcases Nat.lt_or_eq_of_le hc.1 with h|h
  ·exact h
  ·exfalso
   have e:c=48:=by apply UInt8.toNat_inj.1;rw[<-h];rfl
   subst e
   have:=h4 rfl
   have:r=[]:=List.length_eq_zero_iff.1 (by simpa using this)
   subst this
   exact h0 rfl
theorem Bkv (s t:List UInt8):Al (Ql s t) λ r=>r.1.length<=s.length:=by
 unfold Ql P1 Pz
 simp only[gv]
 refine⟨λ h=>⟨by decide,by omega,h,λ _=>by omega,λ _=>⟨by omega,h,by omega,by simp⟩⟩,λ h=>⟨λ _=>by omega,λ h=>by simp at h⟩⟩
theorem Akp (s:List UInt8) (c:UInt8) (hl:s.length<9223372036854775807):Al (Pv s [c]) λ r=>r.1.length<=s.length/\r.2.1.length<=s.length:=by
 unfold Pv Agc Qo
 simp only[gv]
 refine⟨rfl,λ h=> ?_,λ h=>⟨by omega,by simp⟩⟩
 cases hf:fst (λ k=>decide (s.getD k 0=([c]:List UInt8).getD 0 0)) 0 s.length with
 |none=>rw[hf]at h;simp[Aa5]at h
 |some k=>
  have hk:=Bns hf
  simp only[Aa5,List.length_singleton,Int.toNat_natCast]
  rw[show((1:Nat):Int)=1 from rfl,Dh (by omega) (by omega)]
  refine⟨by decide,by omega,by omega,by omega,by omega,by omega,by simp;omega,by simp⟩
def AR (x:Bd) (r:Rat):Prop:=x.N=r.num/\x.D=(r.den:Int)/\ -1000000000000<=r.num/\r.num<=1000000000000/\(r.den:Int)<=1000000000000
theorem Bi3 {q:B6} {r:Rat} (h:Afi q r):Al (Amp q) λ y=>y.2=true->AR y.1 r:=by
 unfold Amp Akk
 simp only[gv]
 refine(A9z h.okN (most:=1000000000000) (by decide) (by decide)).mono λ y hy=> ?_
 refine(A9z h.okD (most:=1000000000000) (by decide) (by decide)).mono λ z hz=> ?_
 refine⟨λ _ h=>by simp at h,λ h1=>⟨λ _ h=>by simp at h,λ h2 _=> ?_⟩⟩
 have h1:y.2=true:=by simpa using h1
 have h2:z.2=true:=by simpa using h2
 have e1:=hy.1.1 h1
 have e2:=hz.1.1 h2
 rw[h.num]at e1
 rw[h.den]at e2
 exact⟨by rw[<-h.num];exact hy.2.1 h1,by rw[<-h.den];exact hz.2.1 h2,e1.1,e1.2,e2.2⟩
theorem Bvl {q:B6} {r:Rat} (h:Afi q r):Al (A83 q) λ y=>(y.2=0/\AR y.1 r)\/y.2=3:=by
 unfold A83
 simp only[gv]
 exact(Bi3 h).mono λ y hy=>⟨λ _=> .inr trivial,λ h=> .inl (hy (by simpa using h))⟩
theorem k2:(4294967296:Int)^2=18446744073709551616:=by decide
theorem Boq {x:Bd} {r:Rat} (h:AR x r):Al (A97 x) λ q=>Afi q r/\Sz r 2:=by
 obtain⟨h1,h2,h3,h4,h5⟩:=h
 unfold A97 Ajc
 simp only[gv]
 refine⟨⟨ZOk.small (by show _<=x.N;omega) (by show x.N<_;omega),ZOk.small (by show _<=x.D;omega) (by show x.D<_;omega),by show Bi ⟨x.N,[],false⟩=_;rw[By,h1],by show Bi ⟨x.D,[],false⟩=_;rw[By,h2]⟩, ?_⟩
 unfold Sz
 rw[k2]
 omega
def PR (s:List UInt8) (y:Bd×Int):Prop:=y.2=2\/(0<s.length/\(y.2=3\/(y.2=0/\∃r,AR y.1 r)))
theorem Ajm {s:List UInt8} (hs:0<s.length) {b:Bool} {z:Bd} {q:B6} {r:Rat} (h:Afi q r) (hz:Sz r 5):Al (Xp (b,z,q,())) (PR s):=by
 have fin:∀{q:B6} {r:Rat},Afi q r->Al (Afs z (q,())) (PR s):=by
  intro q r h
  unfold Afs
  simp only[gv]
  refine(Bvl h).mono λ y hy=> ?_
  rcases hy with⟨h1,h2⟩|h1
  ·exact .inr ⟨hs,.inr ⟨h1,r,h2⟩⟩
  ·exact .inr ⟨hs,.inl h1⟩
 unfold Xp
 simp only[gv]
 refine⟨λ _=>(Bp1 h).mono λ y hy=>⟨λ _=> .inl rfl,λ _=>(Bvh h hz (by decide)).mono λ x hx=>fin hx⟩,λ _=>fin h⟩
theorem Bu7 {s:List UInt8} (hl:s.length<=40) (hd:s.all Uu=true) {z:A4} (h:Bi z=(Re 0 s:Int)):ZLt z 5:=by
 have ha:=Bng _ hd
 have hb1:(10:Nat)^s.length<=10^40:=Nat.pow_le_pow_right (by decide) hl
 have e40:(10:Nat)^40=10000000000000000000000000000000000000000:=by decide
 rw[e40]at hb1
 have k5:(4294967296:Int)^5=1461501637330902918203684832716283019655932542976:=by decide
 unfold ZLt
 rw[k5,h]
 omega
theorem Bv0 {a b:List UInt8} (la:a.length<=40) (lb:b.length<=40) (ha:a.all Uu=true) (hb:b.all Uu=true) (h0:0<Re 0 b) {x y:A4} (hx:ZOk x/\Bi x=(Re 0 a:Int)) (hy:ZOk y/\Bi y=(Re 0 b:Int)):Al (Od x y) λ q=>∃r,Afi q r/\Sz r 5:=by
 have l1:=Bu7 la ha hx.2
 have l2:=Bu7 lb hb hy.2
 have hne:Bi y≠0:=by rw[hy.2];omega
 exact(Agm hx.1 hy.1 (K:=5) (by decide) l1 l2 hne).mono λ q hq=>⟨_,hq,Aec hne l1 l2⟩
theorem Bza (n:Nat):(List.replicate n ([48]:List UInt8)).flatten=List.replicate n 48:=by
 induction n with
 |zero=>rfl
 |succ n ih=>rw[List.replicate_succ,List.flatten_cons,ih,List.replicate_succ];rfl
theorem Bp0 (s:List UInt8) (hl:s.length<4611686018427387904):Al (Azk s) (PR s):=by
 unfold Azk Afr Xn
 simp only[gv]
 refine(Bkv s [45]).mono λ y1 h1=> ?_
 refine(Akp y1.1 47 (by omega)).mono λ y2 h2=> ?_
 unfold Yf I9
 simp only[gv,Bmg]
 refine⟨by decide,λ _=>⟨λ _=> .inl rfl,λ n1=>⟨λ _=> .inl rfl,λ n2=>⟨λ _=> .inl rfl,λ h0=> ?_⟩⟩⟩,λ _=>⟨λ hi=> ?_,λ _=>⟨λ _=> .inl rfl,λ n1=> ?_⟩⟩⟩
 ·have m1:=Zf (s:=y2.1) (by simpa using n1)
  have m2:=Zf (s:=y2.2.1) (by simpa using n2)
  refine(Wy y2.1 (by have:=m1.le;omega) m1.dig).mono λ a ha=>(Wy y2.2.1 (by have:=m2.le;omega) m2.dig).mono λ b hb=> ?_
  refine(Bv0 (by have:=m1.le;omega) (by have:=m2.le;omega) m1.dig m2.dig (m2.pos h0) ha hb).mono λ q ⟨r,hq,hz⟩=> ?_
  exact Ajm (by have:=List.length_pos_iff.2 m1.ne;omega) hq hz
 ·have hx:= @B2o (λ k=>decide (((y1.1.getD k 0).toNat:Int)=46)) y1.1.length
  obtain⟨k,hk⟩:=Int.eq_ofNat_of_zero_le hi
  rw[hk]at hx hi ⊢
  cases hf:fst (λ k=>decide (((y1.1.getD k 0).toNat:Int)=46)) 0 y1.1.length with
  |none=>rw[hf]at hk;simp[Aa5]at hk
  |some j=>
   have hj:=Bns hf
   rw[hf]at hk
   have hjk:j=k:=by simp only[Aa5]at hk;omega
   subst hjk
   rw[Dh (by omega) (by omega)]
   simp only[Int.toNat_natCast,Int.toNat_zero,List.drop_zero,Nat.sub_zero]
   have e1:((j:Int)+1).toNat=j+1:=by omega
   rw[e1]
   have lt:(List.take (y1.1.length-(j+1)) (List.drop (j+1) y1.1)).length=y1.1.length-(j+1):=by simp
   have lh:(List.take j y1.1).length=j:=by rw[List.length_take];omega
   refine⟨by decide,by omega,by omega,by omega,by omega,by omega,λ _=> .inl rfl,λ n1=>⟨λ _=> .inl rfl,λ n2=>⟨λ _=> .inl rfl,λ n3=> ?_⟩⟩⟩
   rw[Boo (by rw[lt];omega)]
   simp only[gv]
   have m1:=Zf (s:=List.take j y1.1) (by simpa using n1)
   have l1:=m1.le
   refine⟨λ _=> .inl rfl,λ n4=> ?_⟩
   have d2:=Bnn (by rw[lt];omega) (by simpa using n4)
   rw[lt]at n3 ⊢
   rw[lh]at l1 ⊢
   refine⟨by unfold At;omega, ?_⟩
   have dall:(List.take j y1.1++List.take (y1.1.length-(j+1)) (List.drop (j+1) y1.1)).all Uu=true:=by rw[List.all_append,m1.dig,d2];rfl
   refine(Wy _ (by rw[List.length_append,lt,lh];omega) dall).mono λ a ha=> ?_
   unfold Y8
   simp only[gv,Bza]
   refine⟨⟨by omega,by simp only[List.length_singleton];omega,by omega⟩,by unfold At;simp only[List.length_singleton,List.length_replicate];omega, ?_⟩
   have d3:(([49]:List UInt8)++List.replicate (y1.1.length-(j+1)) 48).all Uu=true:=by
    rw[List.all_eq_true];intro x hx
    rcases List.mem_append.1 hx with h|h
    ·rw[List.mem_singleton.1 h];decide
    ·rw[List.eq_of_mem_replicate h];decide
   have l3:(([49]:List UInt8)++List.replicate (y1.1.length-(j+1)) 48).length<=40:=by simp only[List.length_append,List.length_singleton,List.length_replicate];omega
   refine(Wy _ l3 d3).mono λ b hb=> ?_
   refine(Bv0 (by rw[List.length_append,lt,lh];omega) l3 dall d3 (Br8 (c:=49) (by decide)) ha hb).mono λ q ⟨r,hq,hz⟩=> ?_
   exact Ajm (by omega) hq hz
 ·have m1:=Zf (s:=y1.1) (by simpa using n1)
  refine(Wy y1.1 (by have:=m1.le;omega) m1.dig).mono λ a ha=> ?_
  unfold Ajc
  simp only[gv]
  have l1:=Bu7 (by have:=m1.le;omega) m1.dig ha.2
  have l2:ZLt ⟨1,[],false⟩ 5:=by unfold ZLt;rw[By];decide
  refine(Agm ha.1 (ZOk.small (v:=1) (n:=false) (by decide) (by decide)) (K:=5) (by decide) l1 l2 (by rw[By];decide)).mono λ q hq=> ?_
  exact Ajm (by have:=List.length_pos_iff.2 m1.ne;omega) hq (Aec (by rw[By];decide) l1 l2)
theorem nn {b:Bool} (h:¬(!b)=true):b=true:=by cases b<;>simp at h ⊢
def QG (k:Nat) (q:B6):Prop:=∃r:Rat,Afi q r/\Sz r k/\r≠0
theorem QG.mono {k m:Nat} {q:B6} (h:QG k q) (hk:k<=m):QG m q:=by obtain⟨r,h1,h2,h3⟩:=h;exact⟨r,h1,h2.mono hk,h3⟩
theorem B1q {a b:B6} {k m:Nat} (ha:QG k a) (hb:QG m b) (hk:k+m+1<=1099511627776):Al (Ado a b) (QG (k+m)):=by
 obtain⟨x,x1,x2,x3⟩:=ha
 obtain⟨y,y1,y2,y3⟩:=hb
 exact(Bs2 x1 y1 x2 y2 hk).mono λ c hc=>⟨_,hc,x2.mul y2,by simp[Rat.mul_eq_zero,x3,y3]⟩
theorem B7f:Al (Aa4 1) (QG 1):=(Bd0 (n:=1) (by decide) (by decide)).mono λ q hq=>⟨_,hq,by unfold Sz;decide,by decide⟩
theorem B2w {n:Int} (h0:0<n) (h1:n<4294967296):Al (Aa4 n) (QG 1):=(Bd0 (n:=n) (by omega) (by omega)).mono λ q hq=>⟨_,hq,by unfold Sz;simp only[Rat.num_intCast,Rat.den_intCast];omega,λ h=>by have:=congrArg Rat.num h;simp only[Rat.num_intCast]at this;exact absurd this (by show n≠0;omega)⟩
theorem A38 {a b:Int} (hb:b≠0) (h:Rat.divInt a b=0):a=0:=by
 have:=(Rat.divInt_eq_divInt_iff hb (by decide:(1:Int)≠0)).1 (h.trans (Rat.zero_divInt 1).symm)
 omega
theorem Cbc {k:Nat} {a:B6} (h:QG k a) (hk:k<=1099511627776):Al (Od a.D a.N) (QG k):=by
 obtain⟨x,x1,x2,x3⟩:=h
 have hn:Bi a.N≠0:=by rw[x1.num];exact λ h=>x3 (Rat.num_eq_zero.1 h)
 have l1:=x1.ltN x2
 have l2:=x1.ltD x2
 refine(Agm x1.okD x1.okN hk l2 l1 hn).mono λ q hq=>⟨_,hq,Aec hn l2 l1,λ h=> ?_⟩
 have h:=A38 hn h
 rw[x1.den]at h
 have:=x.den_nz
 omega
theorem A44 (j:Nat) {k:Nat} {a:B6} {n:Int} (h:QG k a) (h0:0<=n) (h1:n<=9) (hk:k<=1000000):Al (Aem (j+1) a n) (QG (9*k+1)):=by
 unfold Aem Awy
 simp only[gv]
 refine⟨λ h=>by omega,λ _=>B7f.mono λ q hq=> ?_⟩
 obtain⟨m,rfl⟩:=Int.eq_ofNat_of_zero_le h0
 refine Bc m (by omega) (λ i (s:B6×B6×Unit)=>QG (i*k+1) s.2.1) (by simpa using hq) λ i s hi hs=> ?_
 obtain⟨s1,s2,_⟩:=s
 unfold Alg Ama
 simp only[gv]
 have hik:i*k<=9*k:=Nat.mul_le_mul_right _ (by omega)
 refine⟨λ h2=>(B1q hs h (by omega)).mono λ q hq=>⟨h2, ?_⟩,λ _=>QG.mono hs (by omega)⟩
 rw[Nat.add_mul]
 exact hq.mono (by omega)
theorem Bx9 {k:Nat} {a:B6} {n:Int} (h:QG k a) (h0: -9<=n) (h1:n<=9) (hk:k<=1000000):Al (A8p a n) (QG (9*k+1)):=by
 by_cases hn:0<=n
 ·exact A44 2 h hn h1 hk
 ·unfold A8p Aem Awy
  simp only[gv]
  refine⟨λ _=>(Cbc h (by omega)).mono λ q hq=> ?_,λ h=>by omega⟩
  rw[Dh (by omega) (by omega)]
  exact A44 1 hq (by omega) (by omega) hk
def tOk (x:Bd):Bool:=decide (1<=x.N)&&decide (x.N<=1000000000000)&&decide (1<=x.D)&&decide (x.D<=1000000000000)&&(Nat.gcd x.N.natAbs x.D.natAbs==1)
theorem B9q {x:Bd} (h:tOk x=true):∃r,AR x r/\r≠0:=by
 simp only[tOk,Bool.and_eq_true,decide_eq_true_eq,beq_iff_eq]at h
 obtain⟨⟨⟨⟨h1,h2⟩,h3⟩,h4⟩,h5⟩:=h
 refine⟨⟨x.N,x.D.natAbs,by omega,h5⟩,⟨rfl,by show x.D=(x.D.natAbs:Int);omega,by show _<=x.N;omega,by show x.N<=_;omega,by show(x.D.natAbs:Int)<=_;omega⟩,λ h=> ?_⟩
 have:=congrArg Rat.num h
 have:x.N=0:=this
 omega
def Bok:List (List UInt8×A7)->Bool
 |[]=>true
 |e::r=>tOk e.2.F&&Bok r
theorem B2n:(match Ajr with|some t=>Bok t|none=>false)=true:=by kernel_rfl
theorem Bnz {x:List UInt8}:∀{l:List (List UInt8×A7)},Bok l=true->Option.isSome (Kh kqS x l)=true->tOk (Option.getD (Kh kqS x l) Af5).F=true
 |[],_,h=>by cases h
 |(y,v)::r,h1,h2=>by
  simp only[Bok,Bool.and_eq_true]at h1
  unfold Kh at h2 ⊢
  split
  ·exact h1.1
  ·rename_i hk;rw[if_neg hk]at h2;exact Bnz h1.2 h2
theorem Brh:Al Ajr λ t=>Bok t=true:=by
 have h:=B2n
 cases ht:Ajr with
 |none=>rw[ht]at h;cases h
 |some t=>rw[ht]at h;exact⟨t,rfl,h⟩
theorem Ay3 {u:A7} (h:tOk u.F=true):Al (Bfv u) λ b=>QG 2 b.f:=by
 obtain⟨r,h1,h2⟩:=B9q h
 unfold Bfv
 simp only[gv]
 exact(Boq h1).mono λ q hq=>⟨r,hq.1,hq.2,h2⟩
theorem Btk {d:Int} (h0:0<d) (h1:d<4294967296):Al (As1 1 d) (QG 1):=by
 unfold As1 Ajc
 simp only[gv]
 have hd:Bi ⟨d,[],false⟩≠0:=by rw[By];omega
 have l1:ZLt ⟨1,[],false⟩ 1:=by unfold ZLt;rw[By];decide
 have l2:ZLt ⟨d,[],false⟩ 1:=by unfold ZLt;rw[By];omega
 refine(Agm (ZOk.small (v:=1) (n:=false) (by decide) (by decide)) (ZOk.small (v:=d) (n:=false) (by omega) (by omega)) (K:=1) (by decide) l1 l2 hd).mono λ q hq=>⟨_,hq,Aec hd l1 l2,λ h=> ?_⟩
 have h:=A38 hd h
 rw[By]at h
 omega
theorem Bhq (c:Int):Al (Am5 c) λ r=>r.2=true->QG 1 r.1:=by
 unfold Am5
 simp only[gv]
 refine⟨λ _=>(Btk (by decide) (by decide)).mono λ q hq _=>hq,λ _=>⟨λ _=>(Btk (by decide) (by decide)).mono λ q hq _=>hq,λ _=>⟨λ _=>(Btk (by decide) (by decide)).mono λ q hq _=>hq,λ _=>⟨λ _=>(B2w (by decide) (by decide)).mono λ q hq _=>hq,λ _=>⟨λ _=>(B2w (by decide) (by decide)).mono λ q hq _=>hq,λ _=>⟨λ _=>(B2w (by decide) (by decide)).mono λ q hq _=>hq,λ _ h=>by cases h⟩⟩⟩⟩⟩⟩
theorem Br5 (s:List UInt8):Al (Ar8 s) λ r=>r.2=true->QG 4 r.1.f:=by
 unfold Ar8 Li
 simp only[gv]
 refine Brh.mono λ t ht=>⟨λ h=>(Ay3 (Bnz ht h)).mono λ b hb _=>QG.mono hb (by omega),λ _=>⟨λ _ h=>(by cases h),λ hl=>⟨⟨by omega,by omega⟩,(Bhq _).mono λ p hp=> ?_⟩⟩⟩
 have hs:(1:Int)<=s.length:=by omega
 refine⟨by decide,hs,by omega,λ _ h=>(by cases h),λ hp2=>⟨λ _ h=>(by cases h),λ hm=>⟨by decide,hs,by omega,λ _ h=>(by cases h),λ _=>⟨by decide,hs,by omega,λ _ h=>(by cases h),λ _=>⟨by decide,hs,by omega,λ _ h=>(by cases h),λ _=>⟨by decide,hs,by omega,λ _ h=>(by cases h),λ _=> ?_⟩⟩⟩⟩⟩⟩
 refine(Ay3 (Bnz ht (nn hm))).mono λ b hb=>(B1q hb (hp (by simpa using hp2)) (by omega)).mono λ q hq _=>QG.mono hq (by omega)
theorem Bqv {k:Nat} {u v:Bu} {n:Int} (hu:QG k u.f) (hv:QG 4 v.f) (h0: -9<=n) (h1:n<=9) (hk:k<=1000000):Al (Abv u v n) λ r=>QG (k+37) r.f:=by
 unfold Abv
 simp only[gv]
 exact(Bx9 hv h0 h1 (by omega)).mono λ p hp=>(B1q hu hp (by omega)).mono λ q hq=>hq
theorem Bn8 {k:Nat} {u:Bu} (hu:QG k u.f):Al (Am2 u) λ _=>True:=by
 obtain⟨r,hr,_⟩:=hu
 unfold Am2
 simp only[gv]
 refine(Bi3 hr).mono λ y _=> ?_
 unfold U4 Vy Vw Wx Wa W8 Va
 simp only[gv]
def FOk (f:Bm):Prop:= -9<=f.n/\f.n<=9
theorem Bzm (x:Int):Al (P4 x) λ _=>True:=by unfold P4;simp only[gv]
noncomputable def B04 (x:Int):Bool:=(P4 x).getD false
theorem Bux (x:Int):P4 x=some (B04 x):=eqD _ (Bzm x)
def pE (L:List (List UInt8)) (i:Int) (out:List Bm):List (List UInt8)×Int×Int×List Bm×Unit:=(L,(L.length:Int),i,out,())
def pI (i:Nat) (out:List Bm):Prop:=out.length=i/\∀f∈out,FOk f
theorem Atw (s:List UInt8) (hl:s.length<=600) (sg:Int) (hs:sg=1\/sg= -1):Al (Z2 s sg) λ r=>r.1.length<=601/\∀f∈r.1,FOk f:=by
 have hp:=Rq s []
 unfold Z2 Mr I7
 simp only[gv]
 refine⟨by omega, ?_⟩
 refine Cf (pE (B3 [] s)) (B3 [] s).length (by omega) pI (s:=[]) ⟨rfl,by simp⟩ λ i out hi hI=> ?_
 have hq:((B3 [] s).getD i []).length<=600:=by
  have:=Pi (l:=B3 [] s) (z:=[]) (P:=λ p=>p.length<=s.length) (by simp) (λ p h=>by have:=Ase s [] p h;simpa using this) i
  omega
 unfold Y4 pE
 simp only[gv]
 have j6:∀(f:Bm),FOk f->i<(B3 [] s).length->Al (Sk sg (B3 [] s) ((B3 [] s).length:Int) (i:Int) (f,out,())) (Az1 (pE (B3 [] s)) (B3 [] s).length i pI λ r=>Al (Sum.elim H8 (λ y=>some y) r) λ r=>r.1.length<=601/\∀f∈r.1,FOk f):=by
  intro f hf h
  unfold Sk
  simp only[gv,Ee]
  have h1:=hI.1
  refine⟨by unfold At;simp only[List.length_singleton];omega,h,out++[f],rfl,by simp[h1], ?_⟩
  intro x hx
  rcases List.mem_append.1 hx with hx|hx
  ·exact hI.2 x hx
  ·rw[List.mem_singleton.1 hx];exact hf
 have j5:Al (N9 sg ()) (Az1 (pE (B3 [] s)) (B3 [] s).length i pI λ r=>Al (Sum.elim H8 (λ y=>some y) r) λ r=>r.1.length<=601/\∀f∈r.1,FOk f):=by
  unfold N9
  simp only[gv]
  exact⟨by simp,by simp⟩
 have j4:∀(t:List UInt8) (f:Bm),(f.n=1\/f.n= -1)->i<(B3 [] s).length->Al (Sy sg (B3 [] s) ((B3 [] s).length:Int) (i:Int) (t,f,out,())) (Az1 (pE (B3 [] s)) (B3 [] s).length i pI λ r=>Al (Sum.elim H8 (λ y=>some y) r) λ r=>r.1.length<=601/\∀f∈r.1,FOk f):=by
  intro t f hf h
  unfold Sy
  simp only[gv]
  refine⟨λ _=>j5,λ h1=>⟨⟨by omega,by omega⟩,λ _=>j5,λ h2=>⟨⟨by omega,by omega⟩,λ _=>j5,λ h3=>⟨⟨by omega,by omega⟩,j6 _ ?_ h⟩⟩⟩⟩
  unfold FOk
  simp only
  rw[w8,Int.emod_eq_of_lt (by omega) (by omega),Dh (x:=((t.getD (Int.toNat 0) 0).toNat:Int) -48) (by omega) (by omega)]
  rcases hf with hf|hf<;>rw[hf]
  ·rw[Dh (by omega) (by omega)];omega
  ·rw[Dh (by omega) (by omega)];omega
 have j3:∀(k:Nat),k<=((B3 [] s).getD i []).length->i<(B3 [] s).length->Al (Rj sg (B3 [] s) ((B3 [] s).length:Int) (i:Int) ((k:Int),out,())) (Az1 (pE (B3 [] s)) (B3 [] s).length i pI λ r=>Al (Sum.elim H8 (λ y=>some y) r) λ r=>r.1.length<=601/\∀f∈r.1,FOk f):=by
  intro k hk h
  have hsg:IntKind.wrap .i64 (0-sg)= -sg:=by rw[Dh (by omega) (by omega)];omega
  have hk':(k:Int)<=(((B3 [] s).getD i []).length:Int):=by omega
  unfold Rj
  simp only[gv,hsg]
  refine⟨by decide,by omega,hk',by omega,hk',by omega,λ _=>⟨by simp,by simp⟩,λ h1=>⟨λ h2=> ?_,λ _=>j6 _ (by unfold FOk;simp only;omega) h⟩⟩
  have hlen:=List.length_pos_iff.2 h2
  refine⟨⟨by omega,by omega⟩,λ _=>⟨by decide,by omega,by omega,j4 _ _ (by simp only;omega) h⟩,λ _=>j4 _ _ (by simp only;omega) h⟩
 refine⟨λ h=> ?_,λ h=> ?_⟩
 ·refine Cf (λ i (_:Unit)=>(i,out,())) ((B3 [] s).getD i []).length (by omega) (λ _ _=>True) (s:=()) trivial λ k _ hk _=> ?_
  unfold Yo
  simp only[gv,Bux,Ee]
  exact⟨λ h1=>⟨λ _=>⟨h1,(),trivial⟩,λ _=>j3 k (by omega) h⟩,λ _=>j3 k (by omega) h⟩
 ·unfold H8
  simp only[gv]
  exact⟨by have:=hI.1;omega,hI.2⟩
theorem Bl1 (s:List UInt8) (hl:s.length<=600):Al (Alk s) λ r=>(r.2.2=0->QG 2 r.1)/\r.2.1.length<=600:=by
 unfold Alk Ac9
 simp only[gv]
 refine(Akp s 32 (by omega)).mono λ y1 h1=>⟨λ _=>B7f.mono λ q hq=>⟨λ _=>hq.mono (by omega),hl⟩,λ _=>(Bp0 y1.1 (by omega)).mono λ y3 h3=>⟨λ _=>⟨λ h=>(by cases h),by simp⟩,λ h2=> ?_⟩⟩
 obtain⟨hpos,h3⟩:0<y1.1.length/\(y3.2=3\/(y3.2=0/\∃r,AR y3.1 r)):=h3.resolve_left h2
 have j3:∀z,(y3.2=0->¬y3.1.N<1)->Al (V8 y1.2.1 y3.2 z y3.1 ()) λ r=>(r.2.2=0->QG 2 r.1)/\r.2.1.length<=600:=by
  intro z hN
  unfold V8
  simp only[gv]
  refine⟨λ h=>⟨λ h'=>absurd h' h,by omega⟩,λ h=> ?_⟩
  have h0:y3.2=0:=by omega
  rcases h3 with h|⟨_,r,hr⟩
  ·omega
  ·refine(Boq hr).mono λ q hq=>⟨λ _=>⟨r,hq.1,hq.2,λ e=> ?_⟩,by omega⟩
   have:=hN h0
   rw[hr.1,e]at this
   exact this (by decide)
 have j2:∀z,(y3.2=0->¬y3.1.N<1)->Al (Vo (y1.1,y1.2.1,y3.2,z,y3.1,())) λ r=>(r.2.2=0->QG 2 r.1)/\r.2.1.length<=600:=by
  intro z hN
  unfold Vo
  simp only[gv]
  exact⟨λ _=>⟨⟨by omega,by omega⟩,λ _=>⟨λ h=>(by cases h),by simp⟩,λ _=>j3 z hN⟩,λ _=>j3 z hN⟩
 exact⟨λ h0=>⟨λ _=>⟨λ h=>(by cases h),by simp⟩,λ h=>j2 _ λ _=>h⟩,λ h0=>j2 _ λ h=>absurd h h0⟩
theorem Ayb {e:Int} {z:A7} {q:B6} (hq:e=0->QG 2 q) {l:List Bm} (hl:l.length<=1202) (hf:∀f∈l,FOk f):Al (Z6 e z q (l,())) λ _=>True:=by
 unfold Z6
 simp only[gv]
 refine Bc l.length (by omega) (λ i (s:Bu×List Bm×Unit)=>s.2.1=l/\(e=0->QG (2+37*i) s.1.f)) ⟨rfl,hq⟩ λ i s hi hI=> ?_
 obtain⟨u,l',_⟩:=s
 obtain⟨h1,h2⟩:=hI
 simp only at h1 h2
 subst h1
 unfold Aij Ah3
 simp only[gv]
 refine⟨λ h=>(Br5 _).mono λ y hy hn=>⟨λ h0=> ?_,λ h0=>⟨h,λ h=>absurd h h0⟩⟩,λ h=> ?_⟩
 ·have hF:=hf _ (Fc Ahu h)
  exact(Bqv (h2 h0) (hy (nn hn)) hF.1 hF.2 (by omega)).mono λ r hr=>⟨h,λ _=>hr.mono (by omega)⟩
 ·unfold Ahm
  simp only[gv]
  exact λ h0=>(Bn8 (h2 (by omega))).mono λ _ _=>trivial
theorem Br7 (s:List UInt8):Al (Aeh s) λ _=>True:=by
 unfold Aeh
 simp only[gv]
 intro hl
 refine(Bl1 s (by omega)).mono λ y1 h1 _=>(Akp y1.2.1 47 (by have:=h1.2;omega)).mono λ y2 h2=> ?_
 have l1:=h1.2
 have j1:∀z (l:List Bm),l.length<=601->(∀f∈l,FOk f)->Al (Z0 (y1.2.2,y2.2.1,y2.2.2,z,y1.1,l,())) λ _=>True:=by
  intro z l hll hf
  unfold Z0
  simp only[gv]
  refine⟨λ _=>(Atw y2.2.1 (by omega) (-1) (.inr rfl)).mono λ y h _=>⟨by unfold At;omega,Ayb h1.1 (by simp;omega) λ f hx=> ?_⟩,λ _=>Ayb h1.1 (by omega) hf⟩
  rcases List.mem_append.1 hx with hx|hx
  ·exact hf f hx
  ·exact h.2 f hx
 exact⟨λ _=>(Atw y2.1 (by omega) 1 (.inl rfl)).mono λ y h _=>j1 _ _ h.1 h.2,λ _=>j1 _ _ (by simp) (by simp)⟩
noncomputable def Btl (s:List UInt8):A7×Int:=(Aeh s).getD (Af5,0)
theorem Bls (s:List UInt8):Aeh s=some (Btl s):=eqD _ (Br7 s)
end Go.Ab
