/- Long division of amounts in package num, whole. The integers and fractions of package num: quotients, divisors, sums, products. That what loops and calls ends: rules. That the functions of texts and classes end: names, sizes. Conditions: none beyond those that each theorem names. -/
import Derived.Test.YtgngflkahbpecaaGreatDoorP30
import Derived.Test.YtgngflkahbpecaaGreatDoorP29
namespace Go.Ab
open Go
set_option linter.unusedVariables false
set_option linter.unusedSimpArgs false
def rd (f:Nat->Int) (s i:Nat):Int:=f i/2^s+(f (i+1)*2^(32-s))%4294967296
theorem qp {s:Nat} (hs:s<=31):(2:Int)^(32-s)*2^s=4294967296:=by rw[Int.mul_comm];exact pq hs
theorem Bn2 {s:Nat} (hs:s<=31) (x:Int):(x*2^(32-s))%4294967296=2^(32-s)*(x%2^s):=by
 rw[<-qp hs,Int.mul_comm x,Int.mul_emod_mul_of_pos _ _ (Aey _)]
theorem A96 {s:Nat} (hs:s<=31) (x:Int):0<=(x*2^(32-s))%4294967296/\(x*2^(32-s))%4294967296<=4294967296-2^(32-s):=by
 refine⟨by omega, ?_⟩
 rw[Bn2 hs]
 have h:=Aey (32-s)
 have h1:=Int.emod_lt_of_pos x (Aey s)
 have:(2:Int)^(32-s)*(x%2^s)<=2^(32-s)*(2^s-1):=Int.mul_le_mul_of_nonneg_left (by omega) (by omega)
 rw[Int.mul_sub,qp hs]at this
 omega
theorem B03 {s:Nat} (hs:s<=31) {x:Int} (h0:0<=x) (h1:x<4294967296):0<=x/2^s/\x/2^s<2^(32-s):=by
 have h:=Aey s
 refine⟨Int.ediv_nonneg h0 (by omega),Int.ediv_lt_of_lt_mul h ?_⟩
 rw[qp hs];exact h1
theorem B5v {f:Nat->Int} {s:Nat} (hs:s<=31) (hf:∀i,0<=f i/\f i<4294967296) (i:Nat):0<=rd f s i/\rd f s i<4294967296:=by
 unfold rd
 obtain⟨h1,h2⟩:=A96 hs (f (i+1))
 obtain⟨h3,h4⟩:=B03 hs (hf i).1 (hf i).2
 omega
theorem B7m (f:Nat->Int) {s:Nat} (hs:s<=31):∀k,vlw (rd f s) k*2^s=vlw f k-f 0%2^s+(f k%2^s)*4294967296^k
 |0=>by simp[vlw];omega
 |k+1=>by
  have IH:=B7m f hs k
  rw[vlw,vlw,Int.pow_succ]
  have e1:rd f s k*2^s=f k-f k%2^s+(f (k+1)%2^s)*4294967296:=by
   unfold rd
   rw[Bn2 hs,Int.add_mul]
   have h1:=Int.mul_ediv_add_emod (f k) (2^s)
   have h2:=qp hs
   generalize (2:Int)^s=P at*
   generalize (2:Int)^(32-s)=R at*
   generalize f k/P=y at*
   generalize f k%P=z at*
   grind
  generalize vlw (rd f s) k=x at*
  generalize rd f s k=y at*
  generalize (2:Int)^s=P at*
  grind
theorem Cbl {s:Nat} (hs:s<=31) {x y:Int} (h0:0<=x) (h1:x<4294967296):
 IntKind.wrap .u32 ((((BitVec.ofInt (IntKind.bits .u32) (Int.fdiv x (2^s))|||BitVec.ofInt (IntKind.bits .u32) ((y*2^(32-s))%4294967296)).toNat:Nat):Int))=x/2^s+(y*2^(32-s))%4294967296:=by
 have hp:=Aey s
 obtain⟨a1,a2⟩:=A96 hs y
 obtain⟨b1,b2⟩:=B03 hs h0 h1
 rw[Int.fdiv_eq_ediv_of_nonneg _ (by omega),BitVec.or_comm]
 have:=A8t (n:=IntKind.bits .u32) (k:=32-s) (a:=(y*2^(32-s))%4294967296) (b:=x/2^s) a1 b1 b2 (by show _<(2:Int)^32;omega) (by rw[Bn2 hs];exact Int.mul_emod_right _ _)
 rw[this,w32]
 omega
theorem Blg {r7:List Int×List Int} (hu:WW r7.1) {s:Nat} (hs:s<=31) {r2:List Int×List Int} (hl:r2.2.length<r7.1.length) (hb:r7.1.length<=1099511627777):
 Al (iter (λ v:(Int×(List Int))=>Rr r2 r7 (s:Int) v.1 v.2) ((0:Int),List.replicate r2.2.length (0:Int)))
  λ r=>WW r/\r.length=r2.2.length/\∀j,j<r2.2.length->r.getD j 0=rd (λ i=>r7.1.getD i 0) s j:=by
 refine Ci (I:=λ t:Int×List Int=>∃n:Nat,t.1=(n:Int)/\n<=r2.2.length/\WW t.2/\t.2.length=r2.2.length/\∀j,j<n->t.2.getD j 0=rd (λ i=>r7.1.getD i 0) s j)
  (μ:=λ t:Int×List Int=>r2.2.length-t.1.toNat) ⟨0,rfl,by omega,WW.replicate _,by simp,λ j hj=>by omega⟩ ?_
 rintro⟨i,w⟩ ⟨n,h1,h2,h4,h5,h6⟩
 simp only at h1 h4 h5 h6
 subst h1
 have e0:IntKind.wrap .u64 (s:Int)=(s:Int):=by rw[w64];omega
 have fin:∀x:Int,n<r2.2.length->x=rd (λ i=>r7.1.getD i 0) s n->
  Al (Ns (n:Int) (w.set n x) r2 r7 (s:Int)) (Afg (λ t:Int×List Int=>∃n:Nat,t.1=(n:Int)/\n<=r2.2.length/\WW t.2/\t.2.length=r2.2.length/\∀j,j<n->t.2.getD j 0=rd (λ i=>r7.1.getD i 0) s j)
   (λ t:Int×List Int=>r2.2.length-t.1.toNat) ((n:Int),w) (λ r=>WW r/\r.length=r2.2.length/\∀j,j<r2.2.length->r.getD j 0=rd (λ i=>r7.1.getD i 0) s j)):=by
  rintro x hn rfl
  obtain⟨k1,k2⟩:=B5v hs (f:=λ i=>r7.1.getD i 0) hu n
  unfold Ns
  rw[As,Es,Dh (by omega) (by omega)]
  refine⟨⟨n+1,by simp,by omega,h4.set k1 k2,by simp[h5],λ j hj=> ?_⟩,by simp;omega⟩
  rw[getD_set]
  split
  ·rename_i h;rw[h.1]
  ·exact h6 j (by omega)
 have hun:=hu n
 have hp:=Aey s
 unfold Rr
 simp only[Bf,Bo,As,decide_eq_true_eq,Eb,List.length_set,Int.toNat_natCast,e0,sm1 hs,sm2 hs,w32 (_*_)]
 try simp only[Af]
 rw[Dh (by omega) (by omega)]
 have en:((n:Int)+1).toNat=n+1:=by omega
 rw[en]
 refine⟨λ hn=>⟨by omega,by omega,by omega,λ hsp=> ?_,λ hsz=> ?_⟩,λ hn=> ?_⟩
 ·have eg:(w.set n (Int.fdiv (r7.1.getD n 0) (2^s))).getD n 0=Int.fdiv (r7.1.getD n 0) (2^s):=by rw[getD_set,if_pos ⟨rfl,by omega⟩]
  rw[eg,Cbl hs hun.1 hun.2,List.set_set]
  exact⟨by omega,by omega,by rw[w64];omega,by omega,fin _ (by omega) rfl⟩
 ·have hs0:s=0:=by omega
  subst hs0
  refine fin _ (by omega) ?_
  unfold rd
  rw[Int.fdiv_eq_ediv_of_nonneg _ (by omega)]
  show _=r7.1.getD n 0/2^0+r7.1.getD (n+1) 0*2^(32-0)%4294967296
  have:r7.1.getD (n+1) 0*2^(32-0)%4294967296=0:=by
   rw[show((2:Int)^(32-0))=4294967296 by decide];omega
  rw[this,Int.add_zero]
 ·have:n=r2.2.length:=by omega
  subst this
  exact⟨h4,h5,h6⟩
theorem Bag {a b:List Int} (ha:WW a) (hb:WW b) (ta:Top a) (tb:Top b) (hne:b≠[]) (la:a.length<=1099511627776) (lb:b.length<=1099511627776):
 Al (Uj a b) λ r=>WW r.1/\WW r.2/\r.1.length<=1099511627777/\r.2.length<=1099511627777/\val a=val r.1*val b+val r.2/\val r.2<val b:=by
 have hbv:=A9p hb tb hne
 have hb0:0<val b:=by have:=Ef (b.length-1);omega
 have hlb:0<b.length:=List.length_pos_iff.2 hne
 have hav:=ha.val
 unfold Uj
 refine(Aqx ha hb ta tb (by omega) (by omega)).bind ?_
 rintro c rfl
 simp only[Bf,decide_eq_true_eq,Bo,As,Er]
 refine⟨λ hlt=>⟨by unfold At;omega,WW.nil,ha,by simp,by omega,by rw[Ayg];omega, ?_⟩,λ hge=>⟨λ h1=> ?_,λ h1=> ?_⟩⟩
 ·have:=Int.sign_neg_iff.1 hlt;omega
 ·-- by one word
  have h1:b.length=1:=by omega
  have eb:val b=b.getD 0 0:=by unfold val;rw[h1];simp[vlw]
  rw[Dh (by omega) (by omega)]
  refine⟨by omega,by omega,by unfold At;omega, ?_⟩
  have el:((a.length:Int)).toNat=a.length:=by omega
  rw[el]
  refine(Bua ha hb la h1 (by omega)).mono ?_
  rintro⟨c,q⟩ ⟨q1,q2,q3,q4,q5⟩
  simp only at q1 q2 q3 q4 q5
  have hb1:=hb 0
  rw[w32,show c%4294967296=c by omega]
  refine⟨q1,λ i=> ?_,by show q.length<=_;omega,by simp,by rw[Avq,eb];exact q5,by rw[Avq];omega⟩
  cases i<;>simp
  omega
 ·have hge:val b<=val a:=by
   have:¬val a-val b<0:=λ hc=>hge (Int.sign_neg_iff.2 hc)
   omega
  have hlen:b.length<=a.length:=by
   rcases Nat.lt_or_ge a.length b.length with hc|hc
   ·have:=Ky ha hb tb hc;omega
   ·exact hc
  obtain⟨t,ht⟩:∃t,b.length=t+2:=⟨b.length-2,by omega⟩
  have etop:b.getD (t+1) 0=b.getD (b.length-1) 0:=by congr 1;omega
  have htop:0<b.getD (t+1) 0:=by
   have h1:=tb hne
   have h2:=hb (t+1)
   rw[<-etop]at h1
   omega
  rw[Dh (x:=(b.length:Int) -1) (by omega) (by omega),Dh (x:=(a.length:Int)+1) (by omega) (by omega)]
  have e1:((b.length:Int) -1).toNat=t+1:=by omega
  have e2:((a.length:Int)+1).toNat=a.length+1:=by omega
  have e3:((b.length:Int)).toNat=b.length:=by omega
  rw[e1,e2,e3]
  refine⟨⟨by omega,by omega⟩, ?_⟩
  refine(B15 htop (hb (t+1)).2).mono ?_
  rintro y2 ⟨s,rfl,hs,s1,s2⟩
  refine⟨by omega,by omega,by unfold At;omega,by omega,by omega,by unfold At;omega, ?_⟩
  refine(Blv (a:=a) hb hs lb (List.replicate (a.length+1) 0)).mono ?_
  rintro⟨u0,v⟩ ⟨v1,v2,v3,v4⟩
  simp only at v1 v2 v3 v4
  subst v1
  refine(Bl3 ha hs la (List.replicate (a.length+1) 0,v) rfl).mono ?_
  rintro u ⟨u1,u2,u3⟩
  simp only
  have hP:=Aey s
  have hvt:v.length=t+2:=by omega
  -- the values
  have eV:val v=val b*2^s:=by
   have h1:=B1z (λ i=>b.getD i 0) s b.length
   rw[if_neg (by omega),show b.length-1=t+1 by omega,show b.getD (t+1) 0*2^s/4294967296=0 by
    exact Int.ediv_eq_zero_of_lt (by omega) s2]at h1
   have h2:vlw (sd (λ i=>b.getD i 0) s) b.length=val v:=by
    unfold val;rw[v3];exact M3 λ j hj=>(v4 j hj).symm
   have h3:vlw (λ i=>b.getD i 0) b.length=val b:=rfl
   rw[h2,h3]at h1
   omega
  have eA:val u=val a*2^s:=by
   have h1:=B1z (λ i=>a.getD i 0) s (a.length+1)
   have h0:a.getD a.length 0=0:=by rw[List.getD_eq_getElem?_getD,List.getElem?_eq_none (by omega)];rfl
   rw[if_neg (by omega),Nat.add_sub_cancel,h0]at h1
   have h2:vlw (sd (λ i=>a.getD i 0) s) (a.length+1)=val u:=by
    unfold val;rw[u2];exact M3 λ j hj=>(u3 j hj).symm
   have h3:vlw (λ i=>a.getD i 0) (a.length+1)=val a:=A0r (by omega)
   rw[h2,h3]at h1
   simp only[Int.zero_mul]at h1
   omega
  have hv1:2147483648<=v.getD (t+1) 0:=by
   rw[v4 (t+1) (by omega)]
   unfold sd
   rw[if_neg (by omega)]
   have:=(Bu9 hs (hb t).1 (hb t).2).1
   show _<=b.getD (t+1) 0*2^s%4294967296+b.getD t 0*2^s/4294967296
   omega
  have hVge:2147483648*4294967296^(t+1)<=val v:=by
   have h1:val v=vlw (λ i=>v.getD i 0) (t+1)+v.getD (t+1) 0*4294967296^(t+1):=by unfold val;rw[hvt];rfl
   have h2:=(Hl (f:=λ i=>v.getD i 0) (t+1) λ i _=>v2 i).1
   have h3:2147483648*4294967296^(t+1)<=v.getD (t+1) 0*4294967296^(t+1):=Int.mul_le_mul_of_nonneg_right hv1 (by have:=Ef (t+1);omega)
   omega
  have hVpos:0<val v:=by have:=Ef (t+1);omega
  rw[hvt,Dh (x:=(a.length:Int) -((t+2:Nat):Int)) (by omega) (by omega),Dh (x:=(a.length:Int) -((t+2:Nat):Int)+1) (by omega) (by omega)]
  have e5:((a.length:Int) -((t+2:Nat):Int)+1).toNat=a.length-(t+2)+1:=by omega
  have e6:(((t+2:Nat):Int)).toNat=t+2:=by omega
  rw[e5,e6]
  refine⟨by omega,by omega,by unfold At;omega, ?_⟩
  have L:Al (iter (λ q:(Int×(List Int)×(List Int))=>J8 (List.replicate (a.length+1) 0,v) (s:Int) q.1 q.2.1 q.2.2) ((a.length:Int) -((t+2:Nat):Int),u,List.replicate (a.length-(t+2)+1) (0:Int)))
   λ r=>WW r.1/\r.1.length=a.length+1/\WW r.2/\r.2.length=a.length-(t+2)+1/\val r.1<val v/\val r.2*val v+val r.1=val u:=by
   refine Ci (I:=λ q:Int×List Int×List Int=>∃n:Nat,q.1=(n:Int) -1/\n<=a.length-(t+2)+1/\WW q.2.1/\q.2.1.length=a.length+1/\WW q.2.2/\q.2.2.length=a.length-(t+2)+1/\(∀k,k<n->q.2.2.getD k 0=0)/\
    val q.2.1<val v*4294967296^n/\val q.2.2*val v+val q.2.1=val u) (μ:=λ q:Int×List Int×List Int=>(q.1+1).toNat) ⟨a.length-(t+2)+1,by show(a.length:Int) -((t+2:Nat):Int)=_;omega,by omega,u1,u2,WW.replicate _,by simp,λ k _=>Ir _ k, ?_, ?_⟩ ?_
   ·show val u<_
    have h1:(4294967296:Int)^(t+1)*4294967296^(a.length-(t+2)+1)=4294967296^a.length:=by rw[<-Int.pow_add];congr 1;omega
    have h2:2147483648*4294967296^(t+1)*4294967296^(a.length-(t+2)+1)<=val v*4294967296^(a.length-(t+2)+1):=Int.mul_le_mul_of_nonneg_right hVge (by have:=Ef (a.length-(t+2)+1);omega)
    rw[Int.mul_assoc,h1]at h2
    have h3:(2:Int)^s<=2147483648:=by
     have:s<=31:=hs
     rcases Nat.lt_or_eq_of_le hs with h|h
     ·have:=Int.pow_lt_pow_of_lt (a:=2) (by decide) h
      have e:(2:Int)^31=2147483648:=by decide
      omega
     ·subst h;decide
    have h4:val a*2^s<4294967296^a.length*2^s:=Int.mul_lt_mul_of_pos_right hav.2 hP
    have h5:(4294967296:Int)^a.length*2^s<=4294967296^a.length*2147483648:=Int.mul_le_mul_of_nonneg_left h3 (Int.le_of_lt (Ef a.length))
    rw[eA]
    omega
   ·show val (List.replicate _ 0)*_+val u=_
    have:val (List.replicate (a.length-(t+2)+1) 0)=0:=by rw[val,A8r λ j _=>Ir _ j]
    rw[this];simp
   ·rintro⟨i,x,o⟩ ⟨n,h1,h2,h3,h4,h5,h6,h7,h8,h9⟩
    simp only at h1 h3 h4 h5 h6 h7 h8 h9
    subst h1
    rcases Nat.eq_zero_or_pos n with h|h
    ·subst h
     unfold J8
     rw[Bf]
     refine⟨λ hc=>by simp at hc,λ _=> ?_⟩
     rw[As,Eb]
     exact⟨h3,h4,h5,h6,by simpa using h8,h9⟩
    ·obtain⟨j,rfl⟩:∃j,n=j+1:=⟨n-1,by omega⟩
     have ej:(((j+1:Nat):Int) -1)=(j:Int):=by omega
     simp only[ej]
     refine Bhk (r2:=(List.replicate (a.length+1) 0,v)) h3 h5 (s:Int) v2 hvt (by omega) (by omega) (by omega) (by show 0<v.getD (t+1) 0;omega) h8 (h7 j (by omega)) ?_
     intro u' o' k1 k2 k3 k4 k5 k6 k7
     rw[Es]
     refine⟨⟨j,rfl,by omega,k1,by rw[k2];exact h4,k3,by rw[k4];exact h6,λ k hk=>by rw[k5 k (by omega)];exact h7 k (by omega),k6,by rw[<-h9];exact k7⟩, ?_⟩
     show((j:Int) -1+1).toNat<((j:Int)+1).toNat
     omega
  refine L.mono ?_
  rintro⟨x,o⟩ ⟨x1,x2,x3,x4,x5,x6⟩
  simp only at x1 x2 x3 x4 x5 x6
  refine⟨by omega,by omega,by unfold At;omega, ?_⟩
  have R:=Blg (r7:=(x,o)) x1 hs (r2:=(List.replicate (a.length+1) 0,v)) (by show v.length<x.length;omega) (by show x.length<=_;omega)
  rw[show(List.replicate (a.length+1) (0:Int),v).2.length=t+2 from hvt]at R
  refine R.mono ?_
  rintro r ⟨r1,r2,r3⟩
  have hx1:val x=vlw (λ i=>x.getD i 0) (t+2)+hi (λ i=>x.getD i 0) (t+2) x.length*4294967296^(t+2):=B1t _ (by omega)
  have hvlt:=v2.val.2
  rw[hvt]at hvlt
  have hxl:=Hl (f:=λ i=>x.getD i 0) (t+2) λ i _=>x1 i
  have hhi:hi (λ i=>x.getD i 0) (t+2) x.length=0:=by
   have h1:0<=hi (λ i=>x.getD i 0) (t+2) x.length:=(Hl _ λ i _=>x1 _).1
   have h2:hi (λ i=>x.getD i 0) (t+2) x.length*4294967296^(t+2)<1*4294967296^(t+2):=by omega
   have:=Mo h2 (Ef _)
   omega
  have hx0:x.getD (t+2) 0=0:=by
   have h1:=A80 (λ i=>x.getD i 0) (n:=t+2) (L:=x.length) (by omega)
   have h2:0<=hi (λ i=>x.getD i 0) (t+2+1) x.length:=(Hl _ λ i _=>x1 _).1
   have h3:=x1 (t+2)
   rw[hhi]at h1
   omega
  rw[hhi,Int.zero_mul,Int.add_zero]at hx1
  have hval:val r=vlw (rd (λ i=>x.getD i 0) s) (t+2):=by
   unfold val;rw[r2];exact M3 λ j hj=>r3 j hj
  have hrd:=B7m (λ i=>x.getD i 0) hs (t+2)
  rw[<-hval,<-hx1,hx0]at hrd
  -- the rest is a multiple of what it was shifted by
  have hmul:val x=(val a-val o*val b)*2^s:=by
   rw[eA,eV]at x6
   rw[Int.sub_mul]
   have:val o*(val b*2^s)=val o*val b*2^s:=by rw[Int.mul_assoc]
   omega
  have hmod:x.getD 0 0%2^s=0:=by
   have h1:val x=x.getD 0 0+4294967296*hi (λ i=>x.getD i 0) 1 x.length:=by
    have:=A80 (λ i=>x.getD i 0) (n:=0) (L:=x.length) (by omega)
    rw[Bk7]at this
    exact this
   have h2:x.getD 0 0=(val a-val o*val b-2^(32-s)*hi (λ i=>x.getD i 0) 1 x.length)*2^s:=by
    have h3:=qp hs
    rw[hmul]at h1
    generalize hi (λ i=>x.getD i 0) 1 x.length=hh at*
    generalize (2:Int)^s=P at*
    generalize (2:Int)^(32-s)=R at*
    grind
   rw[h2]
   exact Int.mul_emod_left _ _
  rw[hmod]at hrd
  simp only[Int.zero_emod,Int.zero_mul,Int.add_zero,Int.sub_zero]at hrd
  have hrest:val r=val a-val o*val b:=by
   rw[hmul]at hrd
   exact Int.eq_of_mul_eq_mul_right (by omega) hrd
  refine⟨x3,r1,by show o.length<=_;omega,by omega,by show val a=val o*val b+val r;omega, ?_⟩
  have h1:val r*2^s<val b*2^s:=by rw[hrd,<-eV];exact x5
  exact Mo h1 hP
theorem Buu {A B q r:Int} (hB:0<B) (e:A=q*B+r) (h0:0<=r) (h1:r<B) (hA:0<=A):A.tdiv B=q/\A.tmod B=r:=by
 rw[Bmo hA,Amq hA]
 exact(Int.ediv_emod_unique hB).2 ⟨by rw[e,Int.mul_comm];omega,h0,h1⟩
theorem Aur {a b:A4} (ha:ZOk a) (hb:ZOk b) {K:Nat} (hK:K<=1099511627776) (la:ZLt a K) (lb:ZLt b K) (h0:Bi b≠0):
 Al (Ahf a b) λ r=>ZOk r.1/\ZOk r.2/\Bi r.1=(Bi a).tdiv (Bi b)/\Bi r.2=(Bi a).tmod (Bi b):=by
 have J:Al (Yb a b) λ r=>ZOk r.1/\ZOk r.2/\Bi r.1=(Bi a).tdiv (Bi b)/\Bi r.2=(Bi a).tmod (Bi b):=by
  unfold Yb
  refine(X4 ha la).bind ?_
  rintro x ⟨x1,x2,x3,x4,x5⟩
  refine(X4 hb lb).bind ?_
  rintro y ⟨y1,y2,y3,y4,y5⟩
  have hne:y.1≠[]:=by
   intro e
   rw[<-y3,e,Ayg]at h0
   exact h0 (by unfold sgn;split<;>simp)
  have hy0:0<val y.1:=by have:=A9p y1 y2 hne;have:=Ef (y.1.length-1);omega
  refine(Bag x1 y1 x2 y2 hne (by omega) (by omega)).bind ?_
  rintro q ⟨q1,q2,q3,q4,q5,q6⟩
  refine(Ud q1 (by omega) _).bind ?_
  rintro z ⟨z1,z2⟩
  refine(Ud q2 (by omega) _).bind ?_
  rintro w ⟨w1,w2⟩
  rw[As]
  obtain⟨d1,d2⟩:=Buu hy0 q5 q2.val.1 q6 x1.val.1
  refine⟨z1,w1, ?_, ?_⟩
  ·rw[z2,<-x3,<-y3,<-d1]
   unfold sgn
   cases x.2<;>cases y.2<;>simp
  ·rw[w2,<-x3,<-y3,<-d2]
   unfold sgn
   cases x.2<;>cases y.2<;>simp
 unfold Ahf
 simp only[Bf,Jl,As,Bo,Bool.not_eq_true',decide_eq_false_iff_not]
 refine⟨λ h1=>⟨λ h2=>⟨λ h3=> ?_,λ _=>J⟩,λ _=>J⟩,λ _=>J⟩
 obtain⟨a1,a2,a3⟩:=ha.range h1
 obtain⟨b1,b2,b3⟩:=hb.range h2
 rw[b3]at h0
 have t1:=Int.natAbs_tdiv_le_natAbs a.v b.v
 have t2:(a.v.tmod b.v).natAbs<=a.v.natAbs:=by rw[Int.natAbs_tmod];exact Nat.mod_le _ _
 rw[Dh (by omega) (by omega),a3,b3]
 exact⟨h0,h0,ZOk.small (by omega) (by omega),ZOk.small (by omega) (by omega),By _ _,By _ _⟩
theorem Brv (a b:Int) (ha:0<=a) (hb:0<=b):Int.gcd b (a.tmod b)=Int.gcd a b:=by
 obtain⟨m,rfl⟩:=Int.eq_ofNat_of_zero_le ha
 obtain⟨n,rfl⟩:=Int.eq_ofNat_of_zero_le hb
 rw[Amq (by omega),<-Int.natCast_emod,Int.gcd_natCast_natCast,Int.gcd_natCast_natCast,Nat.gcd_comm m n,Nat.gcd_rec n m,Nat.gcd_comm]
theorem Bzp {a b:A4} (ha:ZOk a) (hb:ZOk b) {K:Nat} (hK:K<=1099511627776) (la:ZLt a K) (lb:ZLt b K):Al (A3z a b) λ r=>ZOk r/\Bi r=(Int.gcd (Bi a) (Bi b):Int):=by
 unfold A3z
 refine(Bc0 ha hK la).bind ?_
 rintro x ⟨x1,x2⟩
 refine(Bc0 hb hK lb).bind ?_
 rintro y ⟨y1,y2⟩
 rw[Er]
 refine(Ci (I:=λ s:Int×List Int×Bool×Int×List Int×Bool=>ZOk ⟨s.1,s.2.1,s.2.2.1⟩/\ZOk ⟨s.2.2.2.1,s.2.2.2.2.1,s.2.2.2.2.2⟩/\0<=Bi ⟨s.1,s.2.1,s.2.2.1⟩/\0<=Bi ⟨s.2.2.2.1,s.2.2.2.2.1,s.2.2.2.2.2⟩/\
  ZLt ⟨s.1,s.2.1,s.2.2.1⟩ K/\ZLt ⟨s.2.2.2.1,s.2.2.2.2.1,s.2.2.2.2.2⟩ K/\Int.gcd (Bi ⟨s.1,s.2.1,s.2.2.1⟩) (Bi ⟨s.2.2.2.1,s.2.2.2.2.1,s.2.2.2.2.2⟩)=Int.gcd (Bi a) (Bi b))
  (μ:=λ s:Int×List Int×Bool×Int×List Int×Bool=>(Bi ⟨s.2.2.2.1,s.2.2.2.2.1,s.2.2.2.2.2⟩).toNat)
  (Q:=λ r=>match r with
   | .inl s=>ZOk ⟨s.1,s.2.1,s.2.2⟩/\Bi ⟨s.1,s.2.1,s.2.2⟩=(Int.gcd (Bi a) (Bi b):Int)
   | .inr z=>ZOk z/\Bi z=(Int.gcd (Bi a) (Bi b):Int)) ?_ ?_).mono ?_
 ·refine⟨x1,y1,by show 0<=Bi x;omega,by show 0<=Bi y;omega, ?_, ?_, ?_⟩
  ·show ZLt x K
   unfold ZLt at*;omega
  ·show ZLt y K
   unfold ZLt at*;omega
  ·show Int.gcd (Bi x) (Bi y)=_
   rw[x2,y2]
   simp[Int.gcd_eq_natAbs_gcd_natAbs]
 ·rintro⟨a1,a2,a3,b1,b2,b3⟩ ⟨p1,p2,p3,p4,p5,p6,p7⟩
  simp only at p1 p2 p3 p4 p5 p6 p7
  have J:Bi ⟨b1,b2,b3⟩≠0->Al (Akh a1 a2 a3 b1 b2 b3) (Afg (λ s:Int×List Int×Bool×Int×List Int×Bool=>ZOk ⟨s.1,s.2.1,s.2.2.1⟩/\ZOk ⟨s.2.2.2.1,s.2.2.2.2.1,s.2.2.2.2.2⟩/\0<=Bi ⟨s.1,s.2.1,s.2.2.1⟩/\0<=Bi ⟨s.2.2.2.1,s.2.2.2.2.1,s.2.2.2.2.2⟩/\
   ZLt ⟨s.1,s.2.1,s.2.2.1⟩ K/\ZLt ⟨s.2.2.2.1,s.2.2.2.2.1,s.2.2.2.2.2⟩ K/\Int.gcd (Bi ⟨s.1,s.2.1,s.2.2.1⟩) (Bi ⟨s.2.2.2.1,s.2.2.2.2.1,s.2.2.2.2.2⟩)=Int.gcd (Bi a) (Bi b))
   (λ s:Int×List Int×Bool×Int×List Int×Bool=>(Bi ⟨s.2.2.2.1,s.2.2.2.2.1,s.2.2.2.2.2⟩).toNat) (a1,a2,a3,b1,b2,b3)
   (λ r=>match r with
    | .inl s=>ZOk ⟨s.1,s.2.1,s.2.2⟩/\Bi ⟨s.1,s.2.1,s.2.2⟩=(Int.gcd (Bi a) (Bi b):Int)
    | .inr z=>ZOk z/\Bi z=(Int.gcd (Bi a) (Bi b):Int))):=by
   intro hne
   unfold Akh
   refine(Aur p1 p2 hK p5 p6 hne).bind ?_
   rintro⟨q,r⟩ ⟨q1,q2,q3,q4⟩
   simp only at q1 q2 q3 q4
   rw[As,Es]
   rw[Amq p3]at q4
   have m0:=Int.emod_nonneg (Bi ⟨a1,a2,a3⟩) hne
   have m1:=Int.emod_lt_of_pos (Bi ⟨a1,a2,a3⟩) (b:=Bi ⟨b1,b2,b3⟩) (by omega)
   refine⟨⟨p2,q2,p4,by show 0<=Bi r;omega,p6, ?_, ?_⟩,by show(Bi r).toNat<_;simp only;omega⟩
   ·unfold ZLt at*
    show _<Bi r/\Bi r<_
    omega
   ·show Int.gcd (Bi ⟨b1,b2,b3⟩) (Bi r)=_
    rw[q4,<-p7,<-Amq p3,Brv _ _ p3 p4]
  unfold Azv
  refine(Z3 p2).bind ?_
  rintro s rfl
  simp only[Bf,As,Jl,Bool.not_eq_true',decide_eq_false_iff_not,Er,Eb]
  refine⟨λ h=> ?_,λ h=> ?_⟩
  ·have hne:Bi ⟨b1,b2,b3⟩≠0:=λ e=>h (by rw[e];rfl)
   refine⟨λ h2=>⟨λ h3=> ?_,λ _=>J hne⟩,λ _=>J hne⟩
   subst h2 h3
   rw[By]at p3 p4 p7
   rw[By]at p7
   obtain⟨r1,r2,_⟩:=p1.range rfl
   obtain⟨r3,r4,_⟩:=p2.range rfl
   refine Ci (I:=λ s:Int×Int=>0<=s.1/\s.1<9223372036854775808/\0<=s.2/\s.2<9223372036854775808/\Int.gcd s.1 s.2=Int.gcd (Bi a) (Bi b)) (μ:=λ s:Int×Int=>s.2.toNat) ⟨p3,r2,p4,r4,p7⟩ ?_
   rintro⟨u,v⟩ ⟨g1,g2,g3,g4,g5⟩
   simp only at g1 g2 g3 g4 g5
   unfold Ayf
   simp only[Bf,As,Bo,Bool.not_eq_true',decide_eq_false_iff_not,Es,Eb]
   refine⟨λ hv=> ?_,λ hv=> ?_⟩
   ·have m0:=Int.emod_nonneg u hv
    have m1:=Int.emod_lt_of_pos u (b:=v) (by omega)
    have m2:=Brv u v g1 g3
    rw[Amq g1]at m2 ⊢
    exact⟨hv,⟨g3,g4,m0,by omega,by rw[m2];exact g5⟩,by omega⟩
   ·have hv:v=0:=by omega
    subst hv
    rw[Int.gcd_zero_right]at g5
    refine⟨ZOk.small (by omega) (by omega), ?_⟩
    rw[By,<-g5];omega
  ·have h0:Bi ⟨b1,b2,b3⟩=0:=by
    rw[Classical.not_not]at h
    exact Int.sign_eq_zero_iff_zero.1 h
   rw[h0,Int.gcd_zero_right]at p7
   exact⟨p1,by rw[<-p7];omega⟩
 ·rintro r hr
  cases r with
  |inl s=>rw[As];exact hr
  |inr z=>rw[As];exact hr
structure Afi (q:B6) (r:Rat):Prop where
 okN:ZOk q.N
 okD:ZOk q.D
 num:Bi q.N=r.num
 den:Bi q.D=(r.den:Int)
def Sz (r:Rat) (k:Nat):Prop:=(r.num.natAbs:Int)<4294967296^k/\(r.den:Int)<4294967296^k
theorem Agm {n d:A4} (hn:ZOk n) (hd:ZOk d) {K:Nat} (hK:K<=1099511627776) (ln:ZLt n K) (ld:ZLt d K) (h0:Bi d≠0):Al (Od n d) λ q=>Afi q (Rat.divInt (Bi n) (Bi d)):=by
 have J:∀{n d:A4},ZOk n->ZOk d->ZLt n K->ZLt d K->0<Bi d->Al (Aed n.v n.m n.neg d.v d.m d.neg) λ q=>Afi q (Rat.divInt (Bi n) (Bi d)):=by
  intro n d hn hd ln ld h0
  unfold Aed
  refine(Bzp hn hd hK ln ld).bind ?_
  rintro g ⟨g1,g2⟩
  have g2:Bi g=(Int.gcd (Bi n) (Bi d):Int):=g2
  have hgp:0<Int.gcd (Bi n) (Bi d):=Int.gcd_pos_of_ne_zero_right _ (by omega)
  have hdn:=Int.gcd_dvd_left (Bi n) (Bi d)
  have hdd:=Int.gcd_dvd_right (Bi n) (Bi d)
  have eN:(Rat.divInt (Bi n) (Bi d)).num=Bi n/(Int.gcd (Bi n) (Bi d):Int):=by
   rw[Rat.num_divInt,Int.sign_eq_one_of_pos h0,Int.one_mul,Int.gcd_comm]
  have eD:((Rat.divInt (Bi n) (Bi d)).den:Int)=Bi d/(Int.gcd (Bi n) (Bi d):Int):=by
   rw[Rat.den_divInt,if_neg (by omega),Int.gcd_comm,Int.natCast_ediv,Int.natAbs_of_nonneg (by omega)]
  have J2:Al (Aei n.v n.m n.neg d.v d.m d.neg g) λ q=>Afi q (Rat.divInt (Bi n) (Bi d)):=by
   unfold Aei
   have hgd:(Int.gcd (Bi n) (Bi d):Int)<=Bi d:=Int.le_of_dvd h0 hdd
   have lg:ZLt g K:=by unfold ZLt at*;omega
   refine(Aur hn g1 hK ln lg (by omega)).bind ?_
   rintro x ⟨x1,_,x2,_⟩
   refine(Aur hd g1 hK ld lg (by omega)).bind ?_
   rintro y ⟨y1,_,y2,_⟩
   unfold Ad1
   rw[As]
   refine⟨x1,y1, ?_, ?_⟩
   ·rw[eN,<-g2]
    show Bi x.1=_
    rw[x2]
    exact Int.tdiv_eq_ediv_of_dvd (by rw[g2];exact hdn)
   ·rw[eD,<-g2]
    show Bi y.1=_
    rw[y2]
    exact Int.tdiv_eq_ediv_of_dvd (by rw[g2];exact hdd)
  simp only[Bf,Jl,Bool.not_eq_true',decide_eq_false_iff_not]
  refine⟨λ _=>J2,λ he=>⟨λ _=>J2,λ h1=> ?_⟩⟩
  have hm:g.m=[]:=by cases hg:g.m<;>simp_all
  have h1:g.v=1:=by omega
  have h1':Bi g=1:=by rw[Bi,if_pos hm,h1]
  unfold Ad1
  rw[As]
  refine⟨hn,hd, ?_, ?_⟩
  ·rw[eN,<-g2,h1',Int.ediv_one]
  ·rw[eD,<-g2,h1',Int.ediv_one]
 unfold Od
 refine(Z3 hd).bind ?_
 rintro s rfl
 simp only[Bf,decide_eq_true_eq]
 refine⟨λ h=> ?_,λ h=> ?_⟩
 ·have hneg:=Int.sign_neg_iff.1 h
  refine(Af2 hn hK ln).bind ?_
  rintro x ⟨x1,x2⟩
  refine(Af2 hd hK ld).bind ?_
  rintro y ⟨y1,y2⟩
  have:=J x1 y1 (ln.neg x2) (ld.neg y2) (by omega)
  rw[x2,y2,Rat.neg_divInt_neg]at this
  exact this
 ·have:¬Bi d<0:=λ hc=>h (Int.sign_neg_iff.2 hc)
  exact J hn hd ln ld (by omega)
theorem Sz.pos {r:Rat} {k:Nat} (h:Sz r k): -(4294967296^k)<r.num/\r.num<4294967296^k/\0<(r.den:Int)/\(r.den:Int)<4294967296^k:=by
 have:=r.den_pos
 unfold Sz at h
 omega
theorem Sz.mono {r:Rat} {k m:Nat} (h:Sz r k) (hk:k<=m):Sz r m:=by
 have:=Xu hk
 unfold Sz at*;omega
theorem Afi.ltN {q:B6} {r:Rat} {k:Nat} (h:Afi q r) (s:Sz r k):ZLt q.N k:=by have:=s.pos;unfold ZLt;rw[h.num];omega
theorem Afi.ltD {q:B6} {r:Rat} {k:Nat} (h:Afi q r) (s:Sz r k):ZLt q.D k:=by have:=s.pos;unfold ZLt;rw[h.den];omega
theorem ZLt.mono {z:A4} {k m:Nat} (h:ZLt z k) (hk:k<=m):ZLt z m:=by have:=Xu hk;unfold ZLt at*;omega
theorem Aev {x y:Int} {k m:Nat} (h1: -(4294967296^k)<x) (h2:x<4294967296^k) (h3: -(4294967296^m)<y) (h4:y<4294967296^m): -(4294967296^(k+m))<x*y/\x*y<4294967296^(k+m):=by
 have hk:=Ef k
 have hm:=Ef m
 rw[Int.pow_add]
 generalize (4294967296:Int)^k=A at*
 generalize (4294967296:Int)^m=B at*
 have e:∀u v:Int,0<=u->u<A->0<=v->v<B->0<=u*v/\u*v<A*B:=by
  intro u v u0 u1 v0 v1
  refine⟨Int.mul_nonneg u0 v0, ?_⟩
  have a1:u*v<=u*B:=Int.mul_le_mul_of_nonneg_left (by omega) u0
  have a2:u*B<A*B:=Int.mul_lt_mul_of_pos_right u1 hm
  omega
 rcases Int.le_total 0 x with hx|hx<;>rcases Int.le_total 0 y with hy|hy
 ·have:=e x y hx h2 hy h4;omega
 ·have:=e x (-y) hx h2 (by omega) (by omega);rw[Int.mul_neg]at this;omega
 ·have:=e (-x) y (by omega) (by omega) hy h4;rw[Int.neg_mul]at this;omega
 ·have:=e (-x) (-y) (by omega) (by omega) (by omega) (by omega);rw[Int.neg_mul_neg]at this;omega
theorem Aec {a b:Int} {k:Nat} (h0:b≠0) (ha: -(4294967296^k)<a/\a<4294967296^k) (hb: -(4294967296^k)<b/\b<4294967296^k):Sz (Rat.divInt a b) k:=by
 have hgp:0<Int.gcd b a:=Int.gcd_pos_of_ne_zero_left _ h0
 refine⟨?_, ?_⟩
 ·rw[Rat.num_divInt]
  have h1:(b.sign*a/(Int.gcd b a:Int)).natAbs<=(b.sign*a).natAbs:=by
   have:=Int.natAbs_ediv_le_natAbs (b.sign*a) (Int.gcd b a:Int);exact this
  have h2:(b.sign*a).natAbs=a.natAbs:=by rw[Int.natAbs_mul,Int.natAbs_sign_of_ne_zero h0,Nat.one_mul]
  omega
 ·rw[Rat.den_divInt,if_neg h0]
  have:=Nat.div_le_self b.natAbs (Int.gcd b a)
  omega
theorem Bvj (x y:Rat):x+y=Rat.divInt (x.num*y.den+y.num*x.den) ((x.den:Int)*y.den):=by
 rw[Rat.add_def',<-Rat.divInt_ofNat];simp
theorem Av5 (x y:Rat):x*y=Rat.divInt (x.num*y.num) ((x.den:Int)*y.den):=by
 rw[Rat.mul_def',<-Rat.divInt_ofNat];simp
theorem Bud (x y:Rat):(x.den:Int)*y.den≠0:=by
 have:=x.den_pos;have:=y.den_pos
 exact Int.ne_of_gt (Int.mul_pos (by omega) (by omega))
theorem Sz.neg {x:Rat} {k:Nat} (h:Sz x k):Sz (-x) k:=by unfold Sz at*;rw[Rat.neg_num,Rat.neg_den];omega
theorem Byk {x y:Rat} {k m:Nat} (h1:Sz x k) (h2:Sz y m): -(4294967296^(k+m+1))<x.num*y.den+y.num*x.den/\x.num*y.den+y.num*x.den<4294967296^(k+m+1):=by
 obtain⟨a1,a2,a3,a4⟩:=h1.pos
 obtain⟨b1,b2,b3,b4⟩:=h2.pos
 have p1:=Aev a1 a2 (y:=(y.den:Int)) (m:=m) (by omega) b4
 have p2:=Aev b1 b2 (y:=(x.den:Int)) (m:=k) (by omega) a4
 rw[Nat.add_comm m k]at p2
 rw[Int.pow_succ]
 have:=Ef (k+m)
 omega
theorem A07 {x y:Rat} {k m:Nat} (h1:Sz x k) (h2:Sz y m): -(4294967296^(k+m))<(x.den:Int)*y.den/\(x.den:Int)*y.den<4294967296^(k+m):=by
 obtain⟨a1,a2,a3,a4⟩:=h1.pos
 obtain⟨b1,b2,b3,b4⟩:=h2.pos
 exact Aev (by omega) a4 (by omega) b4
theorem Sz.add {x y:Rat} {k m:Nat} (h1:Sz x k) (h2:Sz y m):Sz (x+y) (k+m+1):=by
 rw[Bvj]
 refine Aec (Bud x y) (Byk h1 h2) ?_
 have:=A07 h1 h2
 have:=Xu (show k+m<=k+m+1 by omega)
 omega
theorem Sz.sub {x y:Rat} {k m:Nat} (h1:Sz x k) (h2:Sz y m):Sz (x-y) (k+m+1):=by rw[Rat.sub_eq_add_neg];exact h1.add h2.neg
theorem Sz.mul {x y:Rat} {k m:Nat} (h1:Sz x k) (h2:Sz y m):Sz (x*y) (k+m):=by
 rw[Av5]
 obtain⟨a1,a2,a3,a4⟩:=h1.pos
 obtain⟨b1,b2,b3,b4⟩:=h2.pos
 exact Aec (Bud x y) (Aev a1 a2 b1 b2) (A07 h1 h2)
theorem A4d {q:B6} {r:Rat} (h:Afi q r) {k:Nat} (s:Sz r k) (hk:k<=1099511627776):Al (X3 q) λ b=>b=true↔r.den=1:=by
 unfold X3 Ajc
 simp only[Er,As]
 have one:ZOk ⟨1,[],false⟩:=ZOk.small (by omega) (by omega)
 have hk1:ZLt ⟨1,[],false⟩ (k+1):=by unfold ZLt;rw[By,Int.pow_succ];have:=Ef k;omega
 by_cases hk0:k+1<=1099511627776
 ·refine(Bfi h.okD one hk0 ((h.ltD s).mono (by omega)) hk1).mono ?_
  rintro c rfl
  rw[By,h.den,decide_eq_true_eq,Int.sign_eq_zero_iff_zero]
  omega
 ·have hk2:k=1099511627776:=by omega
  have hk1:ZLt ⟨1,[],false⟩ k:=by
   unfold ZLt;rw[By]
   have:=Xu (show 1<=k by omega)
   omega
  refine(Bfi h.okD one hk (h.ltD s) hk1).mono ?_
  rintro c rfl
  rw[By,h.den,decide_eq_true_eq,Int.sign_eq_zero_iff_zero]
  omega
theorem Bvh {a:B6} {x:Rat} (ha:Afi a x) {k:Nat} (sx:Sz x k) (hk:k<=1099511627776):Al (Asl a) λ c=>Afi c (-x):=by
 unfold Asl
 refine(Af2 ha.okN hk (ha.ltN sx)).bind ?_
 rintro z ⟨z1,z2⟩
 rw[As]
 exact⟨z1,ha.okD,by rw[Rat.neg_num,<-ha.num];exact z2,by rw[Rat.neg_den];exact ha.den⟩
theorem Bs2 {a b:B6} {x y:Rat} (ha:Afi a x) (hb:Afi b y) {k m:Nat} (sx:Sz x k) (sy:Sz y m) (hkm:k+m+1<=1099511627776):Al (Ado a b) λ c=>Afi c (x*y):=by
 have lxN:=ha.ltN sx;have lxD:=ha.ltD sx;have lyN:=hb.ltN sy;have lyD:=hb.ltD sy
 obtain⟨a1,a2,a3,a4⟩:=sx.pos
 obtain⟨b1,b2,b3,b4⟩:=sy.pos
 have N:=Avv ha.okN hb.okN (K:=k+m) (by omega) (lxN.mono (by omega)) (lyN.mono (by omega))
 have D:=Avv ha.okD hb.okD (K:=k+m) (by omega) (lxD.mono (by omega)) (lyD.mono (by omega))
 have J:Al (Option.bind (W5 a.N b.N) λ p=>Option.bind (W5 a.D b.D) λ d=>Option.bind (Od p d) λ c=>some c) λ c=>Afi c (x*y):=by
  refine N.bind ?_
  rintro p ⟨p1,p2⟩
  refine D.bind ?_
  rintro d ⟨d1,d2⟩
  rw[ha.num,hb.num]at p2
  rw[ha.den,hb.den]at d2
  have lp:ZLt p (k+m):=by unfold ZLt;rw[p2];exact Aev a1 a2 b1 b2
  have ld:ZLt d (k+m):=by unfold ZLt;rw[d2];exact A07 sx sy
  refine(Agm p1 d1 (by omega) lp ld (by rw[d2];exact Bud x y)).bind ?_
  rintro c hc
  rw[As,Av5,<-p2,<-d2]
  exact hc
 unfold Ado
 refine(A4d ha sx (by omega)).bind ?_
 rintro b1 hb1
 rw[Bf]
 refine⟨λ h1=> ?_,λ _=>J⟩
 refine(A4d hb sy (by omega)).bind ?_
 rintro b2 hb2
 rw[Bf]
 refine⟨λ h2=> ?_,λ _=>J⟩
 refine N.bind ?_
 rintro s ⟨s1,s2⟩
 rw[As]
 have e1:=hb1.1 h1
 have e2:=hb2.1 h2
 have es:x*y=Rat.divInt (x.num*y.num) 1:=by rw[Av5,e1,e2];simp
 have en:(x*y).num=x.num*y.num:=by rw[es,Rat.num_divInt];simp
 have ed:(x*y).den=1:=by rw[es,Rat.den_divInt];simp
 exact⟨s1,ha.okD,by rw[en,<-ha.num,<-hb.num];exact s2,by rw[ed];show Bi a.D=_;rw[ha.den,e1]⟩
theorem Bp1 {a:B6} {x:Rat} (ha:Afi a x):Al (Ya a) λ b=>b=true↔x=0:=by
 unfold Ya
 refine(Z3 ha.okN).bind ?_
 rintro s rfl
 rw[As,ha.num,decide_eq_true_eq,Int.sign_eq_zero_iff_zero,Rat.num_eq_zero]
theorem Bd0 {n:Int} (h1: -9223372036854775808<=n) (h2:n<9223372036854775808):Al (Aa4 n) λ q=>Afi q (n:Rat):=by
 unfold Aa4 Ajc
 simp only[Er,As]
 exact⟨ZOk.small h1 h2,ZOk.small (by omega) (by omega),By _ _,By _ _⟩
section
variable {α β σ ρ τ:Type}
theorem B1j {E:Nat->Type} {l:List (Tk E)} {o:Option α} {Q:α->Prop}:Al (jp l o) Q↔Al o Q:=by rw[Cbh]
theorem Al.true {o:Option α} {R:α->Prop} (h:Al o R):Al o λ _=>True:=h.mono λ _ _=>trivial
theorem Al.eq {o:Option α} {a:α} (h:Al o λ r=>r=a):o=some a:=by obtain⟨r,h1,rfl⟩:=h;exact h1
theorem Bzo {o:Option α} {r:α} {Q:α->Prop} (h:Al o Q) (e:o=some r):Q r:=by obtain⟨r',h1,h2⟩:=h;rw[e]at h1;cases h1;exact h2
def Az1 (e:Int->σ->τ) (n i:Nat) (I:Nat->σ->Prop) (Q:ρ->Prop):τ⊕ρ->Prop
 | .inl t=>i<n/\∃s',t=e (IntKind.wrap .i64 ((i:Int)+1)) s'/\I (i+1) s'
 | .inr r=>Q r
@[simp] theorem B18 {e:Int->σ->τ} {n i:Nat} {I:Nat->σ->Prop} {Q:ρ->Prop} {r:ρ}:Az1 e n i I Q (.inr r)↔Q r:=Iff.rfl
theorem Ee {e:Int->σ->τ} {n i:Nat} {I:Nat->σ->Prop} {Q:ρ->Prop} {t:τ}:Az1 e n i I Q (.inl t)↔i<n/\∃s',t=e (IntKind.wrap .i64 ((i:Int)+1)) s'/\I (i+1) s':=Iff.rfl
theorem A9r {f:τ->Option (τ⊕ρ)} {Q:ρ->Prop} (e:Int->σ->τ) (n:Nat) (hn:n<9223372036854775807) (I:Nat->σ->Prop) (h:∀i s,i<=n->I i s->Al (f (e (i:Int) s)) (Az1 e n i I Q)):∀(m i:Nat) (s:σ),i+m=n->I i s->Al (iter f (e (i:Int) s)) Q
 |0,i,s,hm,hI=>by
  obtain⟨o,h1,h2⟩:=h i s (by omega) hI
  cases o with
  |inl t=>have:=h2.1;omega
  |inr r=>exact⟨r,by rw[Axy,h1];rfl,h2⟩
 |m+1,i,s,hm,hI=>by
  obtain⟨o,h1,h2⟩:=h i s (by omega) hI
  cases o with
  |inl t=>
   obtain⟨h3,s',rfl,h4⟩:=h2
   rw[Dh (by omega) (by omega),show((i:Int)+1)=((i+1:Nat):Int) by omega]at h1
   obtain⟨r,h5,h6⟩:=A9r e n hn I h m (i+1) s' (by omega) h4
   exact⟨r,by rw[Axy,h1];exact h5,h6⟩
  |inr r=>exact⟨r,by rw[Axy,h1];rfl,h2⟩
theorem Cf {f:τ->Option (τ⊕ρ)} {Q:ρ->Prop} (e:Int->σ->τ) (n:Nat) (hn:n<9223372036854775807) (I:Nat->σ->Prop) {s:σ} (h0:I 0 s) (h:∀i s,i<=n->I i s->Al (f (e (i:Int) s)) (Az1 e n i I Q)):Al (iter f (e 0 s)) Q:=A9r e n hn I h n 0 s (by omega) h0
theorem Bc {f:Int×σ->Option ((Int×σ)⊕ρ)} {Q:ρ->Prop} (n:Nat) (hn:n<9223372036854775807) (I:Nat->σ->Prop) {s:σ} (h0:I 0 s) (h:∀i s,i<=n->I i s->Al (f ((i:Int),s)) (Az1 Prod.mk n i I Q)):Al (iter f (0,s)) Q:=Cf Prod.mk n hn I h0 h
theorem B6g {n i:Nat} {I:Nat->σ->Prop} {Q:ρ->Prop} {j:Int} {s:σ}:Az1 Prod.mk n i I Q (.inl (j,s))↔i<n/\j=IntKind.wrap .i64 ((i:Int)+1)/\I (i+1) s:=by
 rw[Ee]
 constructor
 ·rintro⟨h,s',e,q⟩;cases e;exact⟨h,rfl,q⟩
 ·rintro⟨h,rfl,q⟩;exact⟨h,s,rfl,q⟩
theorem B98 {a b:Nat}:((a:Int)<(b:Int))↔a<b:=by omega
theorem rng {i n:Nat}:Af (i:Int) n↔i<n:=by unfold Af;omega
end
theorem gv:(∀(α:Type) (a:α) (Q:α->Prop),Al (some a) Q↔Q a)/\
 (∀(α:Type) (c:Prop) (i:Decidable c) (o:Option α) (Q:α->Prop),Al (@need α c i o) Q↔c/\Al o Q)/\
 (∀(α:Type) (c:Prop) (i:Decidable c) (x y:Option α) (Q:α->Prop),Al (@ite _ c i x y) Q↔(c->Al x Q)/\(¬c->Al y Q))/\
 (∀(α β:Type) (o:Option α) (f:α->Option β) (Q:β->Prop),Al (Option.bind o f) Q↔Al o λ r=>Al (f r) Q)/\
 (∀(α:Type) (E:Nat->Type) (l:List (Tk E)) (o:Option α) (Q:α->Prop),Al (jp l o) Q↔Al o Q)/\
 (∀(σ τ ρ:Type) (e:Int->σ->τ) (n i:Nat) (I:Nat->σ->Prop) (Q:ρ->Prop) (r:ρ),Az1 e n i I Q (.inr r)↔Q r)/\
 (∀(σ ρ:Type) (n i:Nat) (I:Nat->σ->Prop) (Q:ρ->Prop) (j:Int) (s:σ),Az1 Prod.mk n i I Q (.inl (j,s))↔i<n/\j=IntKind.wrap .i64 ((i:Int)+1)/\I (i+1) s)/\
 (∀(σ ρ:Type) (I:σ->Prop) (μ:σ->Nat) (s s':σ) (Q:ρ->Prop),Afg I μ s Q (.inl s')↔I s'/\μ s'<μ s)/\
 (∀(σ ρ:Type) (I:σ->Prop) (μ:σ->Nat) (s:σ) (r:ρ) (Q:ρ->Prop),Afg I μ s Q (.inr r)↔Q r)/\
 (∀a b:Nat,((a:Int)<(b:Int))↔a<b)/\(∀i n:Nat,Af (i:Int) n↔i<n)/\(∀n:Nat,Int.toNat (n:Int)=n)/\
 (∀(α β γ:Type) (f:α->γ) (g:β->γ) (x:α),Sum.elim f g (.inl x)=f x)/\(∀(α β γ:Type) (f:α->γ) (g:β->γ) (x:β),Sum.elim f g (.inr x)=g x)/\
 (∀(p:Prop) (i:Decidable p),(@decide p i=true)↔p)/\(∀(p:Prop) (i:Decidable p),((!@decide p i)=true)↔¬p)/\(∀p:Prop,(p->True)↔True)/\(∀p:Prop,(p/\True)↔p)/\(∀p:Prop,(True/\p)↔p)/\(∀a b:Prop,(a->(a/\b))↔(a->b))/\(∀(α:Type),(∀_:α,True)↔True):=
 ⟨λ _ _ _=>As,λ _ _ _ _ _=>Bo,λ _ _ _ _ _ _=>Bf,λ _ _ _ _ _=>Er,λ _ _ _ _ _=>B1j,λ _ _ _ _ _ _ _ _ _=>B18,λ _ _ _ _ _ _ _ _=>B6g,λ _ _ _ _ _ _ _=>Iff.rfl,λ _ _ _ _ _ _ _=>Iff.rfl,
  λ _ _=>B98,λ _ _=>rng,λ _=>rfl,λ _ _ _ _ _ _=>rfl,λ _ _ _ _ _ _=>rfl,λ _ _=>decide_eq_true_iff,λ _ _=>by simp,λ _=>by simp,λ _=>by simp,λ _=>by simp,λ a b=>⟨λ h x=>(h x).2,λ h x=>⟨x,h x⟩⟩,λ _=>by simp⟩
theorem T7 {α:Type} {l:List α} {z:α} {P:α->Prop} (h:∀j,j<l.length->P (l.getD j z)):∀x∈l,P x:=by
 intro x hx
 obtain⟨k,hk,rfl⟩:=List.getElem_of_mem hx
 have:=h k hk
 rwa [List.getD_eq_getElem?_getD,List.getElem?_eq_getElem hk]at this
theorem Fc {α:Type} {l:List α} (z:α) {j:Nat} (h:j<l.length):l.getD j z∈l:=by
 rw[List.getD_eq_getElem?_getD,List.getElem?_eq_getElem h];exact List.getElem_mem _
theorem Pi {α:Type} {l:List α} {z:α} {P:α->Prop} (hz:P z) (h:∀x∈l,P x) (j:Nat):P (l.getD j z):=by
 rcases Nat.lt_or_ge j l.length with hj|hj
 ·exact h _ (Fc z hj)
 ·rw[List.getD_eq_getElem?_getD,List.getElem?_eq_none hj];exact hz
theorem Eu {P:Nat->Prop} {i:Nat} (h:∀j,j<i->P j) (k:P i):∀j,j<i+1->P j:=λ j hj=>by
 rcases Nat.lt_or_eq_of_le (Nat.lt_succ_iff.1 hj)with h1|rfl
 ·exact h j h1
 ·exact k
theorem eqD {α:Type} {o:Option α} {Q:α->Prop} (d:α) (h:Al o Q):o=some (o.getD d):=by obtain⟨r,h1,_⟩:=h;rw[h1];rfl
theorem N0 {α:Type} {o:Option α} {Q:α->Prop} (d:α) (h:Al o Q):Q (o.getD d):=by obtain⟨r,h1,h2⟩:=h;rw[h1];exact h2
theorem Bsy (x:Int):Al (Gm x) λ _=>True:=by unfold Gm;simp only[gv]
theorem B0i (x:Int):Al (Jp x) λ _=>True:=by unfold Jp;simp only[gv]
theorem Bl8 (x:List UInt8):Al (Em x) λ _=>True:=by unfold Em;simp only[gv]
noncomputable def B0d (x:Int):Bool:=(Gm x).getD false
noncomputable def B4r (x:Int):Bool:=(Jp x).getD false
noncomputable def Br4 (x:List UInt8):Bool:=(Em x).getD false
theorem A41 (x:Int):Gm x=some (B0d x):=eqD _ (Bsy x)
theorem Btv (x:Int):Jp x=some (B4r x):=eqD _ (B0i x)
theorem Ats (x:List UInt8):Em x=some (Br4 x):=eqD _ (Bl8 x)
theorem Buw (s:List UInt8):Al (E2 s) λ _=>True:=by
 unfold E2 Hf
 simp only[gv,A41,Ats]
 intro a1 a2
 refine⟨by unfold Af;omega,λ _=> ?_⟩
 intro _
 refine Cf (λ i (_:Unit)=>i) s.length (by omega) (λ _ _=>True) (s:=()) trivial λ i _ hi _=> ?_
 unfold Ti I0
 simp only[gv,A41,Btv,Ee]
 intro h;simp[h]
noncomputable def Bzw (s:List UInt8):Bool:=(E2 s).getD false
theorem Aqa (s:List UInt8):E2 s=some (Bzw s):=eqD _ (Buw s)
theorem Rq:∀(s acc:List UInt8),(B3 acc s).length<=s.length+1
 |[],acc=>by simp[B3]
 |c::r,acc=>by
  unfold B3
  split
  ·have:=Rq r [];simp;omega
  ·have:=Rq r (acc++[c]);simp;omega
theorem Ba3 (s:List UInt8) (h:s.length<4294967281):Al (Js s) λ _=>True:=by
 have hp:=Rq s []
 unfold Js Mr I7
 simp only[gv]
 refine⟨h, ?_⟩
 refine Cf (λ i (_:Unit)=>(B3 [] s,((B3 [] s).length:Int),i,())) (B3 [] s).length (by omega) (λ _ _=>True) (s:=()) trivial λ i _ hi _=> ?_
 unfold Tl Tz
 simp only[gv,Aqa,Ee]
 intro h;simp[h]
noncomputable def B0c (s:List UInt8):Bool:=(Js s).getD false
theorem A5l {s:List UInt8} (h:s.length<4294967281):Js s=some (B0c s):=eqD _ (Ba3 s h)
theorem Bkf (s:List UInt8):Al (Hz s) λ b=>b=true->s.length<=60:=by
 unfold Hz
 simp only[gv]
 refine⟨λ h=>(Ba3 s (by omega)).mono λ _ _ _=>by omega,λ _ h=>by cases h⟩
noncomputable def Bpm (s:List UInt8):Bool:=(Hz s).getD false
theorem Afw (s:List UInt8):Hz s=some (Bpm s):=eqD _ (Bkf s)
theorem B3k (e:Am):Al (H7 e) λ _=>True:=by unfold H7;simp only[gv]
noncomputable def B5e (e:Am):Bool:=(H7 e).getD false
theorem Ak7 (e:Am):H7 e=some (B5e e):=eqD _ (B3k e)
def Tx (s:List UInt8):Prop:=s.length<4294967281
theorem Bzc (l:List Ak) (hl:l.length<9223372036854775807) (h:∀j,Tx (l.getD j A3).Path):Al (Gj l) λ _=>True:=by
 unfold Gj
 simp only[gv]
 refine Bc l.length hl (λ _ _=>True) trivial λ i _ hi _=> ?_
 unfold Pm Ih P2 O1
 simp only[gv,A5l (h i),Afw,Ak7]
 intro h;simp[h]
noncomputable def Bsf (l:List Ak):Bool:=(Gj l).getD false
theorem Bbj {l:List Ak} (hl:l.length<9223372036854775807) (h:∀j,Tx (l.getD j A3).Path):Gj l=some (Bsf l):=eqD _ (Bzc l hl h)
theorem B3h {n:Nat} {k:Int} (h:n<9223372036854775807) (h0:0<=k) (h1:k<=9223372036854775807):IntKind.wrap .i64 ((n:Int) -k)=(n:Int) -k:=Dh (by omega) (by omega)
theorem Ase:∀(s acc:List UInt8),∀p∈B3 acc s,p.length<=acc.length+s.length
 |[],acc,p,h=>by simp[B3]at h;subst h;simp
 |c::r,acc,p,h=>by
  unfold B3 at h
  split at h
  ·rcases List.mem_cons.1 h with rfl|h
   ·simp
   ·have:=Ase r [] p h;simp at this ⊢;omega
  ·have:=Ase r (acc++[c]) p h;simp at this ⊢;omega
theorem B5t (s:List UInt8):Al (Lm s) λ _=>True:=by
 have hp:=Rq s []
 unfold Lm Mr I7
 simp only[gv]
 intro h
 refine⟨by omega, ?_⟩
 refine Cf (λ i (_:Unit)=>(B3 [] s,((B3 [] s).length:Int),i,())) (B3 [] s).length (by omega) (λ _ _=>True) (s:=()) trivial λ i _ hi _=> ?_
 have hq:((B3 [] s).getD i []).length<9223372036854775807:=by
  have:=Pi (l:=B3 [] s) (z:=[]) (P:=λ p=>p.length<=s.length) (by simp) (λ p h=>by have:=Ase s [] p h;simpa using this) i
  omega
 unfold Zo H6 Y7
 simp only[gv,Aqa,Ee,Af,B3h hq (k:=1) (by decide) (by decide),B3h hq (k:=2) (by decide) (by decide),B3h hq (k:=3) (by decide) (by decide)]
 repeat' (first|exact⟨(),trivial⟩|apply And.intro|intro _|omega)
noncomputable def B9b (s:List UInt8):Bool:=(Lm s).getD false
theorem Bp7 (s:List UInt8):Lm s=some (B9b s):=eqD _ (B5t s)
theorem Boz (c:Aa) (h1:c.Bases.length<9223372036854775807) (h2:c.Comps.length<9223372036854775807) (h3:c.Whens.length<9223372036854775807):Al (Ams c) λ r=>r=0->c.Bases.length<=6/\c.Comps.length<=40/\c.Eqs.length<=40/\c.Links.length<=40/\c.Whens.length<=40/\(∀b∈c.Bases,b.Mods.length<=8)/\(∀b∈c.Comps,b.Mods.length<=8)/\(∀b∈c.Whens,b.Sets.length<=6):=by
 unfold Ams Lp
 simp only[gv,(by decide:¬(3:Int)=0),false_implies]
 intro a1 a2 a3 a4 a5
 refine Bc c.Bases.length h1 (λ i _=>∀j,j<i->((c.Bases.getD j Cl).Mods.length:Int)<=8) (λ j hj=>by omega) λ i s hi hI=> ?_
 unfold Adx
 simp only[gv,(by decide:¬(3:Int)=0),false_implies]
 refine⟨λ h k=>⟨h,Eu hI (by omega)⟩,λ h=> ?_⟩
 have hi:i=c.Bases.length:=by omega
 subst hi
 unfold Acv
 simp only[gv]
 refine Bc c.Comps.length h2 (λ i _=>∀j,j<i->((c.Comps.getD j An).Mods.length:Int)<=8) (λ j hj=>by omega) λ i s hi hJ=> ?_
 unfold Ab1
 simp only[gv,(by decide:¬(3:Int)=0),false_implies]
 refine⟨λ h k=>⟨h,Eu hJ (by omega)⟩,λ h=> ?_⟩
 have hi:i=c.Comps.length:=by omega
 subst hi
 unfold Aco
 simp only[gv]
 refine Bc c.Whens.length h3 (λ i _=>∀j,j<i->((c.Whens.getD j Bz).Sets.length:Int)<=6) (λ j hj=>by omega) λ i s hi hK=> ?_
 unfold Acx
 simp only[gv,(by decide:¬(3:Int)=0),false_implies]
 refine⟨λ h k=>⟨h,Eu hK (by omega)⟩,λ h=> ?_⟩
 have hi:i=c.Whens.length:=by omega
 subst hi
 unfold Adw
 refine As.2 λ _=>⟨by omega,by omega,by omega,by omega,by omega, ?_, ?_, ?_⟩
 ·exact T7 (z:=Cl) λ j hj=>by have:=hI j hj;omega
 ·exact T7 (z:=An) λ j hj=>by have:=hJ j hj;omega
 ·exact T7 (z:=Bz) λ j hj=>by have:=hK j hj;omega
theorem B0n (l:List Ak) (hl:l.length<9223372036854775807):Al (L9 l) λ _=>True:=by
 unfold L9
 simp only[gv]
 refine Bc l.length hl (λ _ _=>True) trivial λ i _ hi _=> ?_
 unfold V1 Wk
 simp only[gv]
 intro h
 refine Bc i (by omega) (λ _ _=>True) trivial λ k _ hk _=> ?_
 unfold Wd Xc
 simp only[gv]
 repeat' (first|exact⟨(),trivial⟩|apply And.intro|intro _|omega)
noncomputable def B30 (l:List Ak):Bool:=(L9 l).getD false
theorem Bc6 {l:List Ak} (hl:l.length<9223372036854775807):L9 l=some (B30 l):=eqD _ (B0n l hl)
theorem B45 (c:Aa) (h1:c.Bases.length<9223372036854775807) (h2:c.Comps.length<9223372036854775807) (h3:∀j,(c.Bases.getD j Cl).Mods.length<9223372036854775807) (h4:∀j,(c.Comps.getD j An).Mods.length<9223372036854775807):Al (Alp c) λ _=>True:=by
 unfold Alp
 simp only[gv]
 refine Bc c.Comps.length h2 (λ _ _=>True) trivial λ i _ hi _=> ?_
 unfold Abu
 simp only[gv]
 refine⟨λ h=> ?_,λ h=> ?_⟩
 ·refine Bc i (by omega) (λ _ _=>True) trivial λ k _ hk _=> ?_
  unfold Adv Ac4
  simp only[gv,Bc6 (h4 i)]
  repeat' (first|exact⟨(),trivial⟩|apply And.intro|intro _|omega)
 ·unfold Acm
  simp only[gv]
  refine Bc c.Bases.length h1 (λ _ _=>True) trivial λ k _ hk _=> ?_
  unfold Adn Ace
  simp only[gv,Bc6 (h3 k)]
  repeat' (first|exact⟨(),trivial⟩|apply And.intro|intro _|omega)
end Go.Ab
