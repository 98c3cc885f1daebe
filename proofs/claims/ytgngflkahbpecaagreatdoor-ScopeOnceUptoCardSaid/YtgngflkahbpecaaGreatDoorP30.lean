/- Long division of amounts: what its steps rest on. Long division of amounts in package num: by one word; shifts. Long division of amounts in package num: the words of the quotient. Long division of amounts in package num. Conditions: none beyond those that each theorem names. -/
import Derived.Test.YtgngflkahbpecaaGreatDoorP29
namespace Go.Ab
open Go
set_option linter.unusedVariables false
set_option linter.unusedSimpArgs false
def A14:List UInt8:=[0,1,2,2,3,3,3,3,4,4,4,4,4,4,4,4,5,5,5,5,5,5,5,5,5,5,5,5,5,5,5,5,6,6,6,6,6,6,6,6,6,6,6,6,6,6,6,6,6,6,6,6,6,6,6,6,6,6,6,6,6,6,6,6,7,7,7,7,7,7,7,7,7,7,7,7,7,7,7,7,7,7,7,7,7,7,7,7,7,7,7,7,7,7,7,7,7,7,7,7,7,7,7,7,7,7,7,7,7,7,7,7,7,7,7,7,7,7,7,7,7,7,7,7,7,7,7,7,8,8,8,8,8,8,8,8,8,8,8,8,8,8,8,8,8,8,8,8,8,8,8,8,8,8,8,8,8,8,8,8,8,8,8,8,8,8,8,8,8,8,8,8,8,8,8,8,8,8,8,8,8,8,8,8,8,8,8,8,8,8,8,8,8,8,8,8,8,8,8,8,8,8,8,8,8,8,8,8,8,8,8,8,8,8,8,8,8,8,8,8,8,8,8,8,8,8,8,8,8,8,8,8,8,8,8,8,8,8,8,8,8,8,8,8,8,8,8,8,8,8,8,8,8,8,8,8]
def B8s (n:Nat):Bool:=Nat.beq n 0||(Nat.ble (2^((A14.getD n 0).toNat-1)) n&&Nat.blt n (2^(A14.getD n 0).toNat)&&Nat.ble 1 (A14.getD n 0).toNat&&Nat.ble (A14.getD n 0).toNat 8)
theorem B47:(List.range 256).all B8s=true:=by kernel_rfl
theorem Cc3 {n:Nat} (h:n<256) (h0:0<n):2^((A14.getD n 0).toNat-1)<=n/\n<2^(A14.getD n 0).toNat/\1<=(A14.getD n 0).toNat/\(A14.getD n 0).toNat<=8:=by
 have:=List.all_eq_true.1 B47 n (List.mem_range.2 h)
 unfold B8s at this
 simp only[Bool.or_eq_true,Bool.and_eq_true]at this
 rcases this with h|⟨⟨⟨h1,h2⟩,h3⟩,h4⟩
 ·have:=Nat.eq_of_beq_eq_true h;omega
 ·exact⟨Nat.le_of_ble_eq_true h1,(Nat.blt_eq).mp h2,Nat.le_of_ble_eq_true h3,Nat.le_of_ble_eq_true h4⟩
theorem Bs1:A14.length=256:=by kernel_rfl
theorem Bpd {x:Int} (h0:0<x) (h1:x<4294967296):Al (Aef x) λ r=>∃k:Nat,r=(k:Int)/\1<=k/\k<=32/\2^(k-1)<=x/\x<2^k:=by
 have last:∀(y:Nat) (c:Nat),0<y->y<256->c<=24->(y:Int)=x/2^c->Al (Uk (y:Int) (c:Int)) λ r=>∃k:Nat,r=(k:Int)/\1<=k/\k<=32/\2^(k-1)<=x/\x<2^k:=by
  intro y c hy hy' hc e
  unfold Uk
  have e1:(IntKind.wrap .u8 (y:Int)).toNat=y:=by rw[w8];omega
  rw[Bo,As,e1]
  obtain⟨t1,t2,t3,t4⟩:=Cc3 hy' hy
  refine⟨⟨by rw[w8];omega,by rw[w8];show _<((A14.length:Nat):Int);rw[Bs1];omega⟩, ?_⟩
  show∃k:Nat,IntKind.wrap .i64 ((c:Int)+IntKind.wrap .i64 (((A14.getD y 0).toNat:Nat):Int))=(k:Int)/\_
  rw[Dh (x:=(((A14.getD y 0).toNat:Nat):Int)) (by omega) (by omega),Dh (by omega) (by omega)]
  generalize (A14.getD y 0).toNat=t at*
  refine⟨c+t,by omega,by omega,by omega, ?_, ?_⟩
  ·have p:(0:Int)<2^c:=Int.pow_pos (by decide)
   have q:=Int.ediv_mul_le x (b:=2^c) (by omega)
   rw[<-e]at q
   have q2:(2:Int)^(t-1)*2^c<=(y:Int)*2^c:=Int.mul_le_mul_of_nonneg_right (by exact_mod_cast t1) (by omega)
   rw[<-Int.pow_add]at q2
   rw[show c+t-1=t-1+c by omega]
   omega
  ·have p:(0:Int)<2^c:=Int.pow_pos (by decide)
   have q:=Int.lt_ediv_add_one_mul_self x p
   rw[<-e]at q
   have q3:(y:Int)<2^t:=by exact_mod_cast t2
   have q2:((y:Int)+1)*2^c<=2^t*2^c:=Int.mul_le_mul_of_nonneg_right (by omega) (by omega)
   rw[<-Int.pow_add]at q2
   rw[show c+t=t+c by omega]
   omega
 have mid:∀(y:Nat) (c:Nat),0<y->y<65536->c<=16->(y:Int)=x/2^c->Al (Uw (y:Int) (c:Int)) λ r=>∃k:Nat,r=(k:Int)/\1<=k/\k<=32/\2^(k-1)<=x/\x<2^k:=by
  intro y c hy hy' hc e
  unfold Uw
  simp only[Bf,Bo,decide_eq_true_eq]
  refine⟨λ h=>⟨by decide, ?_⟩,λ h=>last y c hy (by omega) (by omega) e⟩
  have e8:((2:Int)^(min (8:Int).toNat (IntKind.bits .u32)))=256:=by decide
  rw[e8,Int.fdiv_eq_ediv_of_nonneg _ (by decide),Dh (by omega) (by omega)]
  have:=last (y/256) (c+8) (by omega) (by omega) (by omega) (by
   rw[Int.pow_add,<-Int.ediv_ediv_of_nonneg (by exact Int.le_of_lt (Int.pow_pos (by decide))),<-e];simp)
  simpa using this
 unfold Aef
 simp only[Bf,Bo,decide_eq_true_eq]
 obtain⟨n,rfl⟩:=Int.eq_ofNat_of_zero_le (Int.le_of_lt h0)
 refine⟨λ h=>⟨by decide, ?_⟩,λ h=>mid n 0 (by omega) (by omega) (by omega) (by simp)⟩
 have e16:((2:Int)^(min (16:Int).toNat (IntKind.bits .u32)))=65536:=by decide
 rw[e16,Int.fdiv_eq_ediv_of_nonneg _ (by decide)]
 have:=mid (n/65536) 16 (by omega) (by omega) (by omega) (by simp)
 simpa using this
theorem B15 {x:Int} (h0:0<x) (h1:x<4294967296):Al (Gd x) λ r=>∃s:Nat,r=(s:Int)/\s<=31/\2147483648<=x*2^s/\x*2^s<4294967296:=by
 unfold Gd
 refine(Bpd h0 h1).bind ?_
 rintro r ⟨k,rfl,k1,k2,k3,k4⟩
 rw[As,Dh (by omega) (by omega)]
 have p:(0:Int)<2^(32-k):=Int.pow_pos (by decide)
 refine⟨32-k,by omega,by omega, ?_, ?_⟩
 ·have:(2:Int)^(k-1)*2^(32-k)<=x*2^(32-k):=Int.mul_le_mul_of_nonneg_right k3 (by omega)
  rw[<-Int.pow_add,show k-1+(32-k)=31 by omega]at this
  exact this
 ·have:x*2^(32-k)<2^k*2^(32-k):=Int.mul_lt_mul_of_pos_right k4 p
  rw[<-Int.pow_add,show k+(32-k)=32 by omega]at this
  exact this
theorem B4u (f:Nat->Int) (m:Nat):vlw f (m+1)=f 0+4294967296*vlw (λ i=>f (i+1)) m:=by
 rw[Nat.add_comm,Au3]
 simp[vlw,Nat.add_comm,Int.mul_comm]
def hi (f:Nat->Int) (n L:Nat):Int:=vlw (λ i=>f (n+i)) (L-n)
theorem A80 (f:Nat->Int) {n L:Nat} (h:n<L):hi f n L=f n+4294967296*hi f (n+1) L:=by
 unfold hi
 rw[show L-n=(L-(n+1))+1 by omega,B4u]
 simp only[Nat.add_zero]
 congr 2
 exact M3 λ j _=>by rw[show n+(j+1)=n+1+j by omega]
theorem Bk7 (f:Nat->Int) (L:Nat):hi f 0 L=vlw f L:=by unfold hi;simp
theorem B4h (f:Nat->Int) (L:Nat):hi f L L=0:=by unfold hi;simp[vlw]
theorem B1t (f:Nat->Int) {n L:Nat} (h:n<=L):vlw f L=vlw f n+hi f n L*4294967296^n:=by
 unfold hi
 have:=Au3 f n (L-n)
 rw[Nat.add_sub_cancel' h]at this
 exact this
theorem Bsn {f g:Nat->Int} {n L:Nat} (h:∀k,n<=k->k<L->f k=g k):hi f n L=hi g n L:=M3 λ j hj=>h _ (by omega) (by omega)
theorem B9a {T V v1 W1 top q r:Int} (hT:T<(top+1)*W1) (hV:v1*W1<=V) (e:q*v1+r=top) (hr:r<v1) (hq:0<=q) (hW:0<W1):T<(q+1)*V:=by
 have h1:(q+1)*(v1*W1)<=(q+1)*V:=Int.mul_le_mul_of_nonneg_left hV (by omega)
 have h2:(top+1)*W1<=((q+1)*v1)*W1:=Int.mul_le_mul_of_nonneg_right (by rw[Int.add_mul];omega) (by omega)
 rw[Int.mul_assoc]at h2
 omega
theorem B5s {T V vv W2 tt q:Int} (h:tt<q*vv) (hT:T<(tt+1)*W2) (hV:vv*W2<=V) (hq:0<=q) (hW:0<W2):T<q*V:=by
 have h1:q*(vv*W2)<=q*V:=Int.mul_le_mul_of_nonneg_left hV hq
 have h2:(tt+1)*W2<=(q*vv)*W2:=Int.mul_le_mul_of_nonneg_right (by omega) (by omega)
 rw[Int.mul_assoc]at h2
 omega
theorem B86 {T V vv W2 tt q:Int} (h:q*vv<=tt) (hT:tt*W2<=T) (hV:V<(vv+1)*W2) (hVV:4294967296*W2<=V) (hq:0<=q) (hq2:q<4294967296) (hW:0<W2):q*V<T+V:=by
 have h1:q*V<=q*((vv+1)*W2):=Int.mul_le_mul_of_nonneg_left (by omega) hq
 have h2:(q*vv)*W2<=tt*W2:=Int.mul_le_mul_of_nonneg_right h (by omega)
 have h3:q*W2<4294967296*W2:=Int.mul_lt_mul_of_pos_right hq2 hW
 have e:q*((vv+1)*W2)=(q*vv)*W2+q*W2:=by grind
 omega
theorem sm1 {s:Nat} (hs:s<=31):min s (IntKind.bits .u32)=s:=by
 simp only[IntKind.bits];omega
theorem sm2 {s:Nat} (hs:s<=31):min (IntKind.wrap .u64 ((32:Int) -(s:Int))).toNat (IntKind.bits .u32)=32-s:=by
 rw[w64];simp only[IntKind.bits];omega
theorem pq {s:Nat} (hs:s<=31):(2:Int)^s*2^(32-s)=4294967296:=by
 rw[<-Int.pow_add,show s+(32-s)=32 by omega];decide
theorem Aey (s:Nat):(0:Int)<2^s:=Int.pow_pos (by decide)
theorem B9t {s:Nat} (hs:s<=31) (y:Int):y/2^(32-s)=(y*2^s)/4294967296:=by
 rw[<-pq hs,Int.mul_comm y,Int.mul_ediv_mul_of_pos _ _ (Aey s)]
theorem Bxr {s:Nat} (hs:s<=31) (x:Int):(x*2^s)%4294967296=2^s*(x%2^(32-s)):=by
 rw[<-pq hs,Int.mul_comm x,Int.mul_emod_mul_of_pos _ _ (Aey s)]
theorem Bav {s:Nat} (hs:s<=31) (x:Int):0<=(x*2^s)%4294967296/\(x*2^s)%4294967296<=4294967296-2^s:=by
 refine⟨by omega, ?_⟩
 rw[Bxr hs]
 have h:=Aey s
 have hq:=Aey (32-s)
 have h1:=Int.emod_lt_of_pos x hq
 have:(2:Int)^s*(x%2^(32-s))<=2^s*(2^(32-s) -1):=Int.mul_le_mul_of_nonneg_left (by omega) (by omega)
 rw[Int.mul_sub,pq hs]at this
 omega
theorem Bu9 {s:Nat} (hs:s<=31) {y:Int} (h0:0<=y) (h1:y<4294967296):0<=(y*2^s)/4294967296/\(y*2^s)/4294967296<2^s:=by
 have h:=Aey s
 have hm:0<=y*2^s:=Int.mul_nonneg h0 (by omega)
 refine⟨by omega, ?_⟩
 have:y*2^s<4294967296*2^s:=Int.mul_lt_mul_of_pos_right h1 h
 exact Int.ediv_lt_of_lt_mul (by decide) (by rw[Int.mul_comm (2^s)];exact this)
def sd (f:Nat->Int) (s i:Nat):Int:=(f i*2^s)%4294967296+(if i=0 then 0 else(f (i-1)*2^s)/4294967296)
theorem Bvx {f:Nat->Int} {s:Nat} (hs:s<=31) (hf:∀i,0<=f i/\f i<4294967296) (i:Nat):0<=sd f s i/\sd f s i<4294967296:=by
 unfold sd
 obtain⟨h1,h2⟩:=Bav hs (f i)
 have h:=Aey s
 split
 ·omega
 ·obtain⟨h3,h4⟩:=Bu9 hs (hf (i-1)).1 (hf (i-1)).2
  omega
theorem B1z (f:Nat->Int) (s:Nat):∀k,vlw (sd f s) k+(if k=0 then 0 else(f (k-1)*2^s)/4294967296)*4294967296^k=vlw f k*2^s
 |0=>by simp[vlw]
 |k+1=>by
  have IH:=B1z f s k
  rw[vlw,vlw,if_neg (by omega),Nat.add_sub_cancel,Int.pow_succ]
  unfold sd at IH ⊢
  generalize (if k=0 then 0 else f (k-1)*2^s/4294967296)=c at*
  have e:(f k*2^s)%4294967296+(f k*2^s)/4294967296*4294967296=f k*2^s:=by omega
  generalize (f k*2^s)%4294967296=x at*
  generalize (f k*2^s)/4294967296=y at*
  generalize vlw (λ i=>f i*2^s%4294967296+if i=0 then 0 else f (i-1)*2^s/4294967296) k=z at*
  grind
theorem B6w {s:Nat} (hs:s<=31) {x y:Int} (h0:0<=y) (h1:y<4294967296):
 IntKind.wrap .u32 ((((BitVec.ofInt (IntKind.bits .u32) ((x*2^s)%4294967296)|||BitVec.ofInt (IntKind.bits .u32) (Int.fdiv y (2^(32-s)))).toNat:Nat):Int))=(x*2^s)%4294967296+(y*2^s)/4294967296:=by
 have hp:=Aey s
 have hq:=Aey (32-s)
 obtain⟨a1,a2⟩:=Bav hs x
 obtain⟨b1,b2⟩:=Bu9 hs h0 h1
 rw[Int.fdiv_eq_ediv_of_nonneg _ (by omega),B9t hs]
 have:=A8t (n:=IntKind.bits .u32) (k:=s) (a:=(x*2^s)%4294967296) (b:=(y*2^s)/4294967296) a1 b1 b2 (by show _<(2:Int)^32;omega) (by rw[Bxr hs];exact Int.mul_emod_right _ _)
 rw[this,w32]
 omega
theorem Bmo {a b:Int} (ha:0<=a):a.tdiv b=a/b:=Int.tdiv_eq_ediv_of_nonneg ha
theorem Amq {a b:Int} (ha:0<=a):a.tmod b=a%b:=Int.tmod_eq_emod_of_nonneg ha
theorem B4j {x y:Int} (h0:0<=x) (h1:x<4294967296) (h2:0<=y) (h3:y<4294967296):
 IntKind.wrap .u64 ((((BitVec.ofInt (IntKind.bits .u64) ((x*4294967296)%18446744073709551616)|||BitVec.ofInt (IntKind.bits .u64) (y%18446744073709551616)).toNat:Nat):Int))=x*4294967296+y:=by
 have e1:(x*4294967296)%18446744073709551616=x*4294967296:=by omega
 have e2:y%18446744073709551616=y:=by omega
 rw[e1,e2]
 have:=A8t (n:=IntKind.bits .u64) (k:=32) (a:=x*4294967296) (b:=y) (by omega) h2 (by simpa using h3) (by show _<(2:Int)^64;omega) (by show _%(2:Int)^32=0;omega)
 rw[this,w64]
 omega
theorem B3o {r w b:Int} (h0:0<=r) (h1:r<b) (h2:0<=w) (h3:w<4294967296) (hb:0<b):0<=(r*4294967296+w)/b/\(r*4294967296+w)/b<4294967296:=by
 refine⟨Int.ediv_nonneg (by omega) (by omega),Int.ediv_lt_of_lt_mul hb ?_⟩
 have:(r+1)*4294967296<=b*4294967296:=Int.mul_le_mul_of_nonneg_right (by omega) (by decide)
 rw[Int.mul_comm 4294967296]
 omega
theorem Bua {a b:List Int} (ha:WW a) (hb:WW b) (la:a.length<=1099511627776) (lb:b.length=1) (hb0:0<b.getD 0 0):
 Al (iter (λ v:(Int×Int×(List Int))=>Rn a b v.1 v.2.1 v.2.2) ((0:Int),(a.length:Int) -1,List.replicate a.length (0:Int)))
  λ r=>WW r.2/\r.2.length=a.length/\0<=r.1/\r.1<b.getD 0 0/\val a=val r.2*b.getD 0 0+r.1:=by
 refine Ci (I:=λ s:Int×Int×List Int=>∃n:Nat,s.2.1=(n:Int) -1/\n<=a.length/\WW s.2.2/\s.2.2.length=a.length/\(∀k,k<n->s.2.2.getD k 0=0)/\0<=s.1/\s.1<b.getD 0 0/\
  hi (λ i=>a.getD i 0) n a.length=hi (λ i=>s.2.2.getD i 0) n a.length*b.getD 0 0+s.1) (μ:=λ s:Int×Int×List Int=>(s.2.1+1).toNat)
  ⟨a.length,rfl,by omega,WW.replicate _,by simp,λ k _=>Ir _ k,by simp,hb0,by rw[B4h,B4h];simp⟩ ?_
 rintro⟨c,i,w⟩ ⟨n,h1,h2,h3,h4,h5,h6,h7,h8⟩
 simp only at h1 h3 h4 h5 h6 h7 h8
 subst h1
 unfold Rn
 simp only[Bf,Bo,As,decide_eq_true_eq,Es,Eb,Int.toNat_zero]
 try simp only[Af]
 have hb1:=hb 0
 have e0:IntKind.wrap .u64 (b.getD 0 0)=b.getD 0 0:=by rw[w64];omega
 rw[e0]
 refine⟨λ hn=> ?_,λ hn=> ?_⟩
 ·obtain⟨m,rfl⟩:∃m,n=m+1:=⟨n-1,by omega⟩
  have em:(((m+1:Nat):Int) -1).toNat=m:=by omega
  rw[em]
  have ham:=ha m
  simp only[Bwx,w64 (c*_),w64 (a.getD m 0)]
  rw[B4j h6 (by omega) ham.1 ham.2,Bmo (by omega),Amq (by omega),Dh (by omega) (by omega)]
  obtain⟨q1,q2⟩:=B3o h6 h7 ham.1 ham.2 hb0
  have e1:IntKind.wrap .u32 (IntKind.wrap .u64 ((c*4294967296+a.getD m 0)/b.getD 0 0))=(c*4294967296+a.getD m 0)/b.getD 0 0:=by rw[w32,w64];omega
  rw[e1]
  have r1:=Int.emod_nonneg (c*4294967296+a.getD m 0) (b:=b.getD 0 0) (by omega)
  have r2:=Int.emod_lt_of_pos (c*4294967296+a.getD m 0) hb0
  refine⟨by decide,by omega,by omega,by omega,by omega,by omega,by omega,⟨m,by omega,by omega,h3.set q1 q2,by simp[h4],λ k hk=> ?_,r1,r2, ?_⟩,by omega⟩
  ·rw[getD_set,if_neg (by omega)];exact h5 k (by omega)
  ·rw[A80 _ (by omega),A80 (λ i=>(w.set m _).getD i 0) (by omega),Bsn (f:=λ i=>(w.set m _).getD i 0) (g:=λ i=>w.getD i 0) (λ k hk _=>by rw[getD_set,if_neg (by omega)]),h8]
   have em':(w.set m ((c*4294967296+a.getD m 0)/b.getD 0 0)).getD m 0=(c*4294967296+a.getD m 0)/b.getD 0 0:=by rw[getD_set,if_pos ⟨rfl,by omega⟩]
   show a.getD m 0+_=((w.set m ((c*4294967296+a.getD m 0)/b.getD 0 0)).getD m 0+_)*_+_
   rw[em']
   have:=Int.mul_ediv_add_emod (c*4294967296+a.getD m 0) (b.getD 0 0)
   generalize (c*4294967296+a.getD m 0)/b.getD 0 0=q at*
   generalize (c*4294967296+a.getD m 0)%b.getD 0 0=r at*
   grind
 ·have:n=0:=by omega
  subst this
  rw[Bk7,Bk7]at h8
  refine⟨h3,h4,h6,h7, ?_⟩
  have e:vlw (λ i=>w.getD i 0) a.length=val w:=by rw[<-h4];rfl
  rw[e]at h8
  exact h8
theorem Blv {a b:List Int} (hb:WW b) {s:Nat} (hs:s<=31) (lb:b.length<=1099511627776) (u:List Int):
 Al (iter (λ v:(Int×(List Int)×(List Int))=>Ss a b (s:Int) v.1 v.2.1 v.2.2) ((0:Int),u,List.replicate b.length (0:Int)))
  λ r=>r.1=u/\WW r.2/\r.2.length=b.length/\∀j,j<b.length->r.2.getD j 0=sd (λ i=>b.getD i 0) s j:=by
 refine Ci (I:=λ t:Int×List Int×List Int=>∃n:Nat,t.1=(n:Int)/\n<=b.length/\t.2.1=u/\WW t.2.2/\t.2.2.length=b.length/\∀j,j<n->t.2.2.getD j 0=sd (λ i=>b.getD i 0) s j)
  (μ:=λ t:Int×List Int×List Int=>b.length-t.1.toNat) ⟨0,rfl,by omega,rfl,WW.replicate _,by simp,λ j hj=>by omega⟩ ?_
 rintro⟨i,u',w⟩ ⟨n,h1,h2,h3,h4,h5,h6⟩
 simp only at h1 h3 h4 h5 h6
 subst h1 h3
 have e0:IntKind.wrap .u64 (s:Int)=(s:Int):=by rw[w64];omega
 have fin:∀w':List Int,n<b.length->WW w'->w'.length=b.length->(∀j,j<n+1->w'.getD j 0=sd (λ i=>b.getD i 0) s j)->
  Al (Kb a b (n:Int) u' w' (s:Int)) (Afg (λ t:Int×List Int×List Int=>∃n:Nat,t.1=(n:Int)/\n<=b.length/\t.2.1=u'/\WW t.2.2/\t.2.2.length=b.length/\∀j,j<n->t.2.2.getD j 0=sd (λ i=>b.getD i 0) s j)
   (λ t:Int×List Int×List Int=>b.length-t.1.toNat) ((n:Int),u',w) (λ r=>r.1=u'/\WW r.2/\r.2.length=b.length/\∀j,j<b.length->r.2.getD j 0=sd (λ i=>b.getD i 0) s j)):=by
  intro w' hn k1 k2 k3
  unfold Kb
  rw[As,Es,Dh (by omega) (by omega)]
  exact⟨⟨n+1,by simp,by omega,rfl,k1,k2,k3⟩,by simp;omega⟩
 have ws:∀x:Int,sd (λ i=>b.getD i 0) s n=x->n<b.length->WW (w.set n x)/\(w.set n x).length=b.length/\∀j,j<n+1->(w.set n x).getD j 0=sd (λ i=>b.getD i 0) s j:=by
  rintro x rfl hn
  obtain⟨k1,k2⟩:=Bvx hs (f:=λ i=>b.getD i 0) hb n
  refine⟨h4.set k1 k2,by simp[h5],λ j hj=> ?_⟩
  rw[getD_set]
  split
  ·rename_i h;rw[h.1]
  ·exact h6 j (by omega)
 unfold Ss
 simp only[Bf,Bo,As,decide_eq_true_eq,Eb,List.length_set,Int.toNat_natCast,sm1 hs,sm2 hs,w32 (_*_),e0]
 try simp only[Af]
 refine⟨λ hn=>⟨by omega,by omega,by omega,λ hp=>⟨λ hsp=>⟨by omega, ?_⟩,λ hsz=> ?_⟩,λ hz=> ?_⟩,λ hn=> ?_⟩
 ·rw[Dh (by omega) (by omega)]
  have en:((n:Int) -1).toNat=n-1:=by omega
  rw[en]
  have hbn:=hb (n-1)
  have eg:(w.set n (b.getD n 0*2^s%4294967296)).getD n 0=b.getD n 0*2^s%4294967296:=by rw[getD_set,if_pos ⟨rfl,by omega⟩]
  rw[eg,B6w hs hbn.1 hbn.2,List.set_set]
  obtain⟨k1,k2,k3⟩:=ws _ (by unfold sd;rw[if_neg (by omega)]) (by omega)
  refine⟨by omega, ?_,by omega,fin _ (by omega) k1 k2 k3⟩
  rw[w64];omega
 ·have hs0:s=0:=by omega
  subst hs0
  obtain⟨k1,k2,k3⟩:=ws (b.getD n 0*2^0%4294967296) (by
   unfold sd
   have hbn:=hb (n-1)
   split
   ·simp
   ·show b.getD n 0*2^0%4294967296+b.getD (n-1) 0*2^0/4294967296=_
    simp only[Int.pow_zero,Int.mul_one];omega) (by omega)
  exact fin _ (by omega) k1 k2 k3
 ·have hn0:n=0:=by omega
  obtain⟨k1,k2,k3⟩:=ws (b.getD n 0*2^s%4294967296) (by unfold sd;rw[if_pos hn0];simp) (by omega)
  exact fin _ (by omega) k1 k2 k3
 ·have:n=b.length:=by omega
  subst this
  exact⟨trivial,h4,h5,h6⟩
theorem Bl3 {a:List Int} (ha:WW a) {s:Nat} (hs:s<=31) (la:a.length<=1099511627776) (r2:List Int×List Int) (hr:r2.1=List.replicate (a.length+1) 0):
 Al (iter (λ v:(Int×(List Int))=>Se a r2 (s:Int) v.1 v.2) ((0:Int),r2.1))
  λ r=>WW r/\r.length=a.length+1/\∀j,j<a.length+1->r.getD j 0=sd (λ i=>a.getD i 0) s j:=by
 have hl:r2.1.length=a.length+1:=by rw[hr];simp
 refine Ci (I:=λ t:Int×List Int=>∃n:Nat,t.1=(n:Int)/\n<=a.length+1/\WW t.2/\t.2.length=a.length+1/\(∀j,n<=j->t.2.getD j 0=0)/\∀j,j<n->t.2.getD j 0=sd (λ i=>a.getD i 0) s j)
  (μ:=λ t:Int×List Int=>a.length+1-t.1.toNat) ⟨0,rfl,by omega,by rw[hr];exact WW.replicate _,hl,λ j _=>by rw[hr];exact Ir _ j,λ j hj=>by omega⟩ ?_
 rintro⟨i,w⟩ ⟨n,h1,h2,h4,h5,h7,h6⟩
 simp only at h1 h4 h5 h6 h7
 subst h1
 have e0:IntKind.wrap .u64 (s:Int)=(s:Int):=by rw[w64];omega
 have fin:∀w':List Int,n<a.length+1->w'.length=a.length+1->(∀j,n+1<=j->w'.getD j 0=0)->(∀j,j<n+1->w'.getD j 0=sd (λ i=>a.getD i 0) s j)->
  Al (H2 a (n:Int) w' r2 (s:Int)) (Afg (λ t:Int×List Int=>∃n:Nat,t.1=(n:Int)/\n<=a.length+1/\WW t.2/\t.2.length=a.length+1/\(∀j,n<=j->t.2.getD j 0=0)/\∀j,j<n->t.2.getD j 0=sd (λ i=>a.getD i 0) s j)
   (λ t:Int×List Int=>a.length+1-t.1.toNat) ((n:Int),w) (λ r=>WW r/\r.length=a.length+1/\∀j,j<a.length+1->r.getD j 0=sd (λ i=>a.getD i 0) s j)):=by
  intro w' hn k2 k3 k4
  unfold H2
  rw[As,Es,Dh (by omega) (by omega)]
  refine⟨⟨n+1,by simp,by omega,λ j=> ?_,k2,k3,k4⟩,by simp;omega⟩
  by_cases hj:j<n+1
  ·rw[k4 j hj];exact Bvx hs (f:=λ i=>a.getD i 0) ha j
  ·rw[k3 j (by omega)];simp
 have mid:∀w':List Int,n<a.length+1->w'.length=a.length+1->(∀j,n+1<=j->w'.getD j 0=0)->(∀j,j<n->w'.getD j 0=sd (λ i=>a.getD i 0) s j)->w'.getD n 0=(a.getD n 0*2^s)%4294967296->
  Al (Np a (n:Int) w' r2 (s:Int)) (Afg (λ t:Int×List Int=>∃n:Nat,t.1=(n:Int)/\n<=a.length+1/\WW t.2/\t.2.length=a.length+1/\(∀j,n<=j->t.2.getD j 0=0)/\∀j,j<n->t.2.getD j 0=sd (λ i=>a.getD i 0) s j)
   (λ t:Int×List Int=>a.length+1-t.1.toNat) ((n:Int),w) (λ r=>WW r/\r.length=a.length+1/\∀j,j<a.length+1->r.getD j 0=sd (λ i=>a.getD i 0) s j)):=by
  intro w' hn k2 k3 k4 k5
  unfold Np
  simp only[Bf,Bo,decide_eq_true_eq,Int.toNat_natCast,sm2 hs,e0]
  try simp only[Af]
  have case0:(sd (λ i=>a.getD i 0) s n=(a.getD n 0*2^s)%4294967296)->Al (H2 a (n:Int) w' r2 (s:Int)) _:=λ h=>fin w' hn k2 k3 λ j hj=>by
   by_cases e:j=n
   ·subst e;rw[k5,h]
   ·exact k4 j (by omega)
  refine⟨λ hp=>⟨λ hsp=> ?_,λ hsz=>case0 ?_⟩,λ hz=>case0 (by unfold sd;rw[if_pos (by omega)];simp)⟩
  ·rw[Dh (by omega) (by omega)]
   have en:((n:Int) -1).toNat=n-1:=by omega
   have han:=ha (n-1)
   rw[en,k5,B6w hs han.1 han.2]
   refine⟨by omega,by omega,by rw[w64];omega,by omega,fin _ hn (by simp[k2]) (λ j hj=>by rw[getD_set,if_neg (by omega)];exact k3 j hj) λ j hj=> ?_⟩
   rw[getD_set]
   split
   ·rename_i h;rw[h.1];unfold sd;rw[if_neg (by omega)]
   ·exact k4 j (by omega)
  ·have hs0:s=0:=by omega
   subst hs0
   have han:=ha (n-1)
   unfold sd
   rw[if_neg (by omega)]
   show a.getD n 0*2^0%4294967296+a.getD (n-1) 0*2^0/4294967296=_
   simp only[Int.pow_zero,Int.mul_one];omega
 unfold Se
 simp only[Bf,Bo,As,decide_eq_true_eq,Eb,Int.toNat_natCast,sm1 hs,w32 (_*_),e0]
 try simp only[Af]
 refine⟨λ hn=>⟨λ hn2=>⟨by omega,by omega,by omega, ?_⟩,λ hn2=> ?_⟩,λ hn=> ?_⟩
 ·refine mid _ (by omega) (by simp[h5]) (λ j hj=>by rw[getD_set,if_neg (by omega)];exact h7 j (by omega)) (λ j hj=>by rw[getD_set,if_neg (by omega)];exact h6 j hj) (by rw[getD_set,if_pos ⟨rfl,by omega⟩])
 ·refine mid w (by omega) h5 (λ j hj=>h7 j (by omega)) h6 ?_
  have:a.getD n 0=0:=by rw[List.getD_eq_getElem?_getD,List.getElem?_eq_none (by omega)];rfl
  rw[h7 n (by omega),this];simp
 ·have:n=a.length+1:=by omega
  subst this
  exact⟨h4,h5,h6⟩
theorem Ev {x:Int} (h0:0<=x) (h1:x<18446744073709551616):IntKind.wrap .u64 x=x:=by rw[w64];omega
theorem Bx7 {j t:Nat} {u:List Int} (hu:WW u) (x:List Int) {r2:List Int×List Int} (y2:Int) (hv:WW r2.2) (ht:r2.2.length=t+2) (hl:u.length<=1099511627777) (hj:j+(t+2)<u.length)
 {T V top q0 r0:Int} (hv1:0<r2.2.getD (t+1) 0) (hT2:T<(top*4294967296+u.getD (j+t) 0+1)*4294967296^t) (hV:(r2.2.getD (t+1) 0*4294967296+r2.2.getD t 0)*4294967296^t<=V) (hTV:T<4294967296*V) (hVp:0<=V)
 (e0:q0*r2.2.getD (t+1) 0+r0=top) (hr0:0<=r0) (hr1:r0<4294967296) (hq0:0<=q0) (hq1:q0<18446744073709551616) (hT:T<(q0+1)*V) (htop:top<(r2.2.getD (t+1) 0+1)*4294967296):
 Al (iter (λ v:(Int×Int)=>So (j:Int) u x r2 y2 v.1 v.2) (q0,r0)) λ q=>0<=q/\q<4294967296/\T<(q+1)*V/\q*(r2.2.getD (t+1) 0*4294967296+r2.2.getD t 0)<=top*4294967296+u.getD (j+t) 0:=by
 refine Ci (I:=λ s:Int×Int=>0<=s.1/\s.1<18446744073709551616/\0<=s.2/\s.2<4294967296/\s.1*r2.2.getD (t+1) 0+s.2=top/\T<(s.1+1)*V) (μ:=λ s:Int×Int=>s.1.toNat) ⟨hq0,hq1,hr0,hr1,e0,hT⟩ ?_
 rintro⟨q,r⟩ ⟨a1,a2,a3,a4,a5,a6⟩
 simp only at a1 a2 a3 a4 a5 a6
 have w1:=hv (t+1)
 have w2:=hv t
 have wu:=hu (j+t)
 have J:1<=q->T<q*V->Al (N4 (j:Int) u x q r r2 y2) (Afg (λ s:Int×Int=>0<=s.1/\s.1<18446744073709551616/\0<=s.2/\s.2<4294967296/\s.1*r2.2.getD (t+1) 0+s.2=top/\T<(s.1+1)*V) (λ s:Int×Int=>s.1.toNat) (q,r)
  (λ q=>0<=q/\q<4294967296/\T<(q+1)*V/\q*(r2.2.getD (t+1) 0*4294967296+r2.2.getD t 0)<=top*4294967296+u.getD (j+t) 0)):=by
  intro hq hTq
  unfold N4
  rw[ht]
  rw[Dh (x:=((t+2:Nat):Int) -1) (by omega) (by omega)]
  have e1:(((t+2:Nat):Int) -1).toNat=t+1:=by omega
  simp only[Bf,Bo,As,decide_eq_true_eq,Es,Eb,e1,ht]
  try simp only[Af]
  rw[Ev (x:=r2.2.getD (t+1) 0) (by omega) (by omega),Ev (x:=r+r2.2.getD (t+1) 0) (by omega) (by omega),Ev (x:=q-1) (by omega) (by omega)]
  have e2:(q-1)*r2.2.getD (t+1) 0+(r+r2.2.getD (t+1) 0)=top:=by rw[Int.sub_mul];omega
  refine⟨by omega,λ hbig=> ?_,λ hsm=>⟨⟨by omega,by omega,by omega,by omega,e2,by rw[Int.sub_add_cancel];exact hTq⟩,by omega⟩⟩
  have hqW:q-1<4294967296:=by
   have h1:(q-1)*r2.2.getD (t+1) 0<4294967296*r2.2.getD (t+1) 0:=by rw[Int.add_mul]at htop;omega
   exact Int.lt_of_mul_lt_mul_right h1 (by omega)
  refine⟨by omega,hqW,by rw[Int.sub_add_cancel];exact hTq, ?_⟩
  obtain⟨m1,m2⟩:=Qs (x:=q-1) (by omega) hqW w2.1 w2.2
  rw[Int.mul_add,<-Int.mul_assoc,show(q-1)*r2.2.getD (t+1) 0=top-(r+r2.2.getD (t+1) 0) by omega,Int.sub_mul]
  omega
 unfold So
 rw[ht]
 rw[Dh (x:=((t+2:Nat):Int) -2) (by omega) (by omega),Dh (x:=(j:Int)+((t+2:Nat):Int)) (by omega) (by omega),Dh (x:=(j:Int)+((t+2:Nat):Int) -2) (by omega) (by omega)]
 have e1:(((t+2:Nat):Int) -2).toNat=t:=by omega
 have e2:((j:Int)+((t+2:Nat):Int) -2).toNat=j+t:=by omega
 simp only[Bf,Bo,As,decide_eq_true_eq,Eb,e1,e2,ht,Bwx,w64 (r*_),w64 (u.getD _ _)]
 try simp only[Af]
 rw[B4j a3 a4 wu.1 wu.2,Ev (x:=r2.2.getD t 0) (by omega) (by omega)]
 refine⟨λ hq=>J (by omega) ?_,λ hq=>⟨by omega,by decide,by omega,λ hc=> ?_,λ hc=> ?_⟩⟩
 ·have:4294967296*V<=q*V:=Int.mul_le_mul_of_nonneg_right hq hVp
  omega
 ·obtain⟨m1,m2⟩:=Qs (x:=q) a1 (by omega) w2.1 w2.2
  rw[Ev m1 (by omega)]at hc
  have hq1:1<=q:=by
   rcases(show q=0\/1<=q by omega)with h|h
   ·rw[h,Int.zero_mul]at hc;omega
   ·exact h
  refine J hq1 (B5s (tt:=top*4294967296+u.getD (j+t) 0) (vv:=r2.2.getD (t+1) 0*4294967296+r2.2.getD t 0) ?_ hT2 hV a1 (Ef t))
  rw[Int.mul_add,<-Int.mul_assoc,show q*r2.2.getD (t+1) 0=top-r by omega,Int.sub_mul]
  omega
 ·obtain⟨m1,m2⟩:=Qs (x:=q) a1 (by omega) w2.1 w2.2
  rw[Ev m1 (by omega)]at hc
  refine⟨a1,by omega,a6, ?_⟩
  rw[Int.mul_add,<-Int.mul_assoc,show q*r2.2.getD (t+1) 0=top-r by omega,Int.sub_mul]
  omega
theorem Bm3 {j:Nat} {u:List Int} (hu:WW u) (x:List Int) {r2:List Int×List Int} (y2:Int) (hv:WW r2.2) (hl:u.length<=1099511627777) (hj:j+r2.2.length<u.length) {q:Int} (hq0:0<=q) (hq1:q<4294967296):
 Al (iter (λ v:(Int×Int×Int×(List Int))=>Rv (j:Int) x r2 q y2 v.1 v.2.1 v.2.2.1 v.2.2.2) ((0:Int),(0:Int),(0:Int),u))
  λ r=>WW r.2.2/\r.2.2.length=u.length/\(∀k,j+r2.2.length<=k->r.2.2.getD k 0=u.getD k 0)/\0<=r.1/\r.1<=1/\0<=r.2.1/\r.2.1<4294967296/\
    val r.2.2=val u-q*val r2.2*4294967296^j+(r.1+r.2.1)*4294967296^(j+r2.2.length):=by
 refine Ci (I:=λ s:Int×Int×Int×List Int=>∃n:Nat,s.2.2.1=(n:Int)/\n<=r2.2.length/\WW s.2.2.2/\s.2.2.2.length=u.length/\(∀k,j+n<=k->s.2.2.2.getD k 0=u.getD k 0)/\0<=s.1/\s.1<=1/\0<=s.2.1/\s.2.1<4294967296/\
  val s.2.2.2=val u-q*vlw (λ i=>r2.2.getD i 0) n*4294967296^j+(s.1+s.2.1)*4294967296^(j+n)) (μ:=λ s:Int×Int×Int×List Int=>r2.2.length-s.2.2.1.toNat)
  ⟨0,rfl,by omega,hu,rfl,λ k _=>rfl,by simp,by simp,by simp,by simp,by simp[vlw]⟩ ?_
 rintro⟨b,c,i,w⟩ ⟨n,h1,h2,h3,h4,h5,h6,h7,h8,h9,h10⟩
 simp only at h1 h3 h4 h5 h6 h7 h8 h9 h10
 subst h1
 have fin:∀b' c' d:Int,n<r2.2.length->0<=b'->b'<=1->0<=c'->c'<4294967296->d%4294967296-b'*4294967296+c'*4294967296*0=d->d-c'*4294967296=w.getD (j+n) 0-b-q*r2.2.getD n 0-c->
  Al (Ny (j:Int) x (n:Int) b' c' (w.set (j+n) (d%4294967296)) r2 q y2) (Afg (λ s:Int×Int×Int×List Int=>∃n:Nat,s.2.2.1=(n:Int)/\n<=r2.2.length/\WW s.2.2.2/\s.2.2.2.length=u.length/\(∀k,j+n<=k->s.2.2.2.getD k 0=u.getD k 0)/\0<=s.1/\s.1<=1/\0<=s.2.1/\s.2.1<4294967296/\
   val s.2.2.2=val u-q*vlw (λ i=>r2.2.getD i 0) n*4294967296^j+(s.1+s.2.1)*4294967296^(j+n)) (λ s:Int×Int×Int×List Int=>r2.2.length-s.2.2.1.toNat) (b,c,(n:Int),w)
   (λ r=>WW r.2.2/\r.2.2.length=u.length/\(∀k,j+r2.2.length<=k->r.2.2.getD k 0=u.getD k 0)/\0<=r.1/\r.1<=1/\0<=r.2.1/\r.2.1<4294967296/\
    val r.2.2=val u-q*val r2.2*4294967296^j+(r.1+r.2.1)*4294967296^(j+r2.2.length))):=by
  intro b' c' d hn k1 k2 k3 k4 k5 k6
  unfold Ny
  rw[As,Es,Dh (by omega) (by omega)]
  refine⟨⟨n+1,by simp,by omega,h3.set (by omega) (by omega),by simp[h4],λ k hk=> ?_,k1,k2,k3,k4, ?_⟩,by simp;omega⟩
  ·rw[getD_set,if_neg (by omega)];exact h5 k (by omega)
  ·rw[Alx (by omega),h10,vlw]
   have p1:(4294967296:Int)^(j+(n+1))=4294967296^(j+n)*4294967296:=by rw[<-Nat.add_assoc,Int.pow_succ]
   have p2:(4294967296:Int)^(j+n)=4294967296^j*4294967296^n:=Int.pow_add _ _ _
   rw[p1,p2]
   generalize d%4294967296=o at*
   generalize (4294967296:Int)^j=Pj at*
   generalize (4294967296:Int)^n=Pn at*
   generalize vlw (λ i=>r2.2.getD i 0) n=vv at*
   generalize val u=vu at*
   clear h10 p1 p2
   have e:o=w.getD (j+n) 0-b-q*r2.2.getD n 0-c+c'*4294967296+b'*4294967296:=by omega
   rw[e]
   grind
 unfold Rv
 simp only[Bf,Bo,As,decide_eq_true_eq,Eb,Byi,w32,Int.toNat_natCast]
 try simp only[Af]
 rw[Dh (x:=(n:Int)+(j:Int)) (by omega) (by omega)]
 have e1:((n:Int)+(j:Int)).toNat=j+n:=by omega
 rw[e1]
 refine⟨λ hn=> ?_,λ hn=> ?_⟩
 ·have wv:=hv n
  have ww:=h3 (j+n)
  obtain⟨m1,m2⟩:=Qs hq0 hq1 wv.1 wv.2
  rw[Ev (x:=r2.2.getD n 0) (by omega) (by omega),Ev (x:=q*r2.2.getD n 0) (by omega) (by omega),Ev (x:=q*r2.2.getD n 0+c) (by omega) (by omega)]
  have p:(q*r2.2.getD n 0+c)%4294967296+(q*r2.2.getD n 0+c)/4294967296*4294967296=q*r2.2.getD n 0+c:=by omega
  have p1:0<=(q*r2.2.getD n 0+c)%4294967296/\(q*r2.2.getD n 0+c)%4294967296<4294967296:=by omega
  have p2:0<=(q*r2.2.getD n 0+c)/4294967296/\(q*r2.2.getD n 0+c)/4294967296<4294967296:=by omega
  rw[Dh (x:=w.getD (j+n) 0) (by omega) (by omega),Dh (x:=w.getD (j+n) 0-b) (by omega) (by omega),Dh (x:=(q*r2.2.getD n 0+c)%4294967296) (by omega) (by omega),Dh (x:=w.getD (j+n) 0-b-(q*r2.2.getD n 0+c)%4294967296) (by omega) (by omega)]
  refine⟨by omega,by decide,by omega,by omega,λ hneg=> ?_,λ hpos=> ?_⟩
  ·exact fin 1 _ _ (by omega) (by omega) (by omega) p2.1 p2.2 (by omega) (by omega)
  ·exact fin 0 _ _ (by omega) (by omega) (by omega) p2.1 p2.2 (by omega) (by omega)
 ·have:n=r2.2.length:=by omega
  subst this
  exact⟨h3,h4,h5,h6,h7,h8,h9,h10⟩
theorem Bhx {j:Nat} {u:List Int} (hu:WW u) (x:List Int) {r2:List Int×List Int} (q y2:Int) (hv:WW r2.2) (hl:u.length<=1099511627777) (hj:j+r2.2.length<u.length):
 Al (iter (λ v:(Int×Int×(List Int))=>R8 (j:Int) x r2 q y2 v.1 v.2.1 v.2.2) ((0:Int),(0:Int),u))
  λ r=>WW r.2/\r.2.length=u.length/\(∀k,j+r2.2.length<=k->r.2.getD k 0=u.getD k 0)/\0<=r.1/\r.1<=1/\val r.2+r.1*4294967296^(j+r2.2.length)=val u+val r2.2*4294967296^j:=by
 refine Ci (I:=λ s:Int×Int×List Int=>∃n:Nat,s.2.1=(n:Int)/\n<=r2.2.length/\WW s.2.2/\s.2.2.length=u.length/\(∀k,j+n<=k->s.2.2.getD k 0=u.getD k 0)/\0<=s.1/\s.1<=1/\
  val s.2.2+s.1*4294967296^(j+n)=val u+vlw (λ i=>r2.2.getD i 0) n*4294967296^j) (μ:=λ s:Int×Int×List Int=>r2.2.length-s.2.1.toNat)
  ⟨0,rfl,by omega,hu,rfl,λ k _=>rfl,by simp,by simp,by simp[vlw]⟩ ?_
 rintro⟨c,i,w⟩ ⟨n,h1,h2,h3,h4,h5,h6,h7,h10⟩
 simp only at h1 h3 h4 h5 h6 h7 h10
 subst h1
 unfold R8
 simp only[Bf,Bo,As,decide_eq_true_eq,Es,Eb,Byi,w32,Int.toNat_natCast]
 try simp only[Af]
 rw[Dh (x:=(n:Int)+(j:Int)) (by omega) (by omega)]
 have e1:((n:Int)+(j:Int)).toNat=j+n:=by omega
 rw[e1]
 refine⟨λ hn=> ?_,λ hn=> ?_⟩
 ·have wv:=hv n
  have ww:=h3 (j+n)
  rw[Ev (x:=r2.2.getD n 0) (by omega) (by omega),Ev (x:=w.getD (j+n) 0) (by omega) (by omega),Ev (x:=w.getD (j+n) 0+r2.2.getD n 0) (by omega) (by omega),Ev (x:=w.getD (j+n) 0+r2.2.getD n 0+c) (by omega) (by omega),Dh (by omega) (by omega)]
  refine⟨by omega,by omega,by omega,by decide,⟨n+1,by simp,by omega,h3.set (by omega) (by omega),by simp[h4],λ k hk=> ?_,by omega,by omega, ?_⟩,by simp;omega⟩
  ·rw[getD_set,if_neg (by omega)];exact h5 k (by omega)
  ·rw[Alx (by omega),vlw]
   have p1:(4294967296:Int)^(j+(n+1))=4294967296^(j+n)*4294967296:=by rw[<-Nat.add_assoc,Int.pow_succ]
   have p2:(4294967296:Int)^(j+n)=4294967296^j*4294967296^n:=Int.pow_add _ _ _
   have e:(w.getD (j+n) 0+r2.2.getD n 0+c)%4294967296+(w.getD (j+n) 0+r2.2.getD n 0+c)/4294967296*4294967296=w.getD (j+n) 0+r2.2.getD n 0+c:=by omega
   rw[p1]
   rw[p2]at h10 ⊢
   clear p2 p1
   generalize (w.getD (j+n) 0+r2.2.getD n 0+c)%4294967296=o at*
   generalize (w.getD (j+n) 0+r2.2.getD n 0+c)/4294967296=g at*
   generalize (4294967296:Int)^j=Pj at*
   generalize (4294967296:Int)^n=Pn at*
   generalize vlw (λ i=>r2.2.getD i 0) n=vv at*
   generalize val u=vu at*
   grind
 ·have:n=r2.2.length:=by omega
  subst this
  exact⟨h3,h4,h5,h6,h7,h10⟩
theorem Axt {F u:List Int} (hF:WW F) (hl:F.length=u.length) {m:Nat} (hm:m<=u.length) (ha:∀k,m<=k->F.getD k 0=u.getD k 0) (h0:hi (λ i=>u.getD i 0) m u.length=0):val F<4294967296^m:=by
 have h1:val F=vlw (λ i=>F.getD i 0) m+hi (λ i=>F.getD i 0) m F.length*4294967296^m:=B1t _ (by omega)
 rw[hl,Bsn (g:=λ i=>u.getD i 0) (λ k hk _=>ha k hk),h0]at h1
 have:=(Hl (f:=λ i=>F.getD i 0) m λ j _=>hF j).2
 omega
theorem Mo {a b c:Int} (h:a*c<b*c) (hc:0<c):a<b:=Int.lt_of_mul_lt_mul_right h (by omega)
theorem Ccy {f g:Nat->Int} {t:Nat} {T V:Int} (hf:∀i,0<=f i/\f i<4294967296) (hg:∀i,0<=g i/\g i<4294967296) (hT:T=vlw f (t+3)) (hV:V=vlw g (t+2)) (hTV:T<V*4294967296) (hv1:0<g (t+1)):
 f (t+2)<=g (t+1)/\T<((f (t+2)*4294967296+f (t+1))*4294967296+f t+1)*4294967296^t/\((f (t+2)*4294967296+f (t+1))*4294967296+f t)*4294967296^t<=T/\
   (g (t+1)*4294967296+g t)*4294967296^t<=V/\V<(g (t+1)*4294967296+g t+1)*4294967296^t/\4294967296*4294967296^t<=V/\
   T<(f (t+2)*4294967296+f (t+1)+1)*4294967296^(t+1)/\g (t+1)*4294967296^(t+1)<=V:=by
 obtain⟨f1,f2⟩:=Hl (f:=f) t (λ j _=>hf j)
 obtain⟨g1,g2⟩:=Hl (f:=g) t (λ j _=>hg j)
 have hp:=Ef t
 have eT:T=vlw f t+f t*4294967296^t+f (t+1)*(4294967296^t*4294967296)+f (t+2)*(4294967296^t*4294967296*4294967296):=by
  rw[hT];simp only[vlw,Int.pow_succ]
 have eV:V=vlw g t+g t*4294967296^t+g (t+1)*(4294967296^t*4294967296):=by rw[hV,vlw,vlw,Int.pow_succ]
 have a0:=hf t;have a1:=hf (t+1);have a2:=hf (t+2);have b0:=hg t;have b1:=hg (t+1)
 rw[Int.pow_succ]
 generalize (4294967296:Int)^t=W at*
 generalize vlw f t=lf at*
 generalize vlw g t=lg at*
 generalize f t=x0 at*
 generalize f (t+1)=x1 at*
 generalize f (t+2)=x2 at*
 generalize g t=y0 at*
 generalize g (t+1)=y1 at*
 have n0:0<=x0*W:=Int.mul_nonneg a0.1 (by omega)
 have n1:0<=x1*W:=Int.mul_nonneg a1.1 (by omega)
 have n2:0<=x2*W:=Int.mul_nonneg a2.1 (by omega)
 have n3:x0*W<=4294967295*W:=Int.mul_le_mul_of_nonneg_right (by omega) (by omega)
 have n4:x1*W<=4294967295*W:=Int.mul_le_mul_of_nonneg_right (by omega) (by omega)
 have m0:0<=y0*W:=Int.mul_nonneg b0.1 (by omega)
 have m1:1*W<=y1*W:=Int.mul_le_mul_of_nonneg_right (by omega) (by omega)
 have m3:y0*W<=4294967295*W:=Int.mul_le_mul_of_nonneg_right (by omega) (by omega)
 have e1:x1*(W*4294967296)=(x1*W)*4294967296:=by grind
 have e2:x2*(W*4294967296*4294967296)=(x2*W)*18446744073709551616:=by grind
 have e3:y1*(W*4294967296)=(y1*W)*4294967296:=by grind
 rw[e1,e2]at eT
 rw[e3]at eV
 refine⟨?_, ?_, ?_, ?_, ?_, ?_, ?_, ?_⟩
 ·have:x2*W<(y1+1)*W:=by rw[Int.add_mul];omega
  have:=Mo this hp
  omega
 ·have:((x2*4294967296+x1)*4294967296+x0+1)*W=x2*W*18446744073709551616+x1*W*4294967296+x0*W+W:=by grind
  omega
 ·have:((x2*4294967296+x1)*4294967296+x0)*W=x2*W*18446744073709551616+x1*W*4294967296+x0*W:=by grind
  omega
 ·have:(y1*4294967296+y0)*W=y1*W*4294967296+y0*W:=by grind
  omega
 ·have:(y1*4294967296+y0+1)*W=y1*W*4294967296+y0*W+W:=by grind
  omega
 ·omega
 ·have:(x2*4294967296+x1+1)*(W*4294967296)=x2*W*18446744073709551616+x1*W*4294967296+W*4294967296:=by grind
  omega
 ·omega
theorem Bhk {j t:Nat} {u out:List Int} (hu:WW u) (ho:WW out) {r2:List Int×List Int} (y2:Int) (hv:WW r2.2) (ht:r2.2.length=t+2) (hl:u.length<=1099511627777) (hj:j+(t+2)<u.length) (hjo:j<out.length)
 (hv1:0<r2.2.getD (t+1) 0) (hlt:val u<val r2.2*4294967296^(j+1)) (hoj:out.getD j 0=0) {Q:(Int×List Int×List Int)⊕(List Int×List Int)->Prop}
 (hQ:∀u' out':List Int,WW u'->u'.length=u.length->WW out'->out'.length=out.length->(∀k,k≠j->out'.getD k 0=out.getD k 0)->val u'<val r2.2*4294967296^j->val out'*val r2.2+val u'=val out*val r2.2+val u->Q (.inl ((j:Int) -1,u',out'))):
 Al (J8 r2 y2 (j:Int) u out) Q:=by
 have hpj:=Ef j
 have hvv:=hv.val
 -- the top of u
 have eu:val u=vlw (λ i=>u.getD i 0) j+hi (λ i=>u.getD i 0) j u.length*4294967296^j:=B1t _ (by omega)
 obtain⟨lu1,lu2⟩:=Hl (f:=λ i=>u.getD i 0) j (λ i _=>hu i)
 have eh:hi (λ i=>u.getD i 0) j u.length=vlw (λ i=>u.getD (j+i) 0) (t+3)+hi (λ i=>u.getD i 0) (j+(t+3)) u.length*4294967296^(t+3):=by
  unfold hi
  have:=Au3 (λ i=>u.getD (j+i) 0) (t+3) (u.length-(j+(t+3)))
  rw[show t+3+(u.length-(j+(t+3)))=u.length-j by omega]at this
  rw[this]
  congr 2
  exact M3 λ i _=>by show u.getD (j+(t+3+i)) 0=u.getD (j+(t+3)+i) 0;rw[Nat.add_assoc j (t+3) i]
 have hTV0:hi (λ i=>u.getD i 0) j u.length<val r2.2*4294967296:=by
  have:hi (λ i=>u.getD i 0) j u.length*4294967296^j<(val r2.2*4294967296)*4294967296^j:=by
   rw[Int.pow_succ]at hlt
   have:val r2.2*4294967296*4294967296^j=val r2.2*(4294967296^j*4294967296):=by grind
   omega
  exact Mo this hpj
 have hh0:hi (λ i=>u.getD i 0) (j+(t+3)) u.length=0:=by
  have h1:=(Hl (f:=λ i=>u.getD (j+i) 0) (t+3) (λ i _=>hu _)).1
  have h2:0<=hi (λ i=>u.getD i 0) (j+(t+3)) u.length:=(Hl _ (λ i _=>hu _)).1
  have h3:hi (λ i=>u.getD i 0) (j+(t+3)) u.length*4294967296^(t+3)<1*4294967296^(t+3):=by
   have h4:=hvv.2
   rw[ht]at h4
   have h5:(4294967296:Int)^(t+3)=4294967296^(t+2)*4294967296:=Int.pow_succ _ _
   omega
  have:=Mo h3 (Ef (t+3))
  omega
 rw[hh0,Int.zero_mul,Int.add_zero]at eh
 obtain⟨T,hT⟩:∃T,T=hi (λ i=>u.getD i 0) j u.length:=⟨_,rfl⟩
 rw[<-hT]at eu eh hTV0
 have hT0:0<=T:=by rw[eh];exact(Hl _ (λ i _=>hu _)).1
 obtain⟨t1,t2,t3,t4,t5,t6,t7,t8⟩:=Ccy (f:=λ i=>u.getD (j+i) 0) (g:=λ i=>r2.2.getD i 0) (λ i=>hu _) hv eh (by rw[<-ht];rfl) hTV0 hv1
 have w0:=hu (j+t);have w1:=hu (j+(t+1));have w2:=hu (j+(t+2));have z1:=hv (t+1)
 unfold J8
 rw[ht]
 rw[Dh (x:=(j:Int)+((t+2:Nat):Int)) (by omega) (by omega),Dh (x:=(j:Int)+((t+2:Nat):Int) -1) (by omega) (by omega),Dh (x:=((t+2:Nat):Int) -1) (by omega) (by omega)]
 have e1:((j:Int)+((t+2:Nat):Int)).toNat=j+(t+2):=by omega
 have e2:((j:Int)+((t+2:Nat):Int) -1).toNat=j+(t+1):=by omega
 have e3:(((t+2:Nat):Int) -1).toNat=t+1:=by omega
 simp only[Bf,Bo,Er,As,decide_eq_true_eq,e1,e2,e3,ht,Bwx]
 try simp only[Af]
 have f1:IntKind.wrap .u64 (u.getD (j+(t+2)) 0)=u.getD (j+(t+2)) 0:=Ev (by omega) (by omega)
 have f2:IntKind.wrap .u64 (r2.2.getD (t+1) 0)=r2.2.getD (t+1) 0:=Ev (by omega) (by omega)
 rw[f1,f2,w64 (_*4294967296),w64 (u.getD (j+(t+1)) 0),B4j w2.1 w2.2 w1.1 w1.2]
 obtain⟨top,htop⟩:∃top,top=u.getD (j+(t+2)) 0*4294967296+u.getD (j+(t+1)) 0:=⟨_,rfl⟩
 simp only[<-htop]at t2 t3 t7 ⊢
 have top0:0<=top:=by omega
 have top1:top<(r2.2.getD (t+1) 0+1)*4294967296:=by omega
 rw[Bmo top0,Amq top0]
 have qr:=Int.mul_ediv_add_emod top (r2.2.getD (t+1) 0)
 have q0:0<=top/r2.2.getD (t+1) 0:=Int.ediv_nonneg top0 (by omega)
 have q1:top/r2.2.getD (t+1) 0<=top:=Int.ediv_le_self _ top0
 have r0:=Int.emod_nonneg top (b:=r2.2.getD (t+1) 0) (by omega)
 have r1:=Int.emod_lt_of_pos top hv1
 rw[Ev q0 (by omega)]
 refine⟨λ _=>⟨by omega,by decide,by omega,by omega,by omega,by omega,by omega, ?_⟩,λ h=>by omega⟩
 refine(Bx7 hu out y2 hv ht hl hj hv1 t2 t4 (by omega) hvv.1 (by rw[Int.mul_comm];exact qr) r0 (by omega) q0 (by omega) (B9a t7 t8 (by rw[Int.mul_comm];exact qr) r1 q0 (Ef _)) top1).mono ?_
 rintro q ⟨p0,p1,p2,p3⟩
 have hup:=B86 p3 t3 t5 t6 p0 p1 (Ef t)
 refine(Bm3 hu out y2 hv hl (by rw[ht];exact hj) p0 p1).mono ?_
 rintro⟨b,c,w⟩ ⟨s1,s2,s3,s4,s5,s6,s7,s8⟩
 simp only at s1 s2 s3 s4 s5 s6 s7 s8
 rw[ht]at s3 s8
 simp only[Bf,Bo,Er,w32]
 try simp only[Af]
 have hw0:=s3 (j+(t+2)) (by omega)
 simp only[hw0]
 rw[Dh (x:=u.getD (j+(t+2)) 0) (by omega) (by omega),Dh (x:=u.getD (j+(t+2)) 0-b) (by omega) (by omega),Dh (x:=c) (by omega) (by omega),Dh (x:=u.getD (j+(t+2)) 0-b-c) (by omega) (by omega)]
 obtain⟨d,hd⟩:∃d,d=u.getD (j+(t+2)) 0-b-c:=⟨_,rfl⟩
 rw[<-hd]
 -- the end:out,with a word more
 have fin:∀(q':Int) (F:List Int),0<=q'->q'<4294967296->WW F->F.length=u.length->val F=val u-q'*val r2.2*4294967296^j->val F<val r2.2*4294967296^j->Al (Oa (j:Int) out q' F r2 y2) Q:=by
  intro q' F k1 k2 k3 k4 k5 k6
  unfold Oa
  simp only[Bo,As,Int.toNat_natCast,w32]
  try simp only[Af]
  rw[Dh (by omega) (by omega),show q'%4294967296=q' by omega]
  refine⟨by omega,hQ F _ k3 k4 (ho.set k1 k2) (by simp) (λ k hk=>by rw[getD_set,if_neg (by omega)]) k6 ?_⟩
  rw[Alx hjo,hoj,k5]
  generalize val r2.2=V at*
  generalize (4294967296:Int)^j=Wj at*
  grind
 have hpL:(4294967296:Int)^(j+(t+2)+1)=4294967296^(j+(t+2))*4294967296:=Int.pow_succ _ _
 have hhi:hi (λ i=>u.getD i 0) (j+(t+2)+1) u.length=0:=hh0
 -- after the subtraction
 have wset:∀o:Int,0<=o->o<4294967296->WW (w.set (j+(t+2)) o)/\(w.set (j+(t+2)) o).length=u.length/\val (w.set (j+(t+2)) o)<4294967296^(j+(t+2)+1)/\
  val (w.set (j+(t+2)) o)=val u-q*val r2.2*4294967296^j+(o-d)*4294967296^(j+(t+2)):=by
  intro o o1 o2
  have hW:=s1.set (n:=j+(t+2)) o1 o2
  refine⟨hW,by simp[s2],Axt hW (by simp[s2]) (by omega) (λ k hk=> ?_) hhi, ?_⟩
  ·rw[getD_set,if_neg (by omega)];exact s3 k (by omega)
  ·rw[Alx (by omega),hw0,s8,hd]
   generalize val r2.2=V at*
   generalize (4294967296:Int)^j=Wj at*
   generalize (4294967296:Int)^(j+(t+2))=WL at*
   grind
 have X:val u-q*val r2.2*4294967296^j=vlw (λ i=>u.getD i 0) j+(T-q*val r2.2)*4294967296^j:=by rw[eu,Int.sub_mul];omega
 refine⟨by omega,by omega,λ hneg=> ?_,λ hpos=> ?_⟩
 ·have hneg:d<0:=by simpa using hneg
  have ed:d%4294967296=d+4294967296:=by omega
  obtain⟨k1,k2,k3,k4⟩:=wset (d%4294967296) (by omega) (by omega)
  rw[ed]at k1 k2 k3 k4 ⊢
  have k5:val (w.set (j+(t+2)) (d+4294967296))=val u-q*val r2.2*4294967296^j+4294967296^(j+(t+2)+1):=by rw[k4,hpL,show d+4294967296-d=4294967296 by omega,Int.mul_comm 4294967296]
  have hTneg:T-q*val r2.2<0:=by
   have h1:(T-q*val r2.2)*4294967296^j<0*4294967296^j:=by omega
   exact Mo h1 hpj
  have hq1:1<=q:=by
   rcases(show q=0\/1<=q by omega)with h|h
   ·rw[h,Int.zero_mul]at hTneg;omega
   ·exact h
  refine(Bhx k1 out q y2 hv (by omega) (by rw[ht,k2];exact hj)).mono ?_
  rintro⟨c',w2⟩ ⟨g1,g2,g3,g4,g5,g6⟩
  simp only at g1 g2 g3 g4 g5 g6
  rw[ht]at g3 g6
  have hw2:=g3 (j+(t+2)) (by omega)
  rw[getD_set,if_pos ⟨rfl,by omega⟩]at hw2
  simp only[Bo,hw2]
  try simp only[Af]
  rw[show c'%4294967296=c' by omega,Ev (x:=q-1) (by omega) (by omega)]
  have hX:val u-(q-1)*val r2.2*4294967296^j=vlw (λ i=>u.getD i 0) j+(T-q*val r2.2+val r2.2)*4294967296^j:=by
   have:(q-1)*val r2.2*4294967296^j=q*val r2.2*4294967296^j-val r2.2*4294967296^j:=by grind
   rw[this,Int.add_mul];omega
  have hX0:0<=(T-q*val r2.2+val r2.2)*4294967296^j:=Int.mul_nonneg (by omega) (by omega)
  have hX1:(T-q*val r2.2+val r2.2)*4294967296^j<=(val r2.2-1)*4294967296^j:=Int.mul_le_mul_of_nonneg_right (by omega) (by omega)
  rw[Int.sub_mul]at hX1
  have hF:=g1.set (n:=j+(t+2)) (w:=(d+4294967296+c')%4294967296) (by omega) (by omega)
  have hFv:val (w2.set (j+(t+2)) ((d+4294967296+c')%4294967296))=val w2+((d+4294967296+c')%4294967296-(d+4294967296))*4294967296^(j+(t+2)):=by rw[Alx (by omega),hw2]
  have hFlt:val (w2.set (j+(t+2)) ((d+4294967296+c')%4294967296))<4294967296^(j+(t+2)+1):=by
   refine Axt hF (by simp[g2,s2]) (by omega) (λ k hk=> ?_) hhi
   rw[getD_set,if_neg (by omega),g3 k (by omega),getD_set,if_neg (by omega)]
   exact s3 k (by omega)
  have hXX:val u-q*val r2.2*4294967296^j+val r2.2*4294967296^j=val u-(q-1)*val r2.2*4294967296^j:=by grind
  have hov:(d+4294967296+c')%4294967296=d+4294967296+c'\/(d+4294967296+c')%4294967296=d+c':=by omega
  have hres:val (w2.set (j+(t+2)) ((d+4294967296+c')%4294967296))=val u-(q-1)*val r2.2*4294967296^j:=by
   rcases hov with h|h
   ·rw[h]at hFv hFlt ⊢
    rw[show d+4294967296+c'-(d+4294967296)=c' by omega]at hFv
    omega
   ·rw[h]at hFv ⊢
    rw[show d+c'-(d+4294967296)=c'-4294967296 by omega,Int.sub_mul]at hFv
    rw[Int.mul_comm 4294967296,<-hpL]at hFv
    omega
  refine⟨by omega,by omega,fin (q-1) _ (by omega) (by omega) hF (by simp[g2,s2]) hres ?_⟩
  rw[hres,hX]
  omega
 ·have hpos:0<=d:=by simpa using hpos
  have ed:d%4294967296=d:=by omega
  obtain⟨k1,k2,k3,k4⟩:=wset (d%4294967296) (by omega) (by omega)
  rw[ed]at k1 k2 k3 k4 ⊢
  rw[Int.sub_self,Int.zero_mul,Int.add_zero]at k4
  have hge:0<=T-q*val r2.2:=by
   have h0:=k1.val.1
   have h1:(-1)*4294967296^j<(T-q*val r2.2)*4294967296^j:=by omega
   have:=Mo h1 hpj
   omega
  have hle:(T-q*val r2.2)*4294967296^j<=(val r2.2-1)*4294967296^j:=Int.mul_le_mul_of_nonneg_right (by rw[Int.add_mul]at p2;omega) (by omega)
  rw[Int.sub_mul (val r2.2)]at hle
  exact fin q _ p0 p1 k1 k2 k4 (by omega)
end Go.Ab
