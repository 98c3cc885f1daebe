/- What a plain function gives, and numbers by words. The integers of package num: words, sums, comparison. The integers of package num: sum, opposite, difference, amount, comparison, product. Conditions: none beyond those that each theorem names. -/
import Derived.Test.YtgngflkahbpecaaGreatDoorP18
namespace Go.Ab
open Go
set_option linter.unusedVariables false
def Al {α:Type} (o:Option α) (Q:α->Prop):Prop:=∃r,o=some r/\Q r
section
variable {α β σ ρ:Type}
theorem As {a:α} {Q:α->Prop}:Al (some a) Q↔Q a:=by
 constructor
 ·rintro⟨r,h,k⟩;cases h;exact k
 ·intro h;exact⟨a,rfl,h⟩
theorem Bo {c:Prop} {_:Decidable c} {o:Option α} {Q:α->Prop}:Al (need c o) Q↔c/\Al o Q:=by
 constructor
 ·rintro⟨r,h,k⟩;obtain⟨h1,h2⟩:=A8 h;exact⟨h1,r,h2,k⟩
 ·rintro⟨h,k⟩;rw[B5a h];exact k
theorem Er {o:Option α} {f:α->Option β} {Q:β->Prop}:Al (Option.bind o f) Q↔Al o λ r=>Al (f r) Q:=by
 constructor
 ·rintro⟨r,h,k⟩;obtain⟨z,h1,h2⟩:=bind_some h;exact⟨z,h1,r,h2,k⟩
 ·rintro⟨z,h1,r,h2,k⟩;exact⟨r,by rw[h1];exact h2,k⟩
theorem Bf {c:Prop} {_:Decidable c} {x y:Option α} {Q:α->Prop}:Al (if c then x else y) Q↔(c->Al x Q)/\(¬c->Al y Q):=by
 by_cases h:c<;>simp[h]
theorem Al.mono {o:Option α} {R Q:α->Prop} (h:Al o R) (k:∀r,R r->Q r):Al o Q:=by
 obtain⟨r,h1,h2⟩:=h;exact⟨r,h1,k r h2⟩
theorem Al.bind {o:Option α} {f:α->Option β} {R:α->Prop} {Q:β->Prop} (h:Al o R) (k:∀r,R r->Al (f r) Q):Al (Option.bind o f) Q:=
 Er.2 (h.mono k)
theorem Al.and {o:Option α} {R Q:α->Prop} (h:Al o R) (k:Al o Q):Al o λ r=>R r/\Q r:=by
 obtain⟨r,h1,h2⟩:=h;obtain⟨r',h3,h4⟩:=k;rw[h1]at h3;cases h3;exact⟨r,h1,h2,h4⟩
def Afg (I:σ->Prop) (μ:σ->Nat) (s:σ) (Q:ρ->Prop):σ⊕ρ->Prop
 | .inl s'=>I s'/\μ s'<μ s
 | .inr r=>Q r
@[simp] theorem Es {I:σ->Prop} {μ:σ->Nat} {s s':σ} {Q:ρ->Prop}:Afg I μ s Q (.inl s')↔I s'/\μ s'<μ s:=Iff.rfl
@[simp] theorem Eb {I:σ->Prop} {μ:σ->Nat} {s:σ} {Q:ρ->Prop} {r:ρ}:Afg I μ s Q (.inr r)↔Q r:=Iff.rfl
theorem Ci {f:σ->Option (σ⊕ρ)} (I:σ->Prop) (μ:σ->Nat) {Q:ρ->Prop} {s:σ} (hs:I s) (h:∀s,I s->Al (f s) (Afg I μ s Q)):Al (iter f s) Q:=by
 refine Bxy I μ Q (λ s hI=> ?_) s hs
 obtain⟨o,h1,h2⟩:=h s hI
 cases o with
 |inl s'=>exact .inl ⟨s',h1,h2.1,h2.2⟩
 |inr r=>exact .inr ⟨r,h1,h2⟩
end
theorem w32 (x:Int):IntKind.wrap .u32 x=x%4294967296:=by simp[IntKind.wrap,IntKind.bits,IntKind.signed]
theorem w64 (x:Int):IntKind.wrap .u64 x=x%18446744073709551616:=by simp[IntKind.wrap,IntKind.bits,IntKind.signed]
theorem w8 (x:Int):IntKind.wrap .u8 x=x%256:=by simp[IntKind.wrap,IntKind.bits,IntKind.signed]
theorem Dh {x:Int} (h1: -9223372036854775808<=x) (h2:x<9223372036854775808):IntKind.wrap .i64 x=x:=by
 rw[IntKind.wrap_i64];omega
theorem B7c (x:Int):IntKind.wrap .i64 x=(x+9223372036854775808)%18446744073709551616-9223372036854775808:=by
 rw[IntKind.wrap_i64]
theorem Byi (x:Int):Int.fdiv x (2^(min (32:Int).toNat (IntKind.bits .u64)))=x/4294967296:=by
 have:((2:Int)^(min (32:Int).toNat (IntKind.bits .u64)))=4294967296:=by decide
 rw[this,Int.fdiv_eq_ediv_of_nonneg _ (by decide)]
theorem Bwx (x:Int):x*2^(min (32:Int).toNat (IntKind.bits .u64))=x*4294967296:=by
 have:((2:Int)^(min (32:Int).toNat (IntKind.bits .u64)))=4294967296:=by decide
 rw[this]
theorem A8t {n k:Nat} {a b:Int} (ha:0<=a) (hb:0<=b) (hbk:b<2^k) (hab:a+b<2^n) (hd:a%2^k=0):
 (((BitVec.ofInt n a|||BitVec.ofInt n b).toNat:Nat):Int)=a+b:=by
 obtain⟨a,rfl⟩:=Int.eq_ofNat_of_zero_le ha
 obtain⟨b,rfl⟩:=Int.eq_ofNat_of_zero_le hb
 have e:((2:Int)^n)=((2^n:Nat):Int):=by simp
 have e':((2:Int)^k)=((2^k:Nat):Int):=by simp
 rw[e]at hab
 rw[e']at hbk hd
 have hbk:b<2^k:=by exact_mod_cast hbk
 have hab:a+b<2^n:=by exact_mod_cast hab
 have hd:a%2^k=0:=by exact_mod_cast hd
 have h1:(BitVec.ofInt n (a:Int))=BitVec.ofNat n a:=by simp
 have h2:(BitVec.ofInt n (b:Int))=BitVec.ofNat n b:=by simp
 rw[h1,h2,BitVec.toNat_or,BitVec.toNat_ofNat,BitVec.toNat_ofNat,Nat.mod_eq_of_lt (by omega),Nat.mod_eq_of_lt (by omega)]
 have h3:a=2^k*(a/2^k):=by have:=Nat.div_add_mod a (2^k);omega
 have h4:=Nat.two_pow_add_eq_or_of_lt hbk (a/2^k)
 rw[<-h3]at h4
 rw[<-h4];simp
def vlw (f:Nat->Int):Nat->Int
 |0=>0
 |k+1=>vlw f k+f k*4294967296^k
def val (xs:List Int):Int:=vlw (λ i=>xs.getD i 0) xs.length
def WW (xs:List Int):Prop:=∀i,0<=xs.getD i 0/\xs.getD i 0<4294967296
theorem M3 {f g:Nat->Int}:∀{k:Nat},(∀j,j<k->f j=g j)->vlw f k=vlw g k
 |0,_=>rfl
 |k+1,h=>by rw[vlw,vlw,M3 (k:=k) (λ j hj=>h j (by omega)),h k (by omega)]
theorem Ef (k:Nat):(0:Int)<4294967296^k:=Int.pow_pos (by decide)
theorem Xu {a b:Nat} (h:a<=b):(4294967296:Int)^a<=4294967296^b:=by
 rcases Nat.lt_or_eq_of_le h with h|rfl
 ·exact Int.le_of_lt (Int.pow_lt_pow_of_lt (by decide) h)
 ·exact Int.le_refl _
theorem Hl {f:Nat->Int}:∀(k:Nat),(∀j,j<k->0<=f j/\f j<4294967296)->0<=vlw f k/\vlw f k<4294967296^k
 |0,_=>by simp[vlw]
 |k+1,h=>by
  obtain⟨h1,h2⟩:=Hl k (λ j hj=>h j (by omega))
  obtain⟨h3,h4⟩:=h k (by omega)
  have hp:=Ef k
  have h5:0<=f k*4294967296^k:=Int.mul_nonneg h3 (by omega)
  have h6:f k*4294967296^k<=4294967295*4294967296^k:=Int.mul_le_mul_of_nonneg_right (by omega) (by omega)
  rw[vlw,Int.pow_succ]
  constructor
  ·omega
  ·omega
theorem Au3 (f:Nat->Int) (k:Nat):∀m,vlw f (k+m)=vlw f k+vlw (λ i=>f (k+i)) m*4294967296^k
 |0=>by simp[vlw]
 |m+1=>by
  rw[<-Nat.add_assoc,vlw,Au3 f k m,vlw,Int.add_mul,Int.pow_add]
  grind
theorem A8r {f:Nat->Int}:∀{k:Nat},(∀j,j<k->f j=0)->vlw f k=0
 |0,_=>rfl
 |k+1,h=>by rw[vlw,A8r (k:=k) (λ j hj=>h j (by omega)),h k (by omega)];simp
theorem A0r {xs:List Int} {k:Nat} (h:xs.length<=k):vlw (λ i=>xs.getD i 0) k=val xs:=by
 obtain⟨m,rfl⟩:=Nat.exists_eq_add_of_le h
 rw[Au3,A8r (f:=λ i=>xs.getD (xs.length+i) 0),val]
 ·simp
 ·intro j _;simp
theorem WW.nil:WW []:=λ i=>by simp
theorem Anr (xs:List Int) (w:Int) (i:Nat):(xs++[w]).getD i 0=if i<xs.length then xs.getD i 0 else if i=xs.length then w else 0:=by
 simp only[List.getD_eq_getElem?_getD]
 split
 ·rename_i h;rw[List.getElem?_append_left h]
 ·split
  ·rename_i h;subst h;simp
  ·rw[List.getElem?_eq_none (by simp;omega)];rfl
theorem WW.append {xs:List Int} (h:WW xs) {w:Int} (h1:0<=w) (h2:w<4294967296):WW (xs++[w]):=by
 intro i
 rw[Anr]
 split
 ·exact h i
 ·split
  ·exact⟨h1,h2⟩
  ·simp
theorem Ayg:val []=0:=rfl
theorem Avy (xs:List Int) (w:Int):val (xs++[w])=val xs+w*4294967296^xs.length:=by
 unfold val
 rw[List.length_append,List.length_singleton,vlw,M3 (g:=λ i=>xs.getD i 0)]
 ·congr 2
  simp
 ·intro j hj
  show(xs++[w]).getD j 0=_
  rw[Anr,if_pos hj]
theorem Avq (w:Int):val [w]=w:=by simp[val,vlw]
theorem B2z (a b:Int):val [a,b]=a+b*4294967296:=by simp[val,vlw]
theorem WW.val {xs:List Int} (h:WW xs):0<=Go.Ab.val xs/\Go.Ab.val xs<4294967296^xs.length:=Hl _ λ j _=>h j
theorem Bi9 (xs:List Int) (n i:Nat):(xs.take n).getD i 0=if i<n then xs.getD i 0 else 0:=by
 simp only[List.getD_eq_getElem?_getD,List.getElem?_take]
 split<;>simp
theorem WW.take {xs:List Int} (h:WW xs) (n:Nat):WW (xs.take n):=by
 intro i;rw[Bi9];split
 ·exact h i
 ·simp
theorem B0q {xs:List Int} {n:Nat} (h:n<=xs.length):val (xs.take n)=vlw (λ i=>xs.getD i 0) n:=by
 unfold val
 rw[List.length_take,Nat.min_eq_left h]
 exact M3 λ j hj=>by show(xs.take n).getD j 0=_;rw[Bi9,if_pos hj]
theorem getD_set (xs:List Int) (n:Nat) (w:Int) (i:Nat):(xs.set n w).getD i 0=if i=n/\n<xs.length then w else xs.getD i 0:=by
 simp only[List.getD_eq_getElem?_getD,List.getElem?_set]
 split
 ·rename_i h;subst h
  split
  ·rename_i h;simp[h]
  ·rename_i h;simp[h]
 ·rename_i h
  rw[if_neg (by rintro⟨rfl,_⟩;exact h rfl)]
theorem WW.set {xs:List Int} (h:WW xs) {n:Nat} {w:Int} (h1:0<=w) (h2:w<4294967296):WW (xs.set n w):=by
 intro i;rw[getD_set];split
 ·exact⟨h1,h2⟩
 ·exact h i
theorem Ir (n i:Nat):(List.replicate n (0:Int)).getD i 0=0:=by
 simp only[List.getD_eq_getElem?_getD,List.getElem?_replicate]
 split<;>rfl
theorem WW.replicate (n:Nat):WW (List.replicate n 0):=λ i=>by rw[Ir];simp
theorem Cca {f g:Nat->Int} {k n:Nat} (hk:k<n) (hf:∀j,j<n->0<=f j/\f j<4294967296) (hg:∀j,j<n->0<=g j/\g j<4294967296) (hlt:f k<g k) (he:∀j,k<j->j<n->f j=g j):vlw f n<vlw g n:=by
 obtain⟨m,rfl⟩:∃m,n=(k+1)+m:=⟨n-(k+1),by omega⟩
 rw[Au3,Au3 g,M3 (f:=λ i=>f (k+1+i)) (g:=λ i=>g (k+1+i)) (λ j hj=>he _ (by omega) (by omega))]
 obtain⟨h1,h2⟩:=Hl (f:=f) k (λ j hj=>hf j (by omega))
 obtain⟨h3,h4⟩:=Hl (f:=g) k (λ j hj=>hg j (by omega))
 have hp:=Ef k
 have:(f k+1)*4294967296^k<=g k*4294967296^k:=Int.mul_le_mul_of_nonneg_right (by omega) (by omega)
 rw[Int.add_mul]at this
 simp only[vlw]
 omega
theorem B87 {f:Nat->Int} {k:Nat} (hf:∀j,j<k->0<=f j/\f j<4294967296) (ht:0<f k):4294967296^k<=vlw f (k+1):=by
 obtain⟨h1,h2⟩:=Hl (f:=f) k hf
 have:1*4294967296^k<=f k*4294967296^k:=Int.mul_le_mul_of_nonneg_right (by omega) (by have:=Ef k;omega)
 simp only[vlw];omega
def Top (xs:List Int):Prop:=xs≠[]->xs.getD (xs.length-1) 0≠0
theorem A9p {xs:List Int} (h:WW xs) (ht:Top xs) (hne:xs≠[]):4294967296^(xs.length-1)<=val xs:=by
 have hl:0<xs.length:=List.length_pos_iff.2 hne
 have:=B87 (f:=λ i=>xs.getD i 0) (k:=xs.length-1) (λ j _=>h j) (by have h1:=(h (xs.length-1)).1;have h2:=ht hne;show 0<xs.getD _ 0;omega)
 rw[Nat.sub_add_cancel hl]at this
 exact this
theorem Ky {xs ys:List Int} (hx:WW xs) (hy:WW ys) (ht:Top ys) (h:xs.length<ys.length):val xs<val ys:=by
 have h1:=hx.val.2
 have h2:=A9p hy ht (by rintro rfl;simp at h)
 have:(4294967296:Int)^xs.length<=4294967296^(ys.length-1):=Xu (by omega)
 omega
theorem A3a {xs:List Int} (h:WW xs) (ht:Top xs) {k:Nat} (hk:val xs<4294967296^k):xs.length<=k:=by
 by_cases hne:xs=[]
 ·subst hne;simp
 ·have h1:=A9p h ht hne
  by_cases hc:xs.length<=k
  ·exact hc
  ·have:(4294967296:Int)^k<=4294967296^(xs.length-1):=Xu (by omega)
   omega
theorem B2v {f g:Nat->Int} {k:Nat} {w:Int} (hk:g k=w) (hg:∀j,j≠k->g j=f j):∀{n:Nat},k<n->vlw g n=vlw f n+(w-f k)*4294967296^k
 |0,h=>by omega
 |n+1,h=>by
  by_cases hn:k=n
  ·subst hn
   rw[vlw,vlw,M3 (f:=g) (g:=f) (λ j hj=>hg j (by omega)),hk]
   grind
  ·rw[vlw,vlw,B2v hk hg (n:=n) (by omega),hg n (by omega)]
   grind
theorem Alx {xs:List Int} {k:Nat} (hk:k<xs.length) (w:Int):val (xs.set k w)=val xs+(w-xs.getD k 0)*4294967296^k:=by
 unfold val
 rw[List.length_set]
 exact B2v (f:=λ i=>xs.getD i 0) (by show(xs.set k w).getD k 0=w;rw[getD_set];simp[hk]) (λ j hj=>by show(xs.set k w).getD j 0=_;rw[getD_set,if_neg (by rintro⟨rfl,_⟩;exact hj rfl)]) hk
theorem Qs {x y:Int} (h1:0<=x) (h2:x<4294967296) (h3:0<=y) (h4:y<4294967296):0<=x*y/\x*y<=18446744065119617025:=by
 refine⟨Int.mul_nonneg h1 h3, ?_⟩
 have:x*y<=4294967295*4294967295:=Int.mul_le_mul (by omega) (by omega) h3 (by decide)
 omega
set_option linter.unusedSimpArgs false
def ZOk (z:A4):Prop:=
 (z.m=[]-> -9223372036854775808<=z.v/\z.v<9223372036854775808)/\(z.m≠[]->WW z.m/\Top z.m/\9223372036854775808<=val z.m)
def sgn (neg:Bool) (n:Int):Int:=if neg then -n else n
def Bi (z:A4):Int:=if z.m=[]then z.v else sgn z.neg (val z.m)
theorem Jl {α:Type} (l:List α):(List.isEmpty l=true)↔l=[]:=by cases l<;>simp
theorem Z3 {z:A4} (h:ZOk z):Al (Rs z) λ r=>r=Int.sign (Bi z):=by
 obtain⟨h1,h2⟩:=h
 unfold Rs Ug Ye Aft Bi sgn
 by_cases hm:z.m=[]
 ·simp only[hm,List.isEmpty_nil,Bool.not_true,Bool.false_eq_true,if_false,if_true,Bf,As,decide_eq_true_eq]
  refine⟨λ h=> ?_,λ h=>⟨λ h0=> ?_,λ h0=> ?_⟩⟩
  ·rw[Int.sign_eq_neg_one_of_neg h]
  ·rw[h0];rfl
  ·rw[Int.sign_eq_one_of_pos (by omega)]
 ·obtain⟨w,t,hv⟩:=h2 hm
  have hE:List.isEmpty z.m=false:=by cases hz:z.m<;>simp_all
  simp only[hE,Bool.not_false,Bool.false_eq_true,if_false,if_true,Bf,As,hm]
  refine⟨λ h=> ?_,λ h=> ?_⟩
  ·rw[if_pos h,Int.sign_eq_neg_one_of_neg (by omega)]
  ·rw[if_neg h,Int.sign_eq_one_of_pos (by omega)]
theorem Bxq {u:Int} (h0:0<=u) (h1:u<=9223372036854775808) (z:A4):Al (Un z u) λ r=>WW r.1/\Top r.1/\val r.1=u/\r.1.length<=2/\(r.2=true↔(z.v<0/\u≠0)):=by
 unfold Un
 simp only[Bf,As,Bo,Byi,w32,decide_eq_true_eq]
 refine⟨λ h=>⟨WW.nil,λ h=>(h rfl).elim,by rw[h];rfl,by simp,by simp[h]⟩,λ h=>⟨by decide,λ h2=> ?_,λ h2=>⟨by decide, ?_⟩⟩⟩
 ·have e:u%4294967296=u:=by omega
  rw[e]
  refine⟨λ i=> ?_,λ _=>by simpa using h,Avq u,by simp,by simp[h]⟩
  cases i<;>simp
  omega
 ·refine⟨λ i=> ?_,λ _=> ?_, ?_,by simp,by simp[h]⟩
  ·rcases i with _|_|i<;>simp<;>omega
  ·simp;omega
  ·rw[B2z];omega
theorem Bo0 {z:A4} (h:ZOk z):Al (Ib z) λ r=>WW r.1/\Top r.1/\sgn r.2 (val r.1)=Bi z/\(r.2=true->0<val r.1):=by
 obtain⟨h1,h2⟩:=h
 unfold Ib Bi
 by_cases hm:z.m=[]
 ·obtain⟨v0,v1⟩:=h1 hm
  simp only[hm,List.isEmpty_nil,Bool.not_true,Bool.false_eq_true,if_false,if_true,Bf,decide_eq_true_eq,w64]
  refine⟨λ h=> ?_,λ h=> ?_⟩
  ·have e:(0-z.v%18446744073709551616)%18446744073709551616= -z.v:=by omega
   rw[e]
   refine(Bxq (by omega) (by omega) z).mono ?_
   rintro r ⟨a1,a2,a3,a4,a5⟩
   have:r.2=true:=a5.2 ⟨h,by omega⟩
   refine⟨a1,a2, ?_,λ _=>by omega⟩
   rw[this,sgn,if_pos rfl,a3];omega
  ·have e:z.v%18446744073709551616=z.v:=by omega
   rw[e]
   refine(Bxq (by omega) (by omega) z).mono ?_
   rintro r ⟨a1,a2,a3,a4,a5⟩
   have:r.2=false:=by
    cases hr:r.2
    ·rfl
    ·exact(h (a5.1 hr).1).elim
   refine⟨a1,a2, ?_,λ k=>by rw[this]at k;cases k⟩
   rw[this,sgn,if_neg (by decide),a3]
 ·obtain⟨w,t,hv⟩:=h2 hm
  have hE:List.isEmpty z.m=false:=by cases hz:z.m<;>simp_all
  simp only[hE,Bool.not_false,if_true,As,if_neg hm]
  exact⟨w,t,trivial,λ _=>by omega⟩
theorem Ud {xs:List Int} (hw:WW xs) (hl:xs.length<=8796093022208) (neg:Bool):Al (Tn xs neg) λ z=>ZOk z/\Bi z=sgn neg (val xs):=by
 unfold Tn
 rw[Er]
 refine(Ci (I:=λ ys=>WW ys/\val ys=val xs/\ys.length<=8796093022208) (μ:=List.length) (Q:=λ ys=>WW ys/\val ys=val xs/\ys.length<=8796093022208/\Top ys) ⟨hw,rfl,hl⟩ ?_).mono ?_
 ·rintro ys ⟨y1,y2,y3⟩
  unfold Ar9
  simp only[Bf,Bo,As,decide_eq_true_eq,Es,Eb]
  try simp only[Af]
  refine⟨λ h=> ?_,λ h=>⟨y1,y2,y3,λ hne=> ?_⟩⟩
  ·rw[Dh (by omega) (by omega)]
   have e:((ys.length:Int) -1).toNat=ys.length-1:=by omega
   have ev:vlw (λ i=>ys.getD i 0) (ys.length-1+1)=val ys:=by rw[Nat.sub_add_cancel (by omega)];rfl
   rw[e]
   refine⟨by omega,λ h0=>⟨by omega,by omega,by omega,⟨?_, ?_, ?_⟩, ?_⟩,λ h0=>⟨y1,y2,y3,λ _=>h0⟩⟩
   ·simpa using y1.take _
   ·simp only[Int.toNat_zero,List.drop_zero,Nat.sub_zero]
    rw[B0q (by omega),<-y2,<-ev,vlw,h0];simp
   ·simp;omega
   ·simp;omega
  ·have:=List.length_pos_iff.2 hne;omega
 ·rintro ys ⟨y1,y2,y3,y4⟩
  have hJ:9223372036854775808<=val ys->Al (Ael neg ys) λ z=>ZOk z/\Bi z=sgn neg (val xs):=by
   intro hbig
   have hne:ys≠[]:=by rintro rfl;rw[Ayg]at hbig;omega
   unfold Ael
   rw[Bo,As]
   exact⟨hne,⟨λ h=>(hne h).elim,λ _=>⟨y1,y4,hbig⟩⟩,by rw[Bi,if_neg hne,y2]⟩
  rw[Bf]
  simp only[decide_eq_true_eq]
  refine⟨λ h2=> ?_,λ h2=>hJ ?_⟩
  ·rw[Er]
   have key:Al (iter (λ v:(Int×Int)=>Aky neg ys v.1 v.2) ((0:Int),IntKind.wrap .i64 (((ys.length:Nat):Int) -(1:Int)))) λ r=>r=val ys:=by
    rw[Dh (by omega) (by omega)]
    refine Ci (I:=λ s=> -1<=s.2/\s.2+1<=(ys.length:Int)/\0<=s.1/\(s.2+1=(ys.length:Int)->s.1=0)/\(0<=s.2->s.1<4294967296)/\s.1*4294967296^(s.2+1).toNat+vlw (λ i=>ys.getD i 0) (s.2+1).toNat=val ys) (μ:=λ s=>(s.2+1).toNat) ?_ ?_
    ·refine⟨by omega,by omega,by omega,λ _=>rfl,λ _=>by simp, ?_⟩
     rw[show((ys.length:Int) -1+1).toNat=ys.length by omega];simp[val]
    ·rintro⟨u,k⟩ ⟨a1,a2,a3,a4,a5,a6⟩
     simp only at a1 a2 a3 a4 a5 a6
     unfold Aky
     simp only[Bf,Bo,As,decide_eq_true_eq,Es,Eb,w64,Bwx]
     try simp only[Af]
     refine⟨λ hk=>⟨by decide,by omega, ?_⟩,λ hk=> ?_⟩
     ·obtain⟨n,rfl⟩:=Int.eq_ofNat_of_zero_le hk
      have hy:=y1 n
      have hu:=a5 hk
      have e1:(u*4294967296)%18446744073709551616=u*4294967296:=by omega
      have e2:(ys.getD n 0)%18446744073709551616=ys.getD n 0:=by omega
      rw[Int.toNat_natCast,e1,e2]
      have e3:=A8t (n:=IntKind.bits .u64) (k:=32) (a:=u*4294967296) (b:=ys.getD n 0) (by omega) hy.1 (by simpa using hy.2) (by show _<(2:Int)^64;omega) (by show _%(2:Int)^32=0;omega)
      rw[e3,Dh (by omega) (by omega)]
      have e4:(u*4294967296+ys.getD n 0)%18446744073709551616=u*4294967296+ys.getD n 0:=by omega
      rw[e4]
      have e5:((n:Int) -1+1).toNat=n:=by omega
      have e6:((n:Int)+1).toNat=n+1:=by omega
      rw[e5]
      rw[e6]at a6
      refine⟨⟨by omega,by omega,by omega,λ hl=>by omega,λ hn=> ?_, ?_⟩,by omega⟩
      ·have:u=0:=a4 (by omega)
       omega
      ·rw[<-a6,vlw,Int.pow_succ,Int.add_mul]
       show u*4294967296*4294967296^n+ys.getD n 0*4294967296^n+_=_
       grind
     ·have:(k+1).toNat=0:=by omega
      rw[this]at a6
      simpa [vlw]using a6
   refine key.mono ?_
   rintro r rfl
   have hv:=y1.val
   simp only[Bf,As,decide_eq_true_eq]
   refine⟨λ hs=> ?_,λ hs=>hJ (by omega)⟩
   refine⟨λ hn=> ?_,λ hn=> ?_⟩
   ·rw[Dh (x:=val ys) (by omega) (by omega),Dh (by omega) (by omega),hn]
    refine⟨⟨λ _=>by dsimp only;omega,λ h=>(h rfl).elim⟩, ?_⟩
    rw[Bi,if_pos rfl,sgn,if_pos rfl]
    show 0-val ys= -val xs
    omega
   ·rw[Dh (by omega) (by omega)]
    refine⟨⟨λ _=>by dsimp only;omega,λ h=>(h rfl).elim⟩, ?_⟩
    rw[Bi,if_pos rfl,sgn,if_neg hn]
    exact y2
  ·have h1:=A9p y1 y4 (by rintro rfl;simp at h2)
   have h3:(4294967296:Int)^2<=4294967296^(ys.length-1):=Xu (by omega)
   have:(4294967296:Int)^2=18446744073709551616:=by decide
   omega
theorem Anm {a b:List Int} (ha:WW a) (hb:WW b) (hl:b.length<=a.length) (hs:a.length<=1099511627776):Al (N6 a b) λ r=>WW r/\val r=val a+val b/\r.length=a.length+1:=by
 unfold N6
 simp only[Bo]
 rw[Dh (by omega) (by omega)]
 refine⟨by decide,by omega,by unfold At;omega, ?_⟩
 rw[Er]
 refine(Ci (I:=λ s:Int×Int×List Int=>∃n:Nat,s.2.1=(n:Int)/\n<=a.length/\WW s.2.2/\s.2.2.length=n/\0<=s.1/\s.1<=1/\val s.2.2+s.1*4294967296^n=vlw (λ i=>a.getD i 0) n+vlw (λ i=>b.getD i 0) n)
  (μ:=λ s:Int×Int×List Int=>a.length-s.2.1.toNat) (Q:=λ r=>WW r.2/\r.2.length=a.length/\0<=r.1/\r.1<=1/\val r.2+r.1*4294967296^a.length=val a+val b) ⟨0,rfl,by omega,WW.nil,rfl,by decide,by decide,by simp[vlw,Ayg]⟩ ?_).mono ?_
 ·rintro⟨c,i,out⟩ ⟨n,h1,h2,h3,h4,h5,h6,h7⟩
  simp only at h1 h3 h4 h5 h6 h7
  subst h1
  have step:∀s:Int,s=a.getD n 0+b.getD n 0+c->n<a.length->Al (N5 a b n out s) (Afg (λ s:Int×Int×List Int=>∃n:Nat,s.2.1=(n:Int)/\n<=a.length/\WW s.2.2/\s.2.2.length=n/\0<=s.1/\s.1<=1/\val s.2.2+s.1*4294967296^n=vlw (λ i=>a.getD i 0) n+vlw (λ i=>b.getD i 0) n) (λ s:Int×Int×List Int=>a.length-s.2.1.toNat) (c,(n:Int),out) (λ r=>WW r.2/\r.2.length=a.length/\0<=r.1/\r.1<=1/\val r.2+r.1*4294967296^a.length=val a+val b)):=by
   intro s hs' hn
   have ha':=ha n
   have hb':=hb n
   unfold N5
   simp only[Bo,As,Es,Byi,w32]
   rw[Dh (by omega) (by omega)]
   refine⟨by unfold At;simp;omega,by decide,⟨n+1,by simp,hn,h3.append (by omega) (by omega),by simp[h4],by omega,by omega, ?_⟩,by simp;omega⟩
   rw[Avy,h4,vlw,vlw,Int.pow_succ]
   have e:s%4294967296+s/4294967296*4294967296=a.getD n 0+b.getD n 0+c:=by omega
   generalize s%4294967296=o at*
   generalize s/4294967296=q at*
   grind
  unfold Yp
  simp only[Bf,Bo,As,decide_eq_true_eq,Eb,w64,Int.toNat_natCast]
  try simp only[Af]
  have ha':=ha n
  have hb':=hb n
  refine⟨λ hn=>⟨by omega,λ hm=>⟨by omega, ?_⟩,λ hm=> ?_⟩,λ hn=> ?_⟩
  ·exact step _ (by omega) (by omega)
  ·have:b.getD n 0=0:=by rw[List.getD_eq_getElem?_getD,List.getElem?_eq_none (by omega)];rfl
   exact step _ (by omega) (by omega)
  ·have:n=a.length:=by omega
   subst this
   refine⟨h3,h4,h5,h6, ?_⟩
   rw[h7,A0r hl];rfl
 ·rintro⟨c,out⟩ ⟨h1,h2,h3,h4,h5⟩
  simp only at h1 h2 h3 h4 h5
  simp only[Bo,As,w32]
  have e:c%4294967296=c:=by omega
  rw[e]
  refine⟨by unfold At;simp;omega,h1.append (by omega) (by omega), ?_,by simp[h2]⟩
  rw[Avy,h2];exact h5
theorem Bd7 {a b:List Int} (ha:WW a) (hb:WW b) (h1:a.length<=1099511627776) (h2:b.length<=1099511627776):Al (Up a b) λ r=>WW r/\val r=val a+val b/\r.length<=1099511627777:=by
 unfold Up
 simp only[Bf,decide_eq_true_eq]
 refine⟨λ h=> ?_,λ h=> ?_⟩
 ·exact(Anm hb ha (by omega) h2).mono λ r hr=>⟨hr.1,by rw[hr.2.1];omega,by omega⟩
 ·exact(Anm ha hb (by omega) h1).mono λ r hr=>⟨hr.1,hr.2.1,by omega⟩
theorem Apm {a b:List Int} (ha:WW a) (hb:WW b) (hl:b.length<=a.length) (hs:a.length<=1099511627776) (hv:val b<=val a):Al (Pu a b) λ r=>WW r/\val r=val a-val b/\r.length=a.length:=by
 unfold Pu
 simp only[Bo]
 refine⟨by decide,by omega,by unfold At;omega, ?_⟩
 rw[Er]
 refine(Ci (I:=λ s:Int×Int×List Int=>∃n:Nat,s.2.1=(n:Int)/\n<=a.length/\WW s.2.2/\s.2.2.length=n/\0<=s.1/\s.1<=1/\val s.2.2-s.1*4294967296^n=vlw (λ i=>a.getD i 0) n-vlw (λ i=>b.getD i 0) n)
  (μ:=λ s:Int×Int×List Int=>a.length-s.2.1.toNat) (Q:=λ r=>WW r/\val r=val a-val b/\r.length=a.length) ⟨0,rfl,by omega,WW.nil,rfl,by decide,by decide,by simp[vlw,Ayg]⟩ ?_).mono ?_
 ·rintro⟨c,i,out⟩ ⟨n,h1,h2,h3,h4,h5,h6,h7⟩
  simp only at h1 h3 h4 h5 h6 h7
  subst h1
  have ha':=ha n
  have hb':=hb n
  have step:∀d:Int,d=a.getD n 0-b.getD n 0-c->n<a.length->Al (No a b n out d) (Afg (λ s:Int×Int×List Int=>∃n:Nat,s.2.1=(n:Int)/\n<=a.length/\WW s.2.2/\s.2.2.length=n/\0<=s.1/\s.1<=1/\val s.2.2-s.1*4294967296^n=vlw (λ i=>a.getD i 0) n-vlw (λ i=>b.getD i 0) n) (λ s:Int×Int×List Int=>a.length-s.2.1.toNat) (c,(n:Int),out) (λ r=>WW r/\val r=val a-val b/\r.length=a.length)):=by
   intro d hd hn
   have fin:∀c' o:Int,0<=c'->c'<=1->0<=o->o<4294967296->o-c'*4294967296=d->Al (Nz a b n out c' o) (Afg (λ s:Int×Int×List Int=>∃n:Nat,s.2.1=(n:Int)/\n<=a.length/\WW s.2.2/\s.2.2.length=n/\0<=s.1/\s.1<=1/\val s.2.2-s.1*4294967296^n=vlw (λ i=>a.getD i 0) n-vlw (λ i=>b.getD i 0) n) (λ s:Int×Int×List Int=>a.length-s.2.1.toNat) (c,(n:Int),out) (λ r=>WW r/\val r=val a-val b/\r.length=a.length)):=by
    intro c' o q1 q2 q3 q4 q5
    unfold Nz
    simp only[Bo,As,Es,w32]
    rw[Dh (by omega) (by omega)]
    have e:o%4294967296=o:=by omega
    rw[e]
    refine⟨by unfold At;simp;omega,⟨n+1,by simp,hn,h3.append q3 q4,by simp[h4],q1,q2, ?_⟩,by simp;omega⟩
    rw[Avy,h4,vlw,vlw,Int.pow_succ]
    grind
   unfold No
   simp only[Bf,decide_eq_true_eq]
   refine⟨λ hneg=> ?_,λ hneg=>fin 0 d (by omega) (by omega) (by omega) (by omega) (by omega)⟩
   rw[Dh (by omega) (by omega)]
   exact fin 1 _ (by omega) (by omega) (by omega) (by omega) (by omega)
  unfold Ys
  simp only[Bf,Bo,As,decide_eq_true_eq,Eb,Int.toNat_natCast]
  try simp only[Af]
  rw[Dh (x:=a.getD n 0) (by omega) (by omega),Dh (x:=b.getD n 0) (by omega) (by omega),Dh (x:=a.getD n 0-c) (by omega) (by omega),Dh (x:=a.getD n 0-c-b.getD n 0) (by omega) (by omega)]
  refine⟨λ hn=>⟨by omega,λ hm=>⟨by omega, ?_⟩,λ hm=> ?_⟩,λ hn=> ?_⟩
  ·exact step _ (by omega) (by omega)
  ·have:b.getD n 0=0:=by rw[List.getD_eq_getElem?_getD,List.getElem?_eq_none (by omega)];rfl
   exact step _ (by omega) (by omega)
  ·have:n=a.length:=by omega
   subst this
   have e:vlw (λ i=>b.getD i 0) a.length=val b:=A0r hl
   have e2:vlw (λ i=>a.getD i 0) a.length=val a:=rfl
   rw[e,e2]at h7
   have hb2:=h3.val
   rw[h4]at hb2
   have hp:=Ef a.length
   have hc:c=0:=by
    rcases(show c=0\/c=1 by omega)with h|h
    ·exact h
    ·rw[h]at h7;omega
   rw[hc]at h7
   exact⟨h3,by omega,h4⟩
 ·intro r hr;exact As.2 hr
theorem Aqx {a b:List Int} (ha:WW a) (hb:WW b) (ta:Top a) (tb:Top b) (h1:a.length<=1099511627776) (h2:b.length<=1099511627776):Al (Pf a b) λ r=>r=Int.sign (val a-val b):=by
 unfold Pf
 simp only[Bf,As,Er,decide_eq_true_eq,Bool.not_eq_true',decide_eq_false_iff_not]
 refine⟨λ hne=>⟨λ hlt=> ?_,λ hge=> ?_⟩,λ heq=> ?_⟩
 ·have:=Ky ha hb tb (by omega)
  rw[Int.sign_eq_neg_one_of_neg (by omega)]
 ·have:=Ky hb ha ta (by omega)
  rw[Int.sign_eq_one_of_pos (by omega)]
 ·have hl:a.length=b.length:=by omega
  rw[Dh (by omega) (by omega)]
  refine(Ci (I:=λ i:Int=> -1<=i/\i<a.length/\∀j:Nat,i<j->a.getD j 0=b.getD j 0) (μ:=λ i=>(i+1).toNat)
   (Q:=λ r=>match r with| .inl _=>Int.sign (val a-val b)=0| .inr r=>r=Int.sign (val a-val b)) ⟨by omega,by omega,λ j hj=> ?_⟩ ?_).mono ?_
  ·rw[List.getD_eq_getElem?_getD,List.getD_eq_getElem?_getD,List.getElem?_eq_none (by omega),List.getElem?_eq_none (by omega)]
  ·rintro i ⟨i1,i2,i3⟩
   unfold Zp
   simp only[Bf,Bo,As,decide_eq_true_eq,Bool.not_eq_true',decide_eq_false_iff_not,Es,Eb]
   try simp only[Af]
   refine⟨λ hi=> ?_,λ hi=> ?_⟩
   ·obtain⟨n,rfl⟩:=Int.eq_ofNat_of_zero_le hi
    simp only[Int.toNat_natCast]
    have key:∀{f g:List Int},WW f->WW g->f.length=g.length->n<f.length->f.getD n 0<g.getD n 0->(∀j,n<j->f.getD j 0=g.getD j 0)->val f<val g:=by
     intro f g hf hg hlen hn hlt he
     unfold val
     rw[<-hlen]
     exact Cca (k:=n) hn (λ j _=>hf j) (λ j _=>hg j) hlt λ j hj _=>he j hj
    refine⟨by omega,by omega,λ hne=>⟨by omega,by omega,λ hlt=> ?_,λ hge=> ?_⟩,λ he=> ?_⟩
    ·have:=key ha hb hl (by omega) hlt λ j hj=>i3 j (by omega)
     rw[Int.sign_eq_neg_one_of_neg (by omega)]
    ·have:=key hb ha hl.symm (by omega) (by omega) λ j hj=>(i3 j (by omega)).symm
     rw[Int.sign_eq_one_of_pos (by omega)]
    ·rw[Dh (by omega) (by omega)]
     refine⟨⟨by omega,by omega,λ j hj=> ?_⟩,by omega⟩
     by_cases hjn:j=n
     ·subst hjn;simpa using he
     ·exact i3 j (by omega)
   ·have:val a=val b:=by
     unfold val
     rw[hl]
     exact M3 λ j _=>i3 j (by omega)
    rw[this];simp
  ·rintro r hr
   cases r with
   |inl u=>rw[As];exact hr.symm
   |inr r=>rw[As];exact hr
def ZLt (z:A4) (K:Nat):Prop:= -(4294967296^K)<Bi z/\Bi z<4294967296^K
theorem X4 {z:A4} (h:ZOk z) {K:Nat} (hK:ZLt z K):Al (Ib z) λ r=>WW r.1/\Top r.1/\sgn r.2 (val r.1)=Bi z/\(r.2=true->0<val r.1)/\r.1.length<=K:=by
 refine(Bo0 h).mono ?_
 rintro r ⟨a1,a2,a3,a4⟩
 refine⟨a1,a2,a3,a4,A3a a1 a2 ?_⟩
 obtain⟨k1,k2⟩:=hK
 rw[<-a3]at k1 k2
 unfold sgn at k1 k2
 split at k1
 ·omega
 ·rename_i h;rw[if_neg h]at k2;exact k2
theorem Br1 {a b:A4} (ha:ZOk a) (hb:ZOk b) {K:Nat} (hK:K<=1099511627776) (la:ZLt a K) (lb:ZLt b K):Al (X5 a b) λ c=>ZOk c/\Bi c=Bi a+Bi b:=by
 unfold X5
 refine(X4 ha la).bind ?_
 rintro x ⟨x1,x2,x3,x4,x5⟩
 refine(X4 hb lb).bind ?_
 rintro y ⟨y1,y2,y3,y4,y5⟩
 have hx:=x1.val
 have hy:=y1.val
 simp only[Bf,beq_iff_eq]
 refine⟨λ h=> ?_,λ h=> ?_⟩
 ·refine(Bd7 x1 y1 (by omega) (by omega)).bind ?_
  rintro r ⟨r1,r2,r3⟩
  refine(Ud r1 (by omega) x.2).bind ?_
  rintro z ⟨z1,z2⟩
  rw[As]
  refine⟨z1, ?_⟩
  rw[z2,<-x3,<-y3,<-h,r2]
  unfold sgn;split<;>omega
 ·refine(Aqx x1 y1 x2 y2 (by omega) (by omega)).bind ?_
  rintro s rfl
  simp only[Bf,decide_eq_true_eq]
  refine⟨λ hs=> ?_,λ hs=> ?_⟩
  ·have hle:val y.1<=val x.1:=by
    have:=(Int.sign_nonneg_iff (x:=val x.1-val y.1)).1 hs
    omega
   have hlen:y.1.length<=x.1.length:=by
    rcases Nat.lt_or_ge x.1.length y.1.length with hc|hc
    ·have:=Ky x1 y1 y2 hc;omega
    ·exact hc
   refine(Apm x1 y1 hlen (by omega) hle).bind ?_
   rintro r ⟨r1,r2,r3⟩
   refine(Ud r1 (by omega) x.2).bind ?_
   rintro z ⟨z1,z2⟩
   rw[As]
   refine⟨z1, ?_⟩
   rw[z2,<-x3,<-y3,r2]
   unfold sgn
   cases hx2:x.2<;>cases hy2:y.2<;>simp_all<;>omega
  ·have hle:val x.1<val y.1:=by
    have:¬0<=val x.1-val y.1:=λ hc=>hs ((Int.sign_nonneg_iff).2 hc)
    omega
   have hlen:x.1.length<=y.1.length:=by
    rcases Nat.lt_or_ge y.1.length x.1.length with hc|hc
    ·have:=Ky y1 x1 x2 hc;omega
    ·exact hc
   refine(Apm y1 x1 hlen (by omega) (by omega)).bind ?_
   rintro r ⟨r1,r2,r3⟩
   refine(Ud r1 (by omega) y.2).bind ?_
   rintro z ⟨z1,z2⟩
   rw[As]
   refine⟨z1, ?_⟩
   rw[z2,<-x3,<-y3,r2]
   unfold sgn
   cases hx2:x.2<;>cases hy2:y.2<;>simp_all<;>omega
theorem ZOk.small {v:Int} {n:Bool} (h1: -9223372036854775808<=v) (h2:v<9223372036854775808):ZOk ⟨v,[],n⟩:=⟨λ _=>⟨h1,h2⟩,λ h=>(h rfl).elim⟩
theorem By (v:Int) (n:Bool):Bi ⟨v,[],n⟩=v:=by simp[Bi]
theorem ZOk.range {z:A4} (h:ZOk z) (hm:z.m=[]): -9223372036854775808<=z.v/\z.v<9223372036854775808/\Bi z=z.v:=⟨(h.1 hm).1,(h.1 hm).2,by rw[Bi,if_pos hm]⟩
theorem A9a {a b:A4} (ha:ZOk a) (hb:ZOk b) {K:Nat} (hK:K<=1099511627776) (la:ZLt a K) (lb:ZLt b K):Al (Alw a b) λ c=>ZOk c/\Bi c=Bi a+Bi b:=by
 have J:=Br1 ha hb hK la lb
 unfold Alw
 simp only[Bf,Jl,beq_iff_eq,As]
 refine⟨λ h1=>⟨λ h2=>⟨λ h3=> ?_,λ _=>J⟩,λ _=>J⟩,λ _=>J⟩
 obtain⟨a1,a2,a3⟩:=ha.range h1
 obtain⟨b1,b2,b3⟩:=hb.range h2
 rw[decide_eq_decide,B7c]at h3
 rw[B7c,a3,b3]
 refine⟨ZOk.small (by omega) (by omega), ?_⟩
 rw[By]
 by_cases hp:0<b.v
 ·have:=h3.2 hp;omega
 ·have:¬_:=λ hc=>hp (h3.1 hc)
  omega
theorem Af2 {a:A4} (ha:ZOk a) {K:Nat} (hK:K<=1099511627776) (la:ZLt a K):Al (Yk a) λ c=>ZOk c/\Bi c= -Bi a:=by
 have J:Al (Ad5 a) λ c=>ZOk c/\Bi c= -Bi a:=by
  unfold Ad5
  refine(X4 ha la).bind ?_
  rintro x ⟨x1,x2,x3,x4,x5⟩
  refine(Ud x1 (by omega) (!x.2)).bind ?_
  rintro z ⟨z1,z2⟩
  rw[As]
  refine⟨z1, ?_⟩
  rw[z2,<-x3]
  unfold sgn
  cases x.2<;>simp
 unfold Yk
 simp only[Bf,Jl,As,Bool.not_eq_true',decide_eq_false_iff_not]
 refine⟨λ h1=>⟨λ h2=> ?_,λ _=>J⟩,λ _=>J⟩
 obtain⟨a1,a2,a3⟩:=ha.range h1
 rw[Dh (by omega) (by omega)]
 exact⟨ZOk.small (by omega) (by omega),by rw[By,a3];omega⟩
theorem ZLt.neg {a b:A4} {K:Nat} (h:ZLt a K) (e:Bi b= -Bi a):ZLt b K:=by unfold ZLt at*;omega
theorem Btd {a b:A4} (ha:ZOk a) (hb:ZOk b) {K:Nat} (hK:K<=1099511627776) (la:ZLt a K) (lb:ZLt b K):Al (Asg a b) λ c=>ZOk c/\Bi c=Bi a-Bi b:=by
 unfold Asg
 refine(Af2 hb hK lb).bind ?_
 rintro n ⟨n1,n2⟩
 refine(A9a ha n1 hK la (lb.neg n2)).bind ?_
 rintro z ⟨z1,z2⟩
 rw[As]
 exact⟨z1,by omega⟩
theorem Bc0 {a:A4} (ha:ZOk a) {K:Nat} (hK:K<=1099511627776) (la:ZLt a K):Al (Am0 a) λ c=>ZOk c/\Bi c=(Bi a).natAbs:=by
 unfold Am0
 refine(Z3 ha).bind ?_
 rintro s rfl
 simp only[Bf,decide_eq_true_eq,As]
 refine⟨λ h=> ?_,λ h=> ?_⟩
 ·have:=Int.sign_neg_iff.1 h
  refine(Af2 ha hK la).bind ?_
  rintro z ⟨z1,z2⟩
  rw[As]
  exact⟨z1,by omega⟩
 ·have:¬Bi a<0:=λ hc=>h (Int.sign_neg_iff.2 hc)
  exact⟨ha,by omega⟩
theorem Bfi {a b:A4} (ha:ZOk a) (hb:ZOk b) {K:Nat} (hK:K<=1099511627776) (la:ZLt a K) (lb:ZLt b K):Al (Asf a b) λ c=>c=Int.sign (Bi a-Bi b):=by
 have J:Al (Ad8 a b) λ c=>c=Int.sign (Bi a-Bi b):=by
  unfold Ad8
  refine(Btd ha hb hK la lb).bind ?_
  rintro z ⟨z1,z2⟩
  refine(Z3 z1).bind ?_
  rintro s rfl
  rw[As,z2]
 unfold Asf
 simp only[Bf,Jl,As,decide_eq_true_eq]
 refine⟨λ h1=>⟨λ h2=> ?_,λ _=>J⟩,λ _=>J⟩
 obtain⟨a1,a2,a3⟩:=ha.range h1
 obtain⟨b1,b2,b3⟩:=hb.range h2
 rw[a3,b3]
 refine⟨λ h=> ?_,λ h=>⟨λ h'=> ?_,λ h'=> ?_⟩⟩
 ·rw[Int.sign_eq_neg_one_of_neg (by omega)]
 ·rw[Int.sign_eq_one_of_pos (by omega)]
 ·rw[show a.v-b.v=0 by omega];rfl
theorem A9z {a:A4} (ha:ZOk a) {most:Int} (h0:0<=most) (hm:most<9223372036854775808):Al (Alr a most) λ r=>(r.2=true↔(-most<=Bi a/\Bi a<=most))/\(r.2=true->r.1=Bi a)/\(r.2=false->r.1=0):=by
 unfold Alr Ad2
 simp only[Bf,Jl,As,Bool.not_eq_true',decide_eq_true_eq,Bool.not_eq_true]
 refine⟨λ h=> ?_,λ h=> ?_⟩
 ·have hne:a.m≠[]:=by rintro e;rw[e]at h;simp at h
  obtain⟨w,t,hv⟩:=ha.2 hne
  have hz:Bi a=sgn a.neg (val a.m):=by rw[Bi,if_neg hne]
  unfold sgn at hz
  refine⟨?_,by simp,by simp⟩
  simp only[Bool.false_eq_true,false_iff]
  split at hz<;>omega
 ·have he:a.m=[]:=by
   cases hm:a.m with
   |nil=>rfl
   |cons x l=>rw[hm]at h;simp at h
  obtain⟨a1,a2,a3⟩:=ha.range he
  rw[Dh (by omega) (by omega),a3]
  refine⟨λ h1=>⟨?_,by simp,by simp⟩,λ h1=>⟨λ h2=>⟨?_,by simp,by simp⟩,λ h2=>⟨?_,by simp,by simp⟩⟩⟩
  ·simp only[Bool.false_eq_true,false_iff];omega
  ·simp only[Bool.false_eq_true,false_iff];omega
  ·simp only[true_iff];omega
theorem Bbh {x:Int} (h0:0<=x) (h1:x<18446744073709551616):(((BitVec.ofInt (IntKind.bits .u64) x&&& BitVec.ofInt (IntKind.bits .u64) (4294967295:Int)).toNat:Nat):Int)=x%4294967296:=by
 obtain⟨n,rfl⟩:=Int.eq_ofNat_of_zero_le h0
 have h1:n<18446744073709551616:=by omega
 have e1:(BitVec.ofInt (IntKind.bits .u64) (n:Int))=BitVec.ofNat 64 n:=by simp[IntKind.bits]
 have e2:(BitVec.ofInt (IntKind.bits .u64) (4294967295:Int))=BitVec.ofNat 64 4294967295:=by rfl
 rw[e1,e2]
 show((BitVec.toNat (BitVec.ofNat 64 n&&& BitVec.ofNat 64 4294967295):Nat):Int)=_
 rw[BitVec.toNat_and,BitVec.toNat_ofNat,BitVec.toNat_ofNat,Nat.mod_eq_of_lt (by omega)]
 have:(4294967295%2^64:Nat)=2^32-1:=by decide
 rw[this,Nat.and_two_pow_sub_one_eq_mod]
 omega
theorem Brx {a b:Int} (ha:0<=a) (ha':a<18446744073709551616) (hb:0<=b) (hb':b<18446744073709551616):Al (Ad7 a b) λ r=>r.1*18446744073709551616+r.2=a*b/\0<=r.1/\0<=r.2/\r.2<18446744073709551616:=by
 unfold Ad7
 simp only[Bo,As,Byi,w64]
 rw[Bbh ha ha',Bbh hb hb']
 obtain⟨a1,a0,rfl,h1,h2,h3,h4⟩:∃a1 a0,a=a1*4294967296+a0/\0<=a1/\a1<4294967296/\0<=a0/\a0<4294967296:=⟨a/4294967296,a%4294967296,by omega,by omega,by omega,by omega,by omega⟩
 obtain⟨b1,b0,rfl,k1,k2,k3,k4⟩:∃b1 b0,b=b1*4294967296+b0/\0<=b1/\b1<4294967296/\0<=b0/\b0<4294967296:=⟨b/4294967296,b%4294967296,by omega,by omega,by omega,by omega,by omega⟩
 rw[show(a1*4294967296+a0)/4294967296=a1 by omega,show(a1*4294967296+a0)%4294967296=a0 by omega,show(b1*4294967296+b0)/4294967296=b1 by omega,show(b1*4294967296+b0)%4294967296=b0 by omega]
 rw[show a0%18446744073709551616=a0 by omega,show b0%18446744073709551616=b0 by omega]
 obtain⟨p1,p2⟩:=Qs h3 h4 k3 k4
 obtain⟨q1,q2⟩:=Qs h1 h2 k3 k4
 obtain⟨r1,r2⟩:=Qs h3 h4 k1 k2
 obtain⟨s1,s2⟩:=Qs h1 h2 k1 k2
 have e:(a1*4294967296+a0)*(b1*4294967296+b0)=(a1*b1)*18446744073709551616+(a1*b0)*4294967296+(a0*b1)*4294967296+a0*b0:=by grind
 rw[e]
 generalize a0*b0=p at*
 generalize a1*b0=q at*
 generalize a0*b1=r at*
 generalize a1*b1=s at*
 rw[show p%18446744073709551616=p by omega,show q%18446744073709551616=q by omega,show r%18446744073709551616=r by omega,show s%18446744073709551616=s by omega]
 rw[show(q+p/4294967296)%18446744073709551616=q+p/4294967296 by omega]
 rw[Bbh (by omega) (by omega)]
 refine⟨by decide,by decide,by decide,by decide,by decide, ?_⟩
 omega
theorem Bnm {x y:List Int×Bool} (hx:WW x.1) (hy:WW y.1) (lx:x.1.length<=1099511627776) (ly:y.1.length<=1099511627776) {n:Nat} (hn:n<x.1.length) {out:List Int} (ho:WW out) (hl:out.length=x.1.length+y.1.length)
 (hz:∀k,n+y.1.length<=k->out.getD k 0=0):Al (iter (λ v:(Int×Int×(List Int))=>Ajt n x y v.1 v.2.1 v.2.2) ((0:Int),(0:Int),out))
 λ r=>WW r.2/\r.2.length=out.length/\(∀k,n+y.1.length<=k->r.2.getD k 0=0)/\0<=r.1/\r.1<4294967296/\val r.2+r.1*4294967296^(n+y.1.length)=val out+x.1.getD n 0*val y.1*4294967296^n:=by
 refine Ci (I:=λ s:Int×Int×List Int=>∃j:Nat,s.2.1=(j:Int)/\j<=y.1.length/\WW s.2.2/\s.2.2.length=out.length/\(∀k,n+y.1.length<=k->s.2.2.getD k 0=0)/\0<=s.1/\s.1<4294967296/\
  val s.2.2+s.1*4294967296^(n+j)=val out+x.1.getD n 0*vlw (λ i=>y.1.getD i 0) j*4294967296^n) (μ:=λ s:Int×Int×List Int=>y.1.length-s.2.1.toNat) ⟨0,rfl,by omega,ho,rfl,hz,by simp,by simp,by simp[vlw]⟩ ?_
 rintro⟨c,i,w⟩ ⟨j,h1,h2,h3,h4,h5,h6,h7,h8⟩
 simp only at h1 h3 h4 h5 h6 h7 h8
 subst h1
 unfold Ajt
 simp only[Bf,Bo,As,decide_eq_true_eq,Es,Eb,Byi,w32,w64,Int.toNat_natCast]
 try simp only[Af]
 rw[Dh (x:=(n:Int)+j) (by omega) (by omega)]
 have hnj:((n:Int)+j).toNat=n+j:=by omega
 rw[hnj]
 refine⟨λ hj=> ?_,λ hj=> ?_⟩
 ·have hw:=h3 (n+j)
  have hxn:=hx n
  have hyj:=hy j
  obtain⟨m1,m2⟩:=Qs hxn.1 hxn.2 hyj.1 hyj.2
  have e1:x.1.getD n 0%18446744073709551616=x.1.getD n 0:=by omega
  have e2:y.1.getD j 0%18446744073709551616=y.1.getD j 0:=by omega
  rw[e1,e2]
  have hP:vlw (λ i=>y.1.getD i 0) (j+1)=vlw (λ i=>y.1.getD i 0) j+y.1.getD j 0*4294967296^j:=rfl
  have hs:val (w.set (n+j) ((w.getD (n+j) 0+x.1.getD n 0*y.1.getD j 0+c)%4294967296))=val w+((w.getD (n+j) 0+x.1.getD n 0*y.1.getD j 0+c)%4294967296-w.getD (n+j) 0)*4294967296^(n+j):=Alx (by omega) _
  have e3:((w.getD (n+j) 0%18446744073709551616+x.1.getD n 0*y.1.getD j 0%18446744073709551616)%18446744073709551616+c)%18446744073709551616=w.getD (n+j) 0+x.1.getD n 0*y.1.getD j 0+c:=by omega
  rw[e3,Dh (by omega) (by omega)]
  refine⟨by omega,by omega,by omega,by omega,by decide,⟨j+1,by simp,by omega,h3.set (by omega) (by omega),by simp[h4],λ k hk=> ?_,by omega,by omega, ?_⟩,by omega⟩
  ·rw[getD_set,if_neg (by omega)];exact h5 k hk
  ·rw[hs,hP]
   have e:(w.getD (n+j) 0+x.1.getD n 0*y.1.getD j 0+c)%4294967296+(w.getD (n+j) 0+x.1.getD n 0*y.1.getD j 0+c)/4294967296*4294967296=w.getD (n+j) 0+x.1.getD n 0*y.1.getD j 0+c:=by omega
   generalize (w.getD (n+j) 0+x.1.getD n 0*y.1.getD j 0+c)%4294967296=o at*
   generalize (w.getD (n+j) 0+x.1.getD n 0*y.1.getD j 0+c)/4294967296=q at*
   have p1:(4294967296:Int)^(n+(j+1))=4294967296^(n+j)*4294967296:=by rw[<-Nat.add_assoc,Int.pow_succ]
   have p2:(4294967296:Int)^(n+j)=4294967296^n*4294967296^j:=Int.pow_add _ _ _
   rw[p1]
   rw[p2]at*
   clear hs e1 e2 e3 m1 m2 hP
   grind
 ·have:j=y.1.length:=by omega
  subst this
  exact⟨h3,h4,h5,h6,h7,h8⟩
theorem Bo8 {a b:A4} (ha:ZOk a) (hb:ZOk b) {K:Nat} (hK:K<=1099511627776) (la:ZLt a K) (lb:ZLt b K):Al (Um a b) λ c=>ZOk c/\Bi c=Bi a*Bi b:=by
 unfold Um
 refine(X4 ha la).bind ?_
 rintro x ⟨x1,x2,x3,x4,x5⟩
 refine(X4 hb lb).bind ?_
 rintro y ⟨y1,y2,y3,y4,y5⟩
 simp only[Bo]
 rw[Dh (by omega) (by omega)]
 refine⟨by omega,by omega,by unfold At;omega, ?_⟩
 have hlen:((x.1.length:Int)+(y.1.length:Int)).toNat=x.1.length+y.1.length:=by omega
 rw[hlen]
 have L:Al (iter (λ v:(Int×(List Int))=>Aj2 x y v.1 v.2) ((0:Int),List.replicate (x.1.length+y.1.length) (0:Int))) λ r=>WW r/\r.length=x.1.length+y.1.length/\val r=val x.1*val y.1:=by
  refine Ci (I:=λ s:Int×List Int=>∃n:Nat,s.1=(n:Int)/\n<=x.1.length/\WW s.2/\s.2.length=x.1.length+y.1.length/\(∀k,n+y.1.length<=k->s.2.getD k 0=0)/\val s.2=vlw (λ i=>x.1.getD i 0) n*val y.1)
   (μ:=λ s:Int×List Int=>x.1.length-s.1.toNat) ⟨0,rfl,by omega,WW.replicate _,by simp,λ k _=>Ir _ k, ?_⟩ ?_
  ·show val (List.replicate _ 0)=_
   rw[val,A8r λ j _=>Ir _ j];simp[vlw]
  ·rintro⟨i,w⟩ ⟨n,h1,h2,h3,h4,h5,h6⟩
   simp only at h1 h3 h4 h5 h6
   subst h1
   unfold Aj2
   simp only[Bf,Er,decide_eq_true_eq,As,Eb]
   refine⟨λ hn=> ?_,λ hn=> ?_⟩
   ·refine(Bnm (x:=x) (y:=y) x1 y1 (by omega) (by omega) (n:=n) (by omega) h3 h4 h5).mono ?_
    rintro⟨c,r⟩ ⟨r1,r2,r3,r4,r5,r6⟩
    simp only at r1 r2 r3 r4 r5 r6
    simp only[Bo,As,Es,w32]
    try simp only[Af]
    rw[Dh (x:=(n:Int)+(y.1.length:Int)) (by omega) (by omega),Dh (by omega) (by omega)]
    have e1:((n:Int)+(y.1.length:Int)).toNat=n+y.1.length:=by omega
    have e2:c%4294967296=c:=by omega
    rw[e1,e2]
    refine⟨by omega,⟨n+1,by simp,by omega,r1.set r4 r5,by simp[r2,h4],λ k hk=> ?_, ?_⟩,by omega⟩
    ·rw[getD_set,if_neg (by omega)];exact r3 k (by omega)
    ·rw[Alx (by omega),r3 _ (by omega),vlw]
     generalize vlw (λ i=>x.1.getD i 0) n=vx at*
     grind
   ·have:n=x.1.length:=by omega
    subst this
    exact⟨h3,h4,h6⟩
 refine L.bind ?_
 rintro r ⟨r1,r2,r3⟩
 refine(Ud r1 (by omega) _).bind ?_
 rintro z ⟨z1,z2⟩
 rw[As]
 refine⟨z1, ?_⟩
 rw[z2,r3,<-x3,<-y3]
 unfold sgn
 cases x.2<;>cases y.2<;>simp<;>grind
theorem Avv {a b:A4} (ha:ZOk a) (hb:ZOk b) {K:Nat} (hK:K<=1099511627776) (la:ZLt a K) (lb:ZLt b K):Al (W5 a b) λ c=>ZOk c/\Bi c=Bi a*Bi b:=by
 have J:=Bo8 ha hb hK la lb
 have M:a.m=[]->b.m=[]->∀u v:Int,u=(a.v.natAbs:Int)->v=(b.v.natAbs:Int)->Al (Aeb a b u v) λ c=>ZOk c/\Bi c=Bi a*Bi b:=by
  intro h1 h2 u v hu hv
  obtain⟨a1,a2,a3⟩:=ha.range h1
  obtain⟨b1,b2,b3⟩:=hb.range h2
  unfold Aeb
  refine(Brx (a:=u) (b:=v) (by omega) (by omega) (by omega) (by omega)).bind ?_
  rintro⟨hi,lo⟩ ⟨r1,r2,r3,r4⟩
  simp only at r1 r2 r3 r4
  simp only[Bf,As,decide_eq_true_eq,Bool.not_eq_true',beq_eq_false_iff_ne,ne_eq,decide_eq_decide]
  refine⟨λ h3=>⟨λ h4=> ?_,λ _=>J⟩,λ _=>J⟩
  rw[h3]at r1
  have r1:lo=u*v:=by omega
  rw[Dh (x:=lo) (by omega) (by omega),Dh (x:=0-lo) (by omega) (by omega),a3,b3]
  have hab:(a.v<0/\u= -a.v)\/(0<=a.v/\u=a.v):=by omega
  have hbb:(b.v<0/\v= -b.v)\/(0<=b.v/\v=b.v):=by omega
  refine⟨λ h5=>⟨ZOk.small (by omega) (by omega), ?_⟩,λ h5=>⟨ZOk.small (by omega) (by omega), ?_⟩⟩
  ·rw[By,r1]
   rcases hab with⟨g1,g2⟩|⟨g1,g2⟩<;>rcases hbb with⟨k1,k2⟩|⟨k1,k2⟩
   ·exact(h5 ⟨λ _=>k1,λ _=>g1⟩).elim
   ·rw[g2,k2];grind
   ·rw[g2,k2];grind
   ·exact(h5 ⟨λ _=>by omega,λ _=>by omega⟩).elim
  ·rw[By,r1]
   rcases hab with⟨g1,g2⟩|⟨g1,g2⟩<;>rcases hbb with⟨k1,k2⟩|⟨k1,k2⟩
   ·rw[g2,k2];grind
   ·exact(h5 (by rw[iff_def];omega)).elim
   ·exact(h5 (by rw[iff_def];omega)).elim
   ·rw[g2,k2]
 unfold W5 Akg
 simp only[Bf,Jl,decide_eq_true_eq,w64]
 refine⟨λ h1=>⟨λ h2=> ?_,λ _=>J⟩,λ _=>J⟩
 obtain⟨a1,a2,a3⟩:=ha.range h1
 obtain⟨b1,b2,b3⟩:=hb.range h2
 exact⟨λ _=>⟨λ _=>M h1 h2 _ _ (by omega) (by omega),λ _=>M h1 h2 _ _ (by omega) (by omega)⟩,λ _=>⟨λ _=>M h1 h2 _ _ (by omega) (by omega),λ _=>M h1 h2 _ _ (by omega) (by omega)⟩⟩
end Go.Ab
