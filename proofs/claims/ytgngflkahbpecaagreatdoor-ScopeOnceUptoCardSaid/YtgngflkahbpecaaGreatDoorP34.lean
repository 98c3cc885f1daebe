/- That a whole class is made. That classes are looked at and compared. That a whole class extends nothing and is whole as it is: the law's function returns true. Conditions: none beyond those that each theorem names. -/
import Derived.Test.YtgngflkahbpecaaGreatDoorP33
set_option linter.unusedSimpArgs false
namespace Go.Ab
open Go
set_option linter.unusedVariables false
theorem Btx {l:List Aa} {q:Nat} {s:List UInt8} (h:B6q l q s) (hs:s≠A90):(l.getD q Ag).Name≠A90:=by
 rcases h with h|⟨p,h⟩
 ·rw[h];exact hs
 ·rw[h]
  intro e
  have:(46:UInt8)∈A90:=by rw[<-e];simp
  revert this
  decide
def Bc1 (c:Ax):List UInt8:=c.Name
structure CI (l:List Aa) (one:Prop) (n:Nat) (nm:List (List UInt8)) (rs:List (List UInt8×Bool)) (C P:List Ax):Prop where
 cc:∀x∈C,CC l x
 cl:C.length<=n
 cn:C.map Bc1=nm
 cr:one->C.map nr=rs
 pt:∀x∈P,TR l x
 pl:P.length<=n
def GM (l:List Aa) (M:MM):Prop:=∀p∈M,PM l p.2/\p.2.length<=500
theorem Ba9 {β:Type} {x:Int} {v:β}:∀{l:List (Int×β)},Kh kqI x l=some v->∃y,(y,v)∈l
 |[],h=>by cases h
 |(y,w)::r,h=>by
  unfold Kh at h
  split at h
  ·cases h;exact⟨y,List.mem_cons_self ..⟩
  ·obtain⟨z,hz⟩:=Ba9 h;exact⟨z,List.mem_cons_of_mem _ hz⟩
theorem GM.get {l:List Aa} {M:MM} (h:GM l M) (x:Int):PM l ((Kh kqI x M).getD [])/\((Kh kqI x M).getD []).length<=500:=by
 cases hm:Kh kqI x M with
 |none=>exact⟨PM.nil,by simp⟩
 |some v=>obtain⟨y,hy⟩:=Ba9 hm;exact h _ hy
def cE (c:Aa) (M:MM) (E:List Wo) (K:List Mi) (W:List G5) (j:Int) (v:List Ax×List Ax):List Ax×Int×Int×Aa×MM×List Ax×List Wo×List Mi×List G5×List Ax×Unit:=(c.Comps,(c.Comps.length:Int),j,c,M,v.1,E,K,W,v.2,())
theorem B11 {l:List Aa} (hl:LV l) {k:Int} {L:List Ai} {i:Nat} (hi:i<=60) {c:Aa} (hc:CB c) (hv:VS c) {M:MM} (hM:GM l M) {E:List Wo} {K:List Mi} {W:List G5} {one:Prop} (hone:one->(Kh kqI (L.getD i Be).class_ M).getD []=[]) {nm:List (List UInt8)} {rs:List (List UInt8×Bool)} {C P:List Ax} (h:CI l one (40*i) nm rs C P)
 {S:(H (Mj l k L i))⊕(Aa×Aa×Int)->Prop} (bad:∀a b e,e≠0->S (.inr (a,b,e))) (fin:∀C' P',CI l one (40*(i+1)) (nm++c.Comps.map Bc1) (rs++c.Comps.map nr) C' P'->S (.inl (c,M,C',E,K,W,P',()))):
 Al (iter (Ae6 l k L i) (c.Comps,(c.Comps.length:Int),0,c,M,C,E,K,W,P,())) S:=by
 have hcl:=hv.cl
 refine Cf (cE c M E K W) c.Comps.length (by omega) (λ j v=>CI l one (40*i+j) (nm++(c.Comps.take j).map Bc1) (rs++(c.Comps.take j).map nr) v.1 v.2) (s:=(C,P)) (by simpa using h) λ j v hj hI=> ?_
 obtain⟨C,P⟩:=v
 simp only at hI
 have h1:=hI.cl
 have h2:=hI.pl
 have hx:=hc.cat j
 unfold Ae6 cE
 simp only[gv,Bg,Ag4]
 refine⟨λ h3=> ?_,λ h3=> ?_⟩
 ·have hm8:=hv.cm _ (Fc An h3)
  have hd:=hv.d.cs _ (Fc An h3)
  have hmg:=hM.get (L.getD i Be).class_
  have j9:∀t:List UInt8,(t=A90\/∃k,cls l t=some k)->(t=A90↔(c.Comps.getD j An).Type_=A90)->
   Al (Afj l k L i c.Comps (c.Comps.length:Int) j c (⟨(c.Comps.getD j An).Name,t,(c.Comps.getD j An).Var,(c.Comps.getD j An).Flow,(c.Comps.getD j An).Size,(c.Comps.getD j An).Scope,(c.Comps.getD j An).Replace,(c.Comps.getD j An).Cond,(c.Comps.getD j An).Value,(c.Comps.getD j An).Unit,(c.Comps.getD j An).Mods⟩,M,C,E,K,W,P,())) (Az1 (cE c M E K W) c.Comps.length j (λ j v=>CI l one (40*i+j) (nm++(c.Comps.take j).map Bc1) (rs++(c.Comps.take j).map nr) v.1 v.2) S):=by
   intro t ht htr
   unfold Afj
   simp only[gv,Bg,Ag4,Agd hx.2.1,Agd hx.2.2,Ee]
   refine(A1u l hl c.Name hv.d.name _ hx.1 hm8 hd.2).mono λ y hy=>⟨λ _=>bad _ _ _ (by decide),λ hy2=>⟨by unfold At;simp only[List.length_singleton];omega, ?_⟩⟩
   obtain⟨p1,p2⟩:=hy (nn hy2)
   refine(Bvg l ⟨(c.Comps.getD j An).Name,t,(c.Comps.getD j An).Var,(c.Comps.getD j An).Flow,(c.Comps.getD j An).Size,(c.Comps.getD j An).Scope,(c.Comps.getD j An).Replace,(c.Comps.getD j An).Cond,(c.Comps.getD j An).Value,(c.Comps.getD j An).Unit,y.1⟩ hx.2.1 hx.2.2 p1 p2 _ hmg.1 (by have:=hmg.2;omega)).mono λ r hr=>⟨by unfold At;simp only[List.length_singleton];omega,h3,(C++[r],P++[_]),rfl, ?_⟩
   have hnm:r.Name=(c.Comps.getD j An).Name:=hr.name
   refine⟨λ x hx'=> ?_,by simp only[List.length_append,List.length_singleton];omega, ?_,λ ho=> ?_,λ x hx'=> ?_,by simp only[List.length_append,List.length_singleton];omega⟩
   ·rcases List.mem_append.1 hx' with hx'|hx'
    ·exact hI.cc x hx'
    ·rw[List.mem_singleton.1 hx']
     refine⟨hr.cond,hr.value,hr.pm, ?_⟩
     rcases hr.ty with h|h
     ·have h:r.Type_=t:=h
      unfold TR;rw[h];exact ht
     ·exact .inr h
   ·rw[List.map_append,hI.cn,Aea _ _ An h3,List.map_append,List.append_assoc]
    simp only[List.map_cons,List.map_nil,Bc1,hnm]
   ·rw[List.map_append,hI.cr ho,Aea _ _ An h3,List.map_append,List.append_assoc]
    have e:r.Type_=t:=hr.own (hone ho)
    have e2:decide (t=A90)=decide ((c.Comps.getD j An).Type_=A90):=decide_eq_decide.2 htr
    simp only[List.map_cons,List.map_nil,nr,hnm,e,e2]
   ·rcases List.mem_append.1 hx' with hx'|hx'
    ·exact hI.pt x hx'
    ·rw[List.mem_singleton.1 hx'];exact ht
  refine⟨λ h4=> ?_,λ h4=> ?_⟩
  ·have hcn:=hv.d.name
   have hty:=hd.1
   refine(Sg l hl.len c.Name _ (by omega)).mono λ z hz=>⟨λ _=>bad _ _ _ (by decide),λ h5=> ?_⟩
   obtain⟨q,rfl,hq,hN⟩:=hz (by omega)
   refine⟨⟨by omega,by omega⟩,j9 _ (.inr (B4s hq rfl)) ⟨λ h=>absurd h (Btx hN h4),λ h=>absurd h h4⟩⟩
  ·have h4:(c.Comps.getD j An).Type_=A90:=Decidable.byContradiction h4
   exact j9 _ (.inl h4) Iff.rfl
 ·refine fin _ _ ?_
  have e:c.Comps.take j=c.Comps:=List.take_of_length_le (by omega)
  rw[e]at hI
  exact⟨hI.cc,by omega,hI.cn,hI.cr,hI.pt,by omega⟩
def NM (l:List Aa) (s:Ai):List (List UInt8):=(l.getD s.class_.toNat Ag).Comps.map Bc1
def NR (l:List Aa) (s:Ai):List (List UInt8×Bool):=(l.getD s.class_.toNat Ag).Comps.map nr
structure RW (l:List Aa) (k:Nat) (w p:Aa):Prop where
 name:w.Name=(l.getD k Ag).Name
 bases:w.Bases=[]
 cs:∀c∈w.Comps,CC l c
 cl:w.Comps.length<=2400
 nd:(w.Comps.map Bc1).Nodup
 ge:GEq w.Eqs 2400
 ll:w.Links.length<=2400
 gw:GWh w.Whens 2400
 own:(l.getD k Ag).Bases=[]->w.Comps.map nr=(l.getD k Ag).Comps.map nr
 pt:∀c∈p.Comps,TR l c
 pl:p.Comps.length<=2400
theorem Bw8 (a b:List UInt8):kqS a b=true↔a=b:=by simp[kqS]
theorem Bq6 {β:Type} {x:Int} {v:β} {p:Int×β}:∀{l:List (Int×β)},p∈Hc kqI x v l->p∈l\/p=(x,v)
 |[],h=>by simp[Hc]at h;exact .inr h
 |(y,w)::r,h=>by
  unfold Hc at h
  split at h
  ·rcases List.mem_cons.1 h with h|h
   ·exact .inr h
   ·exact .inl (List.mem_cons_of_mem _ h)
  ·rcases List.mem_cons.1 h with h|h
   ·exact .inl (h▸List.mem_cons_self ..)
   ·rcases Bq6 h with h|h
    ·exact .inl (List.mem_cons_of_mem _ h)
    ·exact .inr h
theorem A25 (l:List Aa) (hl:LV l) (hb:∀c∈l,CB c) (k:Nat) (hk:k<l.length):Al (Aku l (k:Int) []) λ r=>r.2.2=0->RW l k r.1 r.2.1:=by
 unfold Aku
 simp only[gv]
 refine(A47 l hl k hk).mono λ y hy=>⟨λ a b=>absurd b a,λ h0=>⟨hk,hk, ?_⟩⟩
 have h0:y.2=0:=Decidable.byContradiction h0
 obtain⟨⟨hLl,⟨nw,hsh,hSB⟩,hres⟩,hown⟩:=hy.2 h0
 clear hy
 obtain⟨L,e⟩:=y
 simp only at hLl hsh hres hown
 simp only
 have hn:=hl.1
 have hcat:∀q,CB (l.getD q Ag):=Pi CB.z hb
 have hcls:∀t∈L,∃q:Nat,t.class_=(q:Int)/\q<l.length:=by
  intro t ht
  rw[hsh]at ht
  rcases List.mem_append.1 ht with ht|ht
  ·have hs:=hSB t ht
   have h1:=hs.c0
   have h2:=hs.c1
   exact⟨t.class_.toNat,by omega,by omega⟩
  ·rw[List.mem_singleton.1 ht];exact⟨k,rfl,hk⟩
 refine Cf (λ i (v:List (List UInt8×Bool))=>(L,L,(L.length:Int),i,v,())) L.length (by omega) (λ i v=>B2x v/\Ja v=(L.take i).flatMap (NM l)/\(Ja v).Nodup) (s:=[]) ⟨λ _ h=>(by cases h),rfl,by simp[Ja]⟩ λ i v hi hI=> ?_
 obtain⟨v1,v2,v3⟩:=hI
 unfold Am9
 simp only[gv]
 refine⟨λ h1=> ?_,λ h1=> ?_⟩
 ·obtain⟨q,hq,hql⟩:=hcls _ (Fc Be h1)
  have hcl:=(hl.at q).cl
  rw[hq]
  simp only[gv]
  refine⟨hql, ?_⟩
  refine Cf (λ j (u:List (List UInt8×Bool))=>((l.getD q Ag).Comps,((l.getD q Ag).Comps.length:Int),j,u,())) (l.getD q Ag).Comps.length (by omega) (λ j u=>B2x u/\Ja u=Ja v++((l.getD q Ag).Comps.take j).map Bc1/\(Ja u).Nodup) (s:=v) ⟨v1,by simp,v3⟩ λ j u hj hJ=> ?_
  obtain⟨u1,u2,u3⟩:=hJ
  unfold Al9 Am8
  simp only[gv,Ee]
  refine⟨λ h2=>⟨λ _ h=>(by cases h),λ h3=>⟨h2,_,rfl, ?_⟩⟩,λ h2=>⟨h1,_,rfl,u1, ?_,u3⟩⟩
  ·have hnk:((l.getD q Ag).Comps.getD j An).Name∉Ja u:=λ h=>h3 ((Axh Bw8 u1).2 h)
   rw[Ayj Bw8 hnk]
   have ek:Ja (u++[(((l.getD q Ag).Comps.getD j An).Name,true)])=Ja u++[((l.getD q Ag).Comps.getD j An).Name]:=by simp[Ja]
   refine⟨λ p hp=> ?_, ?_, ?_⟩
   ·rcases List.mem_append.1 hp with hp|hp
    ·exact u1 p hp
    ·rw[List.mem_singleton.1 hp]
   ·rw[ek,u2,Aea _ _ An h2,List.map_append,List.append_assoc];rfl
   ·rw[ek]
    exact List.nodup_append.2 ⟨u3,by simp,λ a ha b hb=>by rw[List.mem_singleton.1 hb];rintro rfl;exact hnk ha⟩
  ·rw[u2,v2,Aea _ _ Be h1,List.flatMap_append,List.take_of_length_le (l:=(l.getD q Ag).Comps) (by omega)]
   simp only[List.flatMap_cons,List.flatMap_nil,List.append_nil,NM,hq,Int.toNat_natCast]
 have hnd:(L.flatMap (NM l)).Nodup:=by
  have:L.take i=L:=List.take_of_length_le (by omega)
  rw[this]at v2;rw[<-v2];exact v3
 clear v1 v2 v3
 have hL1:1<=L.length:=by rw[hsh];simp
 unfold Al1
 simp only[gv]
 rw[Dh (by omega) (by omega)]
 refine Ci (λ v:Int×MM×Unit=> -1<=v.1/\v.1<=(L.length:Int) -2/\(∀p∈v.2.1,PM l p.2/\(p.2.length:Int)<=8*((L.length:Int) -2-v.1))/\(L.length=1->v.2.1=[((k:Int),[])])) (λ v=>(v.1+1).toNat) ⟨by simp only;omega,by simp only;omega,λ p hp=> ?_,λ _=>rfl⟩ ?_
 ·rw[List.mem_singleton.1 hp];exact⟨PM.nil,by simp only[List.length_nil];omega⟩
 rintro⟨a,M,_⟩ ⟨a1,a2,a3,a4⟩
 simp only at a1 a2 a3 a4
 unfold Ale
 simp only[gv]
 refine⟨λ h1=> ?_,λ h1=> ?_⟩
 ·obtain⟨b,rfl⟩:=Int.eq_ofNat_of_zero_le h1
  simp only[Int.toNat_natCast]
  have hbn:b<nw.length:=by have:L.length=nw.length+1:=by rw[hsh];simp
                           omega
  have eb:L.getD b Be=nw.getD b Be:=by
   rw[hsh,List.getD_eq_getElem?_getD,List.getElem?_append_left hbn,<-List.getD_eq_getElem?_getD]
  have hs:=hSB _ (Fc Be hbn)
  rw[<-eb]at hs
  obtain⟨p,hp⟩:=Int.eq_ofNat_of_zero_le hs.b0
  obtain⟨w,hw⟩:=Int.eq_ofNat_of_zero_le hs.k0
  have hpl:=hs.b1
  have hwl:=hs.k1
  rw[hp]at hpl hwl ⊢
  rw[hw]at hwl ⊢
  simp only[gv]at hpl hwl ⊢
  have hvp:=hl.at p
  have hm:=(hcat p).bs _ (Fc Cl hwl)
  have hm8:=hvp.bm _ (Fc Cl hwl)
  have hmt:=hvp.d.bs _ (Fc Cl hwl)
  refine⟨by omega,hpl,hpl,hwl,(A1u l hl _ hvp.d.name _ hm hm8 hmt.2).mono λ z hz=>⟨λ _ h=>(by cases h),λ hz2=> ?_⟩⟩
  obtain⟨z1,z2⟩:=hz (nn hz2)
  have hold:PM l ((Kh kqI (p:Int) M).getD [])/\((((Kh kqI (p:Int) M).getD []).length:Nat):Int)<=8*((L.length:Int) -2-(b:Int)):=by
   cases hmg:Kh kqI (p:Int) M with
   |none=>exact⟨PM.nil,by simp only[Option.getD_none,List.length_nil];omega⟩
   |some v=>obtain⟨y,hy⟩:=Ba9 hmg;exact a3 _ hy
  have hold2:=hold.2
  refine(A5f _ z.1 (by omega) (by omega)).mono λ m hmm=> ?_
  have hm1:=hmm.1
  rw[Dh (by omega) (by omega)]
  refine⟨⟨by omega,by omega,λ u hu=> ?_,λ h=>by omega⟩,by omega⟩
  rcases Bq6 hu with hu|hu
  ·have:=a3 u hu;exact⟨this.1,by omega⟩
  ·rw[hu]
   exact⟨λ t ht=>(hmm.2 t ht).elim (hold.1 t) (z1 t),by simp only;omega⟩
 have hGM:GM l M:=λ p hp=>⟨(a3 p hp).1,by have:=(a3 p hp).2;omega⟩
 unfold Amu
 simp only[gv]
 refine Bc L.length (by omega) (λ i (v:RwS)=>v.1=M/\CI l (L.length=1) (40*i) ((L.take i).flatMap (NM l)) ((L.take i).flatMap (NR l)) v.2.1 v.2.2.2.2.2.1/\GEq v.2.2.1 (40*i)/\v.2.2.2.1.length<=40*i/\GWh v.2.2.2.2.1 (40*i))
  ⟨rfl,⟨λ _ h=>(by cases h),by simp,by simp,λ _=>by simp,λ _ h=>(by cases h),by simp⟩,⟨by simp,λ _ h=>(by cases h)⟩,by simp,⟨by simp,λ _ h=>(by cases h)⟩⟩ λ i v hi hI=> ?_
 obtain⟨v1,C,E,K,W,P,_⟩:=v
 obtain⟨i1,i2,i3,i4,i5⟩:=hI
 simp only at i1 i2 i3 i4 i5
 subst i1
 unfold Amg
 simp only[gv]
 refine⟨λ h2=> ?_,λ h2=> ?_⟩
 ·obtain⟨q,hq,hql⟩:=hcls _ (Fc Be h2)
  have hone:L.length=1->(Kh kqI (L.getD i Be).class_ v1).getD []=[]:=by
   intro h
   rw[a4 h]
   unfold Kh
   split
   ·rfl
   ·rfl
  have hqq:(L.getD i Be).class_.toNat=q:=by rw[hq];rfl
  refine⟨by rw[hq];exact rng.2 hql, ?_⟩
  rw[hqq]
  refine B11 hl (by omega) (hcat q) (hl.at q) hGM hone i2 (λ a b e he=> ?_) λ C' P' hCI=> ?_
  ·simp only[gv];exact λ h=>absurd h he
  ·simp only[gv]
   refine B9h (by omega) (hcat q) (hl.at q) i3 i4 i5 λ E' K' W' hE hK hW=> ?_
   unfold O6
   simp only[gv]
   refine⟨h2, ?_,hE,hK,hW⟩
   rw[Aea _ _ Be h2,List.flatMap_append,List.flatMap_append]
   have e1:[L.getD i Be].flatMap (NM l)=(l.getD q Ag).Comps.map Bc1:=by simp only[List.flatMap_cons,List.flatMap_nil,List.append_nil,NM,hqq]
   have e2:[L.getD i Be].flatMap (NR l)=(l.getD q Ag).Comps.map nr:=by simp only[List.flatMap_cons,List.flatMap_nil,List.append_nil,NR,hqq]
   rw[e1,e2]
   exact hCI
 ·have hil:L.take i=L:=List.take_of_length_le (by omega)
  rw[hil]at i2
  unfold Ahc
  simp only[gv]
  refine λ _=>⟨rfl,rfl,i2.cc,by have:=i2.cl;simp only;omega,by simp only;rw[i2.cn];exact hnd,⟨by have:=i3.1;simp only;omega,i3.2⟩,by simp only;omega,⟨by have:=i5.1;simp only;omega,i5.2⟩,λ h=> ?_,i2.pt,by have:=i2.pl;simp only;omega⟩
  have hL:=hown h
  simp only
  rw[i2.cr (by rw[hL];rfl),hL]
  simp[NR]
structure Buf (l:List Aa) (x:Cb):Prop where
 ct:∀c∈x.comps,TR l c
 cl:x.comps.length<=2400
 pm:PM l x.mods
 ml:x.mods.length<=8
theorem Buf.z {l:List Aa}:Buf l Kd:=⟨λ _ h=>(nomatch h),by simp[Kd],PM.nil,by simp[Kd]⟩
theorem A4y (l:List Aa) (hl:LV l) (hb:∀c∈l,CB c) (k:Nat) (hk:k<l.length):Al (Xb l (k:Int)) λ r=>r.1.length<=360/\∀x∈r.1,Buf l x:=by
 have hn:=hl.1
 have hcat:∀q,CB (l.getD q Ag):=Pi CB.z hb
 unfold Xb
 simp only[gv]
 refine(A47 l hl k hk).mono λ y hy=> ?_
 obtain⟨L,e⟩:=y
 simp only at hy
 simp only
 obtain⟨hLl,hst⟩:L.length<=60/\∀t∈L,(∃q:Nat,t.class_=(q:Int)/\q<l.length)/\BR l t.class_.toNat:=by
  by_cases h0:e=0
  ·obtain⟨⟨h1,⟨nw,h2,h3⟩,h4⟩,_⟩:=hy.2 h0
   refine⟨by omega,λ t ht=>⟨?_,h4 t ht⟩⟩
   rw[h2]at ht
   rcases List.mem_append.1 ht with ht|ht
   ·have hs:=h3 t ht
    have a1:=hs.c0
    have a2:=hs.c1
    exact⟨t.class_.toNat,by omega,by omega⟩
   ·rw[List.mem_singleton.1 ht];exact⟨k,rfl,hk⟩
  ·have:L=[]:=hy.1 h0
   rw[this];exact⟨by simp,λ _ h=>(nomatch h)⟩
 refine Cf (λ i (v:List Cb)=>(L,(L.length:Int),i,v,())) L.length (by omega) (λ i v=>v.length<=6*i/\∀x∈v,Buf l x) (s:=[]) ⟨by simp,λ _ h=>(nomatch h)⟩ λ i v hi hI=> ?_
 unfold Wg Vl
 simp only[gv]
 refine⟨λ h1=> ?_,λ h1=>⟨by have:=hI.1;omega,hI.2⟩⟩
 obtain⟨⟨q,hq,hql⟩,hR⟩:=hst _ (Fc Be h1)
 have hvq:=hl.at q
 have hbl:=hvq.bl
 have hqq:(L.getD i Be).class_.toNat=q:=by rw[hq];rfl
 rw[hqq]at hR
 refine⟨by rw[hq];exact rng.2 hql, ?_⟩
 rw[hqq]
 refine Cf (λ j (u:List Cb)=>((l.getD q Ag).Bases,((l.getD q Ag).Bases.length:Int),j,u,())) (l.getD q Ag).Bases.length (by omega) (λ j u=>u.length<=6*i+j/\∀x∈u,Buf l x) (s:=v) hI λ j u hj hJ=> ?_
 obtain⟨j1,j2⟩:=hJ
 unfold W0 Vk Wi
 simp only[gv,Ee,hqq]
 refine⟨λ h2=>⟨by rw[hq];exact rng.2 hql, ?_⟩,λ h2=>⟨h1,_,rfl,by omega,j2⟩⟩
 have hmb:=Fc Cl h2
 have hmt:=hvq.d.bs _ hmb
 have hname:=hvq.d.name
 refine(A1u l hl _ hvq.d.name _ ((hcat q).bs _ hmb) (hvq.bm _ hmb) hmt.2).mono λ p hp=>⟨by rw[hq];exact rng.2 hql, ?_⟩
 obtain⟨z,hz,hz0⟩:=hR _ hmb
 have hzz:=Bzo (Sg l hl.len _ _ (by omega)) hz
 obtain⟨b,rfl,hbq,_⟩:=hzz hz0
 rw[hz]
 simp only[gv]
 refine(A25 l hl hb b hbq).mono λ r hr=>⟨λ _=>⟨by simp,λ _ h=>(nomatch h)⟩,λ hp2=>⟨λ _=>⟨by simp,λ _ h=>(nomatch h)⟩,λ hr0=> ?_⟩⟩
 have hw:=hr (Decidable.byContradiction hr0)
 obtain⟨p1,p2⟩:=hp (nn hp2)
 refine⟨by unfold At;simp only[List.length_singleton];omega,h2,_,rfl,by simp only[List.length_append,List.length_singleton];omega,λ x hx=> ?_⟩
 rcases List.mem_append.1 hx with hx|hx
 ·exact j2 x hx
 ·rw[List.mem_singleton.1 hx];exact⟨hw.pt,hw.pl,p1,p2⟩
theorem Boj (cs:List Ax) (hl:cs.length<9223372036854775807) (s:List UInt8):Al (G8 cs s) λ r=>r.1<cs.length:=by
 unfold G8
 simp only[gv]
 refine Bc cs.length hl (λ i (v:List UInt8×Unit)=>True) trivial λ i v hi hI=> ?_
 obtain⟨v,_⟩:=v
 unfold F5 Fy Aex
 simp only[gv]
 exact⟨λ h=>⟨λ _=>h,λ _=>h⟩,λ _=>by omega⟩
theorem Biw (R:A0) (l:List Aa) (hl:LV l) (x:Cb) (h:Buf l x) (kind:Int) (hR:kind=7->∀a b:Nat,a<l.length->b<l.length->Al (R l a b []) λ _=>True):Al (Wt R l x.comps x.mods kind) λ _=>True:=by
 have hcl:=h.cl
 have hml:=h.ml
 unfold Wt
 simp only[gv]
 refine Bc x.mods.length (by omega) (λ _ _=>True) trivial λ i _ hi _=> ?_
 unfold Vi Ow Wv Du Xh Aja
 simp only[gv,Ak1 _ _ hl.len]
 intro h1
 have hm:=h.pm _ (Fc A3 h1)
 have hp:(x.mods.getD i A3).Path.length<4294967281:=hm.1
 refine(Akp _ 46 (by omega)).mono λ y _=>(Boj x.comps (by omega) _).mono λ r hr=>⟨λ _ _=>h1,λ h2=>⟨⟨by omega,hr⟩,λ _=> ?_,λ _=>⟨λ h7=>⟨λ _=>⟨λ ht _=>⟨λ hc=> ?_,λ _=>h1⟩,λ _=>h1⟩,λ _=>h1⟩,λ _=>h1⟩⟩⟩
 ·simp only[h1];simp
 ·obtain⟨q,hq⟩:=Int.eq_ofNat_of_zero_le (show 0<=r.1 by omega)
  have hqc:q<x.comps.length:=by omega
  rw[hq]at hc ⊢
  simp only[Int.toNat_natCast]at hc ⊢
  obtain⟨a,ha⟩:∃a,cls l (x.mods.getD i A3).Type_=some a:=hm.2.2.resolve_left ht
  obtain⟨b,hb⟩:∃b,cls l (x.comps.getD q An).Type_=some b:=(h.ct _ (Fc An hqc)).resolve_left hc
  rw[ha,hb]
  exact(hR h7 a b (Ajo ha).1 (Ajo hb).1).mono λ r _=>⟨λ _ _=>h1,λ _ _=>h1⟩
theorem Ay2 (R:A0) (l:List Aa) (hl:LV l) (hb:∀c∈l,CB c) (k:Nat) (hk:k<l.length):Al (Afm R l (k:Int)) λ r=>r.2=0->∃p,RW l k r.1 p:=by
 unfold Afm
 simp only[gv]
 refine(A25 l hl hb k hk).mono λ y hy=>⟨λ a b=>absurd b a,λ h0=>(A4y l hl hb k hk).mono λ z hz=>⟨λ a b=>absurd b a,λ _=> ?_⟩⟩
 have hw:=hy (Decidable.byContradiction h0)
 have hz1:=hz.1
 refine Cf (λ i (_:Unit)=>(z.1,(z.1.length:Int),i,(⟨([]:List UInt8),(0:Int),[],[],[],[],[]⟩:Aa),y.1,())) z.1.length (by omega) (λ _ _=>True) (s:=()) trivial λ i _ hi _=> ?_
 unfold Ab9 Acg
 simp only[gv,Ee]
 refine⟨λ h1=>(Biw R l hl _ (hz.2 _ (Fc Kd h1)) 4 (λ h=>absurd h (by decide))).mono λ r _=>⟨λ _ h=>(by cases h),λ _=>⟨h1,(),trivial⟩⟩,λ _ _=>⟨_,hw⟩⟩
theorem nn' {b:Bool} (h:¬(!b)=true):b=true:=nn h
theorem Bwz (a b:D6):kqA Amw a b=true↔a=b:=by
 rcases a with⟨a0,a1⟩
 rcases b with⟨b0,b1⟩
 simp[kqA,Amw]
structure MP (n:Nat) (m:List (D6×Bool)):Prop where
 nd:(Ja m).Nodup
 rg:∀x∈Ja m,0<=x.e0/\x.e0<n/\0<=x.e1/\x.e1<n
 tr:B2x m
theorem Biy {α β:Type} {f:α->β}:∀{l:List α},(∀a∈l,∀b∈l,f a=f b->a=b)->l.Nodup->(l.map f).Nodup
 |[],_,_=>by simp
 |x::r,h,hd=>by
  rw[List.map_cons,List.nodup_cons]
  rw[List.nodup_cons]at hd
  refine⟨λ hm=> ?_,Biy (λ a ha b hb=>h a (List.mem_cons_of_mem _ ha) b (List.mem_cons_of_mem _ hb)) hd.2⟩
  obtain⟨y,hy,e⟩:=List.mem_map.1 hm
  have:=h y (List.mem_cons_of_mem _ hy) x (List.mem_cons_self ..) e
  exact hd.1 (this▸hy)
theorem MP.le {n:Nat} {m:List (D6×Bool)} (h:MP n m):m.length<=n*n:=by
 have:=Aq0 (n*n) ((Ja m).map λ p=>p.e0*n+p.e1) (Biy (λ a ha b hb e=> ?_) h.nd) λ x hx=> ?_
 ·simpa [Ja]using this
 ·obtain⟨a1,a2,a3,a4⟩:=h.rg a ha
  obtain⟨b1,b2,b3,b4⟩:=h.rg b hb
  have hn:(0:Int)<n:=by omega
  have e1:a.e0=b.e0:=by
   have q1:(a.e0*n+a.e1)/n=a.e0:=by rw[Int.add_comm,Int.add_mul_ediv_right _ _ (by omega),Int.ediv_eq_zero_of_lt a3 a4];omega
   have q2:(b.e0*n+b.e1)/n=b.e0:=by rw[Int.add_comm,Int.add_mul_ediv_right _ _ (by omega),Int.ediv_eq_zero_of_lt b3 b4];omega
   rw[<-q1,<-q2,e]
  have e2:a.e1=b.e1:=by rw[e1]at e;omega
  rcases a with⟨_,_⟩
  rcases b with⟨_,_⟩
  simp only at e1 e2
  rw[e1,e2]
 ·obtain⟨p,hp,rfl⟩:=List.mem_map.1 hx
  obtain⟨a1,a2,a3,a4⟩:=h.rg p hp
  have hn:(0:Int)<=n:=by omega
  have h1:0<=p.e0*n:=Int.mul_nonneg a1 hn
  have h2:(p.e0+1)*n<=(n:Int)*n:=Int.mul_le_mul_of_nonneg_right (by omega) hn
  rw[Int.add_mul]at h2
  refine⟨by omega, ?_⟩
  rw[Int.natCast_mul]
  omega
theorem MP.put {n:Nat} {m:List (D6×Bool)} (h:MP n m) {a b:Nat} (hx:(⟨(a:Int),(b:Int)⟩:D6)∉Ja m) (h0:a<n) (h1:b<n):MP n (m++[(⟨(a:Int),(b:Int)⟩,true)]) where
 nd:=by
  simp only[Ja,List.map_append,List.map_cons,List.map_nil]
  refine List.nodup_append.2 ⟨h.nd,by simp,λ a ha b hb=> ?_⟩
  rw[List.mem_singleton.1 hb]
  rintro rfl
  exact hx ha
 rg:=by
  intro y hy
  simp only[Ja,List.map_append,List.map_cons,List.map_nil]at hy
  rcases List.mem_append.1 hy with hy|hy
  ·exact h.rg y hy
  ·rw[List.mem_singleton.1 hy];simp only;omega
 tr:=by
  intro p hp
  rcases List.mem_append.1 hp with hp|hp
  ·exact h.tr p hp
  ·rw[List.mem_singleton.1 hp]
def B5l (cs:List Ax) (s:List UInt8) (j:Nat):Bool:=decide ((cs.getD j An).Name=s)
theorem Bos (cs:List Ax) (hl:cs.length<9223372036854775807) (c:Ax):Al (G6 cs c) λ r=>r.1=Aa5 (fst (B5l cs c.Name) 0 cs.length)/\r.2=c:=by
 unfold G6
 simp only[gv,Ag4]
 refine Bc cs.length hl (λ i (v:Ax×Unit)=>v.1=c/\∀j,0<=j->j<i->B5l cs c.Name j=false) ⟨rfl,λ j _ hj=>by omega⟩ λ i v hi hI=> ?_
 obtain⟨v,_⟩:=v
 obtain⟨h1,h2⟩:=hI
 simp only at h1
 subst h1
 unfold F0 Ft Aqj
 simp only[gv,Ag4]
 refine⟨λ h3=>⟨λ h4=> ?_,λ h4=>⟨h3,λ j a b=> ?_⟩⟩,λ h3=> ?_⟩
 ·rw[Aad (Nat.zero_le i) (by omega) (decide_eq_true h4) h2];rfl
 ·rcases Nat.lt_or_eq_of_le (Nat.lt_succ_iff.1 b)with b|rfl
  ·exact h2 j a b
  ·exact decide_eq_false h4
 ·rw[Ahk λ j a b=>h2 j a (by omega)];rfl
theorem B6f {cs:List Ax} (hd:(cs.map Bc1).Nodup) {j:Nat} (hj:j<cs.length):fst (B5l cs (cs.getD j An).Name) 0 cs.length=some j:=by
 refine Aad (Nat.zero_le _) (by omega) (decide_eq_true rfl) λ q _ hq=>decide_eq_false λ e=> ?_
 have e1:∀t (ht:t<cs.length),(cs.map Bc1)[t]'(by simpa using ht)=(cs.getD t An).Name:=by
  intro t ht
  rw[List.getElem_map,List.getD_eq_getElem?_getD,List.getElem?_eq_getElem ht];rfl
 have hp:=List.pairwise_iff_getElem.1 hd q j (by simp;omega) (by simpa using hj) hq
 rw[e1 q (by omega),e1 j hj]at hp
 exact hp e
theorem Bwm (l:List Aa) (hl:LV l) (hb:∀c∈l,CB c):∀(f a b:Nat) (m:List (D6×Bool)),a<l.length->b<l.length->MP l.length m->l.length*l.length+1<=f+m.length->
 Al (Nv f l (a:Int) (b:Int) m) λ r=>MP l.length r.2.2/\m.length<=r.2.2.length/\(a=b->r.2.1=0->r.1=true)
 |0,a,b,m,_,_,hm,hf=>by have:=hm.le;omega
 |f+1,a,b,m,ha,hbl,hm,hf=>by
  unfold Nv Ali
  simp only[gv]
  refine⟨λ _=>⟨hm,Nat.le_refl _⟩,λ h1=> ?_⟩
  have hk:(⟨(a:Int),(b:Int)⟩:D6)∉Ja m:=λ h=>h1 ((Axh Bwz hm.tr).2 h)
  rw[Ayj Bwz hk]
  have hm':=hm.put hk ha hbl
  have hml:(m++[((⟨(a:Int),(b:Int)⟩:D6),true)]).length=m.length+1:=by simp
  refine(Ay2 _ l hl hb a ha).self.mono λ X ⟨hX,hXe⟩=>⟨λ h=>⟨hm',by omega,λ _ h'=>absurd h' h⟩,λ hX0=>(Ay2 _ l hl hb b hbl).self.mono λ Y ⟨hY,hYe⟩=>⟨λ h=>⟨hm',by omega,λ _ h'=>absurd h' h⟩,λ hY0=> ?_⟩⟩
  obtain⟨pX,wX⟩:=hX (Decidable.byContradiction hX0)
  obtain⟨pY,wY⟩:=hY (Decidable.byContradiction hY0)
  have hXl:=wX.cl
  have hYl:=wY.cl
  have hXY:a=b->X=Y:=by
   rintro rfl
   rw[hXe]at hYe
   exact Option.some.inj hYe
  refine Cf (λ i (u:List (D6×Bool))=>(Y.1.Comps,(Y.1.Comps.length:Int),i,X.1,u,())) Y.1.Comps.length (by omega) (λ _ u=>MP l.length u/\m.length+1<=u.length) (s:=m++[((⟨(a:Int),(b:Int)⟩:D6),true)]) ⟨hm',by omega⟩ λ i u hi hI=> ?_
  obtain⟨u1,u2⟩:=hI
  unfold Vv Ld Wc Vm
  simp only[gv,Ee,Ag4,Ak1 _ _ hl.len]
  refine⟨λ h2=> ?_,λ _=>⟨u1,by omega⟩⟩
  refine(Bos X.1.Comps (by omega) _).mono λ r ⟨hr1,hr2⟩=> ?_
  rw[hr2]
  have hdiag:a=b->r.1=(i:Int):=by
   intro e
   have:=hXY e
   subst this
   rw[hr1,B6f wX.nd h2]
   rfl
  refine⟨λ h3=>⟨u1,by omega,λ e=>by have:=hdiag e;omega⟩,λ h3=> ?_⟩
  obtain⟨q,hq⟩:=A8u.1 (show 0<=Aa5 (fst (B5l X.1.Comps (Y.1.Comps.getD i An).Name) 0 X.1.Comps.length) by rw[<-hr1];omega)
  have hqr:r.1=(q:Int):=by rw[hr1,hq];rfl
  have hql:=(Bt7 hq).2.1
  have hsame:a=b->X.1.Comps.getD q An=Y.1.Comps.getD i An:=by
   intro e
   have h4:=hdiag e
   have:=hXY e
   subst this
   rw[show q=i by omega]
  rw[hqr]
  simp only[gv]
  refine⟨by omega,λ h=>⟨u1,by omega,λ e=>absurd (by rw[hsame e]) h⟩,λ _=>⟨λ h=>⟨u1,by omega,λ e=>by rw[hsame e]at h;simp at h⟩,λ _=>⟨λ h=>⟨u1,by omega,λ e=>absurd (by rw[hsame e]) h⟩,λ _=>⟨λ h=>⟨u1,by omega,λ e=>by rw[hsame e]at h;simp at h⟩,λ h5=>⟨λ _=>⟨h2,u,rfl,u1,u2⟩,λ h6=> ?_⟩⟩⟩⟩⟩
  have h5':((X.1.Comps.getD q An).Type_=[82,101,97,108])↔((Y.1.Comps.getD i An).Type_=[82,101,97,108]):=by
   have:=nn' h5
   simpa using this
  obtain⟨d,hd⟩:∃d,cls l (X.1.Comps.getD q An).Type_=some d:=(wX.cs _ (Fc An (by omega))).ty.resolve_left λ h=>h6 (h5'.1 h)
  obtain⟨c,hc⟩:∃c,cls l (Y.1.Comps.getD i An).Type_=some c:=(wY.cs _ (Fc An h2)).ty.resolve_left h6
  rw[hd,hc]
  refine(Bwm l hl hb f d c u (Ajo hd).1 (Ajo hc).1 u1 (by omega)).mono λ t ⟨t1,t2,t3⟩=>⟨λ h=>⟨t1,by omega,λ _ h'=>absurd h' h⟩,λ h7=>⟨λ h8=>⟨t1,by omega,λ e h'=> ?_⟩,λ _=>⟨h2,_,rfl,t1,by omega⟩⟩⟩
  have hdc:d=c:=by rw[hsame e,hc]at hd;cases hd;rfl
  have:=t3 hdc (Decidable.byContradiction h7)
  rw[this]at h8
  simp at h8
theorem Bep (l:List Aa) (hl:LV l) (hb:∀c∈l,CB c) (a b:Nat) (ha:a<l.length) (hbl:b<l.length):Al (Pe l (a:Int) (b:Int) []) λ r=>a=b->r.2.1=0->r.1=true:=by
 unfold Pe
 exact(Bwm l hl hb _ a b [] ha hbl ⟨by simp[Ja],by simp[Ja],λ _ h=>(nomatch h)⟩ (by simp)).mono λ r hr=>hr.2.2
structure WW8 (w:Aa):Prop where
 cl:w.Comps.length<=40
 el:w.Eqs.length<=40
 ll:w.Links.length<=40
 wl:w.Whens.length<=40
 cm:∀c∈w.Comps,c.Mods.length<=8
theorem Bqi (l:List Aa) (hl:LV l) (hb:∀c∈l,CB c) (s:List UInt8) {k:Nat} (hk:cls l s=some k):Al (Aso l s []) λ r=>r.2=0->(∃p,RW l k r.1 p)/\WW8 r.1:=by
 have hkl:=(Ajo hk).1
 unfold Aso
 simp only[gv,Ak1 _ _ hl.len,hk]
 refine(A25 l hl hb k hkl).mono λ y hy=>⟨λ a b=>absurd b a,λ h0=>(A4y l hl hb k hkl).mono λ z hz=>⟨λ a b=>absurd b a,λ _=> ?_⟩⟩
 have hw:=hy (Decidable.byContradiction h0)
 have hz1:=hz.1
 have hwl:=hw.cl
 refine⟨by unfold At;simp only[List.length_singleton];omega, ?_⟩
 obtain⟨Z,hZ⟩:∃Z,[(⟨y.2.1.Comps,[]⟩:Cb)]++z.1=Z:=⟨_,rfl⟩
 have hZl:Z.length<=361:=by rw[<-hZ];simp only[List.length_append,List.length_singleton];omega
 have hZk:∀x∈Z,Buf l x:=by
  intro x hx
  rw[<-hZ]at hx
  rcases List.mem_append.1 hx with hx|hx
  ·rw[List.mem_singleton.1 hx];exact⟨hw.pt,hw.pl,PM.nil,by simp⟩
  ·exact hz.2 x hx
 rw[hZ]
 refine Cf (λ i (_:Unit)=>(([(4:Int),(6:Int),(7:Int)].length:Int),i,(⟨([]:List UInt8),(0:Int),[],[],[],[],[]⟩:Aa),y.1,Z,[(4:Int),(6:Int),(7:Int)],())) 3 (by omega) (λ _ _=>True) (s:=()) trivial λ i _ hi _=> ?_
 unfold Ahh
 simp only[gv]
 refine⟨λ h1=> ?_,λ h1=> ?_⟩
 ·refine Cf (λ j (_:Unit)=>(j,Z,[(4:Int),(6:Int),(7:Int)],())) Z.length (by omega) (λ _ _=>True) (s:=()) trivial λ j _ hj _=> ?_
  unfold Ag0 Ag3
  simp only[gv,Ee]
  refine⟨λ h2=>(Biw _ l hl _ (hZk _ (Fc Kd h2)) _ (λ _ a b ha hb'=>(Bep l hl hb a b ha hb').true)).mono λ r _=>⟨λ _ h=> ?_,λ _=>⟨h2,(),trivial⟩⟩,λ _=>⟨h1,(),trivial⟩⟩
  have h3:i<3:=h1
  have:i=0\/i=1\/i=2:=by omega
  rcases this with rfl|rfl|rfl<;>cases h
 ·unfold Ahg Uq
  simp only[gv]
  refine⟨λ _ h=>(by cases h),λ a1=>⟨λ _ h=>(by cases h),λ a2=>⟨λ _ h=>(by cases h),λ a3=>⟨λ _ h=>(by cases h),λ a4=> ?_⟩⟩⟩⟩
  refine Bc y.1.Comps.length (by omega) (λ i _=>∀j,j<i->((y.1.Comps.getD j An).Mods.length:Int)<=8) (λ j hj=>by omega) λ i _ hi hI=> ?_
  unfold Ag2 Ag6
  simp only[gv]
  exact⟨λ h=>⟨λ _ h=>(by cases h),λ h2=>⟨h,Eu hI (by omega)⟩⟩,λ h _=>⟨⟨_,hw⟩,by omega,by omega,by omega,by omega,T7 (z:=An) λ j hj=>by have:=hI j (by omega);omega⟩⟩
theorem A4g (l:List Aa) (hb:∀c∈l,CB c) (s:List UInt8):Al (Afc l s) λ r=>r.2=0->LV l/\∃k,cls l s=some k/\(∃p,RW l k r.1 p)/\WW8 r.1:=by
 unfold Afc
 simp only[gv]
 refine(A5x l hb [s] (by simp)).mono λ y hy=>⟨λ a b=>absurd b a,λ h0=> ?_⟩
 obtain⟨hl,hk⟩:=hy (Decidable.byContradiction h0)
 obtain⟨k,hk⟩:=hk s (List.mem_cons_self ..)
 exact(Bqi l hl hb s hk).mono λ r hr h=>⟨hl,k,hk,hr h⟩
theorem B5g (l:List Aa) (s:List UInt8) (h:l.length<9223372036854775807):Of l s=some (Aa5 (cls l s)):=by
 refine Al.eq ?_
 unfold Of
 simp only[gv]
 refine Bc l.length h (λ i (v:Unit)=>∀j,0<=j->j<i->Bqe l s j=false) (λ j _ hj=>by omega) λ i v hi h2=> ?_
 unfold Kn Ko
 simp only[gv]
 refine⟨λ h3=>⟨λ h4=> ?_,λ h4=>⟨h3,λ j a b=> ?_⟩⟩,λ h3=> ?_⟩
 ·unfold cls;rw[Aad (Nat.zero_le i) (by omega) (decide_eq_true h4) h2];rfl
 ·rcases Nat.lt_or_eq_of_le (Nat.lt_succ_iff.1 b)with b|rfl
  ·exact h2 j a b
  ·exact decide_eq_false h4
 ·unfold cls;rw[Ahk λ j a b=>h2 j a (by omega)];rfl
theorem Bq2 {a b:Aa} (h:a.Comps.map nr=b.Comps.map nr) (hl:a.Comps.length<=40):Hu a b=some true:=by
 have hlen:a.Comps.length=b.Comps.length:=by have:=congrArg List.length h;simpa using this
 refine Al.eq ?_
 unfold Hu
 simp only[gv,hlen]
 refine⟨by simp,λ _=> ?_⟩
 refine Bc a.Comps.length (by omega) (λ _ _=>True) trivial λ i _ hi _=> ?_
 unfold Gn Gk Gl
 simp only[gv,hlen]
 intro h1
 have e:nr (a.Comps.getD i An)=nr (b.Comps.getD i An):=by
  have h2:i<a.Comps.length:=by omega
  have q:=congrArg (λ t=>t[i]?) h
  simp only[List.getElem?_map,List.getElem?_eq_getElem h1,List.getElem?_eq_getElem h2,Option.map_some,Option.some.injEq]at q
  rw[List.getD_eq_getElem?_getD,List.getD_eq_getElem?_getD,List.getElem?_eq_getElem h1,List.getElem?_eq_getElem h2]
  exact q
 have e1:(a.Comps.getD i An).Name=(b.Comps.getD i An).Name:=congrArg Prod.fst e
 have e2:decide ((a.Comps.getD i An).Type_=[82,101,97,108])=decide ((b.Comps.getD i An).Type_=[82,101,97,108]):=congrArg Prod.snd e
 refine⟨λ h=>absurd e1 h,λ _=>⟨h1,h1,λ h=> ?_,λ _=>h1⟩⟩
 rw[e2]at h
 simp at h
theorem B5d (l:List Aa) (hb:∀c∈l,CB c) (hl:l.length<=1048576) (s:List UInt8):Mw l s=some true:=by
 refine Al.eq ?_
 have hlen:l.length<9223372036854775807:=by omega
 unfold Mw Gi Gf
 simp only[gv,B5g l s hlen]
 refine(A4g l hb s).mono λ y hy=>λ h0=> ?_
 obtain⟨hv,k,hk,⟨p,hw⟩,h8⟩:=hy (Decidable.byContradiction h0)
 obtain⟨hkl,hkn⟩:=Ajo hk
 rw[hk]
 simp only[Aa5,gv]
 have hbo:∀c∈l.set k y.1,CB c:=by
  intro c hc
  rcases List.mem_or_eq_of_mem_set hc with hc|rfl
  ·exact hb c hc
  ·refine⟨by rw[hw.bases];decide,λ b h=>(by rw[hw.bases]at h;cases h),by have:=h8.cl;omega,λ x hx=> ?_,by have:=h8.el;omega,hw.ge.2,by have:=h8.ll;omega,by have:=h8.wl;omega,λ w hww=> ?_⟩
   ·have hx':=hw.cs x hx
    exact⟨⟨by have:=h8.cm x hx;omega,λ m hm=>⟨(hx'.pm m hm).1,(hx'.pm m hm).2.1⟩⟩,hx'.cond,hx'.value⟩
   ·have:=hw.gw.2 w hww
    exact⟨this.1,by have:=this.2.1;omega,this.2.2⟩
 have hnm:∀j,((l.set k y.1).getD j Ag).Name=(l.getD j Ag).Name:=by
  intro j
  by_cases hj:j=k
  ·subst hj
   rw[List.getD_eq_getElem?_getD,List.getElem?_set_self hkl]
   exact hw.name
  ·rw[List.getD_eq_getElem?_getD,List.getElem?_set_ne (λ h=>hj h.symm),<-List.getD_eq_getElem?_getD]
 have hco:cls (l.set k y.1) s=some k:=by
  have:cls (l.set k y.1) s=cls l s:=by
   unfold cls
   rw[List.length_set]
   congr 1
   funext j
   unfold Bqe
   rw[hnm]
  rw[this,hk]
 have hself:(l.set k y.1).getD k Ag=y.1:=by
  rw[List.getD_eq_getElem?_getD,List.getElem?_set_self hkl];rfl
 refine⟨by unfold At;omega,hkl,(A4g (l.set k y.1) hbo s).mono λ z hz=>⟨λ h=>by rw[hw.bases]at h;simp at h,λ _=> ?_⟩⟩
 have fin:Al (Ed l s ()) λ r=>r=true:=by
  unfold Ed A2j Gf
  simp only[gv]
  refine(A5x l hb [s,s] (by simp)).mono λ u hu=>⟨λ h h' _=>absurd h h',λ h=> ?_⟩
  simp only[gv,Ak1 _ _ hlen,hk,Aa5]
  exact(Bep l hv hb k k hkl hkl).mono λ t ht h1 h2=>absurd (ht rfl (Decidable.byContradiction h1)) h2
 refine⟨λ h=> ?_,λ _=>fin⟩
 obtain⟨hv2,k2,hk2,⟨p2,hw2⟩,_⟩:=hz h
 rw[hco]at hk2
 cases hk2
 have hown:=hw2.own (by rw[hself];exact hw.bases)
 rw[hself]at hown
 rw[Bq2 hown.symm h8.cl]
 simp only[gv]
 exact⟨λ h=>by simp at h,λ _=>fin⟩
end Go.Ab
