/- Structs of ints, bools, texts: compared as their leaves are. One operation, told by small steps that are quickly reckoned; and that they tell what `core` tells. Conditions: none beyond those that each theorem names. -/
import Derived.Test.YtgngflkahbpecaaGreatDoorP11
import Derived.Laws.StructEq
import Derived.Test.YtgngflkahbpecaaGreatDoorP10
set_option linter.unusedSimpArgs false
set_option linter.unusedVariables false
namespace Go.Ab
open Go
section
variable {V:Env} {P:Program}
variable {E:Nat->Type}
def Azt (P:Program) (ok:TypeId->List (Av E)->Bool):List Field->Nat->List (Av E)->Bool
 |[],_,zs=>zs.isEmpty
 |f::fs,off,zs=>(f.name != "_")&&Nat.beq f.offset off&&match P.info? f.type with
  |some info=>Nat.ble info.size zs.length&&ok f.type (zs.take info.size)&&Azt P ok fs (off+info.size) (zs.drop info.size)
  |none=>false
def eqB (P:Program):Nat->TypeId->List (Av E)->Bool
 |0,_,_=>false
 |d+1,t,zs=>match P.underlying t,zs with
  |some (.int _),[.int _ _]=>true
  |some .bool,[.bool _]=>true
  |some .string,[.str _]=>true
  |some (.struct fs),zs=> !P.stoodInHeld t&&Azt P (eqB P d) fs.toList 0 zs&&(match P.info? t with|some info=>Nat.beq info.size zs.length|none=>false)
  |_,_=>false
theorem Lr:∀{z l:List (Av E)},R7 z l=true->l.length=z.length
 |[],[],_=>rfl
 |[],b::l,h=>by cases b<;>simp[R7]at h
 |a::z,[],h=>by cases a<;>simp[R7]at h
 |a::z,b::l,h=>by
  cases a<;>cases b<;>simp only[R7,Bool.and_eq_true]at h<;>first|(cases h;done)|simp[Lr h]|simp[Lr h.2]
theorem Amh:∀{z l:List (Av E)} (n:Nat),R7 z l=true->R7 (z.take n) (l.take n)=true/\R7 (z.drop n) (l.drop n)=true
 |z,l,0,h=>by simp[R7,h]
 |[],[],n+1,h=>by simp[R7]
 |[],b::l,n+1,h=>by cases b<;>simp[R7]at h
 |a::z,[],n+1,h=>by cases a<;>simp[R7]at h
 |a::z,b::l,n+1,h=>by
  cases a<;>cases b<;>simp only[R7,Bool.and_eq_true,List.take_succ_cons,List.drop_succ_cons]at h ⊢ <;>first|(cases h;done)|exact Amh n h|exact⟨⟨h.1,(Amh n h.2).1⟩,(Amh n h.2).2⟩
theorem As4:∀{l1 l2 m:List (Av V.E)} {b:Bool},eqL V (l1++l2) m=some b->∃m1 m2 b1 b2,m=m1++m2/\m1.length=l1.length/\eqL V l1 m1=some b1/\eqL V l2 m2=some b2/\b=(b1&&b2)
 |[],l2,m,b,h=>⟨[],m,true,b,rfl,rfl,by simp[eqL],h,by simp⟩
 |a::l1,l2,[],b,h=>by cases a<;>simp[eqL]at h
 |a::l1,l2,c::m,b,h=>by
  have key:∀(e:Bool),(eqL V (l1++l2) m).map (e&& ·)=some b->(∀m1 b1,eqL V l1 m1=some b1->eqL V (a::l1) (c::m1)=some (e&&b1))->
   ∃m1 m2 b1 b2,c::m=m1++m2/\m1.length=(a::l1).length/\eqL V (a::l1) m1=some b1/\eqL V l2 m2=some b2/\b=(b1&&b2):=by
   intro e he hf
   obtain⟨b',hb',e2⟩:=Option.map_eq_some_iff.1 he
   obtain⟨m1,m2,b1,b2,rfl,h1,h2,h3,rfl⟩:=As4 hb'
   exact⟨c::m1,m2,e&&b1,b2,rfl,by simp[h1],hf m1 b1 h2,h3,by rw[<-e2,Bool.and_assoc]⟩
  cases a<;>cases c<;>simp only[List.cons_append,eqL]at h<;>try exact(by cases h)
  ·split at h
   ·rename_i hk
    exact key _ h λ m1 b1 h1=>by simp only[eqL,hk,if_true,h1,Option.map_some]
   ·cases h
  ·exact key _ h λ m1 b1 h1=>by simp only[eqL,h1,Option.map_some]
  ·exact key _ h λ m1 b1 h1=>by simp only[eqL,h1,Option.map_some]
theorem Anb {t:TypeId} {info:TypeInfo} {fs:Array Field} (hi:P.info? t=some info) (hu:P.underlying t=some (.struct fs)) (vs:Array Value) (off:Nat) (w:World):
 (Go.part t vs off).run P w= .ok (.agg (vs.extract off (off+info.size))) w:=by
 simp[Go.part,isAgg,run_underlying hu,sizeOf,typeInfo,hi]
theorem Qf {t:TypeId} {d:TypeDesc} (hu:P.underlying t=some d) (hd:(∃k,d= .int k)\/d= .bool\/d= .string) {vs:Array Value} {off:Nat} {v:Value} (hv:vs[off]?=some v) (w:World):
 (Go.part t vs off).run P w= .ok v w:=by
 rcases hd with⟨k,rfl⟩|rfl|rfl<;>simp[Go.part,isAgg,run_underlying hu,hv]
def Caw (P:Program) (V:Env) (D:Nat) (t:TypeId) (zs:List (Av V.E)):Prop:=
 ∀(bx:List (Nat×Box V.E)) (β:Nat->BI) (ok:Nat->Prop) (w':World) (l m:List (Av V.E)) (b:Bool) (c1 c2 c3 e1 e2 e3:List Value),R7 zs l=true->eqL V l m=some b->
  Ba (Ad V.T bx β ok w') l c2->Ba (Ad V.T bx β ok w') m e2->c1.length=e1.length->∀w:World,∃x y,
   (Go.part t (c1++c2++c3).toArray c1.length).run P w= .ok x w/\(Go.part t (e1++e2++e3).toArray c1.length).run P w= .ok y w/\(Op.equalIn D t x y).run P w= .ok b w
theorem A4i {D:Nat} {ok:TypeId->List (Av V.E)->Bool} (hok:∀t info zs,P.info? t=some info->zs.length=info.size->ok t zs=true->Caw P V D t zs)
 (bx:List (Nat×Box V.E)) (β:Nat->BI) (okp:Nat->Prop) (w':World):∀(fs:List Field) (off:Nat) (zs:List (Av V.E)),Azt P ok fs off zs=true->∀(l m:List (Av V.E)) (b:Bool) (c1 c2 e1 e2:List Value),c1.length=off->e1.length=off->R7 zs l=true->eqL V l m=some b->
  Ba (Ad V.T bx β okp w') l c2->Ba (Ad V.T bx β okp w') m e2->∀w:World,(Op.eqFields D (c1++c2).toArray (e1++e2).toArray fs).run P w= .ok b w
 |[],off,zs,h,l,m,b,c1,c2,e1,e2,h1,h2,h3,hb,r1,r2,w=>by
  simp only[Azt,List.isEmpty_iff]at h
  subst h
  have hl:l=[]:=by have:=Lr h3;cases l<;>simp_all
  subst hl
  cases m with
  |nil=>simp[eqL]at hb;subst hb;simp[Op.eqFields]
  |cons c m=>simp[eqL]at hb
 |f::fs,off,zs,h,l,m,b,c1,c2,e1,e2,h1,h2,h3,hb,r1,r2,w=>by
  simp only[Azt,Bool.and_eq_true,bne_iff_ne,ne_eq]at h
  obtain⟨⟨hname,hoff⟩,h⟩:=h
  split at h
  ·rename_i info hinf
   simp only[Bool.and_eq_true]at h
   obtain⟨⟨hle,hokf⟩,hrest⟩:=h
   have hle:=Nat.le_of_ble_eq_true hle
   have hoff:=Ah hoff
   have hll:=Lr h3
   obtain⟨k1,k2⟩:=Amh info.size h3
   have hsplit:l=l.take info.size++l.drop info.size:=(List.take_append_drop _ _).symm
   rw[hsplit]at hb r1
   obtain⟨m1,m2,b1,b2,rfl,hm1,hb1,hb2,rfl⟩:=As4 hb
   obtain⟨p1,p2,rfl,s1,s2⟩:=r1.split
   obtain⟨q1,q2,rfl,u1,u2⟩:=r2.split
   have hlen:(l.take info.size).length=info.size:=by simp;omega
   obtain⟨x,y,g1,g2,g3⟩:=hok f.type info _ hinf (by simp;omega) hokf bx β okp w' _ _ _ c1 p1 p2 e1 q1 q2 k1 hb1 s1 u1 (by rw[h1,h2]) w
   have IH:=A4i hok bx β okp w' fs (off+info.size) _ hrest (l.drop info.size) m2 b2 (c1++p1) p2 (e1++q1) q2 (by rw[List.length_append,h1,<-s1.length,hlen]) (by rw[List.length_append,h2,<-u1.length,hm1,hlen]) k2 hb2 s2 u2 w
   rw[List.append_assoc]at g1 g2
   rw[h1]at g1 g2
   simp only[Op.eqFields,if_pos hname,Sem.run_bind,hoff,g1,g2,g3,Result.andThen_ok,Sem.run_ite,Sem.run_pure]
   cases b1
   ·simp
   ·rw[List.append_assoc,List.append_assoc]at IH
    simpa using IH
  ·cases h
theorem Ahd (c1 c2 c3:List Value):(c1++c2++c3).toArray.extract c1.length (c1.length+c2.length)=c2.toArray:=by
 apply Array.ext'
 rw[Array.toList_extract]
 simp[List.extract]
theorem Bwc:∀(d D:Nat),d<=D->∀(t:TypeId) (zs:List (Av V.E)) (info:TypeInfo),P.info? t=some info->zs.length=info.size->eqB P d t zs=true->Caw P V D t zs
 |0,_,_,_,_,_,_,_,h=>by simp[eqB]at h
 |d+1,D,hD,t,zs,info,hinf,hn,h=>by
  obtain⟨D,rfl⟩:∃D',D=D'+1:=⟨D-1,by omega⟩
  intro bx β okp w' l m b c1 c2 c3 e1 e2 e3 hl hb r1 r2 hce w
  have getc:∀(c1 c3:List Value) (v:Value),(c1++[v]++c3).toArray[c1.length]?=some v:=by
   intro c1 c3 v;simp
  unfold eqB at h
  split at h
  ·rename_i k k' z hu
   match l,hl with
   |[.int k1 a],hl=>
    match m,hb with
    |[.int k2 a'],hb=>
     simp only[eqL]at hb
     split at hb
     ·rename_i hk
      subst hk
      cases r1 with
      |cons q1 t1=>
       cases t1
       cases r2 with
       |cons q2 t2=>
        cases t2
        simp only[Ad]at q1 q2
        subst q1;subst q2
        refine⟨_,_,Qf hu (.inl ⟨_,rfl⟩) (getc _ _ _) w,Qf hu (.inl ⟨_,rfl⟩) (by rw[hce];exact getc _ _ _) w, ?_⟩
        rw[run_equalIn_int w D t k1 k a a' hu]
        simp only[Option.map_some,Bool.and_true,Option.some.injEq]at hb
        rw[<-hb]
        congr 1
     ·cases hb
    |[],hb=>simp[eqL]at hb
    | .int _ _::_::_,hb=>simp only[eqL]at hb;split at hb<;>simp at hb
   | .int _ _::x::_,hl=>cases x<;>simp[R7]at hl
  ·rename_i z hu
   match l,hl with
   |[.bool a],hl=>
    match m,hb with
    |[.bool a'],hb=>
     cases r1 with
     |cons q1 t1=>
      cases t1
      cases r2 with
      |cons q2 t2=>
       cases t2
       simp only[Ad]at q1 q2
       subst q1;subst q2
       refine⟨_,_,Qf hu (.inr (.inl rfl)) (getc _ _ _) w,Qf hu (.inr (.inl rfl)) (by rw[hce];exact getc _ _ _) w, ?_⟩
       rw[run_equalIn_bool' w D t a a' hu]
       simp[eqL]at hb
       rw[<-hb]
    |[],hb=>simp[eqL]at hb
    | .bool _::_::_,hb=>simp[eqL]at hb
  ·rename_i z hu
   match l,hl with
   |[.str a],hl=>
    match m,hb with
    |[.str a'],hb=>
     cases r1 with
     |cons q1 t1=>
      cases t1
      cases r2 with
      |cons q2 t2=>
       cases t2
       simp only[Ad]at q1 q2
       subst q1;subst q2
       refine⟨_,_,Qf hu (.inr (.inr rfl)) (getc _ _ _) w,Qf hu (.inr (.inr rfl)) (by rw[hce];exact getc _ _ _) w, ?_⟩
       rw[run_equalIn_string w D t _ _ hu]
       simp[eqL]at hb
       rw[<-hb]
       simp only[ByteArray.toList_eq]
       by_cases e:a=a'
       ·subst e;simp
       ·simp[e]
    |[],hb=>simp[eqL]at hb
    | .str _::_::_,hb=>simp[eqL]at hb
  ·rename_i fs hu
   simp only[Bool.and_eq_true,Bool.not_eq_true']at h
   obtain⟨⟨hs,hf⟩,_⟩:=h
   have hll:=Lr hl
   have hc2:c2.length=info.size:=by rw[<-r1.length,hll,hn]
   have hml:e2.length=info.size:=by
    have:l=l++[]:=by simp
    rw[this]at hb
    obtain⟨m1,m2,b1,b2,rfl,hm1,_,hb2,_⟩:=As4 hb
    have:m2=[]:=by cases m2<;>simp[eqL]at hb2<;>rfl
    subst this
    rw[<-r2.length];simp;omega
   have hfo:P.fieldsOf t=fs:=by simp[Program.fieldsOf,hu]
   refine⟨.agg c2.toArray,.agg e2.toArray, ?_, ?_, ?_⟩
   ·rw[Anb hinf hu,<-hc2,Ahd]
   ·rw[Anb hinf hu,hce,<-hml,Ahd]
   ·rw[run_equalIn_agg w D t _ _ (by rw[hfo];exact hu) hs,hfo]
    have:=A4i (V:=V) (P:=P) (D:=D) (ok:=eqB P d) (λ t info zs hi hz hk=>Bwc d D (by omega) t zs info hi hz hk) bx β okp w' fs.toList 0 _ hf l m b [] c2 [] e2 rfl rfl hl hb r1 r2 w
    simpa using this
  ·cases h
theorem B2k (HE:Auc V P) {es:List TypeId} (hes:V.eqs=λ t=>Sa t es) (h:(es.all λ t=>match V.ti t with|some i=>eqB P 100 t i.zero&& !P.eqGuardType P.depth t&&i.kind.agg|none=>false)=true):Bxo V P:=by
 intro t ht i hi bx β ok w' l m b c d hl hb r1 r2 x y w op hop
 rw[hes]at ht
 have:=List.all_eq_true.1 h t (Bpg ht)
 rw[hi]at this
 simp only[Bool.and_eq_true,Bool.not_eq_true']at this
 obtain⟨⟨h1,h2⟩,h3⟩:=this
 obtain⟨info,dd,z,I⟩:=HE t i hi
 refine⟨run_eqGuard_agg w op t x y c d h2, ?_⟩
 have hz:i.zero.length=info.size:=by
  have:=(Aie (T:=V.T) (bx:=bx) (β:=β) (ok:=ok) (w:=w') I.zeros).length
  rw[this,I.size,<-I.zcells];simp
 obtain⟨xx,yy,g1,g2,g3⟩:=Bwc (V:=V) (P:=P) 100 10000 (by omega) t i.zero info I.inf hz h1 bx β ok w' l m b [] c.toList [] [] d.toList [] hl hb r1 r2 rfl w
 have hk:=I.kind
 have hu:=I.under
 cases dd<;>cases hik:i.kind<;>rw[hik]at hk h3<;>simp[Gg]at hk<;>simp[TK.agg]at h3
 ·exfalso
  unfold eqB at h1
  rw[hu]at h1
  simp at h1
 ·have hc:c.toList.length=info.size:=by rw[<-r1.length,Lr hl,hz]
  have hd:d.toList.length=info.size:=by
   have e:l=l++[]:=by simp
   rw[e]at hb
   obtain⟨m1,m2,b1,b2,rfl,hm1,_,hb2,_⟩:=As4 hb
   have:m2=[]:=by cases m2<;>simp[eqL]at hb2<;>rfl
   subst this
   rw[<-r2.length];simp;rw[hm1,Lr hl,hz]
  rw[Anb I.inf hu]at g1 g2
  have e1:=Ahd [] c.toList []
  have e2:=Ahd [] d.toList []
  rw[hc]at e1;rw[hd]at e2
  rw[e1]at g1;rw[e2]at g2
  cases g1;cases g2
  simpa [Op.equal,Op.maxDepth]using g3
end
noncomputable def Bri.{u} {α:Type u} (k:Nat) (l:List (Nat×α)):Option α:=
 List.rec (motive:=λ _=>Option α) none (λ e _ ih=>Bool.rec (motive:=λ _=>Option α) ih (some e.2) (Nat.beq e.1 k)) l
theorem Bap.{u} {α:Type u} (k:Nat):∀l:List (Nat×α),Bri k l=Ae k l
 |[]=>rfl
 |(j,x)::r=>by
  have ih:=Bap k r
  unfold Bri at ih ⊢
  unfold Ae
  show Bool.rec (motive:=λ _=>Option α) _ (some x) (Nat.beq j k)=_
  cases h:Nat.beq j k
  ·simpa using ih
  ·simp
noncomputable def By0 {α:Type} (k:Nat) (x:α) (l:List (Nat×α)):List (Nat×α):=
 List.rec (motive:=λ _=>List (Nat×α)) [(k,x)] (λ e r ih=>Bool.rec (motive:=λ _=>List (Nat×α))
  ((k,x)::e::r) (Bool.rec (motive:=λ _=>List (Nat×α)) (e::ih) ((k,x)::r) (Nat.beq e.1 k)) (Nat.ble k e.1)) l
theorem A2g {α:Type} (k:Nat) (x:α) (i:Nat):∀l:List (Nat×α),Ae i (By0 k x l)=if i=k then some x else Ae i l
 |[]=>by
  show Ae i [(k,x)]=_
  by_cases h:i=k
  ·subst h;simp[Ae]
  ·rw[if_neg h];unfold Ae;rw[Fi (Ne.symm h)];rfl
 |(j,y)::r=>by
  have ih:=A2g k x i r
  unfold By0 at ih ⊢
  show Ae i (Bool.rec (motive:=λ _=>List (Nat×α)) ((k,x)::(j,y)::r) (Bool.rec (motive:=λ _=>List (Nat×α)) ((j,y)::_) ((k,x)::r) (Nat.beq j k)) (Nat.ble k j))=_
  have front:∀m:List (Nat×α),Ae i ((k,x)::m)=if i=k then some x else Ae i m:=by
   intro m
   by_cases h:i=k
   ·subst h;simp[Ae]
   ·rw[if_neg h];show Ae i ((k,x)::m)=_;unfold Ae;rw[Fi (Ne.symm h)];cases m<;>rfl
  cases h:Nat.ble k j
  ·exact front _
  ·cases h2:Nat.beq j k
   ·show Ae i ((j,y)::_)=_
    unfold Ae
    by_cases hj:Nat.beq j i=true
    ·rw[if_pos hj,if_pos hj]
     have:=Ah hj
     subst this
     rw[if_neg]
     rintro rfl
     simp at h2
    ·rw[if_neg hj,if_neg hj];exact ih
   ·have:=Ah h2
    subst this
    show Ae i ((j,x)::r)=_
    rw[front]
    by_cases hi:i=j
    ·rw[if_pos hi,if_pos hi]
    ·rw[if_neg hi,if_neg hi];show Ae i r=Ae i ((j,y)::r);conv=>rhs;unfold Ae
     rw[Fi (Ne.symm hi)];rfl
section
variable (V:Env)
abbrev Sl (V:Env):=List (Nat×Option (SV V.E))
abbrev Bx (V:Env):=List (Nat×Box V.E)
noncomputable def Bo5 (sl:Sl V) (k:Nat):Option (SV V.E):=
 Bool.rec (motive:=λ _=>Option (SV V.E)) none (Option.rec (motive:=λ _=>Option (SV V.E)) none (λ x=>x) (Bri k sl)) (Nat.blt k 1000000)
noncomputable def M8 (sl:Sl V) (t:TypeId) (x:Operand):Option (SV V.E):=
 Operand.rec (motive:=λ _=>Option (SV V.E)) (Bo5 V sl) (A8g V t) (λ _=>none) (λ f=>some (.cv (.one (.clo f [])))) x
noncomputable def A8o (t:B0 V.E):Bx V->List Nat->List Nat->Option (Option (SV V.E)×List Cd×List (Nat×Box V.E)×Acc):=
 B0.rec (motive:=λ _=>Bx V->List Nat->List Nat->Option (Option (SV V.E)×List Cd×List (Nat×Box V.E)×Acc))
  (λ _ _ _=>none) (λ v c bs rs ws=>some (v,c,bs,⟨rs,ws⟩)) (λ id _ ih bs rs ws=>ih (Bri id bs) bs (id::rs) ws) (λ id b _ ih bs rs ws=>ih (By0 id b bs) rs (id::ws)) t
theorem Bst (n:Nat) (sl:Sl V) (bx:Bx V) (k:Nat):Bo5 V sl k=slotT V ⟨n,sl,bx⟩ k:=by
 unfold Bo5 slotT slot
 rw[Bap]
 cases Nat.blt k 1000000
 ·rfl
 ·show Option.rec (motive:=λ _=>Option (SV V.E)) none (λ x=>x) (Ae k sl)=_
  cases Ae k sl<;>simp
theorem Ap5 (n:Nat) (sl:Sl V) (bx:Bx V) (t:TypeId) (x:Operand):M8 V sl t x=Hv V ⟨n,sl,bx⟩ t x:=by
 cases x with
 |tmp k=>exact Bst V n sl bx k
 |_=>rfl
theorem Av6:∀(t:B0 V.E) (bs bs':Bx V) (rs ws:List Nat),Au2 bs bs'->∀{v c b1 a},A8o V t bs rs ws=some (v,c,b1,a)->∃b1',Ac V bs' t rs ws=some (v,c,b1',a)/\Au2 b1 b1'
 | .fail,_,_,_,_,_,_,_,_,_,h=>by cases h
 | .ret v c,bs,bs',rs,ws,e,_,_,_,_,h=>by
   have h:some (v,c,bs,(⟨rs,ws⟩:Acc))=some _:=h
   cases h
   exact⟨bs',rfl,e⟩
 | .read id k,bs,bs',rs,ws,e,_,_,_,_,h=>by
   have h:A8o V (k (Bri id bs)) bs (id::rs) ws=some _:=h
   rw[Bap,e id]at h
   exact Av6 (k (Ae id bs')) bs bs' _ _ e h
 | .write id b k,bs,bs',rs,ws,e,_,_,_,_,h=>by
   have h:A8o V k (By0 id b bs) rs (id::ws)=some _:=h
   refine Av6 k _ _ _ _ (λ i=> ?_) h
   rw[A2g]
   by_cases hi:i=id
   ·subst hi;rw[if_pos rfl,Aw]
   ·rw[if_neg hi,Ay hi];exact e i
end
end Go.Ab
