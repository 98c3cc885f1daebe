/- A run of a function's code does what the code does: the whole. Conditions: none beyond those that each theorem names. -/
import Derived.Test.YtgngflkahbpecaaGreatDoorP14
set_option linter.unusedSimpArgs false
set_option linter.unusedVariables false
namespace Go.Ab
open Go
section
variable {V:Env} {P:Program} {C:Ctx}
theorem Auz {E:Nat->Type} (base:Nat) (ids:List Nat) (id:Nat):∀bx:List (Nat×Box E),Ae id (A5c base ids bx)=if Aw4 base ids id=true then Ae id bx else none
 |[]=>by simp[A5c,Ae]
 |(j,b)::r=>by
  have ih:=Auz base ids id r
  unfold A5c
  by_cases hj:Nat.beq j id=true
  ·have:=Ah hj;subst this
   split
   ·rename_i h;rw[if_pos h];simp[Ae]
   ·rename_i h
    rw[ih,if_neg (by simp[h]),if_neg (by simp[h])]
  ·split
   ·show(if Nat.beq j id=true then some b else Ae id (A5c base ids r))=if Aw4 base ids id=true then(if Nat.beq j id=true then some b else Ae id r)else none
    rw[if_neg hj,if_neg hj];exact ih
   ·rw[ih]
    show _=if Aw4 base ids id=true then(if Nat.beq j id=true then some b else Ae id r)else none
    rw[if_neg hj]
theorem Av1 {base:Nat} {ids:List Nat}:∀{l:List Nat},Axp base ids l=true->∀i∈l,Aw4 base ids i=true
 |x::xs,h,i,hi=>by
  unfold Axp at h
  split at h
  ·rename_i hx
   rcases List.mem_cons.1 hi with rfl|hi
   ·exact hx
   ·exact Av1 h i hi
  ·cases h
theorem Am1 {E:Nat->Type} {base:Nat} {ids:List Nat}:∀{bx:List (Nat×Box E)},Ak5 base ids bx=true->∀{id ls},Ae id bx=some (.cells ls)->∀i∈B5 ls,Aw4 base ids i=true
 |[],_,_,_,h=>by simp[Ae]at h
 |(j,b)::r,hk,id,ls,h=>by
  unfold Ae at h
  unfold Ak5 at hk
  split at hk
  ·rename_i heq;cases heq
  ·rename_i heq;cases heq
   split at hk
   ·rename_i ha
    split at h
    ·cases h;exact Av1 ha
    ·exact Am1 hk h
   ·cases hk
  ·rename_i hne heq;cases heq
   split at h
   ·cases h;exact(hne _ _ rfl).elim
   ·exact Am1 hk h
theorem Brl {E:Nat->Type} {base:Nat} {roots:List Nat} {bx bx':List (Nat×Box E)} (h:Bwi base roots bx=some bx'):
 ∃p:Nat->Bool,(∀id,Ae id bx'=if p id=true then Ae id bx else none)/\(∀id,id<base->p id=true)/\(∀id∈roots,p id=true)/\
  ∀id ls,p id=true->Ae id bx=some (.cells ls)->∀i∈B5 ls,p i=true:=by
 unfold Bwi at h
 simp only at h
 generalize Azb base bx 100000 (roots++Bl2 base bx) []=ids at h
 split at h
 ·rename_i hb
  cases h
  simp only[Bool.and_eq_true]at hb
  refine⟨Aw4 base ids,λ id=>Auz base ids id bx,λ id hid=> ?_,λ id hid=>Av1 hb.1 id hid,λ id ls hp hl i hi=> ?_⟩
  ·unfold Aw4;rw[Nat.blt_eq.mpr hid];rfl
  ·exact Am1 hb.2 (show Ae id (A5c base ids bx)=some (.cells ls) by rw[Auz,if_pos hp];exact hl) i hi
 ·cases h
theorem Bdy {E:Nat->Type}:∀{l:List (Nat×Option (SV E))} {k:Nat} {x:SV E},Ae k l=some (some x)->∀i∈x.ids,i∈A8q l
 |[],_,_,h=>by simp[Ae]at h
 |(j,v)::r,k,x,h=>by
  intro i hi
  unfold Ae at h
  split at h
  ·cases h
   exact List.mem_append.2 (.inl hi)
  ·have:=Bdy h i hi
   cases v with
   |none=>exact this
   |some v=>exact List.mem_append.2 (.inr this)
def B4o (base:Nat) (m:Sl V):Prop:=∀k x,Ae k m=some (some x)->∀i∈x.ids,i<base
theorem Bvf {m:Sl V} (hm:Azn m) (hu:B4o V.base m) {ks:List Nat} {s s':St V.E} (h:A8z V ks s=some s') (hl:Low s):Low s'/\∀{a:Act} {w:World},Sim V C (Hg m s) a w->Sim V C (Hg m s') a w:=by
 unfold A8z at h
 simp only at h
 split at h
 ·rename_i bx hb
  cases h
  refine⟨λ k hk=> ?_, ?_⟩
  ·show Ae k (Zr ks s.slots)=none
   rw[Ia]
   split
   ·exact hl k hk
   ·rfl
  rintro a w ⟨β,S⟩
  obtain⟨p,p1,p2,p3,p4⟩:=Brl hb
  obtain⟨β',M',L,hag⟩:=Bfh S.mem p1 p4
  refine⟨β',S.size,S.defers,λ k x hk=> ?_,M'⟩
  have hk':Ae k (Zr ks s.slots++m)=some (some x):=by
   unfold slot at hk
   split at hk
   ·rename_i y hy;subst hk;exact hy
   ·cases hk
  rw[H5]at hk'
  have fin:slot V (Hg m s) k=some x->(∀i∈x.ids,p i=true)->SR V C bx β' w x (Uz C a.tmps k):=λ h1 h2=>
   Az.agree L (λ id hid=>⟨.inl (hag id (h2 id hid)).1,(hag id (h2 id hid)).2⟩) (S.slots k x h1)
  split at hk'
  ·rename_i y hy
   cases hk'
   refine fin ?_ (λ i hi=>p3 i (Bdy hy i hi))
   rw[Ia]at hy
   split at hy
   ·unfold slot Hg
    simp only[H5,hy]
   ·cases hy
  ·rename_i hy
   refine fin ?_ (λ i hi=>p2 i (hu k x hk' i hi))
   rw[Ia]at hy
   unfold slot Hg
   simp only[H5]
   by_cases hkm:1000000<=k
   ·rw[hl k hkm];simp only[hk']
   ·rw[hm k (by omega)]at hk';cases hk'
 ·cases h
theorem B08 (L:FuncId->Option (FL V.E)) (lv:Nat->Option (List Nat)) (n:Nat) (k:List Item) (s:St V.E):goX V L lv (n+1) k s=(match Bv5 V L lv s k with
 | .fail=>none
 | .done s=>some s
 | .next k s=>goX V L lv n k s):=rfl
theorem Avo (G:Bs V P) (h0:V.t0=false) {L:FuncId->Option (FL V.E)} (HL:∀f S,L f=some S->Mb V.T P f S) {lv:Nat->Option (List Nat)} {m:Sl V} (hm:Azn m) (hu:B4o V.base m) {F:Act->World->Prop} {s1:St V.E}
 (hF:Low s1->∀a w,Sim V C (Hg m s1) a w->F a w):∀(fuel:Nat) (k:List Item) (s:St V.E),goX V L lv fuel k s=some s1->Low s->Bv V P C F k (Hg m s)
 |0,k,s,h,_=>by cases h
 |fuel+1,k,s,h,hl=>by
  rw[B08]at h
  have loop:∀(c:Code) (k':List Item),A3c V lv c s=none\/(∃s2,A3c V lv c s=some s2/\Low s2/\∀{a:Act} {w:World},Sim V C (Hg m s) a w->Sim V C (Hg m s2) a w):=by
   intro c k'
   unfold A3c
   split
   ·rename_i ks _
    cases hg:A8z V ks s with
    |none=>exact .inl rfl
    |some s2=>
     obtain⟨q1,q2⟩:=Bvf (C:=C) hm hu hg hl
     exact .inr ⟨s2,rfl,q1,q2⟩
   ·exact .inr ⟨s,rfl,hl,id⟩
  have one:∀(k':List Item),(∀(a:Act) (w:World) (b:Frame) (cs:List Frame),step P (lone (b.at a k) cs w)= .next (lone (b.at a k') cs w))->goX V L lv fuel k' s=some s1->Bv V P C F k (Hg m s):=
   λ k' hs h=> .of_steps (λ a w S b cs=>⟨a,w,S,.one (hs a w b cs)⟩) (Avo G h0 HL hm hu hF fuel k' s h hl)
  have again:∀(c:Code) (k':List Item),(∀(a:Act) (w:World) (b:Frame) (cs:List Frame),step P (lone (b.at a k) cs w)= .next (lone (b.at a (.code c:: .inLoop c::k')) cs w))->
   (match B32 (.code c:: .inLoop c::k') (A3c V lv c s)with| .fail=>none| .done s=>some s| .next k s=>goX V L lv fuel k s)=some s1->Bv V P C F k (Hg m s):=by
   intro c k' hs h
   rcases loop c k' with hn|⟨s2,hn,hl2,hsim⟩
   ·rw[hn]at h;cases h
   ·rw[hn]at h
    exact .of_steps (λ a w S b cs=>⟨a,w,hsim S,.one (hs a w b cs)⟩) (Avo G h0 HL hm hu hF fuel _ s2 h hl2)
  match k,h,one,again with
  |[],h,_,_=>
   have h:some s=some s1:=h
   cases h
   exact λ a w S b cs=>⟨a,w,[],hF hl a w S,.one step_end⟩
  | .inBlock _::k0,h,one,_=>exact one k0 (λ _ _ _ _=>step_inBlock) h
  | .inLoop c::k0,h,_,again=>exact again c k0 (λ _ _ _ _=>step_inLoop) h
  | .code .skip::k0,h,one,_=>exact one k0 (λ _ _ _ _=>step_skip) h
  | .code (.label _)::k0,h,one,_=>exact one k0 (λ _ _ _ _=>step_label) h
  | .code (.seq x y)::k0,h,one,_=>exact one _ (λ _ _ _ _=>step_seq) h
  | .code (.block id c)::k0,h,one,_=>exact one _ (λ _ _ _ _=>step_block) h
  | .code (.loop c)::k0,h,_,again=>exact again c k0 (λ _ _ _ _=>step_loop) h
  | .code .ret::k0,h,_,_=>
    have h:some s=some s1:=h
    cases h
    exact λ a w S b cs=>⟨a,w,.code .ret::k0,hF hl a w S,.one step_ret⟩
  | .code (.exit id)::k0,h,one,_=>
    cases hk:exitTo id k0 with
    |none=>simp only[Bv5,B1h,hk]at h;cases h
    |some k'=>simp only[Bv5,B1h,hk]at h;exact one k' (λ _ _ _ _=>step_exit hk) h
  | .code (.cond c x y)::k0,h,_,_=>
    have h:(match B8p V x y k0 s (M8 V s.slots 0 c)with| .fail=>none| .done s=>some s| .next k s=>goX V L lv fuel k s)=some s1:=h
    have hcond:∀t,M8 V s.slots 0 c=some (.cv (.one (.bool t)))->∀a w,Sim V C (Hg m s) a w->a.eval c= .bool t:=by
     rintro t ht a w ⟨β,S⟩
     rw[Ap5 V s.n s.slots s.boxes,<-Asm hm]at ht
     have hr:=As7 S 0 c _ ht
     simpa only[SR,Az,Ar,Ad]using hr
    generalize M8 V s.slots 0 c=oc at h hcond
    match oc,h,hcond with
    |some (.cv (.one (.bool true))),h,hcond=>
     exact .of_steps (λ a w S b cs=>⟨a,w,S,.one (step_cond (hcond true rfl a w S))⟩) (Avo G h0 HL hm hu hF fuel (.code x::k0) s h hl)
    |some (.cv (.one (.bool false))),h,hcond=>
     exact .of_steps (λ a w S b cs=>⟨a,w,S,.one (step_cond (hcond false rfl a w S))⟩) (Avo G h0 HL hm hu hF fuel (.code y::k0) s h hl)
  | .code (.region id ops true)::k0,h,_,_=>
    have h:(match Bwh V k0 ops (Aqw V ops.toList 0 ops.toList s)with| .fail=>none| .done s=>some s| .next k s=>goX V L lv fuel k s)=some s1:=h
    cases hev:Aqw V ops.toList 0 ops.toList s with
    |none=>rw[hev]at h;cases h
    |some r=>
     obtain⟨s2,acs⟩:=r
     rw[hev]at h
     cases hany:Bbc ops acs with
     |false=>simp only[Bwh,hany]at h;cases h
     |true=>
      simp only[Bwh,hany]at h
      have hl2:Low s2:=(Btr (allA:=acs) h0 hm (ops:=ops) ops.toList 0 s s2 acs rfl rfl hev hl).1
      refine .of_steps (λ a w S b cs=> ?_) (Avo G h0 HL hm hu hF fuel k0 s2 h hl2)
      have hwp:=B1n G h0 hm (id:=id) (Q:=λ e a' w'=>e= .normal/\Sim V C (Hg m s2) a' w') S hev hany hl (λ a' w' S'=>⟨rfl,S'⟩)
      obtain⟨e,a',w',⟨rfl,S'⟩,harr⟩:=hwp b k0 cs
      exact⟨a',w',S',harr⟩
  | .code (.region id ops false)::k0,h,_,_=>
    have h:(match B32 k0 (Avb V L ops.toList ops.toList 0 s)with| .fail=>none| .done s=>some s| .next k s=>goX V L lv fuel k s)=some s1:=h
    cases hev:Avb V L ops.toList ops.toList 0 s with
    |none=>rw[hev]at h;cases h
    |some s2=>
     rw[hev]at h
     have h:goX V L lv fuel k0 s2=some s1:=h
     intro a w S b cs
     have hwp:(Code.region id ops false).wp P (λ e a' w'=>e= .normal/\Low s2/\Sim V C (Hg m s2) a' w') a w:=
      wp_region (by simpa using Bw2 G h0 HL hm (ops:=ops) ops.toList 0 rfl s s2 a w S hev hl λ hl2 a' w' S'=>⟨rfl,hl2,S'⟩)
     obtain⟨e,a',w',⟨rfl,hl2,S'⟩,harr⟩:=hwp b k0 cs
     obtain⟨a2,w2,todo,hf,hst⟩:=Avo G h0 HL hm hu hF fuel k0 s2 h hl2 a' w' S' b cs
     exact⟨a2,w2,todo,hf,harr.trans hst⟩
theorem A06 (G:Auc V P) {m:Sl V} (hm:Azn m) {s:St V.E} {β:Nat->BI} {a:Act} {w:World} (S:Aoz V C (Hg m s) β a w):∀(rs:List ResultVar) (cs:List (CV V.E)),A1g V s rs=some cs->
 ∃vs,(rs.mapM (Bfs a)).run P w= .ok vs w/\Ba (Ar V.T s.boxes β (A2 C β w) w) cs vs
 |[],cs,h=>by
  simp only[A1g,Option.some.injEq]at h
  subst h
  exact⟨[],by simp,.nil⟩
 |r::rs,cs,h=>by
  simp only[A1g]at h
  split at h
  ·rename_i c hc
   split at h
   ·rename_i cs' hcs
    cases h
    have hc':A52 V (Hg m s) r=some c:=by
     rw[<-hc]
     cases r with
     |tmp k=>simp only[A52,Ana hm]
     |cell k t=>simp only[A52,Ana hm];rfl
    obtain⟨v,h1,h2⟩:=Bog G S hc'
    obtain⟨vs,h3,h4⟩:=A06 G hm S rs cs' hcs
    refine⟨v::vs, ?_,.cons h2 h4⟩
    rw[List.mapM_cons]
    simp only[Sem.run_bind,Sem.run_pure,h1,h3,Result.andThen_ok]
   ·cases h
  ·cases h
theorem Blz {α:Type}:∀(bx:List (Nat×α)) (t:Nat),t<=Bz5 t bx/\∀k x,Ae k bx=some x->k<=Bz5 t bx
 |[],t=>⟨Nat.le_refl _,λ k x h=>by simp[Ae]at h⟩
 |(j,y)::r,t=>by
  unfold Bz5
  split
  ·rename_i hj
   have hj:=Nat.blt_eq.mp hj
   obtain⟨h1,h2⟩:=Blz r j
   refine⟨by omega,λ k x h=> ?_⟩
   unfold Ae at h
   split at h
   ·rename_i e;have:=Ah e;subst this;exact h1
   ·exact h2 k x h
  ·rename_i hj
   obtain⟨h1,h2⟩:=Blz r t
   refine⟨h1,λ k x h=> ?_⟩
   unfold Ae at h
   split at h
   ·rename_i e
    have:=Ah e;subst this
    have:¬t<j:=λ h=>by rw[Nat.blt_eq.mpr h]at hj;cases hj
    omega
   ·exact h2 k x h
theorem B0b {α:Type} (lo:Nat) (bx:List (Nat×α)) {k:Nat} {x:α} (h:Ae k bx=some x):k<A1c lo bx:=by
 have:=(Blz bx lo).2 k x h
 unfold A1c
 omega
def fr (j:Nat):Nat:=(j+1)*1000000
theorem B9g {i j:Nat} (h:fr i=fr j):i=j:=by unfold fr at h;omega
theorem Bkn (j:Nat):1000000<=fr j:=by unfold fr;omega
theorem A82 (C:Ctx) (tmps:Array Value) (j:Nat):Uz C tmps (fr j)=(C.outs.getD j #[]).getD 0 undef:=by
 have h1:Nat.blt (fr j) 1000000=false:=by
  cases hc:Nat.blt (fr j) 1000000 with
  |false=>rfl
  |true=>have:=Nat.blt_eq.mp hc;have:=Bkn j;omega
 have h2:fr j/1000000-1=j:=by unfold fr;omega
 have h3:fr j%1000000=0:=by unfold fr;omega
 unfold Uz
 rw[h1,h2,h3]
def kpM (V:Env):Nat->List (SV V.E)->Sl V
 |_,[]=>[]
 |j,x::xs=>(fr j,some x)::kpM V (j+1) xs
theorem Asr {α:Type} (i k:Nat) (x:α) (r:List (Nat×α)):Ae k ((i,x)::r)=if Nat.beq i k=true then some x else Ae k r:=rfl
theorem Ao8:∀(xs:List (SV V.E)) (j k:Nat),Ae k (kpM V j xs)=none\/∃i x,xs[i]?=some x/\k=fr (j+i)/\Ae k (kpM V j xs)=some (some x)
 |[],j,k=> .inl rfl
 |x::xs,j,k=>by
  unfold kpM
  rw[Asr]
  by_cases h:Nat.beq (fr j) k=true
  ·rw[if_pos h]
   exact .inr ⟨0,x,rfl,(Ah h).symm,rfl⟩
  ·rw[if_neg h]
   rcases Ao8 xs (j+1) k with h|⟨i,y,h1,h2,h3⟩
   ·exact .inl h
   ·exact .inr ⟨i+1,y,by simpa using h1,by rw[h2];congr 1;omega,h3⟩
theorem B1k:∀(xs:List (SV V.E)) (j i:Nat) (x:SV V.E),xs[i]?=some x->Ae (fr (j+i)) (kpM V j xs)=some (some x)
 |[],j,i,x,h=>by simp at h
 |y::xs,j,0,x,h=>by
  unfold kpM
  rw[Asr,Nat.add_zero,if_pos (Nat.beq_refl _)]
  simpa using h
 |y::xs,j,i+1,x,h=>by
  unfold kpM
  rw[Asr,if_neg (by rw[Fi (λ e=>by have:=B9g e;omega)];simp)]
  have:=B1k xs (j+1) i x (by simpa using h)
  rw[show j+1+i=j+(i+1) by omega]at this
  exact this
theorem Zg:∀(args:List (CV V.E)) (i k:Nat),Ae k (M9 i args)=if i<=k then(args[k-i]?).map (λ c=>some (SV.cv c))else none
 |[],i,k=>by simp[M9,Ae]
 |c::cs,i,k=>by
  unfold M9
  rw[Asr]
  split
  ·rename_i h
   have:=Ah h;subst this
   simp
  ·rename_i h
   have hne:i≠k:=λ e=>by subst e;simp at h
   rw[Zg cs (i+1) k]
   by_cases hik:i<=k
   ·rw[if_pos hik,if_pos (by omega),show k-i=(k-(i+1))+1 by omega];simp
   ·rw[if_neg hik,if_neg (by omega)]
end
section
variable {P:Program} {T:Tab} {ti:TypeId->Option (TI T.E)} {eqs:TypeId->Bool}
theorem B6k {L:FuncId->Option (FL T.E)} {base:Nat}:∀(l m:List (Av T.E)),eqL (Byw T ti eqs L base) l m=eqL (Az3 T ti eqs []) l m:=by
 intro l
 induction l with
 |nil=>intro m;cases m<;>simp[eqL]
 |cons a l ih=>
  intro m
  cases m with
  |nil=>cases a<;>simp[eqL]
  |cons b m=>cases a<;>cases b<;>simp[eqL,ih]
theorem Cao (B:Bqm T ti eqs P) {L:FuncId->Option (FL T.E)} (HL:∀f S,L f=some S->Mb T P f S) (base:Nat):Bs (Byw T ti eqs L base) P:=
 ⟨B.tab,λ t i hi=>by obtain⟨info,d,z,I⟩:=B.types t i hi;exact⟨info,d,z,I.inf,I.under,I.kind,I.size,I.bytes,I.ty,I.pos,I.bpos,I.zero,I.zeros,I.zcells,I.zagg⟩,
  λ t ht i hi bx β ok w' l m b c d hl h=>B.eqs t ht i hi bx β ok w' l m b c d hl (by rw[<-h];exact(B6k l m).symm),
  ⟨(λ _ _ hS=>by cases hS),(λ _ _ hS=>by cases hS),(λ _ _ hS=>by cases hS),(λ f S hS=>HL f S hS),λ _ _ _ hS=>by cases hS⟩,B.mixed⟩
theorem Bu2 {V:Env} {P:Program} (G:Bs V P) (h0:V.t0=false) {L:FuncId->Option (FL V.E)} (HL:∀f S,L f=some S->Mb V.T P f S) {lv:Nat->Option (List Nat)} {f:FuncId} {fn:Func} (hf:P.funcs[f]?=some fn)
 {args res:List (CV V.E)} {bx bx':Bx V} (hbase:∀k x,Ae k bx=some x->k<V.base) (h:B1l V L lv fn args bx=some (res,bx')) {C:Ctx} {β:Nat->BI} {w:World} {vs:List Value} {kx:List (SV V.E)} {kv:List Value}
 (M:Bk V.T C bx β w) (hargs:Ba (Ar V.T bx β (A2 C β w) w) args vs) (hkp:Ba (Az V.T bx β (A2 C β w) w) kx kv):
 Calls P f vs.toArray w λ e w'=>∃β' rs,e= .returned (Ape rs)/\Bk V.T C bx' β' w'/\Ba (Ar V.T bx' β' (A2 C β' w') w') res rs/\Ba (Az V.T bx' β' (A2 C β' w') w') kx kv:=by
 unfold B1l at h
 split at h
 ·rename_i c hlen hbody
  simp only[Bool.and_eq_true,Nat.ble_eq]at hlen
  split at h
  ·rename_i s1 hgo
   split at h
   ·rename_i res' hres
    split at h
    ·rename_i bx2 hlet
     cases h
     let C':Ctx:=⟨C.P,C.okp,C.B,C.chg,C.W,undef,kv.map λ v=> #[v]⟩
     have M':Bk V.T C' bx β w:=⟨M.boxes,M.nones,M.nodup,M.apart,M.mine,⟨M.kept.os,M.kept.tape,M.kept.output,M.kept.size,M.kept.heap⟩⟩
     let m:Sl V:=kpM V 0 kx
     have hm:Azn m:=by
      intro k hk
      rcases Ao8 (V:=V) kx 0 k with h|⟨i,x,_,h2,_⟩
      ·exact h
      ·have:=Bkn (0+i);omega
     have hkget:∀i x,kx[i]?=some x->∃v,kv[i]?=some v/\Az V.T bx β (A2 C β w) w x v:=λ i x hx=>hkp.get i x hx
     have hu:B4o V.base m:=by
      intro k x hk i hi
      rcases Ao8 (V:=V) kx 0 k with h|⟨j,y,h1,_,h3⟩
      ·rw[show Ae k m=none from h]at hk;cases hk
      ·have h3':Ae k m=some (some y):=h3
       rw[h3']at hk
       cases hk
       obtain⟨v,_,hr⟩:=hkget j _ h1
       obtain⟨b,hb⟩:=Az.here hr i hi
       exact hbase _ _ hb
     have hlenv:args.length=vs.length:=hargs.length
     have Sm:Sim V C' (Hg m ⟨fn.ntmps,M9 0 args,bx⟩) {tmps:=vs.toArray++Array.replicate (fn.ntmps-vs.toArray.size) undef,defers:=[]} w:=by
      refine⟨β, ?_,⟨rfl,λ h=>by rw[h0]at h;cases h⟩,λ k y hk=> ?_,M'⟩
      ·simp[Hg];omega
      ·have hk':Ae k ((M9 0 args:Sl V)++m)=some (some y):=by
        unfold slot at hk
        split at hk
        ·rename_i z hz;subst hk;exact hz
        ·cases hk
       rw[H5,Zg (V:=V)]at hk'
       simp only[Nat.zero_le,if_true,Nat.sub_zero]at hk'
       cases hak:args[k]? with
       |some c0=>
        rw[hak]at hk'
        simp only[Option.map_some,Option.some.injEq]at hk'
        subst hk'
        obtain⟨v,hv,hr⟩:=hargs.get k c0 hak
        have hlt:k<args.length:=(List.getElem?_eq_some_iff.1 hak).1
        have hget:Uz C' (vs.toArray++Array.replicate (fn.ntmps-vs.toArray.size) undef) k=v:=by
         rw[Bmn (by omega),Array.getD_eq_getD_getElem?,Array.getElem?_append_left (by simpa [<-hlenv]using hlt)]
         simp[hv]
        show Ar V.T bx β (A2 C β w) w c0 _
        rw[hget];exact hr
       |none=>
        rw[hak]at hk'
        simp only[Option.map_none]at hk'
        rcases Ao8 (V:=V) kx 0 k with h|⟨j,x,h1,h2,h3⟩
        ·rw[show Ae k m=none from h]at hk';cases hk'
        ·have h3':Ae k m=some (some x):=h3
         rw[h3']at hk'
         cases hk'
         obtain⟨v,hv,hr⟩:=hkget j _ h1
         have hget:Uz C' (vs.toArray++Array.replicate (fn.ntmps-vs.toArray.size) undef) k=v:=by
          rw[h2,A82,Nat.zero_add]
          show((kv.map λ v=> #[v]).getD j #[]).getD 0 undef=v
          rw[List.getD_eq_getElem?_getD,List.getElem?_map,hv]
          rfl
         show Az V.T bx β (A2 C β w) w _ _
         rw[hget];exact hr
     have hl0:Low (⟨fn.ntmps,M9 0 args,bx⟩:St V.E):=by
      intro k hk
      show Ae k (M9 0 args:Sl V)=none
      rw[Zg (V:=V)]
      simp only[Nat.zero_le,if_true,Nat.sub_zero]
      rw[List.getElem?_eq_none (by omega)];rfl
     refine Calls.of_goes hf hbody λ b cs=> ?_
     refine Avo (V:=V) (C:=C') G h0 HL hm hu (s1:=s1) (λ hl1 a w' S'=> ?_) _ _ _ hgo hl0 _ _ Sm b cs
     obtain⟨β',S'⟩:=S'
     obtain⟨rs,h1,h2⟩:=A06 G.types hm S' _ _ hres
     obtain⟨p,p1,p2,p3,p4⟩:=Brl hlet
     obtain⟨β2,M2,L,hag⟩:=Bfh (V:=V) S'.mem p1 p4
     refine⟨S'.defers.1,Ape rs, ?_,β2,rs,rfl,⟨M2.boxes,M2.nones,M2.nodup,M2.apart,M2.mine,⟨M2.kept.os,M2.kept.tape,M2.kept.output,M2.kept.size,M2.kept.heap⟩⟩, ?_, ?_⟩
     ·have hm:=h1
      unfold results
      rw[Array.mapM_eq_mapM_toList]
      simp only[Sem.run_bind,Sem.run_map]
      refine(congrArg (λ r=>Result.andThen (Result.andThen r _) _) hm).trans ?_
      simp only[Result.andThen_ok,Sem.run_pure]
      congr 1
      match rs with
      |[]=>rfl
      |[v]=>rfl
      |v::v'::r=>rfl
     ·refine h2.imp_mem λ c v hc k=> ?_
      have hin:∀id∈B5 c.leaves,p id=true:=λ id hid=>p3 id (List.mem_flatMap.2 ⟨c,hc,hid⟩)
      exact Ar.agree (V:=V) L (λ id hid=>⟨.inl (hag id (hin id hid)).1,(hag id (hin id hid)).2⟩) k
     ·refine Ba.of_get (by rw[hkp.length]) λ i x v hx hv=> ?_
      obtain⟨v',hv',hr⟩:=hkget i x hx
      rw[hv]at hv';cases hv'
      have hat:=B1k (V:=V) kx 0 i x hx
      have hsl:slot V (Hg m s1) (fr (0+i))=some x:=by
       unfold slot Hg
       simp only[H5]
       rw[hl1 _ (Bkn _)]
       simp only
       rw[show Ae (fr (0+i)) m=some (some x)from hat]
      have hin:∀id∈x.ids,p id=true:=λ id hid=>p2 id (hu _ x hat id hid)
      have hrep:=S'.slots _ _ hsl
      have hget:Uz C' a.tmps (fr (0+i))=v:=by
       rw[A82,Nat.zero_add]
       show((kv.map λ v=> #[v]).getD i #[]).getD 0 undef=v
       rw[List.getD_eq_getElem?_getD,List.getElem?_map,hv]
       rfl
      rw[hget]at hrep
      exact Az.agree (V:=V) L (λ id hid=>⟨.inl (hag id (hin id hid)).1,(hag id (hin id hid)).2⟩) hrep
    ·cases h
   ·cases h
  ·cases h
 ·cases h
theorem Bt6 (B:Bqm T ti eqs P) {L:FuncId->Option (FL T.E)} (HL:∀f S,L f=some S->Mb T P f S) {lv:Nat->Option (List Nat)} {f:FuncId} {fn:Func} (hf:P.funcs[f]?=some fn) (hn:(fn.name== "runtime.NumGoroutine")=false) {S:FL T.E}
 (hS:∀lo args bx,S.g lo args bx=B1l (Byw T ti eqs L (A1c lo bx)) L lv fn args bx) (hb:fn.body.isSome=true):Mb T P f S:=by
 refine⟨⟨fn,hf,hb,hn⟩, ?_⟩
 intro lo args bx res bx' h C β w vs kx kv M hargs hkp
 rw[hS]at h
 exact Bu2 (V:=Byw T ti eqs L (A1c lo bx)) (Cao B HL _) rfl HL hf (λ k x hk=>B0b lo bx hk) h M hargs hkp
theorem B1f (B:Bqm T ti eqs P) {lv:FuncId->Nat->Option (List Nat)} {nat:FuncId->Option (FL T.E)} (HN:∀f S,nat f=some S->Mb T P f S):∀n f S,lvl P T ti eqs lv nat n f=some S->Mb T P f S
 |0,f,S,h=>by cases h
 |n+1,f,S,h=>by
  have h:(match nat f with
   |some S=>some S
   |none=>match P.funcs.toList[f]? with
    |some fn=>match fn.body.isNone||fn.name== "runtime.NumGoroutine" with
     |true=>none
     |false=>some ⟨λ lo args bx=>B1l (Byw T ti eqs (lvl P T ti eqs lv nat n) (A1c lo bx)) (lvl P T ti eqs lv nat n) (lv f) fn args bx⟩
    |none=>none)=some S:=h
  split at h
  ·rename_i S' hS
   cases h
   exact HN f _ hS
  ·split at h
   ·rename_i fn hf
    split at h
    ·cases h
    ·rename_i hn
     cases h
     simp only[Bool.or_eq_false_iff]at hn
     exact Bt6 B (B1f B HN n) (by rw[<-Array.getElem?_toList];exact hf) hn.2 (λ _ _ _=>rfl) (by cases hb:fn.body<;>simp_all)
   ·cases h
theorem Bpv (B:Bqm T ti eqs P) {lv:FuncId->Nat->Option (List Nat)} {nat:FuncId->Option (FL T.E)} (HN:∀f S,nat f=some S->Mb T P f S) {n:Nat} {f:FuncId} {b:Bool}
 (h:(match lvl P T ti eqs lv nat n f with|some S=>S.g 0 [] []|none=>none)=some ([.one (.bool b)],[])):Ue T ti eqs P f ⟨[],[.bool],[],[],Bool,λ _=>some b,λ r=>(r,())⟩:=by
 split at h
 ·rename_i S hS
  obtain⟨hfn,hM⟩:=B1f B HN n f S hS
  refine⟨hfn,λ x y hxy okp w vs own hargs hnd hown hokp=> ?_⟩
  obtain⟨rfl,rfl⟩:=hargs
  have hy:(some (b,()):Option (HL T.E [.bool]))=some y:=hxy
  cases hy
  let C1:Ctx:=⟨P,okp,w.heap.size,λ _=>False,w,undef,[]⟩
  have M0:Bk T C1 ([]:List (Nat×Box T.E)) β0 w:=⟨λ id b hb=>by simp[Ae]at hb,λ _ _=>rfl,λ _=>List.nodup_nil,λ _ _ _ hx=>by simp[β0]at hx,λ _ _ hx=>by simp[β0]at hx,⟨rfl,rfl,rfl,Nat.le_refl _,λ _ _ _=>rfl⟩⟩
  refine(hM _ _ _ _ _ h C1 β0 w [] [] [] M0 .nil .nil).mono ?_
  rintro e w' ⟨β',rs,rfl,M',hres,_⟩
  cases hres with
  |cons h1 h2=>
   cases h2
   refine⟨[_],[],rfl,⟨M'.kept.os,M'.kept.tape,M'.kept.output,M'.kept.size,λ b hb _=>M'.kept.heap b hb λ k=>k⟩,List.nodup_nil,(λ _ h=>by simp at h),_,_,[],[],rfl,rfl, ?_,rfl,rfl⟩
   exact⟨[_],.more (λ bx β=>h1) .nil,rfl⟩
 ·cases h
end
end Go.Ab
