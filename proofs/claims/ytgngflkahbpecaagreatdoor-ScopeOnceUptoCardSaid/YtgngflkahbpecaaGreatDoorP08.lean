/- A call does what the abstract one tells. One operation of a frame that an abstract state tells. One step of a region that an abstract state tells, calls among them. Conditions: none beyond those that each theorem names. -/
import Derived.Test.YtgngflkahbpecaaGreatDoorP07
import Derived.Test.YtgngflkahbpecaaGreatDoorP05
set_option linter.unusedSimpArgs false
set_option linter.unusedVariables false
namespace Go.Ab
open Go
section
variable {V:Env} {P:Program} {C:Ctx} {w:World}
variable {res:Option (SV V.E)} {cs:List Cd} {bx':List (Nat×Box V.E)} {ac:Acc}
theorem Bi0 {c0:List Cd}:∀(ls:List (Av V.E)) (id:Nat) (os:List (TypeId×TypeId)) (k:List (Av V.E)->B0 V.E),
 (∀l bx rs ws res cs bx' ac,Ac V bx (k l) rs ws=some (res,cs,bx',ac)->cs=c0)->
 ∀bx rs ws res cs bx' ac,Ac V bx (Ga V id os ls k) rs ws=some (res,cs,bx',ac)->cs=c0
 |[],id,os,k,hk,bx,rs,ws,res,cs,bx',ac,h=>by
  have h:Ac V bx (k []) rs ws=some (res,cs,bx',ac):=by
   cases os with
   |nil=>exact h
   |cons o os=>obtain⟨e,e2⟩:=o;exact h
  exact hk _ _ _ _ _ _ _ _ h
 |l::ls,id,os,k,hk,bx,rs,ws,res,cs,bx',ac,h=>by
  have rec1:∀os' id' (f:List (Av V.E)->List (Av V.E)) bx rs ws,Ac V bx (Ga V id' os' ls λ l=>k (f l)) rs ws=some (res,cs,bx',ac)->cs=c0:=
   λ os' id' f bx rs ws h=>Bi0 ls id' os' (λ l=>k (f l)) (λ l=>hk _) _ _ _ _ _ _ _ h
  unfold Ga at h
  split at h
  ·rename_i heq;cases heq
  ·rename_i heq;cases heq;exact rec1 _ _ (l:: ·) _ _ _ h
  ·rename_i heq;cases heq
   obtain⟨_,rs',ws',h⟩:=Lc h
   exact rec1 _ _ (Av.ar id 0:: ·) _ _ _ h
  ·rename_i heq;cases heq
   obtain⟨_,rs',ws',h⟩:=Lc h
   exact rec1 _ _ (Av.ar id 0:: ·) _ _ _ h
  ·rename_i heq;cases heq;exact rec1 _ _ (l:: ·) _ _ _ h
  ·simp[Ac]at h
theorem Bil {c0:List Cd}:∀(ts:List Ty) (id:Nat) (os:List (List (TypeId×TypeId))) (y:HL V.E ts) (k:List (CV V.E)->B0 V.E),
 (∀l bx rs ws res cs bx' ac,Ac V bx (k l) rs ws=some (res,cs,bx',ac)->cs=c0)->
 ∀bx rs ws res cs bx' ac,Ac V bx (Abd V id os ts y k) rs ws=some (res,cs,bx',ac)->cs=c0
 |[],id,os,y,k,hk,bx,rs,ws,res,cs,bx',ac,h=>hk _ _ _ _ _ _ _ _ h
 |t::ts,id,os,(y,r),k,hk,bx,rs,ws,res,cs,bx',ac,h=>by
  simp only[Abd]at h
  refine Bi0 _ _ _ _ (λ l bx rs ws res cs bx' ac h=> ?_) _ _ _ _ _ _ _ h
  split at h
  ·exact Bil ts _ _ r _ (λ l=>hk _) _ _ _ _ _ _ _ h
  ·simp[Ac]at h
theorem Bhl.later {ok ok':Nat->Prop} (L:Dd ok w ok' w) {n:NB V.E} (h:Bhl V ok w n):Bhl V ok' w n:=by
 unfold Bhl at h ⊢
 split at h
 ·exact⟨h.1,h.2.later L λ _ _=>rfl⟩
 ·obtain⟨h1,h2,h3⟩:=h
  exact⟨h1,h2,h3.imp λ _ _ k=>k.later L λ _ _=>rfl⟩
 ·exact h.elim
theorem Bhl.boxRep {ok:Nat->Prop} {n:NB V.E} (h:Bhl V ok w n) {bx:List (Nat×Box V.E)} {β:Nat->BI} (hβ:β n.id=n.bi):Dc V.T bx β ok w n.id n.b:=by
 unfold Bhl at h
 split at h
 ·rename_i hb;rw[hb];simp only[Dc];rw[hβ];exact h
 ·rename_i hb;rw[hb];simp only[Dc];rw[hβ];exact h
 ·exact h.elim
theorem Bfu {α β:Type} {f:α->List β}:∀{N:List α},(N.flatMap f).Nodup->∀n∈N,(f n).Nodup
 |[],_,n,h=>by simp at h
 |m::N,hd,n,h=>by
  rw[List.flatMap_cons]at hd
  have h1:=List.nodup_append.1 hd
  rcases List.mem_cons.1 h with rfl|h
  ·exact h1.1
  ·exact Bfu h1.2.1 n h
theorem Bcm {α β:Type} {f:α->List β}:∀{N:List α},(N.flatMap f).Nodup->∀n∈N,∀m∈N,∀x,x∈f n->x∈f m->n=m
 |[],_,n,h,_,_,_,_,_=>by simp at h
 |k::N,hd,n,hn,m,hm,x,h1,h2=>by
  rw[List.flatMap_cons]at hd
  have hd:=List.nodup_append.1 hd
  rcases List.mem_cons.1 hn with e|hn'<;>rcases List.mem_cons.1 hm with e'|hm'
  ·rw[e,e']
  ·rw[e]at h1;exact(hd.2.2 x h1 x (List.mem_flatMap.2 ⟨m,hm',h2⟩) rfl).elim
  ·rw[e']at h2;exact(hd.2.2 x h2 x (List.mem_flatMap.2 ⟨n,hn',h1⟩) rfl).elim
  ·exact Bcm hd.2.1 n hn' m hm' x h1 h2
theorem Ajh {α β:Type} {f:α->List β}:∀{N:List α},N.Nodup->(∀n∈N,(f n).Nodup)->(∀n∈N,∀m∈N,∀x,x∈f n->x∈f m->n=m)->(N.flatMap f).Nodup
 |[],_,_,_=>by simp
 |k::N,hd,h1,h2=>by
  rw[List.flatMap_cons]
  have hd:=List.nodup_cons.1 hd
  refine List.nodup_append.2 ⟨h1 k (by simp),Ajh hd.2 (λ n hn=>h1 n (by simp[hn])) (λ n hn m hm=>h2 n (by simp[hn]) m (by simp[hm])),λ x hx y hy e=> ?_⟩
  subst e
  obtain⟨m,hm,hxm⟩:=List.mem_flatMap.1 hy
  have:=h2 k (by simp) m (by simp[hm]) x hx hxm
  subst this
  exact hd.1 hm
theorem Bu4 {S:FS V.E} {o:Orc V.E} {x:HL V.E S.args} {y:HL V.E S.res} {c:List Cd} (h:A85 V S o x=some (y,c)) (hc:Fj c):S.f x=some y:=by
 unfold A85 at h
 split at h
 ·split at h
  ·cases h;exact hc.1
  ·cases h
 ·split at h
  ·rename_i z hz
   cases h
   unfold FS.f
   rw[hz];rfl
  ·cases h
 ·cases h
theorem B5b (HT:V.T.Ok) (HF:Bnf V P) {bx:List (Nat×Box V.E)} {β:Nat->BI} (M:Bk V.T C bx β w) {dst:Nat} {f:FuncId} {args:List (CV V.E)} {vs:List Value} (ha:Ba (Ar V.T bx β (A2 C β w) w) args vs)
 {o:Orc V.E} {rs ws:List Nat} (h:Ac V bx (Aqt V dst f args o) rs ws=some (res,cs,bx',ac)) (hc:Fj cs):Asd V P C bx β w f vs res bx':=by
 unfold Aqt at h
 split at h
 ·rename_i S hS
  obtain⟨hfn,hM⟩:=HF.fs f S hS
  obtain⟨bx1,β1,ls,rs1,ws1,gs,M1,X1,h,g1,_,g3,_,hargs⟩:=Az7 HT _ _ _ _ _ M ha _ _ _ h
  split at h
  rotate_left
  ·simp[Ac]at h
  rename_i x hx
  split at h
  ·rename_i y c0 htold
   have hk:∀l bx rs ws res cs bx' ac,Ac V bx (Q8 V c0 l) rs ws=some (res,cs,bx',ac)->cs=c0:=by
    intro l bx rs ws res cs bx' ac h
    unfold Q8 at h
    split at h<;>exact(Aq h).2.1.symm
   have hcs:=Bil _ _ _ _ _ hk _ _ _ _ _ _ _ h
   rw[hcs]at hc
   have hxy:=Bu4 htold hc
   have hargs:=hargs S.args x hx
   have hgown:∀b,b∈(gs.flatMap λ id=>(β1 id).own)↔∃id∈gs,b∈(β1 id).own:=λ b=>List.mem_flatMap
   refine⟨hfn, ?_⟩
   refine(hM x y hxy (A2 C β1 w) w vs _ hargs (Ajh g3 (λ id _=>M1.nodup id) λ id _ id' _ x h1 h2=>M1.apart id id' x h1 h2) ?_ (λ b hb=>hb.1)).mono ?_
   ·intro b hb
    obtain⟨id,_,hb⟩:=(hgown b).1 hb
    exact⟨(M1.mine id b hb).1,λ hk=>hk.2.2 id hb⟩
   ·rintro e w' ⟨rv,own',rfl,hbut,hnd,hown',hres⟩
    obtain⟨N,cvs,rs2,ws2,b1,b2,b3,b4,b5,b6⟩:=B31 _ _ _ _ _ hres _ _ _ _ _ h
    let β':Nat->BI:=λ j=>match Aqn N j with|some n=>n.bi|none=>if j∈gs then {β1 j with own:=[]}else β1 j
    have hβN:∀n∈N,β' n.id=n.bi:=by
     intro n hn
     show(match Aqn N n.id with|some n=>n.bi|none=>_)=_
     rw[A8i b2 hn]
    have hNg:∀n∈N,n.id∉gs:=by
     intro n hn hg
     have:=g1 _ hg
     rw[b3 n hn]at this;cases this
    have hβg:∀j∈gs,β' j={β1 j with own:=[]}:=by
     intro j hj
     show(match Aqn N j with|some n=>n.bi|none=>_)=_
     split
     ·rename_i n hn
      obtain⟨hm,rfl⟩:=A93 hn
      exact(hNg n hm hj).elim
     ·rw[if_pos hj]
    have hβo:∀j,(¬∃n∈N,n.id=j)->j∉gs->β' j=β1 j:=by
     intro j hj hg
     show(match Aqn N j with|some n=>n.bi|none=>_)=_
     split
     ·rename_i n hn
      obtain⟨hm,e⟩:=A93 hn
      exact(hj ⟨n,hm,e⟩).elim
     ·rw[if_neg hg]
    have hlookN:∀n∈N,Ae n.id (A0f N bx1)=some n.b:=by
     intro n hn;rw[Aki _ _ _ b2,A8i b2 hn]
    have hlooko:∀j,(¬∃n∈N,n.id=j)->Ae j (A0f N bx1)=Ae j bx1:=by
     intro j hj
     rw[Aki _ _ _ b2]
     split
     ·rename_i n hn
      obtain⟨hm,e⟩:=A93 hn
      exact(hj ⟨n,hm,e⟩).elim
     ·rfl
    have hmemN:∀n∈N,∀x∈n.bi.own,x∈own':=by
     intro n hn x hx;rw[b5];exact List.mem_flatMap.2 ⟨n,hn,hx⟩
    have hokR:∀b,(b<w'.heap.size/\(A2 C β1 w b\/w.heap.size<=b\/b∈gs.flatMap λ id=>(β1 id).own)/\b∉own')->A2 C β' w' b:=by
     rintro b ⟨k1,k2,k3⟩
     refine⟨k1, ?_,λ id hid=> ?_⟩
     ·rcases k2 with k2|k2|k2
      ·exact k2.2.1
      ·exact .inr (.inl (Nat.le_trans M1.kept.size k2))
      ·obtain⟨id,_,hb⟩:=(hgown b).1 k2
       rcases(M1.mine id b hb).2 with h|h
       ·exact .inr (.inl h)
       ·exact .inr (.inr h)
     ·by_cases hN:∃n∈N,n.id=id
      ·obtain⟨n,hn,rfl⟩:=hN
       rw[hβN n hn]at hid
       exact k3 (hmemN n hn b hid)
      ·by_cases hg:id∈gs
       ·rw[hβg id hg]at hid;simp at hid
       ·rw[hβo id hN hg]at hid
        rcases k2 with k2|k2|k2
        ·exact k2.2.2 id hid
        ·have:=(M1.mine id b hid).1;omega
        ·obtain⟨id',hid',hb⟩:=(hgown b).1 k2
         have:=M1.apart id id' b hid hb
         subst this;exact hg hid'
    have LR:Dd (λ b=>b<w'.heap.size/\(A2 C β1 w b\/w.heap.size<=b\/b∈gs.flatMap λ id=>(β1 id).own)/\b∉own') w' (A2 C β' w') w':=⟨hokR,λ _ _=>rfl⟩
    obtain⟨M2,X2⟩:=M1.step (bx':=A0f N bx1) (β':=β') (w':=w') (λ j=>j∈gs\/∃n∈N,n.id=j) hbut.os hbut.tape hbut.output hbut.size
     (λ j hj=>⟨hβo j (λ h=>hj (.inr h)) (λ h=>hj (.inl h)),hlooko j λ h=>hj (.inr h)⟩)
     (λ x hx hn=>hbut.heap x hx λ hm=>by
      obtain⟨id,hid,hb⟩:=(hgown x).1 hm
      exact hn id (.inl hid) hb)
     (λ j hj x hx=>by
      by_cases hN:∃n∈N,n.id=j
      ·obtain⟨n,hn,rfl⟩:=hN
       rw[hβN n hn]at hx
       obtain⟨q1,q2⟩:=hown' x (hmemN n hn x hx)
       rcases q2 with q2|q2
       ·exact .inr ⟨q2,q1⟩
       ·obtain⟨id,hid,hb⟩:=(hgown x).1 q2
        exact .inl ⟨id,.inl hid,hb⟩
      ·rcases hj with hj|hj
       ·rw[hβg j hj]at hx;simp at hx
       ·exact(hN hj).elim)
     (λ j hj=>by
      by_cases hN:∃n∈N,n.id=j
      ·obtain⟨n,hn,rfl⟩:=hN
       rw[hβN n hn]
       rw[b5]at hnd
       exact Bfu hnd n hn
      ·rcases hj with hj|hj
       ·rw[hβg j hj];simp
       ·exact(hN hj).elim)
     (λ j j' x hj hj' hx hx'=>by
      by_cases hN:∃n∈N,n.id=j
      ·by_cases hN':∃n∈N,n.id=j'
       ·obtain⟨n,hn,rfl⟩:=hN
        obtain⟨m,hm,rfl⟩:=hN'
        rw[hβN n hn]at hx
        rw[hβN m hm]at hx'
        rw[b5]at hnd
        rw[Bcm hnd n hn m hm x hx hx']
       ·rcases hj' with hj'|hj'
        ·rw[hβg j' hj']at hx';simp at hx'
        ·exact(hN' hj').elim
      ·rcases hj with hj|hj
       ·rw[hβg j hj]at hx;simp at hx
       ·exact(hN hj).elim)
     (λ j hj hn=>by
      by_cases hN:∃n∈N,n.id=j
      ·obtain⟨n,hn',rfl⟩:=hN
       rw[hlookN n hn']at hn;cases hn
      ·rcases hj with hj|hj
       ·rw[hβg j hj]
       ·exact(hN hj).elim)
     (λ j b hj hb=>by
      by_cases hN:∃n∈N,n.id=j
      ·obtain⟨n,hn,rfl⟩:=hN
       rw[b3 n hn]at hb;cases hb
      ·rcases hj with hj|hj
       ·rw[g1 j hj]at hb;cases hb
        exact⟨.gone,by rw[hlooko j hN];exact g1 j hj,trivial⟩
       ·exact(hN hj).elim)
     (λ X j b hj hb=>by
      by_cases hN:∃n∈N,n.id=j
      ·obtain⟨n,hn,rfl⟩:=hN
       rw[hlookN n hn]at hb;cases hb
       exact((b4 n hn).later LR).boxRep (hβN n hn)
      ·rcases hj with hj|hj
       ·rw[hlooko j hN,g1 j hj]at hb;cases hb
        trivial
       ·exact(hN hj).elim)
    have hleaf:∀l v,Awo V (λ b=>b<w'.heap.size/\(A2 C β1 w b\/w.heap.size<=b\/b∈gs.flatMap λ id=>(β1 id).own)/\b∉own') w' N l v->Ad V.T (A0f N bx1) β' (A2 C β' w') w' l v:=by
     intro l v hl
     rcases hl with hl|⟨n,hn,rfl,rfl,hone⟩
     ·exact Ad.ext ⟨LR,λ _ b h=>⟨b,h,Gu.refl _ _ _⟩⟩ _ _ (hl (A0f N bx1) β')
     ·simp only[Ad]
      refine⟨hone, ?_⟩
      rw[hlookN n hn]
      have:=b4 n hn
      unfold Bhl at this
      split at this
      ·rename_i hb;rw[hb];exact⟨Nat.le_refl _,λ _=>by rw[hβN n hn]⟩
      ·rename_i hb;rw[hb];exact⟨Nat.le_refl _,λ _=>by rw[hβN n hn]⟩
      ·exact this.elim
    have hval:∀c v,Bzv V (λ b=>b<w'.heap.size/\(A2 C β1 w b\/w.heap.size<=b\/b∈gs.flatMap λ id=>(β1 id).own)/\b∉own') w' N c v->Ar V.T (A0f N bx1) β' (A2 C β' w') w' c v:=by
     intro c v hcv
     cases c with
     |one l=>exact hleaf _ _ hcv
     |ag ls=>obtain⟨cs,rfl,hcv⟩:=hcv;exact⟨cs,rfl,hcv.imp λ _ _ k=>hleaf _ _ k⟩
    refine⟨_,rfl,β', ?_⟩
    unfold Q8 at b1
    split at b1
    ·rename_i c
     obtain⟨rfl,_,rfl⟩:=Aq b1
     cases b6 with
     |cons q1 q2=>cases q2;exact⟨_,rfl,hval _ _ q1,M2,X1.trans X2⟩
    ·rename_i hne
     obtain⟨rfl,_,rfl⟩:=Aq b1
     refine⟨_,rfl, ?_,M2,X1.trans X2⟩
     simp only[Az]
     refine⟨rv.toArray, ?_,by simpa using b6.imp λ _ _ k=>hval _ _ k⟩
     have hl:=b6.length
     cases rv with
     |nil=>rfl
     |cons v rv=>
      cases rv with
      |cons _ _=>rfl
      |nil=>
       match cvs,hl,hne with
       |[c],_,hne=>exact(hne c rfl).elim
  ·simp[Ac]at h
 ·rename_i hS
  split at h
  rotate_left
  ·split at h
   ·rename_i X hX;exact B2b HT (HF.xs _ _ _ hX) M ha h
   ·exact B1a HF M ha h
  ·simp[Ac]at h
  rename_i d
  cases hW:V.ws f with
  |none=>
   rw[hW]at h
   cases hC:V.cs f with
   |none=>rw[hC]at h;simp[Ar7,Ac]at h
   |some S=>
    rw[hC]at h
    exact B17 HT (HF.cs f S hC) M ha h hc
  |some S=>
   rw[hW]at h
   exact B1w HT (HF.ws f S hW) M ha h hc
end
structure Bs (V:Env) (P:Program):Prop where
 tab:V.T.Ok
 types:Auc V P
 eqs:Bxo V P
 funcs:Bnf V P
 mixed:P.follows .mixedOrders=true
section
variable {V:Env} {P:Program} {C:Ctx}
structure Aoz (V:Env) (C:Ctx) (s:St V.E) (β:Nat->BI) (a:Act) (w:World):Prop where
 size:a.tmps.size=s.n
 defers:a.defers=[]/\(V.t0=true->a.tmps.getD 0 undef=C.v0)
 slots:∀k x,slot V s k=some x->SR V C s.boxes β w x (Uz C a.tmps k)
 mem:Bk V.T C s.boxes β w
def Sim (V:Env) (C:Ctx) (s:St V.E) (a:Act) (w:World):Prop:=∃β,Aoz V C s β a w
theorem By5 {bx:List (Nat×Box V.E)} {β:Nat->BI} {w:World} (t:TypeId) (v:Value) (x:SV V.E) (h:A8g V t v=some x):SR V C bx β w x v:=by
 unfold A8g at h
 split at h
 ·cases h;rfl
 ·cases h;rfl
 ·rename_i s
  cases h
  show Value.string s= .string ⟨s.data.toList.toArray⟩
  cases s;rfl
 ·split at h
  ·split at h
   ·cases h
    simp only[SR,Az,Ar,Ad]
    exact⟨none,0,by simp,by simp,λ _=>rfl,λ _ _=>rfl,λ ad h=>by cases h⟩
   ·cases h
  ·cases h
 ·cases h;rfl
 ·cases h;rfl
 ·cases h;rfl
 ·cases h;rfl
 ·cases h
theorem Aoz.slotT {s:St V.E} {β:Nat->BI} {a:Act} {w:World} (S:Aoz V C s β a w) {k:Nat} {x:SV V.E} (h:Ab.slotT V s k=some x):SR V C s.boxes β w x (a.tmps.getD k undef):=by
 unfold Ab.slotT at h
 split at h
 ·rename_i hk
  have:=S.slots k x h
  unfold Uz at this
  rw[hk]at this
  exact this
 ·cases h
theorem As7 {s:St V.E} {β:Nat->BI} {a:Act} {w:World} (S:Aoz V C s β a w) (t:TypeId) (x:Operand) (y:SV V.E) (h:Hv V s t x=some y):SR V C s.boxes β w y (a.eval x):=by
 cases x with
 |tmp k=>exact S.slotT h
 |const v=>exact By5 t v y h
 |global g=>simp[Hv]at h
 |func f=>
  simp only[Hv,Option.some.injEq]at h
  subst h
  simp only[SR,Az,Ar,Ad]
  exact⟨#[],rfl,rfl⟩
theorem Ari {s:St V.E} {β:Nat->BI} {a:Act} {w:World} (S:Aoz V C s β a w):∀(xs:List Operand) (ts:List TypeId),A7w V C s.boxes β w (Dx V s ts xs) (xs.map a.eval)
 |[],ts=>by cases ts<;>exact .nil
 |x::xs,[]=> .cons (λ y h=>As7 S 0 x y h) (Ari S xs [])
 |x::xs,t::ts=> .cons (λ y h=>As7 S t x y h) (Ari S xs ts)
def NOk (T:Tab) (C:Ctx) (bx:List (Nat×Box T.E)) (β:Nat->BI) (w:World) (res:Option (SV T.E)) (bx':List (Nat×Box T.E)) (r:Result Next):Prop:=
 ∃β' w',Bk T C bx' β' w'/\Ext T bx β (A2 C β w) w bx' β' (A2 C β' w') w'/\
  ((∃v x,res=some x/\r= .ok (.value v) w'/\Az T bx' β' (A2 C β' w') w' x v)\/(res=none/\r= .ok .skip w'))
theorem NOk.ofV {T:Tab} {bx bx':List (Nat×Box T.E)} {β:Nat->BI} {w:World} {res:Option (SV T.E)} {m:Sem Value} (h:VOk T C bx β w res bx' (m.run P w)):
 NOk T C bx β w res bx' ((do pure (.value (<-m)):Sem Next).run P w):=by
 obtain⟨β',w',v,x,h1,h2,h3,h4,h5⟩:=h
 exact⟨β',w',h4,h5,.inl ⟨v,x,h1,by simp only[Sem.run_bind,h2,Result.andThen_ok,Sem.run_pure],h3⟩⟩
theorem NOk.ofU {T:Tab} {bx bx':List (Nat×Box T.E)} {β:Nat->BI} {w:World} {res:Option (SV T.E)} {m:Sem Unit} (h:UOk T C bx β w res bx' (m.run P w)):
 NOk T C bx β w res bx' ((do m;pure .skip:Sem Next).run P w):=by
 obtain⟨β',w',h1,h2,h4,h5⟩:=h
 exact⟨β',w',h4,h5,.inr ⟨h1,by simp only[Sem.run_bind,h2,Result.andThen_ok,Sem.run_pure]⟩⟩
theorem NOk.val {T:Tab} {bx:List (Nat×Box T.E)} {β:Nat->BI} {w:World} (M:Bk T C bx β w) {x:SV T.E} {v:Value} (h:Az T bx β (A2 C β w) w x v):NOk T C bx β w (some x) bx (.ok (.value v) w):=
 ⟨β,w,M,Ext.refl _ _ _ _ _,.inl ⟨v,x,rfl,rfl,h⟩⟩
def Bbg (o:Oper):Bool:=
 match o.op with
 | .call c=>match c.callee with
   | .value _=>true
   |_=>false
 |_=>false
theorem Xr {t:TypeId} {i:TI V.E} {info:TypeInfo} {d:TypeDesc} {z:Value} (I:Cw V P t i info d z) {e:TypeId} (h:i.kind= .slice e):P.underlying t=some (.slice e):=by
 have hk:=I.kind
 rw[h]at hk
 have hu:=I.under
 cases d<;>simp[Gg]at hk
 subst hk
 exact hu
theorem Bi5 {t:TypeId} {j:TI V.E} (h:Afx V t=some j):∃i e,V.ti t=some i/\i.kind= .slice e/\V.ti e=some j:=by
 unfold Afx at h
 split at h
 ·rename_i e _ _ _ _ ht
  exact⟨_,e,ht,rfl,h⟩
 ·cases h
theorem Bsk {t:TypeId} {e:TypeId} {j:TI V.E} (h:Bfb V t=some (e,j)):∃i,V.ti t=some i/\i.kind= .slice e/\V.ti e=some j:=by
 unfold Bfb at h
 split at h
 ·rename_i e _ _ _ _ ht
  split at h
  ·rename_i j hj
   cases h
   exact⟨_,ht,rfl,hj⟩
  ·cases h
 ·cases h
theorem A0b {t:TypeId} {i:TI V.E} (hi:V.ti t=some i):∀e u,i.kind= .slice e->(Afx V t).map (·.ty)=some u->∃j,V.ti e=some j/\j.ty=u:=by
 intro e u hk hu
 cases hel:Afx V t with
 |none=>rw[hel]at hu;cases hu
 |some j=>
  rw[hel]at hu
  simp at hu
  obtain⟨i',e',h1,h2,h3⟩:=Bi5 hel
  rw[hi]at h1;cases h1
  rw[hk]at h2;cases h2
  exact⟨j,h3,hu⟩
theorem Akf {bx:List (Nat×Box V.E)} {β:Nat->BI} {w:World} {a:SV V.E} {ds:List Value} (h:A7w V C bx β w [some a] ds):∃d,ds=[d]/\SR V C bx β w a d:=by
 cases h with
 |cons h1 h2=>cases h2;exact⟨_,rfl,h1 a rfl⟩
theorem Aba {bx:List (Nat×Box V.E)} {β:Nat->BI} {w:World} {a b:SV V.E} {ds:List Value} (h:A7w V C bx β w [some a,some b] ds):∃d e,ds=[d,e]/\SR V C bx β w a d/\SR V C bx β w b e:=by
 cases h with
 |cons h1 h2=>
  obtain⟨e,rfl,h3⟩:=Akf h2
  exact⟨_,e,rfl,h1 a rfl,h3⟩
theorem B5x (G:Bs V P) {s:St V.E} {β:Nat->BI} {a:Act} {w:World} (S:Aoz V C s β a w) (dst:Nat) (o:Oper) (hcall:Bbg o=false) (q:Orc V.E)
 {res:Option (SV V.E)} {cs:List Cd} {bx':List (Nat×Box V.E)} {ac:Acc} {rs ws:List Nat}
 (h:Ac V s.boxes (Afb V dst o (Dx V s (Cz V o) o.op.operands.toList) q) rs ws=some (res,cs,bx',ac)) (hc:Fj cs):
 NOk V.T C s.boxes β w res bx' ((execOp a.eval o).run P w):=by
 have hv:=Ari S o.op.operands.toList (Cz V o)
 generalize Dx V s (Cz V o) o.op.operands.toList=vs at h hv
 have M:=S.mem
 unfold Afb at h
 split at h
 ·-- move
  rename_i x v ho
  obtain⟨rfl,_,rfl⟩:=Aq h
  simp only[ho,Op.operands,List.map_cons,List.map_nil]at hv
  obtain⟨d,hd,hr⟩:=Akf hv
  cases hd
  simp only[execOp,ho,Sem.run_pure]
  exact .val M hr
 ·-- assign
  rename_i x v ho
  obtain⟨rfl,_,rfl⟩:=Aq h
  simp only[ho,Op.operands,List.map_cons,List.map_nil]at hv
  obtain⟨d,hd,hr⟩:=Akf hv
  cases hd
  simp only[execOp,ho,Sem.run_pure]
  exact .val M hr
 ·-- pick
  rename_i c0 a0 b0 b x y ho
  simp only[ho,Op.operands,List.map_cons,List.map_nil]at hv
  cases hv with
  |cons h1 hv=>
   cases hv with
   |cons h2 hv=>
    cases hv with
    |cons h3 hv=>
     have hb:=h1 _ rfl
     simp only[SR,Az,Ar,Ad]at hb
     have hrun:(execOp a.eval o).run P w= .ok (.value (if b then a.eval a0 else a.eval b0)) w:=by
      simp only[execOp,ho,hb,asBool,Sem.run_bind,Sem.run_pure,Result.andThen_ok]
     rw[hrun]
     split at h
     ·rename_i dd
      split at h
      ·rename_i v hvv
       obtain⟨rfl,rfl,rfl⟩:=Aq h
       have hbd:=hc.1
       subst hbd
       refine .val M ?_
       cases b
       ·exact h3 v (by simpa using hvv)
       ·exact h2 v (by simpa using hvv)
      ·simp[Ac]at h
     ·split at h
      ·rename_i p r
       obtain⟨rfl,rfl,rfl⟩:=Aq h
       have e2:=h2 _ rfl
       have e3:=h3 _ rfl
       simp only[SR,Az,Ar,Ad]at e2 e3
       rw[e2,e3]
       refine .val M ?_
       cases b<;>rfl
      ·simp[Ac]at h
 ·-- alloc
  rename_i t ho
  split at h
  ·rename_i i hi
   obtain⟨info,d,z,I⟩:=G.types t i hi
   have:=B38 M (t:=t) (vs:=z.cells) (Aie I.zeros) h
   simp only[execOp,ho]
   refine NOk.ofV ?_
   have hr:(Instr.alloc t true (.tuple #[])).run P w= .ok (.pointer (some ⟨w.heap.size,0,none⟩)) (w.alloc (.cells z.cells t)):=by
    simp only[Instr.alloc,Sem.run_bind,I.run_zero,Result.andThen_ok,newVar,newRow,run_newObj,Sem.run_pure]
    rfl
   rw[hr];exact this
  ·simp[Ac]at h
 ·-- box
  rename_i t x c ho
  simp only[ho,Op.operands,List.map_cons,List.map_nil]at hv
  obtain⟨d,hd,hr⟩:=Akf hv
  cases hd
  split at h
  ·have:=B38 M (t:=t) (vs:=(a.eval x).cells) (Ar.cells hr) h
   simp only[execOp,ho]
   refine NOk.ofV ?_
   have hrun:(Instr.box t (a.eval x)).run P w= .ok (.pointer (some ⟨w.heap.size,0,none⟩)) (w.alloc (.cells (a.eval x).cells t)):=by
    simp only[Instr.box,Sem.run_bind,newVar,newRow,run_newObj,Result.andThen_ok,Sem.run_pure]
    rfl
   rw[hrun];exact this
  ·simp[Ac]at h
 ·-- build
  rename_i t ps ho
  simp only[ho,Op.operands,List.map_map,Function.comp_def]at hv
  split at h
  ·rename_i fs sz by_ z0 ty hi
   split at h
   ·rename_i hall
    split at h
    ·rename_i ls hf
     obtain⟨rfl,_,rfl⟩:=Aq h
     obtain⟨info,d,z,I⟩:=G.types t _ hi
     simp only[execOp,ho]
     exact NOk.ofV (B0z G.types M I rfl hall a.eval ps (by simpa using hv) hf)
    ·simp[Ac]at h
   ·simp[Ac]at h
  ·rename_i n e sz by_ z0 ty hi
   split at h
   ·rename_i j hj
    split at h
    ·rename_i ls hf
     obtain⟨rfl,_,rfl⟩:=Aq h
     obtain⟨info,d,z,I⟩:=G.types t _ hi
     obtain⟨info',d',z',J⟩:=G.types e _ hj
     have hk:=I.kind
     have hu:=I.under
     cases d<;>simp[Gg]at hk
     obtain⟨rfl,rfl⟩:=hk
     simp only[execOp,ho]
     exact NOk.ofV (Bpj M I hu J a.eval ps (by simpa using hv) hf)
    ·simp[Ac]at h
   ·simp[Ac]at h
  ·simp[Ac]at h
 ·-- buildSlice
  rename_i t n ps ho
  simp only[ho,Op.operands,List.map_map,Function.comp_def]at hv
  split at h
  ·rename_i e i hel
   obtain⟨it,ht,hk,he⟩:=Bsk hel
   obtain⟨_,_,_,It⟩:=G.types t _ ht
   obtain⟨info,d,z,I⟩:=G.types e _ he
   split at h
   ·rename_i hn
    split at h
    ·rename_i ls hf
     simp only[execOp,ho]
     exact NOk.ofV (Bgz G.tab M (Xr It hk) I n hn a.eval ps (by simpa using hv) hf q h)
    ·simp[Ac]at h
   ·simp[Ac]at h
  ·simp[Ac]at h
 ·-- load
  rename_i t x v ho
  simp only[ho,Op.operands,List.map_cons,List.map_nil]at hv
  obtain⟨d,hd,hr⟩:=Akf hv
  cases hd
  split at h
  ·rename_i i hi
   obtain⟨info,d,z,I⟩:=G.types t i hi
   simp only[execOp,ho]
   exact NOk.ofV (B54 G.tab M I hr h)
  ·simp[Ac]at h
 ·-- store
  rename_i t x y v1 v2 ho
  simp only[ho,Op.operands,List.map_cons,List.map_nil]at hv
  obtain⟨d1,d2,hd,hr1,hr2⟩:=Aba hv
  cases hd
  split at h
  ·rename_i i hi
   obtain⟨info,d,z,I⟩:=G.types t i hi
   simp only[execOp,ho]
   exact NOk.ofU (B4k G.tab M I hr1 hr2 h hc)
  ·simp[Ac]at h
 ·-- nilCheck
  rename_i x id off ho
  simp only[ho,Op.operands,List.map_cons,List.map_nil]at hv
  obtain⟨d,hd,hr⟩:=Akf hv
  cases hd
  simp only[Ac]at h
  split at h
  ·rename_i ls hb
   obtain⟨rfl,_,rfl⟩:=Aq h
   have hr':=hr
   simp only[SR,Az,Ar,Ad,hb]at hr'
   have hrun:(execOp a.eval o).run P w= .ok (.value (a.eval x)) w:=by
    simp only[execOp,ho,hr'.2,Sem.run_pure]
   rw[hrun]
   exact .val M hr
  ·simp[Ac]at h
 ·-- binOp
  rename_i op t x y u v1 v2 ho
  simp only[ho,Op.operands,List.map_cons,List.map_nil]at hv
  obtain⟨d1,d2,hd,hr1,hr2⟩:=Aba hv
  cases hd
  simp only[execOp,ho]
  exact NOk.ofV (B9x G.types G.eqs M op t x y hr1 hr2 h hc)
 ·-- unOp
  rename_i op t x v ho
  simp only[ho,Op.operands,List.map_cons,List.map_nil]at hv
  obtain⟨d,hd,hr⟩:=Akf hv
  cases hd
  simp only[execOp,ho]
  exact NOk.ofV (Ccn M op hr h)
 ·-- convert
  rename_i u t x v ho
  simp only[ho,Op.operands,List.map_cons,List.map_nil]at hv
  obtain⟨d,hd,hr⟩:=Akf hv
  cases hd
  simp only[execOp,ho]
  exact NOk.ofV (B6i G.types M u t hr h)
 ·-- makeFunc
  rename_i f fi ca ho
  simp only[ho,Op.operands]at hv
  split at h
  ·rename_i hfi
   split at h
   ·rename_i ls hl
    obtain⟨rfl,_,rfl⟩:=Aq h
    simp only[execOp,ho]
    exact NOk.ofV (Bo1 M f a.eval fi ca hfi hv hl)
   ·simp[Ac]at h
  ·simp[Ac]at h
 ·-- makeSlice
  rename_i t x y kl l kc c ho
  simp only[ho,Op.operands,List.map_cons,List.map_nil]at hv
  obtain⟨d1,d2,hd,hr1,hr2⟩:=Aba hv
  simp only[SR,Az,Ar,Ad]at hr1 hr2
  subst hr1 hr2
  split at h
  ·rename_i e _ _ _ _ ht
   split at h
   ·rename_i i hi
    obtain⟨_,_,_,It⟩:=G.types t _ ht
    obtain⟨info,d,z,I⟩:=G.types e _ hi
    simp only[List.cons.injEq,and_true]at hd
    simp only[execOp,ho,hd.1,hd.2]
    exact NOk.ofV (B6h G.tab M (Xr It rfl) I h hc)
   ·simp[Ac]at h
  ·simp[Ac]at h
 ·-- slice,whole
  rename_i t x v ho
  simp only[ho,Op.operands,Option.toArray]at hv
  obtain⟨d,hd,hr⟩:=Akf (by simpa using hv)
  cases hd
  split at h
  ·rename_i i hi
   obtain⟨info,d,z,I⟩:=G.types t i hi
   simp only[execOp,ho]
   exact NOk.ofV (Aw9 M I (λ e _ j hj=>G.types e j hj) _ (A0b hi) hr none none h hc)
  ·simp[Ac]at h
 ·-- from
  rename_i t x y v k l ho
  simp only[ho,Op.operands,Option.toArray]at hv
  obtain⟨d1,d2,hd,hr1,hr2⟩:=Aba (by simpa using hv)
  simp only[List.cons.injEq,and_true]at hd
  simp only[SR,Az,Ar,Ad]at hr2
  subst hr2
  split at h
  ·rename_i i hi
   obtain⟨info,d,z,I⟩:=G.types t i hi
   simp only[execOp,ho,Option.map_some,Option.map_none,hd.1,hd.2]
   exact NOk.ofV (Aw9 M I (λ e _ j hj=>G.types e j hj) _ (A0b hi) hr1 (some (k,l)) none h hc)
  ·simp[Ac]at h
 ·-- to
  rename_i t x y v k l ho
  simp only[ho,Op.operands,Option.toArray]at hv
  obtain⟨d1,d2,hd,hr1,hr2⟩:=Aba (by simpa using hv)
  simp only[List.cons.injEq,and_true]at hd
  simp only[SR,Az,Ar,Ad]at hr2
  subst hr2
  split at h
  ·rename_i i hi
   obtain⟨info,d,z,I⟩:=G.types t i hi
   simp only[execOp,ho,Option.map_some,Option.map_none,hd.1,hd.2]
   exact NOk.ofV (Aw9 M I (λ e _ j hj=>G.types e j hj) _ (A0b hi) hr1 none (some (k,l)) h hc)
  ·simp[Ac]at h
 ·-- from,to
  rename_i t x y1 y2 v k l k2 l2 ho
  simp only[ho,Op.operands,Option.toArray]at hv
  have hv:A7w V C s.boxes β w [some v,some (.cv (.one (.int k l))),some (.cv (.one (.int k2 l2)))] [a.eval x,a.eval y1,a.eval y2]:=by simpa using hv
  cases hv with
  |cons h1 hv=>
   obtain⟨d1,d2,hd,hr1,hr2⟩:=Aba hv
   have hr0:=h1 v rfl
   simp only[List.cons.injEq,and_true]at hd
   simp only[SR,Az,Ar,Ad]at hr1 hr2
   subst hr1 hr2
   split at h
   ·rename_i i hi
    obtain⟨info,d,z,I⟩:=G.types t i hi
    simp only[execOp,ho,Option.map_some,hd.1,hd.2]
    exact NOk.ofV (Aw9 M I (λ e _ j hj=>G.types e j hj) _ (A0b hi) hr0 (some (k,l)) (some (k2,l2)) h hc)
   ·simp[Ac]at h
 ·-- fieldAddr
  rename_i t x f v ho
  simp only[ho,Op.operands,List.map_cons,List.map_nil]at hv
  obtain⟨d,hd,hr⟩:=Akf hv
  cases hd
  split at h
  ·rename_i fs sz by_ z0 ty hi
   split at h
   ·rename_i off size hp
    split at h
    ·simp[Ac]at h
    ·obtain⟨info,d,z,I⟩:=G.types t _ hi
     unfold fieldPlace at hp
     split at hp
     ·rename_i o2 t2 hf
      split at hp
      ·rename_i j hj
       cases hp
       obtain⟨_,_,_,J⟩:=G.types t2 j hj
       simp only[execOp,ho]
       exact NOk.ofV (Bnv M I.under I.kind J hf hr h)
      ·cases hp
     ·cases hp
   ·simp[Ac]at h
  ·simp[Ac]at h
 ·-- field
  rename_i t x f ls ho
  simp only[ho,Op.operands,List.map_cons,List.map_nil]at hv
  obtain⟨d,hd,hr⟩:=Akf hv
  cases hd
  split at h
  ·rename_i fs sz by_ z0 ty hi
   split at h
   ·rename_i off t2 hf
    split at h
    ·rename_i j hj
     obtain⟨info,d,z,I⟩:=G.types t _ hi
     obtain⟨_,_,_,J⟩:=G.types t2 j hj
     simp only[SR,Az,Ar]at hr
     obtain⟨cs0,he,hr⟩:=hr
     have hk:=I.kind
     have hu:=I.under
     cases d<;>simp[Gg]at hk
     rename_i fields
     subst hk
     rw[List.getElem?_map]at hf
     cases hfl:fields.toList[f]? with
     |none=>rw[hfl]at hf;simp at hf
     |some fl=>
      rw[hfl]at hf;simp at hf
      obtain⟨rfl,rfl⟩:=hf
      have hfa:fields[f]?=some fl:=by rw[<-hfl,Array.getElem?_toList]
      have hrun:(Instr.field t (a.eval x) f).run P w=(Go.part fl.type cs0 fl.offset).run P w:=by
       simp only[Instr.field,Sem.run_bind,run_underlying hu,Result.andThen_ok,hfa,he,asAgg,Sem.run_pure]
      simp only[execOp,ho]
      refine NOk.ofV ?_
      rw[hrun]
      exact Bxl M J fl.offset hr h
    ·simp[Ac]at h
   ·simp[Ac]at h
  ·simp[Ac]at h
 ·-- indexAddr
  rename_i t x y v1 v2 ho
  simp only[ho,Op.operands,List.map_cons,List.map_nil]at hv
  obtain⟨d1,d2,hd,hr1,hr2⟩:=Aba hv
  cases hd
  split at h
  ·rename_i j hel
   obtain⟨it,e,ht,hk,he⟩:=Bi5 hel
   obtain⟨_,_,_,It⟩:=G.types t _ ht
   obtain⟨info,d,z,J⟩:=G.types e _ he
   simp only[execOp,ho]
   exact NOk.ofV (Bl7 M (Xr It hk) J hr1 hr2 h hc)
  ·split at h
   ·rename_i n e _ _ _ _ ht
    split at h
    ·rename_i j he
     obtain⟨_,d,_,It⟩:=G.types t _ ht
     obtain⟨info,d',z,J⟩:=G.types e _ he
     have hk:=It.kind
     have hu:=It.under
     cases d<;>simp[Gg]at hk
     obtain⟨rfl,rfl⟩:=hk
     simp only[execOp,ho]
     exact NOk.ofV (Bvc M hu J hr1 hr2 h)
    ·simp[Ac]at h
   ·simp[Ac]at h
 ·-- index of an array
  rename_i t x y ls k i ho
  simp only[ho,Op.operands,List.map_cons,List.map_nil]at hv
  obtain⟨d1,d2,hd,hr1,hr2⟩:=Aba hv
  simp only[List.cons.injEq,and_true]at hd
  split at h
  ·rename_i n e _ _ _ _ ht
   split at h
   ·rename_i j he
    split at h
    ·rename_i hr
     obtain⟨_,d,_,It⟩:=G.types t _ ht
     obtain⟨info,d',z,J⟩:=G.types e _ he
     have hk:=It.kind
     have hu:=It.under
     cases d<;>simp[Gg]at hk
     obtain⟨rfl,rfl⟩:=hk
     simp only[SR,Az,Ar,Ad]at hr1 hr2
     obtain⟨cs0,he0,hr1⟩:=hr1
     subst he0 hr2
     simp only[execOp,ho,hd.1,hd.2]
     refine NOk.ofV ?_
     have hrun:(Instr.index t (.agg cs0) (.int k i)).run P w=(Go.part e cs0 (i.toNat*j.size)).run P w:=by
      simp only[Instr.index,asIntOf,Sem.run_bind,Sem.run_pure,Result.andThen_ok,run_underlying hu]
      rw[if_pos (show 0<=i/\i<(n:Int)from hr)]
      simp only[Sem.run_bind,J.run_size,Result.andThen_ok]
     rw[hrun]
     exact Bxl M J _ hr1 h
    ·simp[Ac]at h
   ·simp[Ac]at h
  ·simp[Ac]at h
 ·-- index
  rename_i t x y l k i ho
  simp only[ho,Op.operands,List.map_cons,List.map_nil]at hv
  obtain⟨d1,d2,hd,hr1,hr2⟩:=Aba hv
  simp only[SR,Az,Ar,Ad]at hr1 hr2
  subst hr1 hr2
  simp only[List.cons.injEq,and_true]at hd
  split at h
  ·rename_i _ _ _ _ ht
   obtain⟨_,d,_,It⟩:=G.types t _ ht
   obtain⟨rfl,rfl,rfl⟩:=Aq h
   have hk:=It.kind
   have hu:=It.under
   cases d<;>simp[Gg]at hk
   simp only[execOp,ho,hd.1,hd.2]
   exact NOk.ofV (B16 M hu l k i hc.1)
  ·simp[Ac]at h
 ·-- makeMap
  rename_i t ho
  split at h
  ·simp only[execOp,ho,Option.map_none]
   exact NOk.ofV (Bus M h)
  ·simp[Ac]at h
 ·-- lookup
  rename_i t x y ok v1 v2 ho
  simp only[ho,Op.operands,List.map_cons,List.map_nil]at hv
  obtain⟨d1,d2,hd,hr1,hr2⟩:=Aba hv
  cases hd
  split at h
  ·rename_i i j hm
   obtain⟨it,k,e,ht,hk,hi,hj,h1,h2⟩:=Bdq hm
   obtain⟨_,_,_,It⟩:=G.types t it ht
   obtain⟨_,_,_,I⟩:=G.types k i hi
   obtain⟨_,_,_,J⟩:=G.types e j hj
   simp only[execOp,ho]
   exact NOk.ofV (B0f G.tab M (A87 It hk) G.types hi J h1 h2 hr1 hr2 h)
  ·simp[Ac]at h
 ·-- mapUpdate
  rename_i t x y z v1 v2 v3 ho
  simp only[ho,Op.operands,List.map_cons,List.map_nil]at hv
  cases hv with
  |cons hr0 hv=>
   obtain⟨d1,d2,hd,hr1,hr2⟩:=Aba hv
   cases hd
   split at h
   ·rename_i i j hm
    obtain⟨it,k,e,ht,hk,hi,hj,h1,h2⟩:=Bdq hm
    obtain⟨_,_,_,It⟩:=G.types t it ht
    obtain⟨_,_,_,I⟩:=G.types k i hi
    simp only[execOp,ho]
    exact NOk.ofU (Bkk G.tab M (A87 It hk) G.types hi h1 h2 (hr0 _ rfl) hr1 hr2 h)
   ·simp[Ac]at h
 ·-- insert
  rename_i t x y z v1 v2 v3 ho
  simp only[ho,Op.operands,List.map_cons,List.map_nil]at hv
  cases hv with
  |cons hr0 hv=>
   obtain⟨d1,d2,hd,hr1,hr2⟩:=Aba hv
   cases hd
   split at h
   ·rename_i i j hm
    obtain⟨it,k,e,ht,hk,hi,hj,h1,h2⟩:=Bdq hm
    obtain⟨_,_,_,It⟩:=G.types t it ht
    obtain⟨_,_,_,I⟩:=G.types k i hi
    simp only[execOp,ho]
    exact NOk.ofU (Bkk G.tab M (A87 It hk) G.types hi h1 h2 (hr0 _ rfl) hr1 hr2 h)
   ·simp[Ac]at h
 ·-- extract
  rename_i x n l ho
  simp only[ho,Op.operands,List.map_cons,List.map_nil]at hv
  obtain⟨d,hd,hr⟩:=Akf hv
  cases hd
  simp only[execOp,ho]
  exact NOk.ofV (Bto M hr n h)
 ·-- calls
  rename_i c ho
  split at h
  ·-- of a builtin
   rename_i vs _ _ b hb
   simp only[ho,Op.operands,Call.operands,hb]at hv
   have hv:A7w V C s.boxes β w vs (c.args.toList.map a.eval):=by simpa using hv
   have hrun:(execOp a.eval o).run P w=(builtin b c.argTypes o.type (c.args.map fun| .const _=>true|_=>false) (c.args.map a.eval)).run P w:=by
    simp only[execOp,ho,resolve,hb,Sem.run_bind,Sem.run_pure,Result.andThen_ok,invoke];rfl
   rw[hrun]
   have hlist:∀l:List Value,c.args.toList.map a.eval=l->c.args.map a.eval=l.toArray:=by
    rintro l rfl;apply Array.ext';simp
   unfold Apc at h
   split at h
   ·-- len
    rename_i v
    obtain⟨d,hd,hr⟩:=Akf hv
    rw[hlist _ hd]
    split at h
    ·rename_i t r hat
     split at h
     ·rename_i i hi
      obtain⟨info,d',z,I⟩:=G.types t i hi
      have:c.argTypes=(t::r).toArray:=by apply Array.ext';simpa using hat
      rw[this]
      exact NOk.ofV (Car M I r hr h o.type)
     ·simp[Ac]at h
    ·simp[Ac]at h
   ·-- append
    rename_i v1 v2
    obtain⟨d1,d2,hd,hr1,hr2⟩:=Aba hv
    rw[hlist _ hd]
    split at h
    ·rename_i t u hat
     split at h
     ·rename_i e _ _ _ _ e2 _ _ _ _ ht hu
      split at h
      ·rename_i i hi
       obtain⟨_,_,_,It⟩:=G.types t _ ht
       obtain⟨_,_,_,Iu⟩:=G.types u _ hu
       obtain⟨info,d',z,I⟩:=G.types e _ hi
       have:c.argTypes= #[t,u]:=by apply Array.ext';simpa using hat
       rw[this]
       exact NOk.ofV (Bvm M (Xr It rfl) (Xr Iu rfl) I hr1 hr2 o.type h hc)
      ·simp[Ac]at h
     ·simp[Ac]at h
    ·simp[Ac]at h
   ·-- copy
    rename_i v1 v2
    obtain⟨d1,d2,hd,hr1,hr2⟩:=Aba hv
    rw[hlist _ hd]
    split at h
    ·rename_i t u hat
     split at h
     ·rename_i e _ _ _ _ e2 _ _ _ _ ht hu
      split at h
      ·rename_i i hi
       obtain⟨_,_,_,It⟩:=G.types t _ ht
       obtain⟨info,d',z,I⟩:=G.types e _ hi
       have:c.argTypes= #[t,u]:=by apply Array.ext';simpa using hat
       rw[this]
       exact NOk.ofV (B6j M (Xr It rfl) I hr1 hr2 o.type h hc)
      ·simp[Ac]at h
     ·simp[Ac]at h
    ·simp[Ac]at h
   ·-- min
    rename_i k1 x1 k2 x2
    obtain⟨d1,d2,hd,hr1,hr2⟩:=Aba hv
    simp only[SR,Az,Ar,Ad]at hr1 hr2
    subst hr1 hr2
    rw[hlist _ hd]
    split at h
    ·rename_i hk
     subst hk
     obtain⟨rfl,_,rfl⟩:=Aq h
     exact NOk.ofV (B92 M _ _ _ _ _)
    ·simp[Ac]at h
   ·-- max
    rename_i k1 x1 k2 x2
    obtain⟨d1,d2,hd,hr1,hr2⟩:=Aba hv
    simp only[SR,Az,Ar,Ad]at hr1 hr2
    subst hr1 hr2
    rw[hlist _ hd]
    split at h
    ·rename_i hk
     subst hk
     obtain⟨rfl,_,rfl⟩:=Aq h
     exact NOk.ofV (B9s M _ _ _ _ _)
    ·simp[Ac]at h
   ·simp[Ac]at h
  ·-- of a function
   rename_i fv f caps vs' hb
   unfold Bbg at hcall
   rw[ho]at hcall
   simp[hb]at hcall
  ·simp[Ac]at h
 ·simp[Ac]at h
end
section
variable {V:Env} {P:Program} {C:Ctx}
theorem Bat {bx:List (Nat×Box V.E)} {β:Nat->BI} {w:World}:∀{xs:List (Option (SV V.E))} {vs:List Value} {cs:List (CV V.E)},A7w V C bx β w xs vs->A5v V xs=some cs->Ba (Ar V.T bx β (A2 C β w) w) cs vs
 |[],_,cs,.nil,h=>by simp[A5v]at h;subst h;exact .nil
 |x::xs,_,cs,.cons h1 h2,h=>by
  unfold A5v at h
  split at h
  ·rename_i heq;cases heq
  ·rename_i c r heq
   cases heq
   split at h
   ·rename_i ls hl
    cases h
    exact .cons (h1 _ rfl) (Bat h2 hl)
   ·cases h
  ·cases h
theorem Bfw {bx:List (Nat×Box V.E)} {β:Nat->BI} {ok:Nat->Prop} {w:World}:∀{ls:List (Av V.E)} {vs:List Value},A9 V.T bx β ok w ls vs->Ba (Ar V.T bx β ok w) (ls.map CV.one) vs
 |[],vs,h=>by simp only[A9]at h;subst h;exact .nil
 |l::ls,vs,h=>by
  simp only[A9]at h
  obtain⟨v,r,rfl,h1,h2⟩:=h
  exact .cons h1 (Bfw h2)
theorem Aoz.put {s:St V.E} {β β':Nat->BI} {a:Act} {w w':World} {bx':List (Nat×Box V.E)} (S:Aoz V C s β a w) (M:Bk V.T C bx' β' w') (X:Ext V.T s.boxes β (A2 C β w) w bx' β' (A2 C β' w') w')
 {dst:Option Tmp} (hd:∀d,dst=some d->d<s.n/\Nat.blt d 1000000=true/\(V.t0=true->d≠0)) {res:Option (SV V.E)} {v:Value} (hr:∀x,res=some x->SR V C bx' β' w' x v):
 Aoz V C ⟨s.n,Gw V dst res s.slots,bx'⟩ β' (a.put dst v) w':=by
 cases dst with
 |none=>
  exact⟨S.size,S.defers,λ k x hk=>Az.ext X (S.slots k x hk),M⟩
 |some d=>
  have hlt:=(hd d rfl).1
  refine⟨by simpa [Act.put]using S.size,⟨by simpa [Act.put]using S.defers.1,λ ht=> ?_⟩,λ k x hk=> ?_,M⟩
  ·rw[<-S.defers.2 ht]
   simp[Act.put,Array.getD_eq_getD_getElem?,Array.getElem?_setIfInBounds_ne ((hd d rfl).2.2 ht)]
  simp only[slot,Gw]at hk
  by_cases hkd:k=d
  ·subst hkd
   rw[Aw]at hk
   have:Uz C (a.put (some k) v).tmps k=v:=by
    unfold Uz
    rw[(hd k rfl).2.1]
    simp[Act.put,Array.getD_eq_getD_getElem?,S.size,hlt]
   rw[this]
   exact hr x hk
  ·rw[Ay hkd]at hk
   have:Uz C (a.put (some d) v).tmps k=Uz C a.tmps k:=by
    unfold Uz
    split
    ·simp[Act.put,Array.getD_eq_getD_getElem?,Array.getElem?_setIfInBounds_ne (Ne.symm hkd)]
    ·rfl
   rw[this]
   exact Az.ext X (S.slots k x hk)
theorem Byz {a:Act} {d:Nat} {b:Bool} (h:a.tmps.getD d undef= .bool b):a.tmps[d]?=some (.bool b):=by
 rw[Array.getD_eq_getD_getElem?]at h
 cases hx:a.tmps[d]? with
 |none=>rw[hx]at h;simp[undef]at h
 |some v=>rw[hx]at h;simp at h;rw[h]
theorem A9v {ops:Array Oper} {s:St V.E} {β:Nat->BI} {a:Act} {w:World} (S:Aoz V C s β a w) {q:A11 V} {o:Oper} {b:Bool} {c:List Cd} (h:Abb V ops.toList s q o=some (b,c)) (hc:Fj c):
 Region.wanted o (yielded ops a.tmps)=b:=by
 unfold Abb at h
 unfold Region.wanted
 split at h
 ·rename_i hg
  cases h
  rw[hg]
 ·rename_i j want hg
  rw[hg]
  simp only
  split at h
  ·rename_i d hd
   rw[Array.getElem?_toList]at hd
   split at h
   ·rename_i bb x hs ho
    cases h
    have hb:=hc.1
    subst hb
    have hr:=S.slotT hs
    simp only[SR,Az,Ar,Ad]at hr
    unfold yielded
    rw[hd]
    simp only[Option.bind_some]
    rw[Byz hr]
    cases bb<;>cases want<;>rfl
   ·rename_i hs
    cases h
    have hr:=S.slotT hs
    simp only[SR,Az]at hr
    obtain⟨vs,hv,hr⟩:=hr
    unfold yielded
    rw[hd]
    simp only[Option.bind_some]
    rw[Array.getD_eq_getD_getElem?]at hv
    cases hx:a.tmps[d]? with
    |none=>rfl
    |some v=>rw[hx]at hv;simp at hv;rw[hv];rfl
   ·cases h
  ·cases h
theorem A0g {f:FuncId} {fn:Func} {args:Array Value} {w:World} (hf:P.funcs[f]?=some fn) (hb:fn.body.isSome=true) (hn:(fn.name== "runtime.NumGoroutine")=false):
 (callFunc f args).run P w= .ok (.enter f args) w:=by
 have hb':fn.body.isNone=false:=by cases h:fn.body<;>simp_all
 simp only[callFunc,Sem.run_bind,run_program,Result.andThen_ok,hf,hn,hb',Bool.false_eq_true,if_false,Sem.run_pure]
theorem Azz (G:Bs V P) {ops:Array Oper} {i:Nat} {o:Oper} (ho:ops[i]?=some o) {q:A11 V} {s s':St V.E} {a:Act} {w:World} (S:Sim V C s a w) {cs:List Cd} {ac:Acc}
 (h:Au9 V ops.toList i o q s=some (s',cs,ac)) (hc:Fj cs) {K:Act->World->Prop} {Q:Exit->Act->World->Prop} (hK:∀a' w',Sim V C s' a' w'->K a' w'):
 wpOp P ops Q i K a w:=by
 obtain⟨β,S⟩:=S
 unfold Au9 at h
 split at h
 ·rename_i hd
  have hd:∀d,o.dst=some d->d<s.n/\Nat.blt d 1000000=true/\(V.t0=true->d≠0):=by
   intro d hdd
   rw[hdd]at hd
   simp only[Aj8,Bool.and_eq_true,Bool.or_eq_true,Bool.not_eq_true']at hd
   refine⟨(Nat.blt_eq).mp hd.1,hd.2.1,λ ht=> ?_⟩
   rcases hd.2.2 with h|h
   ·rw[ht]at h;cases h
   ·exact Nat.ne_of_gt ((Nat.blt_eq).mp h)
  unfold wpOp
  rw[ho]
  simp only
  split at h
  ·cases h
  ·rename_i c hw
   cases h
   have hwant:=A9v S hw hc
   rw[hwant]
   simp only[Bool.false_eq_true,if_false]
   exact hK _ _ ⟨β,S.put S.mem (Ext.refl _ _ _ _ _) hd (λ x hx=>by cases hx;exact⟨#[],rfl,.nil⟩)⟩
  ·rename_i c hw
   split at h
   ·rename_i v c' bs acc hrun
    cases h
    obtain⟨hc1,hc2⟩:=Fj.append hc
    have hwant:=A9v S hw hc1
    rw[hwant]
    simp only[if_true]
    refine .inl ?_
    by_cases hcall:Bbg o=true
    ·-- a call
     unfold Bbg at hcall
     split at hcall
     ·rename_i cl hop
      split at hcall
      ·rename_i fv hcv
       have hrun':=hrun
       unfold Afb at hrun'
       have hv:=Ari S o.op.operands.toList (Cz V o)
       generalize hvs:Dx V s (Cz V o) o.op.operands.toList=vs at hrun' hv
       rw[hop]at hrun' hv
       have hops:(Op.call cl).operands.toList=fv::cl.args.toList:=by
        simp[Op.operands,Call.operands,hcv]
       rw[hops]at hv
       cases hv with
       |cons h1 hv=>
        rename_i x0 xs
        simp only[hcv]at hrun'
        split at hrun'
        ·rename_i heq;cases heq
        ·rename_i fv' f caps vs' heq heq'
         cases heq
         cases heq'
         split at hrun'
         ·rename_i ls hls
          have hf:=h1 _ rfl
          simp only[SR,Az,Ar,Ad]at hf
          obtain⟨capv,hfv,hcap⟩:=hf
          have hargs:=(Bat hv hls).append (Bfw hcap)
          obtain⟨⟨fn,hfn,hbd,hnm⟩,hcalls⟩:=B5b G.tab G.funcs S.mem hargs hrun' hc2
          unfold Oper.wp
          have hexec:(execOp a.eval o).run P w= .ok (.enter f (cl.args.map a.eval++capv)) w:=by
           simp only[execOp,hop,resolve,hcv,hfv,Deferred.ofValue,Sem.run_bind,Sem.run_pure,Result.andThen_ok,invoke]
           rw[A0g hfn hbd hnm]
           simp
          rw[hexec,Oper.upon_enter]
          have harr:(cl.args.toList.map a.eval++capv.toList).toArray=cl.args.map a.eval++capv:=by
           apply Array.ext';simp
          rw[harr]at hcalls
          refine hcalls.mono ?_
          rintro e w' ⟨rv,rfl,β',x,rfl,hx,M',X'⟩
          exact hK _ _ ⟨β',S.put M' X' hd (λ y hy=>by cases hy;exact hx)⟩
         ·simp[Ac]at hrun'
        ·simp[Ac]at hrun'
      ·cases hcall
     ·cases hcall
    ·simp only[Bool.not_eq_true]at hcall
     obtain⟨β',w',M',X',hr⟩:=B5x G S (V.base+o.dst.getD 0) o hcall _ hrun hc2
     unfold Oper.wp
     rcases hr with⟨rv,x,rfl,hr,hx⟩|⟨rfl,hr⟩
     ·rw[hr,Oper.upon_value]
      exact hK _ _ ⟨β',S.put M' X' hd (λ y hy=>by cases hy;exact hx)⟩
     ·rw[hr,Oper.upon_skip]
      exact hK _ _ ⟨β',S.put M' X' hd (λ y hy=>by cases hy)⟩
   ·cases h
 ·cases h
theorem Sim.drew {s:St V.E} {a:Act} {w:World} (S:Sim V C s a w):Sim V C s a {w with drawn:=w.drawn+1}:=by
 obtain⟨β,S⟩:=S
 obtain⟨M,X⟩:=S.mem.grow (U1.drew w)
 exact⟨β,S.size,S.defers,λ k x hk=>Az.ext X (S.slots k x hk),M⟩
theorem B3m (G:Bs V P) {ops:Array Oper} {q:A11 V} {Q:Exit->Act->World->Prop}:∀(os:List Oper) (i:Nat) (_hi:ops.toList.drop i=os) (s s':St V.E) (cs:List Cd) (acs:List Acc) (a:Act) (w:World),Sim V C s a w->
 Ay4 V ops.toList q i os s=some (s',cs,acs)->Fj cs->(∀a' w',Sim V C s' a' w'->Q .normal a' w')->wpOps P ops Q ((List.range ops.size).drop i) a w
 |[],i,hi,s,s',cs,acs,a,w,S,h,hc,hQ=>by
  simp only[Ay4,Option.some.injEq,Prod.mk.injEq]at h
  obtain⟨rfl,_,_⟩:=h
  have:ops.size<=i:=by simpa using hi
  have hn:(List.range ops.size).drop i=[]:=by simpa using this
  rw[hn]
  exact hQ _ _ S
 |o::os,i,hi,s,s',cs,acs,a,w,S,h,hc,hQ=>by
  have hlt:i<ops.size:=by
   rcases Nat.lt_or_ge i ops.size with h|h
   ·exact h
   ·have:ops.toList.drop i=[]:=by simpa using h
    rw[this]at hi;cases hi
  have hn:(List.range ops.size).drop i=i::(List.range ops.size).drop (i+1):=by
   rw[List.drop_eq_getElem_cons (by simpa using hlt)];simp
  have ho:ops[i]?=some o:=by
   have:=congrArg (·[0]?) hi
   simpa using this
  have hi':ops.toList.drop (i+1)=os:=by
   have:=congrArg List.tail hi
   simpa using this
  rw[hn,wpOps_cons]
  simp only[Ay4]at h
  split at h
  ·rename_i s1 c1 a1 h1
   split at h
   ·rename_i s2 c2 as h2
    cases h
    obtain⟨hc1,hc2⟩:=Fj.append hc
    exact Azz G ho S h1 hc1 λ a' w' S'=>B3m G os (i+1) hi' s1 _ c2 as a' w' S' h2 hc2 hQ
   ·cases h
  ·cases h
end
end Go.Ab
