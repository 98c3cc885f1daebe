/- What is known of a function, and what a call comes to. The results of a call, some of which become boxes of the caller's. A call of a function that writes into a piece of an array. A call that is reckoned by leaves which name no box. Conditions: none beyond those that each theorem names. -/
import Derived.Test.YtgngflkahbpecaaGreatDoorP05
import Derived.Test.YtgngflkahbpecaaGreatDoorP01
set_option linter.unusedSimpArgs false
set_option linter.unusedVariables false
namespace Go.Ab
open Go
section
variable (T:Tab)
def Bsx (ok:Nat->Prop) (w:World) (t:Ty) (x:t.den T.E) (v:Value):Prop:=
 if Ux t then∃cs,v= .agg cs/\Bl ok w (t.av T x) cs.toList else Bl ok w (t.av T x) [v]
inductive Xq (ok:Nat->Prop) (w:World):TypeId->(t:Ty)->t.den T.E->Value->List Nat->Prop where
 |data {t x v}:Bsx T ok w t x v->Xq ok w 0 t x v []
 |own {e t xs v}:Lh T ok w (e+1) t xs v->Xq ok w (e+1) (.sl t) xs v v.ownBlock.toList
def Oh (ok:Nat->Prop) (w:World):List TypeId->(ts:List Ty)->HL T.E ts->List Value->List Nat->Prop
 |_,[],_,vs,own=>vs=[]/\own=[]
 |os,t::ts,(x,r),vs,own=>∃v vr o1 o2,vs=v::vr/\own=o1++o2/\Xq T ok w (os.headD 0) t x v o1/\Oh ok w os.tail ts r vr o2
inductive Dp (ok:Nat->Prop) (w:World):List (TypeId×TypeId)->List (Av T.E)->List Value->List Nat->Prop where
 |nil {os}:Dp ok w os [] [] []
 |more {l ls v vs ow}:(∀bx β,Ad T bx β ok w l v)->Dp ok w [] ls vs ow->Dp ok w [] (l::ls) (v::vs) ow
 |data {e os l ls v vs ow}:(∀bx β,Ad T bx β ok w l v)->Dp ok w os ls vs ow->Dp ok w ((0,e)::os) (l::ls) (v::vs) ow
 |arr {e os t st xs ls v vs ow}:e≠0->Lh T ok w e t xs v->Dp ok w os ls vs ow->Dp ok w ((e,0)::os) (.sl t st xs::ls) (v::vs) (v.ownBlock.toList++ow)
 |rows {e e2 os t st xss ls v vs ow rows own}:e≠0->e2≠0->Zd T ok w e e2 t xss ⟨0,v,own,rows⟩->Dp ok w os ls vs ow->Dp ok w ((e,e2)::os) (.sl (.sl t) st xss::ls) (v::vs) (own++ow)
def Bw5 (ok:Nat->Prop) (w:World) (os:List (TypeId×TypeId)) (t:Ty) (y:t.den T.E) (v:Value) (own:List Nat):Prop:=
 ∃vs,Dp T ok w os (t.toL T y) vs own/\if Ux t then v= .agg vs.toArray else vs=[v]
def X9 (ok:Nat->Prop) (w:World):List (List (TypeId×TypeId))->(ts:List Ty)->HL T.E ts->List Value->List Nat->Prop
 |_,[],_,vs,own=>vs=[]/\own=[]
 |os,t::ts,(y,r),vs,own=>∃v vr o1 o2,vs=v::vr/\own=o1++o2/\Bw5 T ok w (os.headD []) t y v o1/\X9 ok w os.tail ts r vr o2
end
def Ape:List Value->Value
 |[v]=>v
 |vs=> .tuple vs.toArray
structure But (own:List Nat) (w w':World):Prop where
 os:w'.os=w.os
 tape:w'.tape=w.tape
 output:w'.output=w.output
 size:w.heap.size<=w'.heap.size
 heap:∀b,b<w.heap.size->b∉own->w'.heap[b]?=w.heap[b]?
def E1 (V:Env) (P:Program) (f:FuncId) (S:FS V.E):Prop:=
 (∃fn,P.funcs[f]?=some fn/\fn.body.isSome=true/\(fn.name== "runtime.NumGoroutine")=false)/\
 ∀x y,S.f x=some y->∀(okp:Nat->Prop) (w:World) (vs:List Value) (own:List Nat),Oh V.T okp w S.argOwn S.args x vs own->own.Nodup->(∀b∈own,b<w.heap.size/\¬okp b)->(∀b,okp b->b<w.heap.size)->
  Calls P f vs.toArray w λ e w'=>∃rs own',e= .returned (Ape rs)/\But own w w'/\own'.Nodup/\(∀b∈own',b<w'.heap.size/\(w.heap.size<=b\/b∈own))/\
   X9 V.T (λ b=>b<w'.heap.size/\(okp b\/w.heap.size<=b\/b∈own)/\b∉own') w' S.resOwn S.res y rs own'
def B89 (sz:Nat) (hdr v:Value) (b N:Nat) (i n:Int):Prop:=
 ∃cap,hdr= .slice (some ⟨b,0,none⟩) N cap/\0<=i/\0<=n/\i+n<=N/\i.toNat<=cap/\v= .slice (some ⟨b,i.toNat*sz,none⟩) n.toNat (cap-i.toNat)
def okW (okp:Nat->Prop) (w:World) (b:Nat) (w':World) (c:Nat):Prop:=c<w'.heap.size/\(okp c\/w.heap.size<=c)/\c≠b
def Bun (V:Env) (P:Program) (f:FuncId) (S:FW V.E):Prop:=
 (∃fn,P.funcs[f]?=some fn/\fn.body.isSome=true/\(fn.name== "runtime.NumGoroutine")=false)/\
 ∀xs i n x ys y,S.f xs i n x=some (ys,y)->ys.length=xs.length->∀(okp:Nat->Prop) (w:World) (v:Value) (vs:List Value) (hdr:Value) (b:Nat),B89 (S.t.sz V.T) hdr v b xs.length i n->
  Lh V.T okp w S.e S.t xs hdr->Oh V.T okp w [] S.args x vs []->b<w.heap.size->¬okp b->(∀c,okp c->c<w.heap.size)->
  Calls P f (v::vs).toArray w λ e w'=>∃rs,e= .returned (Ape rs)/\But [b] w w'/\Lh V.T (okW okp w b w') w' S.e S.t ys hdr/\X9 V.T (okW okp w b w') w' [] S.res y rs []
def Blq (V:Env) (P:Program) (f:FuncId) (S:FC V.E):Prop:=
 (∃fn,P.funcs[f]?=some fn/\fn.body.isSome=true/\(fn.name== "runtime.NumGoroutine")=false)/\
 ∀c x y,S.f c x=some y->∀(okp:Nat->Prop) (w:World) (vs:List Value) (pv:Value),Oh V.T okp w [] S.args x vs []->(S.via.isFn=true\/∃b o cs,pv= .pointer (some ⟨b,o,none⟩)/\Bl okp w (S.c.av V.T c) cs/\Mem okp w b o cs)->
  (∀b,okp b->b<w.heap.size)->
  Calls P f (vs++[S.via.val pv]).toArray w λ e w'=>∃rs,e= .returned (Ape rs)/\But [] w w'/\X9 V.T (λ b=>b<w'.heap.size/\(okp b\/w.heap.size<=b)) w' [] S.res y rs []
def Mb (T:Tab) (P:Program) (f:FuncId) (S:FL T.E):Prop:=
 (∃fn,P.funcs[f]?=some fn/\fn.body.isSome=true/\(fn.name== "runtime.NumGoroutine")=false)/\
 ∀lo args bx res bx',S.g lo args bx=some (res,bx')->∀(C:Ctx) (β:Nat->BI) (w:World) (vs:List Value) (kx:List (SV T.E)) (kv:List Value),Bk T C bx β w->Ba (Ar T bx β (A2 C β w) w) args vs->
  Ba (Az T bx β (A2 C β w) w) kx kv->Calls P f vs.toArray w λ e w'=>∃β' rs,e= .returned (Ape rs)/\Bk T C bx' β' w'/\Ba (Ar T bx' β' (A2 C β' w') w') res rs/\Ba (Az T bx' β' (A2 C β' w') w') kx kv
def A01 {E:Nat->Type}:Option (Box E)->Option (Box E)->Bool
 |some (.cells _),some (.cells _)=>true
 |some (.map ..),some (.map ..)=>true
 |_,_=>false
def Agj (T:Tab) (P:Program) (f:FuncId) (X:FX T.E):Prop:=
 (∃fn,P.funcs[f]?=some fn/\fn.body.isSome=true/\(fn.name== "runtime.NumGoroutine")=false)/\
 ∀x z,X.g x=some z->∀args res,Blt (mkS T X.ins x).2.1=some args->Blt (mkS T X.outs (X.out z)).2.1=some res->∀(C:Ctx) (β:Nat->BI) (w:World) (vs:List Value),
  Bk T C (mkS T X.ins x).2.2 β w->Ba (Ar T (mkS T X.ins x).2.2 β (A2 C β w) w) args vs->
  Calls P f vs.toArray w λ e w'=>∃β' rs,e= .returned (Ape rs)/\Bk T C (mkS T X.outs (X.out z)).2.2 β' w'/\Ba (Ar T (mkS T X.outs (X.out z)).2.2 β' (A2 C β' w') w') res rs/\
   ∀j,A01 (Ae j (mkS T X.ins x).2.2) (Ae j (mkS T X.outs (X.out z)).2.2)=true->(β' j).blk=(β j).blk
def β0:Nat->BI:=λ _=>⟨0,undef,[],[]⟩
structure Bnf (V:Env) (P:Program):Prop where
 fs:∀f S,V.fs f=some S->E1 V P f S
 ws:∀f S,V.ws f=some S->Bun V P f S
 cs:∀f S,V.cs f=some S->Blq V P f S
 ps:∀f S,V.ps f=some S->Mb V.T P f S
 xs:∀f as X,V.xs f as=some X->Agj V.T P f X
section
variable {V:Env} {P:Program} {C:Ctx} {w:World}
variable {res:Option (SV V.E)} {cs:List Cd} {bx':List (Nat×Box V.E)} {ac:Acc}
theorem Xq.later {ok ok':Nat->Prop} {e:TypeId} {t:Ty} {x:t.den V.E} {v:Value} {own:List Nat} (L:Dd ok w ok' w) (h:Xq V.T ok w e t x v own):Xq V.T ok' w e t x v own:=by
 cases h with
 |data h=>
  refine .data ?_
  unfold Bsx at h ⊢
  split at h
  ·rename_i hn
   rw[if_pos hn]
   obtain⟨cs,rfl,h⟩:=h
   exact⟨cs,rfl,Bl.later L _ _ h⟩
  ·rename_i hn
   rw[if_neg hn]
   exact Bl.later L _ _ h
 |own h=>exact .own (h.later L λ _ _=>rfl)
theorem Cai {bx:List (Nat×Box V.E)} {β:Nat->BI} {ok:Nat->Prop} (HT:V.T.Ok) {c:CV V.E} {v:Value} {ls:List (Av V.E)} {vs:List Value} (hv:v.cells.toList=vs) (hc:c.isAg=true->∃cs,v= .agg cs) (hc':c.isAg=false->v.cells= #[v])
 (hr:Ba (Ad V.T bx β ok w) ls vs) {t:Ty} (ha:(c.isAg==Ux t)=true) {x:t.den V.E} (hx:t.ofL V.T ls=some x):Bsx V.T ok w t x v:=by
 have h:=(T0 HT t x vs).1 (Af0 (Amj HT hx) hr)
 unfold Bsx
 have ha:c.isAg=Ux t:=by simpa using ha
 split
 ·rename_i hn
  rw[hn]at ha
  obtain⟨cs,rfl⟩:=hc ha
  refine⟨cs,rfl, ?_⟩
  have:vs=cs.toList:=by rw[<-hv];rfl
  rw[<-this];exact h
 ·rename_i hn
  simp only[Bool.not_eq_true]at hn
  rw[hn]at ha
  have:=hc' ha
  rw[this]at hv
  have:vs=[v]:=by rw[<-hv]
  rw[<-this];exact h
theorem Ar.isAg {bx:List (Nat×Box V.E)} {β:Nat->BI} {ok:Nat->Prop} {c:CV V.E} {v:Value} (h:Ar V.T bx β ok w c v):(c.isAg=true->∃cs,v= .agg cs)/\(c.isAg=false->v.cells= #[v]):=by
 cases c with
 |one l=>exact⟨(λ k=>by cases k),λ _=>Af1 h⟩
 |ag ls=>obtain⟨cs,rfl,_⟩:=h;exact⟨(λ _=>⟨cs,rfl⟩),(λ k=>by cases k)⟩
theorem Az7 (HT:V.T.Ok):∀(os:List TypeId) (args:List (CV V.E)) (vs:List Value) (bx:List (Nat×Box V.E)) (β:Nat->BI),Bk V.T C bx β w->Ba (Ar V.T bx β (A2 C β w) w) args vs->
 ∀(k:List (Bool×List (Av V.E))->B0 V.E) (rs ws:List Nat),Ac V bx (G3 V os args k) rs ws=some (res,cs,bx',ac)->
 ∃(bx1:List (Nat×Box V.E)) (β1:Nat->BI) (ls:List (Bool×List (Av V.E))) (rs' ws' gs:List Nat),Bk V.T C bx1 β1 w/\Ext V.T bx β (A2 C β w) w bx1 β1 (A2 C β1 w) w/\Ac V bx1 (k ls) rs' ws'=some (res,cs,bx',ac)/\
  (∀id∈gs,Ae id bx1=some .gone)/\(∀id∈gs,Ae id bx≠some .gone)/\gs.Nodup/\Ajp bx β bx1 β1/\
  ∀(ts:List Ty) (x:HL V.E ts),Aa1 V.T ts ls=some x->Oh V.T (A2 C β1 w) w os ts x vs (gs.flatMap λ id=>(β1 id).own)
 |os,[],_,bx,β,M,.nil,k,rs,ws,h=>by
  have h:Ac V bx (k []) rs ws=some (res,cs,bx',ac):=by cases os<;>exact h
  exact⟨bx,β,[],rs,ws,[],M,Ext.refl _ _ _ _ _,h,by simp,by simp,by simp,λ j hj=>⟨hj,rfl⟩,λ ts x hx=>by cases ts with
   |nil=>exact⟨rfl,rfl⟩
   |cons t ts=>simp[Aa1]at hx⟩
 |os,c::args,v::vs,bx,β,M,.cons h1 h2,k,rs,ws,h=>by
  have data:∀(os':List TypeId) (h:Ac V bx (frz V c.leaves λ l=>G3 V os' args λ r'=>k ((c.isAg,l)::r')) rs ws=some (res,cs,bx',ac)),os.headD 0=0->os.tail=os'->
   ∃(bx1:List (Nat×Box V.E)) (β1:Nat->BI) (ls:List (Bool×List (Av V.E))) (rs' ws' gs:List Nat),Bk V.T C bx1 β1 w/\Ext V.T bx β (A2 C β w) w bx1 β1 (A2 C β1 w) w/\Ac V bx1 (k ls) rs' ws'=some (res,cs,bx',ac)/\
    (∀id∈gs,Ae id bx1=some .gone)/\(∀id∈gs,Ae id bx≠some .gone)/\gs.Nodup/\Ajp bx β bx1 β1/\
    ∀(ts:List Ty) (x:HL V.E ts),Aa1 V.T ts ls=some x->Oh V.T (A2 C β1 w) w os ts x (v::vs) (gs.flatMap λ id=>(β1 id).own):=by
   intro os' h ho ht
   obtain⟨bx1,β1,ls',rs1,ws1,M1,X1,R1,I1,G1⟩:=Xs _ _ bx β M (Ar.cells h1) _ _ _ h
   obtain⟨bx2,β2,ls2,rs2,ws2,gs,M2,X2,I2,a1,a2,a3,G2,F2⟩:=Az7 HT os' args vs bx1 β1 M1 (h2.imp λ _ _ k=>Ar.ext X1 k) _ _ _ I1
   refine⟨bx2,β2,(c.isAg,ls')::ls2,rs2,ws2,gs,M2,X1.trans X2,I2,a1,λ id hid hg=>a2 id hid (G1 id hg).1,a3,λ j hj=> ?_,λ ts x hx=> ?_⟩
   ·obtain⟨g1,g2⟩:=G1 j hj
    obtain⟨g3,g4⟩:=G2 j g1
    exact⟨g3,g4.trans g2⟩
   ·cases ts with
    |nil=>simp[Aa1]at hx
    |cons t ts=>
     simp only[Aa1]at hx
     split at hx
     ·rename_i hag
      split at hx
      ·rename_i x1 hx1
       split at hx
       ·rename_i r hr
        cases hx
        refine⟨v,vs,[],_,rfl,rfl, ?_,by rw[ht];exact F2 ts r hr⟩
        rw[ho]
        have hci:=Ar.isAg h1
        exact(Xq.data (Cai HT rfl hci.1 hci.2 R1 hag hx1)).later X2.later
       ·cases hx
      ·cases hx
     ·cases hx
  match os,c,h with
  |[],c,h=>exact data [] h rfl rfl
  |0::os,c,h=>exact data os h rfl rfl
  |(e+1)::os,.ag _,h=>simp[G3,Ac]at h
  |(e+1)::os,.one l,h=>
   cases l with
   |ar id ver=>
    simp only[G3,Ac]at h
    split at h
    ·rename_i e' t xs v0 hb
     split at h
     ·rename_i hv
      simp only[Bool.and_eq_true]at hv
      have he:=Ah hv.2
      subst he
      simp only[Ac]at h
      simp only[Ar,Ad,hb]at h1
      have hvv:=h1.2.2 (Ah hv.1)
      obtain⟨hown,hA⟩:=M.boxes id _ hb
      obtain⟨M1,X1⟩:=M.set (w':=w) id .gone (β id) rfl rfl rfl (Nat.le_refl _) (λ _ _ _=>rfl) (λ x hx=> .inl hx) (M.nodup id) (λ b0 h0=>by rw[hb]at h0;cases h0;trivial) (λ _=>trivial)
      have hβ:upd β id (β id)=β:=by funext j;unfold upd;split<;>simp_all
      rw[hβ]at M1 X1
      obtain⟨bx2,β2,ls2,rs2,ws2,gs,M2,X2,I2,a1,a2,a3,G2,F2⟩:=Az7 HT os args vs _ β M1 (h2.imp λ _ _ k=>Ar.ext X1 k) _ _ _ h
      obtain⟨g1,g2⟩:=G2 id (Aw _ _ _)
      refine⟨bx2,β2,_,rs2,ws2,id::gs,M2,X1.trans X2,I2, ?_, ?_, ?_, ?_,λ ts x hx=> ?_⟩
      ·intro j hj
       rcases List.mem_cons.1 hj with rfl|hj
       ·exact g1
       ·exact a1 j hj
      ·intro j hj
       rcases List.mem_cons.1 hj with rfl|hj
       ·rw[hb];simp
       ·intro hg
        by_cases hji:j=id
        ·subst hji;rw[hb]at hg;cases hg
        ·exact a2 j hj (by rw[Ay hji];exact hg)
      ·refine List.nodup_cons.2 ⟨λ hid=>a2 id hid (Aw _ _ _),a3⟩
      ·intro j hj
       have hji:j≠id:=by rintro rfl;rw[hb]at hj;cases hj
       exact G2 j (by rw[Ay hji];exact hj)
      ·cases ts with
       |nil=>simp[Aa1]at hx
       |cons t' ts=>
        simp only[Aa1]at hx
        split at hx
        ·rename_i hag
         split at hx
         ·rename_i x1 hx1
          split at hx
          ·rename_i r hr
           cases hx
           refine⟨v,vs,(β2 id).own,gs.flatMap λ id=>(β2 id).own,rfl,rfl, ?_,F2 ts r hr⟩
           cases t' with
           |sl t'=>
            simp only[Ty.ofL]at hx1
            split at hx1
            ·rename_i hu
             subst hu
             cases hx1
             rw[g2,hown,<-hvv]
             rw[<-hvv]at hA
             exact .own ((hA.later X1.later λ _ _=>rfl).later X2.later λ _ _=>rfl)
            ·cases hx1
           |nm n=>simp[Ux]at hag
           |_=>simp[Ty.ofL]at hx1
          ·cases hx
         ·cases hx
        ·cases hx
     ·simp[Ac]at h
    ·simp[Ac]at h
   |_=>simp[G3,Ac]at h
end
structure NB (E:Nat->Type) where
 id:Nat
 b:Box E
 bi:BI
def A0f {E:Nat->Type}:List (NB E)->List (Nat×Box E)->List (Nat×Box E)
 |[],bx=>bx
 |n::N,bx=>A0f N (put n.id n.b bx)
def Aqn {E:Nat->Type} (N:List (NB E)) (j:Nat):Option (NB E):=N.find? λ n=>n.id==j
theorem A93 {E:Nat->Type} {N:List (NB E)} {j:Nat} {n:NB E} (h:Aqn N j=some n):n∈N/\n.id=j:=by
 unfold Aqn at h
 exact⟨List.mem_of_find?_eq_some h,by simpa using List.find?_some h⟩
theorem A8i {E:Nat->Type}:∀{N:List (NB E)} {n:NB E},(N.map (·.id)).Nodup->n∈N->Aqn N n.id=some n
 |[],_,_,h=>by simp at h
 |m::N,n,hd,h=>by
  simp only[List.map_cons,List.nodup_cons]at hd
  rcases List.mem_cons.1 h with rfl|h
  ·simp[Aqn]
  ·have hne:m.id≠n.id:=λ e=>hd.1 (e▸List.mem_map.2 ⟨n,h,rfl⟩)
   have:=A8i hd.2 h
   unfold Aqn at this ⊢
   rw[List.find?_cons]
   have:(m.id==n.id)=false:=by simpa using hne
   rw[this]
   assumption
theorem Aki {E:Nat->Type}:∀(N:List (NB E)) (bx:List (Nat×Box E)) (j:Nat),(N.map (·.id)).Nodup->Ae j (A0f N bx)=match Aqn N j with|some n=>some n.b|none=>Ae j bx
 |[],bx,j,_=>rfl
 |m::N,bx,j,hd=>by
  simp only[List.map_cons,List.nodup_cons]at hd
  rw[A0f,Aki N _ j hd.2]
  by_cases hj:m.id=j
  ·subst hj
   have h1:Aqn N m.id=none:=by
    unfold Aqn
    rw[List.find?_eq_none]
    intro n hn
    simp only[beq_iff_eq]
    exact λ e=>hd.1 (e▸List.mem_map.2 ⟨n,hn,rfl⟩)
   have h2:Aqn (m::N) m.id=some m:=by simp[Aqn]
   rw[h1,h2,Aw]
  ·have h2:Aqn (m::N) j=Aqn N j:=by
    unfold Aqn
    rw[List.find?_cons]
    have:(m.id==j)=false:=by simpa using hj
    rw[this]
   rw[h2,Ay (Ne.symm hj)]
section
variable {V:Env} {P:Program} {C:Ctx} {w:World}
variable {res:Option (SV V.E)} {cs:List Cd} {bx':List (Nat×Box V.E)} {ac:Acc}
def Bhl (V:Env) (ok:Nat->Prop) (w:World) (n:NB V.E):Prop:=
 match n.b with
 | .arr e t xs 0 false=>n.bi.own=n.bi.hdr.ownBlock.toList/\Lh V.T ok w e t xs n.bi.hdr
 | .rows e e2 t xss 0 0 .opn=>Zd V.T ok w e e2 t xss n.bi
 |_=>False
def Awo (V:Env) (ok:Nat->Prop) (w:World) (N:List (NB V.E)) (l:Av V.E) (v:Value):Prop:=
 (∀bx β,Ad V.T bx β ok w l v)\/∃n∈N,l= .ar n.id 0/\v=n.bi.hdr/\v.oneCell'=true
theorem Awo.mono {ok:Nat->Prop} {N M:List (NB V.E)} (h:∀n∈N,n∈M) {l:Av V.E} {v:Value} (k:Awo V ok w N l v):Awo V ok w M l v:=by
 rcases k with k|⟨n,hn,k⟩
 ·exact .inl k
 ·exact .inr ⟨n,h n hn,k⟩
theorem B55 {ok:Nat->Prop} {e:TypeId} {t:Ty} {xs:List (t.den V.E)} {v:Value} (h:Lh V.T ok w e t xs v):v.oneCell'=true:=by
 obtain⟨_,⟨_,q⟩,_⟩:=h
 rcases q with⟨q,_⟩|⟨_,_,_,q,_⟩<;>rw[q]<;>rfl
theorem Bft {ok:Nat->Prop}:∀{os:List (TypeId×TypeId)} {ls:List (Av V.E)} {vs:List Value} {ow:List Nat},Dp V.T ok w os ls vs ow->
 ∀(id:Nat) (bx:List (Nat×Box V.E)) (k:List (Av V.E)->B0 V.E) (rs ws:List Nat),Ac V bx (Ga V id os ls k) rs ws=some (res,cs,bx',ac)->
 ∃(N:List (NB V.E)) (ls':List (Av V.E)) (rs' ws':List Nat),Ac V (A0f N bx) (k ls') rs' ws'=some (res,cs,bx',ac)/\(N.map (·.id)).Nodup/\(∀n∈N,Ae n.id bx=none)/\(∀n∈N,Bhl V ok w n)/\
  ow=N.flatMap (·.bi.own)/\Ba (Awo V ok w N) ls' vs
 |os,_,_,_,.nil,id,bx,k,rs,ws,h=>by
  have h:Ac V bx (k []) rs ws=some (res,cs,bx',ac):=by
   cases os with
   |nil=>exact h
   |cons o os=>obtain⟨e,e2⟩:=o;exact h
  exact⟨[],[],rs,ws,h,by simp,by simp,by simp,rfl,.nil⟩
 |_,_,_,_,.more h1 h2,id,bx,k,rs,ws,h=>by
  have h:Ac V bx (Ga V (id+1000) [] _ λ ls=>k (_::ls)) rs ws=some (res,cs,bx',ac):=h
  obtain⟨N,ls',rs',ws',a1,a2,a3,a4,a5,a6⟩:=Bft h2 _ _ _ _ _ h
  exact⟨N,_,rs',ws',a1,a2,a3,a4,a5,.cons (.inl h1) a6⟩
 |_,_,_,_,.data h1 h2,id,bx,k,rs,ws,h=>by
  have h:Ac V bx (Ga V (id+1000) _ _ λ ls=>k (_::ls)) rs ws=some (res,cs,bx',ac):=h
  obtain⟨N,ls',rs',ws',a1,a2,a3,a4,a5,a6⟩:=Bft h2 _ _ _ _ _ h
  exact⟨N,_,rs',ws',a1,a2,a3,a4,a5,.cons (.inl h1) a6⟩
 |_,_,_,_,@Dp.arr _ _ _ e os t st xs ls v vs ow he hA h2,id,bx,k,rs,ws,h=>by
  obtain⟨e,rfl⟩:=Nat.exists_eq_add_one_of_ne_zero he
  have h:Ac V bx (Rf V id (.arr (e+1) t xs 0 false) (Ga V (id+1000) os ls λ ls=>k (.ar id 0::ls))) rs ws=some (res,cs,bx',ac):=by
   cases t<;>exact h
  obtain⟨hid,rs1,ws1,h⟩:=Lc h
  obtain⟨N,ls',rs',ws',a1,a2,a3,a4,a5,a6⟩:=Bft h2 _ _ _ _ _ h
  have hne:∀n∈N,n.id≠id:=by
   intro n hn e
   have:=a3 n hn
   rw[e,Aw]at this;cases this
  refine⟨⟨id,.arr (e+1) t xs 0 false,⟨0,v,v.ownBlock.toList,[]⟩⟩::N,.ar id 0::ls',rs',ws',a1, ?_, ?_, ?_,by rw[a5];simp,.cons (.inr ⟨_,List.mem_cons_self,rfl,rfl,B55 hA⟩) (a6.imp λ _ _ k=>k.mono λ n hn=>List.mem_cons_of_mem _ hn)⟩
  ·simp only[List.map_cons,List.nodup_cons]
   exact⟨λ hm=>by obtain⟨n,hn,e⟩:=List.mem_map.1 hm;exact hne n hn e,a2⟩
  ·intro n hn
   rcases List.mem_cons.1 hn with rfl|hn
   ·exact hid
   ·have:=a3 n hn
    rw[Ay (hne n hn)]at this;exact this
  ·intro n hn
   rcases List.mem_cons.1 hn with rfl|hn
   ·exact⟨rfl,hA⟩
   ·exact a4 n hn
 |_,_,_,_,@Dp.rows _ _ _ e e2 os t st xss ls v vs ow rows own he he2 hA h2,id,bx,k,rs,ws,h=>by
  obtain⟨e,rfl⟩:=Nat.exists_eq_add_one_of_ne_zero he
  obtain⟨e2,rfl⟩:=Nat.exists_eq_add_one_of_ne_zero he2
  have h:Ac V bx (Rf V id (.rows (e+1) (e2+1) t xss 0 0 .opn) (Ga V (id+1000) os ls λ ls=>k (.ar id 0::ls))) rs ws=some (res,cs,bx',ac):=h
  obtain⟨hid,rs1,ws1,h⟩:=Lc h
  obtain⟨N,ls',rs',ws',a1,a2,a3,a4,a5,a6⟩:=Bft h2 _ _ _ _ _ h
  have hne:∀n∈N,n.id≠id:=by
   intro n hn e
   have:=a3 n hn
   rw[e,Aw]at this;cases this
  have hone:v.oneCell'=true:=by
   obtain⟨⟨_,q⟩,_⟩:=hA
   rcases q with⟨q,_⟩|⟨_,_,_,q,_⟩<;>(simp only at q;rw[q];rfl)
  refine⟨⟨id,.rows (e+1) (e2+1) t xss 0 0 .opn,⟨0,v,own,rows⟩⟩::N,.ar id 0::ls',rs',ws',a1, ?_, ?_, ?_,by rw[a5];simp,.cons (.inr ⟨_,List.mem_cons_self,rfl,rfl,hone⟩) (a6.imp λ _ _ k=>k.mono λ n hn=>List.mem_cons_of_mem _ hn)⟩
  ·simp only[List.map_cons,List.nodup_cons]
   exact⟨λ hm=>by obtain⟨n,hn,e⟩:=List.mem_map.1 hm;exact hne n hn e,a2⟩
  ·intro n hn
   rcases List.mem_cons.1 hn with rfl|hn
   ·exact hid
   ·have:=a3 n hn
    rw[Ay (hne n hn)]at this;exact this
  ·intro n hn
   rcases List.mem_cons.1 hn with rfl|hn
   ·exact hA
   ·exact a4 n hn
def Bzv (V:Env) (ok:Nat->Prop) (w:World) (N:List (NB V.E)):CV V.E->Value->Prop
 | .one l,v=>Awo V ok w N l v
 | .ag ls,v=>∃cs,v= .agg cs/\Ba (Awo V ok w N) ls cs.toList
theorem Bzv.mono {ok:Nat->Prop} {N M:List (NB V.E)} (h:∀n∈N,n∈M) {c:CV V.E} {v:Value} (k:Bzv V ok w N c v):Bzv V ok w M c v:=by
 cases c with
 |one l=>exact Awo.mono h k
 |ag ls=>obtain⟨cs,rfl,k⟩:=k;exact⟨cs,rfl,k.imp λ _ _ k=>Awo.mono h k⟩
theorem A4h {E:Nat->Type}:∀(N M:List (NB E)) (bx:List (Nat×Box E)),A0f (N++M) bx=A0f M (A0f N bx)
 |[],_,_=>rfl
 |_::N,M,_=>A4h N M _
theorem B31 {ok:Nat->Prop}:∀(os:List (List (TypeId×TypeId))) (ts:List Ty) (y:HL V.E ts) (vs:List Value) (ow:List Nat),X9 V.T ok w os ts y vs ow->
 ∀(id:Nat) (bx:List (Nat×Box V.E)) (k:List (CV V.E)->B0 V.E) (rs ws:List Nat),Ac V bx (Abd V id os ts y k) rs ws=some (res,cs,bx',ac)->
 ∃(N:List (NB V.E)) (cvs:List (CV V.E)) (rs' ws':List Nat),Ac V (A0f N bx) (k cvs) rs' ws'=some (res,cs,bx',ac)/\(N.map (·.id)).Nodup/\(∀n∈N,Ae n.id bx=none)/\(∀n∈N,Bhl V ok w n)/\
  ow=N.flatMap (·.bi.own)/\Ba (Bzv V ok w N) cvs vs
 |os,[],y,vs,ow,⟨h1,h2⟩,id,bx,k,rs,ws,h=>by
  subst h1 h2
  exact⟨[],[],rs,ws,h,by simp,by simp,by simp,rfl,.nil⟩
 |os,t::ts,(y,r),_,_,⟨v,vr,o1,o2,rfl,rfl,h1,h2⟩,id,bx,k,rs,ws,h=>by
  simp only[Abd]at h
  obtain⟨ls,hl,hv⟩:=h1
  obtain⟨N,ls',rs1,ws1,a1,a2,a3,a4,a5,a6⟩:=Bft hl _ _ _ _ _ h
  cases hc:B7 (Ux t) ls' with
  |none=>rw[hc]at a1;simp[Ac]at a1
  |some c=>
   rw[hc]at a1
   simp only at a1
   have hos:os.drop 1=os.tail:=by cases os<;>rfl
   rw[hos]at a1
   obtain⟨M,cvs,rs2,ws2,b1,b2,b3,b4,b5,b6⟩:=B31 _ _ _ _ _ h2 _ _ _ _ _ a1
   have hval:Bzv V ok w N c v:=by
    cases hn:Ux t with
    |true=>
     rw[hn]at hc hv
     simp[B7]at hc
     subst hc
     simp at hv
     exact⟨ls.toArray,hv,by simpa using a6⟩
    |false=>
     rw[hn]at hc hv
     simp at hv
     subst hv
     cases a6 with
     |cons q1 q2=>
      cases q2
      simp[B7]at hc
      subst hc
      exact q1
   refine⟨N++M,c::cvs,rs2,ws2,by rw[A4h];exact b1, ?_, ?_, ?_,by rw[a5,b5,List.flatMap_append],.cons (hval.mono λ n hn=>List.mem_append.2 (.inl hn)) (b6.imp λ _ _ k=>k.mono λ n hn=>List.mem_append.2 (.inr hn))⟩
   ·rw[List.map_append]
    refine List.nodup_append.2 ⟨a2,b2,λ x hx y hy e=> ?_⟩
    subst e
    obtain⟨n,hn,rfl⟩:=List.mem_map.1 hx
    obtain⟨m,hm,e⟩:=List.mem_map.1 hy
    have:=b3 m hm
    rw[e,Aki _ _ _ a2,A8i a2 hn]at this
    cases this
   ·intro n hn
    rcases List.mem_append.1 hn with hn|hn
    ·exact a3 n hn
    ·have:=b3 n hn
     rw[Aki _ _ _ a2]at this
     split at this
     ·cases this
     ·exact this
   ·intro n hn
    rcases List.mem_append.1 hn with hn|hn
    ·exact a4 n hn
    ·exact b4 n hn
end
section
variable {V:Env} {P:Program} {C:Ctx} {w:World}
variable {res:Option (SV V.E)} {cs:List Cd} {bx':List (Nat×Box V.E)} {ac:Acc}
theorem B1m (β:Nat->BI) (id:Nat):upd β id (β id)=β:=by
 funext j;unfold upd;split
 ·rename_i h;rw[h]
 ·rfl
theorem Z7 {ok:Nat->Prop}:∀(ts:List Ty) (x:HL V.E ts) (vs:List Value) (own:List Nat),Oh V.T ok w [] ts x vs own->own=[]
 |[],_,_,_,h=>h.2
 |t::ts,(x,r),_,_,⟨v,vr,o1,o2,rfl,rfl,h1,h2⟩=>by
  have h1:Xq V.T ok w 0 t x v o1:=h1
  cases h1 with
  |data _=>rw[Z7 ts r vr o2 h2];rfl
theorem Aji:∀(ls:List (Av V.E)) (id:Nat) (k:List (Av V.E)->B0 V.E),Ga V id [] ls k=k ls
 |[],_,_=>rfl
 |l::ls,id,k=>by
  show Ga V (id+1000) [] ls (λ ls=>k (l::ls))=_
  rw[Aji ls]
theorem Boh {ok:Nat->Prop}:∀{ls:List (Av V.E)} {vs:List Value} {ow:List Nat},Dp V.T ok w [] ls vs ow->Ba (λ l v=>∀bx β,Ad V.T bx β ok w l v) ls vs
 |_,_,_,.nil=> .nil
 |_,_,_,.more h1 h2=> .cons h1 (Boh h2)
theorem Bco {ok:Nat->Prop}:∀(ts:List Ty) (y:HL V.E ts) (vs:List Value) (ow:List Nat),X9 V.T ok w [] ts y vs ow->
 ∀(id:Nat) (bx:List (Nat×Box V.E)) (k:List (CV V.E)->B0 V.E) (rs ws:List Nat),Ac V bx (Abd V id [] ts y k) rs ws=some (res,cs,bx',ac)->
 ∃cvs,Ac V bx (k cvs) rs ws=some (res,cs,bx',ac)/\Ba (λ c v=>∀bx β,Ar V.T bx β ok w c v) cvs vs
 |[],y,vs,ow,⟨h1,_⟩,id,bx,k,rs,ws,h=>by subst h1;exact⟨[],h,.nil⟩
 |t::ts,(y,r),_,_,⟨v,vr,o1,o2,rfl,_,h1,h2⟩,id,bx,k,rs,ws,h=>by
  obtain⟨ls,hl,hv⟩:=h1
  have hall:=Boh (V:=V) (w:=w) hl
  simp only[Abd,List.headD_nil,Aji]at h
  cases hc:B7 (Ux t) (t.toL V.T y)with
  |none=>rw[hc]at h;simp[Ac]at h
  |some c=>
   rw[hc]at h
   simp only[List.drop_nil]at h
   obtain⟨cvs,b1,b2⟩:=Bco ts r vr o2 h2 _ _ _ _ _ h
   refine⟨c::cvs,b1,.cons (λ bx β=> ?_) b2⟩
   cases hn:Ux t with
   |true=>
    rw[hn]at hc hv
    simp[B7]at hc
    subst hc
    simp at hv
    exact⟨ls.toArray,hv,by simpa using hall.imp λ _ _ k=>k bx β⟩
   |false=>
    rw[hn]at hc hv
    simp at hv
    subst hv
    generalize Ty.toL V.T t y=q at*
    cases hall with
    |cons q1 q2=>
     cases q2
     simp[B7]at hc
     subst hc
     exact q1 bx β
theorem Au5 {c0:List Cd}:∀(ts:List Ty) (id:Nat) (y:HL V.E ts) (k:List (CV V.E)->B0 V.E),
 (∀l bx rs ws res cs bx' ac,Ac V bx (k l) rs ws=some (res,cs,bx',ac)->cs=c0)->
 ∀bx rs ws res cs bx' ac,Ac V bx (Abd V id [] ts y k) rs ws=some (res,cs,bx',ac)->cs=c0
 |[],id,y,k,hk,bx,rs,ws,res,cs,bx',ac,h=>hk _ _ _ _ _ _ _ _ h
 |t::ts,id,(y,r),k,hk,bx,rs,ws,res,cs,bx',ac,h=>by
  simp only[Abd,List.headD_nil,Aji]at h
  split at h
  ·exact Au5 ts _ r _ (λ l=>hk _) _ _ _ _ _ _ _ h
  ·simp[Ac]at h
def Asd (V:Env) (P:Program) (C:Ctx) (bx:List (Nat×Box V.E)) (β:Nat->BI) (w:World) (f:FuncId) (vs:List Value) (res:Option (SV V.E)) (bx':List (Nat×Box V.E)):Prop:=
 (∃fn,P.funcs[f]?=some fn/\fn.body.isSome=true/\(fn.name== "runtime.NumGoroutine")=false)/\
 Calls P f vs.toArray w λ e w'=>∃v,e= .returned v/\∃β' x,res=some x/\Az V.T bx' β' (A2 C β' w') w' x v/\Bk V.T C bx' β' w'/\Ext V.T bx β (A2 C β w) w bx' β' (A2 C β' w') w'
theorem A35 {α:Type}:∀{l i:List α} {a:α},A3g l=some (i,a)->l=i++[a]
 |[],_,_,h=>by simp[A3g]at h
 |[b],_,_,h=>by simp[A3g]at h;obtain⟨rfl,rfl⟩:=h;rfl
 |b::c::r,_,_,h=>by
  unfold A3g at h
  split at h
  ·rename_i i l hl
   cases h
   rw[A35 hl];rfl
  ·cases h
theorem Atp {ok ok':Nat->Prop} (L:Dd ok w ok' w):∀(ts:List Ty) (x:HL V.E ts) (vs:List Value) (own:List Nat) {os:List TypeId},Oh V.T ok w os ts x vs own->Oh V.T ok' w os ts x vs own
 |[],_,_,_,_,h=>h
 |_::ts,(_,r),_,_,_,⟨v,vr,o1,o2,e1,e2,h1,h2⟩=>⟨v,vr,o1,o2,e1,e2,h1.later L,Atp L ts r vr o2 h2⟩
theorem Bpl {ok ok':Nat->Prop} {w w':World}:∀(ts:List Ty) (y:HL V.E ts) (vs:List Value) (ow:List Nat),ts.all Ae3=true->X9 V.T ok w [] ts y vs ow->X9 V.T ok' w' [] ts y vs ow
 |[],_,_,_,_,h=>h
 |t::ts,(y,r),_,_,hf,⟨v,vr,o1,o2,e1,e2,⟨ls,hl,hv⟩,h2⟩=>by
  simp only[List.all_cons,Bool.and_eq_true]at hf
  refine⟨v,vr,o1,o2,e1,e2,⟨ls, ?_,hv⟩,Bpl ts r vr o2 hf.2 h2⟩
  have hl:Dp V.T ok w [] (t.toL V.T y) ls o1:=hl
  show Dp V.T ok' w' [] (t.toL V.T y) ls o1
  cases t with
  |int k=>cases hl with
   |more a b=>cases b;exact .more (λ bx β=>a bx β) .nil
  |bool=>cases hl with
   |more a b=>cases b;exact .more (λ bx β=>a bx β) .nil
  |str=>cases hl with
   |more a b=>cases b;exact .more (λ bx β=>a bx β) .nil
  |sl t=>simp[Ae3]at hf
  |nm n=>simp[Ae3]at hf
theorem Bjc {ok ok':Nat->Prop} {w:World} (L:Dd ok w ok' w):∀(ts:List Ty) (y:HL V.E ts) (vs:List Value) (ow:List Nat),X9 V.T ok w [] ts y vs ow->X9 V.T ok' w [] ts y vs ow
 |[],_,_,_,h=>h
 |t::ts,(y,r),_,_,⟨v,vr,o1,o2,e1,e2,⟨ls,hl,hv⟩,h2⟩=>by
  refine⟨v,vr,o1,o2,e1,e2,⟨ls, ?_,hv⟩,Bjc L ts r vr o2 h2⟩
  have key:∀(cs:List (Av V.E)) (vs:List Value) (ow:List Nat),Dp V.T ok w [] cs vs ow->Dp V.T ok' w [] cs vs ow:=by
   intro cs
   induction cs with
   |nil=>intro vs ow h;cases h;exact .nil
   |cons l ls IH=>intro vs ow h;cases h with
    |more h1 h=>exact .more (λ bx β=>Ad.agree L l _ (λ id hid=>⟨.inl rfl,rfl⟩) (h1 bx β)) (IH _ _ h)
  exact key _ _ _ hl
theorem Bvt {bx:List (Nat×Box V.E)} {β:Nat->BI} {ok:Nat->Prop} {v:Via} {l l':Av V.E} {u:Value} (h:v.at l=some l') (hr:Ad V.T bx β ok w l u):∃pv,u=v.val pv/\(v.isFn=false->Ad V.T bx β ok w l' pv):=by
 cases v with
 |ptr=>cases h;exact⟨u,rfl,λ _=>hr⟩
 |clo f=>
  cases l with
  |clo f' ls=>
   match ls with
   |[a]=>
    simp only[Via.at]at h
    split at h
    ·rename_i e
     cases h
     have e:=Nat.eq_of_beq_eq_true e
     subst e
     simp only[Ad]at hr
     obtain⟨vs,rfl,hr⟩:=hr
     simp only[A9]at hr
     obtain⟨pv,r,hv,h1,rfl⟩:=hr
     refine⟨pv, ?_,λ _=>h1⟩
     have:vs= #[pv]:=by cases vs;simp at hv;subst hv;rfl
     rw[this];rfl
    ·cases h
   |[]=>simp[Via.at]at h
   |_::_::_=>simp[Via.at]at h
  |_=>simp[Via.at]at h
 |fn f=>
  cases l with
  |clo f' ls=>
   match ls with
   |[]=>
    simp only[Via.at]at h
    split at h
    ·rename_i e
     have e:=Nat.eq_of_beq_eq_true e
     subst e
     simp only[Ad]at hr
     obtain⟨vs,rfl,hr⟩:=hr
     simp only[A9]at hr
     refine⟨undef, ?_,λ h=>by simp[Via.isFn]at h⟩
     have:vs= #[]:=by cases vs;simp at hr;subst hr;rfl
     rw[this];rfl
    ·cases h
   |_::_=>simp[Via.at]at h
  |_=>simp[Via.at]at h
theorem A17 {f:FuncId} {S:FC V.E} (HW:Blq V P f S) {bx bx1:List (Nat×Box V.E)} {β β1:Nat->BI} (M1:Bk V.T C bx1 β1 w) (X1:Ext V.T bx β (A2 C β w) w bx1 β1 (A2 C β1 w) w) {dst:Nat} {vr:List Value} {pv:Value}
 {c:S.c.den V.E} {x:HL V.E S.args} {y:HL V.E S.res} (okp:Nat->Prop) (L:Dd (A2 C β1 w) w okp w) (hlt:∀b,okp b->b<w.heap.size) (hflat:S.res.all Ae3=true\/∀b,okp b->A2 C β1 w b)
 (hargs:Oh V.T (A2 C β1 w) w [] S.args x vr []) (hp:S.via.isFn=true\/∃b o cs,pv= .pointer (some ⟨b,o,none⟩)/\Bl okp w (S.c.av V.T c) cs/\Mem okp w b o cs)
 {rs ws:List Nat} (h:Ac V bx1 (Abd V dst [] S.res y (Q8 V [cc (S.f c x=some y)])) rs ws=some (res,cs,bx',ac)) (hc:Fj cs):Asd V P C bx β w f (vr++[S.via.val pv]) res bx':=by
 have hk:∀l bx rs ws res cs bx' ac,Ac V bx (Q8 V [cc (S.f c x=some y)] l) rs ws=some (res,cs,bx',ac)->cs=[cc (S.f c x=some y)]:=by
  intro l bx rs ws res cs bx' ac h
  unfold Q8 at h
  split at h<;>exact(Aq h).2.1.symm
 have hcs:=Au5 _ _ _ _ hk _ _ _ _ _ _ _ h
 rw[hcs]at hc
 refine⟨HW.1,(HW.2 c x y hc.1 okp w vr pv (Atp L _ _ _ _ hargs) hp hlt).mono ?_⟩
 rintro e w' ⟨rv,rfl,hbut,hres⟩
 have hgr:U1 w w':=⟨hbut.os,hbut.tape,hbut.output,hbut.size,λ x hx=>hbut.heap x hx (by simp)⟩
 obtain⟨M2,X2⟩:=M1.grow (w':=w') hgr
 have hres':X9 V.T (A2 C β1 w') w' [] S.res y rv []:=by
  rcases hflat with hflat|hok
  ·exact Bpl _ _ _ _ hflat hres
  ·refine Bjc ⟨λ b hb=> ?_,λ _ _=>rfl⟩ _ _ _ _ hres
   rcases hb with⟨h1,h2|h2⟩
   ·have:=hok b h2
    exact⟨h1,this.2.1,this.2.2⟩
   ·refine⟨h1,.inr (.inl (Nat.le_trans M1.kept.size h2)),λ id hid=> ?_⟩
    have:=(M1.mine id _ hid).1
    omega
 obtain⟨cvs,b1,b2⟩:=Bco _ _ _ _ hres' _ _ _ _ _ h
 refine⟨_,rfl,β1, ?_⟩
 unfold Q8 at b1
 split at b1
 ·rename_i c0
  obtain⟨rfl,_,rfl⟩:=Aq b1
  cases b2 with
  |cons q1 q2=>cases q2;exact⟨_,rfl,q1 _ _,M2,X1.trans X2⟩
 ·rename_i hne
  obtain⟨rfl,_,rfl⟩:=Aq b1
  refine⟨_,rfl, ?_,M2,X1.trans X2⟩
  simp only[Az]
  refine⟨rv.toArray, ?_,by simpa using b2.imp λ _ _ k=>k _ _⟩
  have hl:=b2.length
  cases rv with
  |nil=>rfl
  |cons v rv=>
   cases rv with
   |cons _ _=>rfl
   |nil=>
    match cvs,hl,hne with
    |[c],_,hne=>exact(hne c rfl).elim
theorem B17 (HT:V.T.Ok) {f:FuncId} {S:FC V.E} (HW:Blq V P f S) {bx:List (Nat×Box V.E)} {β:Nat->BI} (M:Bk V.T C bx β w) {dst:Nat} {args:List (CV V.E)} {vs:List Value} (ha:Ba (Ar V.T bx β (A2 C β w) w) args vs)
 {d:Dyn V.E} {rs ws:List Nat} (h:Ac V bx (Ar7 V dst (some S) args d) rs ws=some (res,cs,bx',ac)) (hc:Fj cs):Asd V P C bx β w f vs res bx':=by
 unfold Ar7 at h
 split at h
 rotate_left
 ·simp[Ac]at h
 rename_i S' rest l e1 heq
 cases e1
 have hargs0:=A35 heq
 subst hargs0
 obtain⟨vr,vp,rfl,ha1,ha2⟩:=ha.split
 cases ha2 with
 |cons h1 h2=>
  cases h2
  rename_i uv
  obtain⟨bx1,β1,ls,rs1,ws1,gs,M1,X1,h,_,_,_,_,hargs⟩:=Az7 HT [] rest vr bx β M ha1 _ _ _ h
  have h1':Ad V.T bx1 β1 (A2 C β1 w) w l uv:=Ar.ext X1 h1
  split at h
  ·rename_i x y id off hx hy hat
   obtain⟨pv,rfl,hpv⟩:=Bvt hat h1'
   have hnf:S.via.isFn=false:=by
    cases hv:S.via with
    |fn f0=>
     rw[hv]at hat
     cases l with
     |clo f' ls=>cases ls with
      |nil=>simp only[Via.at]at hat;split at hat<;>cases hat
      |cons _ _=>simp[Via.at]at hat
     |_=>simp[Via.at]at hat
    |_=>rfl
   have hpv:=hpv hnf
   have hargs:=hargs S.args x hx
   rw[Z7 _ _ _ _ hargs]at hargs
   simp only[Ac]at h
   split at h
   ·rename_i cl hb
    split at h
    ·rename_i c hcl
     split at h
     ·rename_i hflat
      simp only[Ad,hb]at hpv
      obtain⟨_,rfl⟩:=hpv
      obtain⟨ca,ce,hown,hheap,hrep⟩:=M1.boxes id _ hb
      have hmem:(β1 id).blk<w.heap.size:=(M1.mine id _ (by rw[hown];simp)).1
      have hcells:Ba (Ad V.T bx1 β1 (A2 C β1 w) w) (S.c.toL V.T c) ((ca.toList.drop off).take (S.c.sz V.T)):=Af0 (Amj HT hcl) ((hrep.drop off).take _)
      have hav:=(T0 HT S.c c _).1 hcells
      have L:Dd (A2 C β1 w) w (λ b=>A2 C β1 w b\/b=(β1 id).blk) w:=⟨λ b hb=> .inl hb,λ _ _=>rfl⟩
      refine A17 HW M1 X1 (λ b=>A2 C β1 w b\/b=(β1 id).blk) L (λ b hb=> ?_) (.inl hflat) hargs (.inr ⟨_,off,_,rfl,Bl.later L _ _ hav,.inr rfl,λ j v hv=> ?_⟩) h hc
      ·rcases hb with hb|hb
       ·exact hb.1
       ·rw[hb];exact hmem
      ·have hj:ca.toList[off+j]?=some v:=by
        rw[List.getElem?_take]at hv
        split at hv
        ·rw[List.getElem?_drop]at hv;exact hv
        ·cases hv
       unfold World.cell?
       simp only[hheap]
       simpa using hj
     ·simp[Ac]at h
    ·simp[Ac]at h
   ·simp[Ac]at h
  ·rename_i x y t z hx hy hat
   obtain⟨pv,rfl,hpv⟩:=Bvt hat h1'
   have hargs:=hargs S.args x hx
   rw[Z7 _ _ _ _ hargs]at hargs
   split at h
   ·rename_i ht
    subst ht
    refine A17 HW M1 X1 (A2 C β1 w) ⟨λ b hb=>hb,λ _ _=>rfl⟩ (λ b hb=>hb.1) (.inr λ b hb=>hb) hargs ?_ h hc
    cases hv:S.via.isFn with
    |true=>exact .inl rfl
    |false=>
     have:=hpv hv
     simp only[Ad,Nat.add_zero]at this
     obtain⟨b,o,cs,e1,e2,e3⟩:=this
     exact .inr ⟨b,o,cs,e1,e2,e3⟩
   ·simp[Ac]at h
  ·rename_i x y hx hy hat
   obtain⟨pv,rfl,hpv⟩:=Bvt hat h1'
   have hargs:=hargs S.args x hx
   rw[Z7 _ _ _ _ hargs]at hargs
   split at h
   ·rename_i hfn
    exact A17 HW M1 X1 (A2 C β1 w) ⟨λ b hb=>hb,λ _ _=>rfl⟩ (λ b hb=>hb.1) (.inr λ b hb=>hb) hargs (.inl hfn) h hc
   ·simp[Ac]at h
  ·simp[Ac]at h
theorem B1w (HT:V.T.Ok) {f:FuncId} {S:FW V.E} (HW:Bun V P f S) {bx:List (Nat×Box V.E)} {β:Nat->BI} (M:Bk V.T C bx β w) {dst:Nat} {args:List (CV V.E)} {vs:List Value} (ha:Ba (Ar V.T bx β (A2 C β w) w) args vs)
 {d:Dyn V.E} {rs ws:List Nat} (h:Ac V bx (A18 V dst (some S) args d) rs ws=some (res,cs,bx',ac)) (hc:Fj cs):Asd V P C bx β w f vs res bx':=by
 unfold A18 at h
 split at h
 ·rename_i S' id ver i n rest heq
  cases heq
  cases ha with
  |cons h1 h2=>
   rename_i v vr
   obtain⟨bx1,β1,ls,rs1,ws1,gs,M1,X1,h,_,_,_,_,hargs⟩:=Az7 HT [] rest vr bx β M h2 _ _ _ h
   simp only[Ac]at h
   split at h
   ·rename_i e t xs v0 hb
    split at h
    ·rename_i hv
     simp only[Bool.and_eq_true]at hv
     have he:=Ah hv.2
     split at h
     ·rename_i ht
      subst ht
      subst he
      split at h
      ·rename_i x y hx hy
       have h1':=Ar.ext X1 h1
       simp only[Ar,Ad,hb]at h1'
       obtain⟨_,_,h1'⟩:=h1'
       obtain⟨i0,n0,hin,b,cap,hh,hic,hveq⟩:=h1' (Ah hv.1)
       have hk:∀l bx rs ws res cs bx' ac,Ac V bx (.write id (.arr S.e S.t y.1 v0 false) (Q8 V [cc (S.f xs i n x=some (y.1,y.2)),cd (y.1.length=xs.length)] l)) rs ws=some (res,cs,bx',ac)->cs=[cc (S.f xs i n x=some (y.1,y.2)),cd (y.1.length=xs.length)]:=by
        intro l bx rs ws res cs bx' ac h
        simp only[Ac]at h
        unfold Q8 at h
        split at h<;>exact(Aq h).2.1.symm
       have hcs:=Au5 _ _ _ _ hk _ _ _ _ _ _ _ h
       rw[hcs]at hc
       obtain⟨hf,hlen,_⟩:=hc
       have hargs:=hargs S.args x hx
       rw[Z7 _ _ _ _ hargs]at hargs
       obtain⟨hown,hA⟩:=M1.boxes id _ hb
       have hown':(β1 id).own=[b]:=by rw[hown,hh];rfl
       have hbo:b∈(β1 id).own:=by rw[hown'];simp
       refine⟨HW.1,(HW.2 xs i n x y.1 y.2 hf hlen (A2 C β1 w) w v vr (β1 id).hdr b ⟨cap,hh,i0,n0,hin,hic,hveq⟩ hA hargs (M1.mine id b hbo).1 (λ hk=>hk.2.2 id hbo) (λ c hc=>hc.1)).mono ?_⟩
       rintro e w' ⟨rv,rfl,hbut,hA',hres⟩
       obtain⟨cvs,b1,b2⟩:=Bco _ _ _ _ hres _ _ _ _ _ h
       simp only[Ac]at b1
       have hβ:upd β1 id (β1 id)=β1:=B1m β1 id
       have hokR:∀c,okW (A2 C β1 w) w b w' c->A2 C (upd β1 id (β1 id)) w' c:=by
        rintro c ⟨k1,k2,k3⟩
        rw[hβ]
        refine⟨k1, ?_,λ j hj=> ?_⟩
        ·rcases k2 with k2|k2
         ·exact k2.2.1
         ·exact .inr (.inl (Nat.le_trans M1.kept.size k2))
        ·rcases k2 with k2|k2
         ·exact k2.2.2 j hj
         ·have:=(M1.mine j c hj).1;omega
       have LR:Dd (okW (A2 C β1 w) w b w') w' (A2 C (upd β1 id (β1 id)) w') w':=⟨hokR,λ _ _=>rfl⟩
       obtain⟨M2,X2⟩:=M1.set (w':=w') id (.arr S.e S.t y.1 v0 false) (β1 id) hbut.os hbut.tape hbut.output hbut.size
        (λ x hx hn=>hbut.heap x hx (by rw[hown']at hn;exact hn)) (λ x hx=> .inl hx) (M1.nodup id)
        (λ b0 h0=>by rw[hb]at h0;cases h0;exact⟨rfl,Nat.le_refl _,λ _=>⟨rfl,hlen⟩⟩)
        (λ _=>⟨by rw[A6];exact hown,by rw[A6];exact hA'.later LR λ _ _=>rfl⟩)
       have hval:∀c v,(∀bx β,Ar V.T bx β (okW (A2 C β1 w) w b w') w' c v)->Ar V.T (put id (.arr S.e S.t y.1 v0 false) bx1) (upd β1 id (β1 id)) (A2 C (upd β1 id (β1 id)) w') w' c v:=
        λ c v k=>Ar.ext ⟨LR,λ _ b h=>⟨b,h,Gu.refl _ _ _⟩⟩ (k _ (upd β1 id (β1 id)))
       refine⟨_,rfl,upd β1 id (β1 id), ?_⟩
       unfold Q8 at b1
       split at b1
       ·rename_i c
        obtain⟨rfl,_,rfl⟩:=Aq b1
        cases b2 with
        |cons q1 q2=>cases q2;exact⟨_,rfl,hval _ _ q1,M2,X1.trans X2⟩
       ·rename_i hne
        obtain⟨rfl,_,rfl⟩:=Aq b1
        refine⟨_,rfl, ?_,M2,X1.trans X2⟩
        simp only[Az]
        refine⟨rv.toArray, ?_,by simpa using b2.imp λ _ _ k=>hval _ _ k⟩
        have hl:=b2.length
        cases rv with
        |nil=>rfl
        |cons v rv=>
         cases rv with
         |cons _ _=>rfl
         |nil=>
          match cvs,hl,hne with
          |[c],_,hne=>exact(hne c rfl).elim
      ·simp[Ac]at h
     ·simp[Ac]at h
    ·simp[Ac]at h
   ·simp[Ac]at h
 ·simp[Ac]at h
end
section
variable {V:Env} {P:Program} {C:Ctx} {w:World}
variable {res:Option (SV V.E)} {cs:List Cd} {bx':List (Nat×Box V.E)} {ac:Acc}
mutual
theorem Ad.free {T:Tab} {bx bx2:List (Nat×Box T.E)} {β β2:Nat->BI} {ok ok':Nat->Prop} {w w':World} (L:Dd ok w ok' w'):∀(l:Av T.E) (v:Value),B9m l=true->Ad T bx β ok w l v->Ad T bx2 β2 ok' w' l v
 | .int _ _,_,_,h=>h
 | .bool _,_,_,h=>h
 | .str _,_,_,h=>h
 | .sl _ _ _,_,_,h=>Bl.later L _ _ h
 | .cp t x off,v,_,h=>by
   simp only[Ad]at h ⊢
   obtain⟨b,o,cs,h1,h2,h3⟩:=h
   exact⟨b,o,cs,h1,Bl.later L _ _ h2,h3.later L⟩
 | .nptr,_,_,h=>h
 | .nfn,_,_,h=>h
 | .nmp,_,_,h=>h
 | .nif,_,_,h=>h
 | .clo f caps,v,hn,h=>by
   simp only[Ad]at h ⊢
   obtain⟨vs,h1,h2⟩:=h
   exact⟨vs,h1,A9.free L caps _ (by simpa [B9m]using hn) h2⟩
 | .ar _ _,_,h,_=>by cases h
 | .row _ _ _ _,_,h,_=>by cases h
 | .ptr _ _,_,h,_=>by cases h
 | .ep _ _ _ _,_,h,_=>by cases h
 | .rp _ _ _ _ _ _,_,h,_=>by cases h
 | .bs _,_,h,_=>by cases h
 | .win _ _ _ _,_,h,_=>by cases h
 | .mp _,_,h,_=>by cases h
theorem A9.free {T:Tab} {bx bx2:List (Nat×Box T.E)} {β β2:Nat->BI} {ok ok':Nat->Prop} {w w':World} (L:Dd ok w ok' w'):∀(ls:List (Av T.E)) (vs:List Value),A9g ls=true->A9 T bx β ok w ls vs->A9 T bx2 β2 ok' w' ls vs
 |[],_,_,h=>h
 |l::ls,vs,hn,h=>by
  simp only[A9]at h ⊢
  simp only[A9g,Bool.and_eq_true]at hn
  obtain⟨v,r,rfl,h1,h2⟩:=h
  exact⟨v,r,rfl,Ad.free L l v hn.1 h1,A9.free L ls r hn.2 h2⟩
end
theorem Ar.free {T:Tab} {bx bx2:List (Nat×Box T.E)} {β β2:Nat->BI} {ok ok':Nat->Prop} {w w':World} (L:Dd ok w ok' w') {c:CV T.E} {v:Value} (hn:A9g c.leaves=true) (h:Ar T bx β ok w c v):Ar T bx2 β2 ok' w' c v:=by
 cases c with
 |one l=>exact Ad.free L l v (by simpa [CV.leaves,A9g]using hn) h
 |ag ls=>
  obtain⟨cs,rfl,h⟩:=h
  exact⟨cs,rfl,(A9.iff T ls _).1 (A9.free L ls _ hn ((A9.iff T ls _).2 h))⟩
theorem CVReps.free {T:Tab} {bx bx2:List (Nat×Box T.E)} {β β2:Nat->BI} {ok ok':Nat->Prop} {w w':World} (L:Dd ok w ok' w'):∀{cs:List (CV T.E)} {vs:List Value},Bk8 cs=true->Ba (Ar T bx β ok w) cs vs->Ba (Ar T bx2 β2 ok' w') cs vs
 |_,_,_,.nil=> .nil
 |_::_,_,hn,.cons h t=>by
  simp only[Bk8,Bool.and_eq_true]at hn
  exact .cons (h.free L hn.1) (CVReps.free L hn.2 t)
theorem Bsc:∀(args:List (CV V.E)) (vs:List Value) (bx:List (Nat×Box V.E)) (β:Nat->BI),Bk V.T C bx β w->Ba (Ar V.T bx β (A2 C β w) w) args vs->
 ∀(k:List (CV V.E)->B0 V.E) (rs ws:List Nat),Ac V bx (Bxd V args k) rs ws=some (res,cs,bx',ac)->
 ∃bx1 β1 as rs' ws',Bk V.T C bx1 β1 w/\Ext V.T bx β (A2 C β w) w bx1 β1 (A2 C β1 w) w/\Ba (Ar V.T bx1 β1 (A2 C β1 w) w) as vs/\Ac V bx1 (k as) rs' ws'=some (res,cs,bx',ac)
 |[],_,bx,β,M,.nil,k,rs,ws,h=>⟨bx,β,[],rs,ws,M,Ext.refl _ _ _ _ _,.nil,h⟩
 |c::args,v::vs,bx,β,M,.cons h1 h2,k,rs,ws,h=>by
  simp only[Bxd]at h
  obtain⟨bx1,β1,ls',rs1,ws1,M1,X1,R1,I1,_⟩:=Xs _ _ bx β M (Ar.cells h1) _ _ _ h
  obtain⟨bx2,β2,as,rs2,ws2,M2,X2,R2,I2⟩:=Bsc args vs bx1 β1 M1 (h2.imp λ _ _ k=>Ar.ext X1 k) _ _ _ I1
  refine⟨bx2,β2,_,rs2,ws2,M2,X1.trans X2,.cons ?_ R2,I2⟩
  refine Ar.ext X2 ?_
  cases c with
  |one l=>
   rw[Af1 h1]at R1
   cases R1 with
   |cons q1 q2=>cases q2;exact q1
  |ag ls=>
   obtain⟨cs',rfl,h1⟩:=h1
   have hag:∀ls',(CV.ag ls:CV V.E).turn ls'= .ag ls':=λ ls'=>by cases ls'<;>rfl
   rw[hag]
   exact⟨cs',rfl,R1⟩
theorem A0v:∀(N:List (Nat×Box V.E)) {bx:List (Nat×Box V.E)} {k:B0 V.E} {rs ws:List Nat},Ac V bx (A12 V N k) rs ws=some (res,cs,bx',ac)->
 ∃bx1 rs' ws',Ac V bx1 k rs' ws'=some (res,cs,bx',ac)/\(∀j b,Ae j N=some b->Ae j bx=none)/\∀j,Ae j bx1=match Ae j N with|some b=>some b|none=>Ae j bx
 |[],bx,k,rs,ws,h=>⟨bx,rs,ws,h,λ j b hb=>by simp[Ae]at hb,λ j=>rfl⟩
 |(id,b)::N,bx,k,rs,ws,h=>by
  simp only[A12]at h
  obtain⟨hid,rs1,ws1,h⟩:=Lc h
  obtain⟨bx1,rs2,ws2,h,h1,h2⟩:=A0v N h
  refine⟨bx1,rs2,ws2,h,λ j c hc=> ?_,λ j=> ?_⟩
  ·unfold Ae at hc
   split at hc
   ·rename_i e;have:=Ah e;subst this;exact hid
   ·rename_i hne
    have hj:j≠id:=by rintro rfl;simp at hne
    have:=h1 j c hc
    rw[Ay hj]at this;exact this
  ·rw[h2,show Ae j ((id,b)::N)=if Nat.beq id j=true then some b else Ae j N from rfl]
   by_cases hj:j=id
   ·subst hj
    have:Ae j N=none:=by
     cases hl:Ae j N with
     |none=>rfl
     |some c=>have:=h1 j c hl;rw[Aw]at this;cases this
    rw[this,Aw];simp
   ·rw[Fi (Ne.symm hj),Ay hj];simp
theorem B1a (HF:Bnf V P) {dst:Nat} {f:FuncId} {bx:List (Nat×Box V.E)} {β:Nat->BI} (M:Bk V.T C bx β w) {args:List (CV V.E)} {vs:List Value} (ha:Ba (Ar V.T bx β (A2 C β w) w) args vs)
 {rs ws:List Nat} (h:Ac V bx (A3b V dst (V.ps f) args) rs ws=some (res,cs,bx',ac)):Asd V P C bx β w f vs res bx':=by
 unfold A3b at h
 split at h
 ·rename_i S hS
  obtain⟨hfn,hM⟩:=HF.ps f S hS
  obtain⟨bx1,β1,as,rs1,ws1,M1,X1,R1,h⟩:=Bsc _ _ _ _ M ha _ _ _ h
  split at h
  ·rename_i r0 N ha0 hr0
   obtain⟨bx2,rs2,ws2,h,hfresh,hlook⟩:=A0v N h
   let C1:Ctx:=⟨P,A2 C β1 w,w.heap.size,λ _=>False,w,undef,[]⟩
   have M0:Bk V.T C1 ([]:List (Nat×Box V.E)) β0 w:=⟨λ id b hb=>by simp[Ae]at hb,λ _ _=>rfl,λ _=>List.nodup_nil,λ _ _ _ hx=>by simp[β0]at hx,λ _ _ hx=>by simp[β0]at hx,⟨rfl,rfl,rfl,Nat.le_refl _,λ _ _ _=>rfl⟩⟩
   have L0:Dd (A2 C β1 w) w (A2 C1 β0 w) w:=⟨λ b hb=>⟨hb.1,.inl hb,λ _ hx=>by simp[β0]at hx⟩,λ _ _=>rfl⟩
   refine⟨hfn,(hM _ _ _ _ _ hr0 C1 β0 w vs [] [] M0 (CVReps.free L0 ha0 R1) .nil).mono ?_⟩
   rintro e w' ⟨β',rv,rfl,M',hres,_⟩
   let β2:Nat->BI:=λ j=>match Ae j N with|some _=>β' j|none=>β1 j
   have hβN:∀j b,Ae j N=some b->β2 j=β' j:=λ j b hb=>by show(match Ae j N with|some _=>β' j|none=>β1 j)=_;rw[hb]
   have hβo:∀j,Ae j N=none->β2 j=β1 j:=λ j hj=>by show(match Ae j N with|some _=>β' j|none=>β1 j)=_;rw[hj]
   have hnew:∀j x,x∈(β' j).own->w.heap.size<=x/\x<w'.heap.size:=λ j x hx=>by
    obtain⟨h1,h2⟩:=M'.mine j x hx
    rcases h2 with h2|h2
    ·exact⟨h2,h1⟩
    ·exact h2.elim
   have L2:Dd (A2 C1 β' w') w' (A2 C β2 w') w':=by
    refine⟨λ b hb=>⟨hb.1, ?_,λ id hid=> ?_⟩,λ _ _=>rfl⟩
    ·rcases hb.2.1 with k|k|k
     ·exact k.2.1
     ·exact .inr (.inl (Nat.le_trans M1.kept.size k))
     ·exact k.elim
    ·cases hN:Ae id N with
     |some c=>rw[hβN id c hN]at hid;exact hb.2.2 id hid
     |none=>
      rw[hβo id hN]at hid
      rcases hb.2.1 with k|k|k
      ·exact k.2.2 id hid
      ·have h1:=(M1.mine id b hid).1
       have:w.heap.size<=b:=k
       omega
      ·exact k.elim
   have alike:∀id,(∃b,Ae id N=some b)->A40 (Ae id N) (Ae id bx2)/\β2 id=β' id:=λ id ⟨b,hb⟩=>⟨.inl (by rw[hlook,hb]),hβN id b hb⟩
   obtain⟨M2,X2⟩:=M1.step (bx':=bx2) (β':=β2) (w':=w') (λ j=>∃b,Ae j N=some b) M'.kept.os M'.kept.tape M'.kept.output M'.kept.size
    (λ j hj=>by
     cases hN:Ae j N with
     |some b=>exact(hj ⟨b,hN⟩).elim
     |none=>exact⟨hβo j hN,by rw[hlook,hN]⟩)
    (λ x hx _=>M'.kept.heap x hx (λ k=>k))
    (λ j ⟨b,hb⟩ x hx=>by rw[hβN j b hb]at hx;exact .inr (hnew j x hx))
    (λ j ⟨b,hb⟩=>by rw[hβN j b hb];exact M'.nodup j)
    (λ j j' x ⟨b,hb⟩ ⟨b',hb'⟩ hx hx'=>by rw[hβN j b hb]at hx;rw[hβN j' b' hb']at hx';exact M'.apart j j' x hx hx')
    (λ j ⟨b,hb⟩ hn=>by rw[hlook,hb]at hn;cases hn)
    (λ j c ⟨b,hb⟩ hc=>by rw[hfresh j b hb]at hc;cases hc)
    (λ _ j b ⟨c,hc⟩ hb=>by
     rw[hlook,hc]at hb
     cases hb
     refine Dc.agree L2 (hβN j b hc) (λ ls e i hi=> ?_) (M'.boxes j b hc)
     subst e
     obtain⟨cc,ee,_,_,hrep⟩:=M'.boxes j _ hc
     exact alike i (A9.here ls _ ((A9.iff V.T ls _).2 hrep) i hi))
   have hres':Ba (Ar V.T bx2 β2 (A2 C β2 w') w') r0 rv:=hres.imp λ c v k=>Ar.agree L2 (λ id hid=>alike id (Ar.here k id hid)) k
   refine⟨_,rfl,β2, ?_⟩
   unfold Q8 at h
   split at h
   ·rename_i c0
    obtain⟨rfl,_,rfl⟩:=Aq h
    cases hres' with
    |cons q1 q2=>cases q2;exact⟨_,rfl,q1,M2,X1.trans X2⟩
   ·rename_i hne
    obtain⟨rfl,_,rfl⟩:=Aq h
    refine⟨_,rfl, ?_,M2,X1.trans X2⟩
    simp only[Az]
    refine⟨rv.toArray, ?_,by simpa using hres'⟩
    have hl:=hres'.length
    cases rv with
    |nil=>rfl
    |cons v rv=>
     cases rv with
     |cons _ _=>rfl
     |nil=>
      match r0,hl,hne with
      |[c],_,hne=>exact(hne c rfl).elim
  ·simp[Ac]at h
 ·simp[Ac]at h
end
end Go.Ab
