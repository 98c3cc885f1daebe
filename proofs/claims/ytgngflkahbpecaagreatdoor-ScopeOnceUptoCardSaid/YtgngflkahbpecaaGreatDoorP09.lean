/- A region whose order is drawn: the order as it stands in the text tells them all, where whatever touches is bound. A region whose order is drawn, told by the order as it stands. An abstract state told anew: less of it, other numbers, slices that nobody writes any more. What an abstract state may be told anew as, by small steps. Conditions: none beyond those that each theorem names. -/
import Derived.Test.YtgngflkahbpecaaGreatDoorP08
set_option linter.unusedSimpArgs false
set_option linter.unusedVariables false
namespace Go.Ab
open Go
section
variable {V:Env} {P:Program} {C:Ctx}
def Au2 {α:Type} (l m:List (Nat×α)):Prop:=∀k,Ae k l=Ae k m
theorem Au2.put {α:Type} {l m:List (Nat×α)} (h:Au2 l m) (k:Nat) (x:α):Au2 (put k x l) (put k x m):=by
 intro j
 by_cases hj:j=k
 ·subst hj;rw[Aw,Aw]
 ·rw[Ay hj,Ay hj];exact h j
theorem Au2.comm {α:Type} (l:List (Nat×α)) {j k:Nat} (x y:α) (h:j≠k):Au2 (Ab.put j x (Ab.put k y l)) (Ab.put k y (Ab.put j x l)):=by
 intro i
 by_cases hij:i=j
 ·subst hij;rw[Aw,Ay h,Aw]
 ·by_cases hik:i=k
  ·subst hik;rw[Ay hij,Aw,Aw]
  ·rw[Ay hij,Ay hik,Ay hik,Ay hij]
structure Al2 (s t:St V.E):Prop where
 n:s.n=t.n
 slots:Au2 s.slots t.slots
 boxes:Au2 s.boxes t.boxes
theorem Al2.refl (s:St V.E):Al2 s s:=⟨rfl,λ _=>rfl,λ _=>rfl⟩
theorem Al2.symm {s t:St V.E} (h:Al2 s t):Al2 t s:=⟨h.n.symm,λ k=>(h.slots k).symm,λ k=>(h.boxes k).symm⟩
theorem Al2.trans {s t u:St V.E} (h:Al2 s t) (k:Al2 t u):Al2 s u:=⟨h.n.trans k.n,λ i=>(h.slots i).trans (k.slots i),λ i=>(h.boxes i).trans (k.boxes i)⟩
theorem Aqb:∀(t:B0 V.E) (bs bs':List (Nat×Box V.E)) (rs ws:List Nat) {res:Option (SV V.E)} {c:List Cd} {b1:List (Nat×Box V.E)} {ac:Acc},
 Ac V bs t rs ws=some (res,c,b1,ac)->(∀id∈ac.reads,id∉ws->Ae id bs=Ae id bs')->(∀id∈ws,Ae id bs=Ae id bs')->
 ∃b1',Ac V bs' t rs ws=some (res,c,b1',ac)/\(∀id∈ac.writes,Ae id b1'=Ae id b1)/\(∀id,id∉ac.writes->Ae id b1'=Ae id bs'/\Ae id b1=Ae id bs)/\(∀id∈ws,id∈ac.writes)/\(∀id∈rs,id∈ac.reads)
 | .fail,bs,bs',rs,ws,res,c,b1,ac,h,_,_=>by simp[Ac]at h
 | .ret v c0,bs,bs',rs,ws,res,c,b1,ac,h,hr,hw=>by
   simp only[Ac,Option.some.injEq,Prod.mk.injEq]at h
   obtain⟨rfl,rfl,rfl,rfl⟩:=h
   exact⟨bs',rfl,λ id hid=>(hw id hid).symm,λ id _=>⟨rfl,rfl⟩,λ id h=>h,λ id h=>h⟩
 | .read i k,bs,bs',rs,ws,res,c,b1,ac,h,hr,hw=>by
   simp only[Ac]at h ⊢
   obtain⟨b2,e1,e2,e3,e4,e5⟩:=Aqb (k (Ae i bs)) bs bs' (i::rs) ws h hr hw
   have hi:Ae i bs=Ae i bs':=by
    by_cases hiw:i∈ws
    ·exact hw i hiw
    ·exact hr i (e5 i (by simp)) hiw
   rw[hi]at e1
   exact⟨b2,e1,e2,e3,e4,λ id hid=>e5 id (by simp[hid])⟩
 | .write i b k,bs,bs',rs,ws,res,c,b1,ac,h,hr,hw=>by
   simp only[Ac]at h ⊢
   obtain⟨b2,e1,e2,e3,e4,e5⟩:=Aqb k (put i b bs) (put i b bs') rs (i::ws) h
    (λ id hid hn=>by
     simp only[List.mem_cons,not_or]at hn
     rw[Ay hn.1,Ay hn.1];exact hr id hid hn.2)
    (λ id hid=>by
     by_cases e:id=i
     ·subst e;rw[Aw,Aw]
     ·rw[Ay e,Ay e]
      exact hw id (by simpa [e]using hid))
   refine⟨b2,e1,e2,λ id hid=> ?_,λ id hid=>e4 id (by simp[hid]),e5⟩
   have hne:id≠i:=by rintro rfl;exact hid (e4 id (by simp))
   have:=e3 id hid
   rw[Ay hne,Ay hne]at this
   exact this
theorem Be5 {s s':St V.E} {k:Nat} (h:slot V s k=slot V s' k):slotT V s k=slotT V s' k:=by unfold slotT;rw[h]
theorem Bjd {s s':St V.E} {t:TypeId} {x:Operand} (h:∀k,x= .tmp k->slot V s k=slot V s' k):Hv V s t x=Hv V s' t x:=by
 cases x with
 |tmp k=>exact Be5 (h k rfl)
 |_=>rfl
theorem Avw {s s':St V.E}:∀{xs:List Operand} {ts:List TypeId},(∀k,Operand.tmp k∈xs->slot V s k=slot V s' k)->Dx V s ts xs=Dx V s' ts xs
 |[],ts,_=>by cases ts<;>rfl
 |x::xs,[],h=>by
  simp only[Dx]
  rw[Bjd (s':=s') λ k hk=>h k (by simp[hk]),Avw λ k hk=>h k (by simp[hk])]
 |x::xs,t::ts,h=>by
  simp only[Dx]
  rw[Bjd (s':=s') λ k hk=>h k (by simp[hk]),Avw λ k hk=>h k (by simp[hk])]
theorem Bjq {s s':St V.E} {k:Nat} (h:Ae k s.slots=Ae k s'.slots):slot V s k=slot V s' k:=by unfold slot;rw[h]
theorem Bs7 {ops:Array Oper} {s s':St V.E} {q:A11 V} {o:Oper} (h:∀k∈o.looksAt ops,slot V s k=slot V s' k):Abb V ops.toList s q o=Abb V ops.toList s' q o:=by
 unfold Abb
 cases hg:o.guard with
 |none=>rfl
 |some jw=>
  obtain⟨j,want⟩:=jw
  simp only
  cases hd:(ops.toList[j]?).bind (·.dst)with
  |none=>rfl
  |some d=>
   simp only
   rw[Array.getElem?_toList]at hd
   rw[Be5 (h d (by simp[Oper.looksAt,hg,hd]))]
theorem Asy {ops:Array Oper} {i:Nat} {o:Oper} {q:A11 V} {s s' s1:St V.E} {c:List Cd} {ac:Acc} (h:Au9 V ops.toList i o q s=some (s1,c,ac)) (hn:s.n=s'.n)
 (hs:∀k∈o.looksAt ops,Ae k s.slots=Ae k s'.slots) (hb:∀id∈ac.reads,Ae id s.boxes=Ae id s'.boxes):
 ∃s1',Au9 V ops.toList i o q s'=some (s1',c,ac)/\s1.n=s.n/\s1'.n=s'.n/\
  (∃v,s1.slots=Gw V o.dst v s.slots/\s1'.slots=Gw V o.dst v s'.slots)/\
  (∀id∈ac.writes,Ae id s1'.boxes=Ae id s1.boxes)/\(∀id,id∉ac.writes->Ae id s1'.boxes=Ae id s'.boxes/\Ae id s1.boxes=Ae id s.boxes):=by
 have hsl:∀k∈o.looksAt ops,slot V s k=slot V s' k:=λ k hk=>Bjq (hs k hk)
 unfold Au9 at h ⊢
 rw[<-hn]
 split at h
 ·rw[Bs7 hsl]at h
  split at h
  ·cases h
  ·rename_i c0 hw
   cases h
   exact⟨_,rfl,rfl,rfl,⟨some (.tup []),rfl,rfl⟩,(λ id hid=>by simp at hid),(λ id _=>⟨rfl,rfl⟩)⟩
  ·rename_i c0 hw
   have hop:Dx V s (Cz V o) o.op.operands.toList=Dx V s' (Cz V o) o.op.operands.toList:=
    Avw λ k hk=>hsl k (List.mem_append_left _ (List.mem_filterMap.2 ⟨.tmp k,hk,rfl⟩))
   rw[hop]at h
   split at h
   ·rename_i v c' bs acc hrun
    cases h
    obtain⟨b1',e1,e2,e3,_,_⟩:=Aqb _ s.boxes s'.boxes [] [] hrun (λ id hid _=>hb id hid) (λ id hid=>by simp at hid)
    rw[e1]
    exact⟨_,rfl,rfl,rfl,⟨v,rfl,rfl⟩,e2,e3⟩
   ·cases h
 ·cases h
inductive Ave (V:Env) (ops:Array Oper) (ac:Nat->Acc):List Nat->St V.E->St V.E->Prop where
 |nil {s}:Ave V ops ac [] s s
 |cons {i o L s s1 s2 c} {q:A11 V}:ops[i]?=some o->Au9 V ops.toList i o q s=some (s1,c,ac i)->Fj c->Ave V ops ac L s1 s2->Ave V ops ac (i::L) s s2
theorem A4v {d:Option Tmp} {v:Option (SV V.E)} {l m:List (Nat×Option (SV V.E))} (h:Au2 l m):Au2 (Gw V d v l) (Gw V d v m):=by
 cases d with
 |none=>exact h
 |some d=>exact h.put d v
theorem A34 {d:Option Tmp} {v:Option (SV V.E)} {l:List (Nat×Option (SV V.E))} {k:Nat} (h:d≠some k):Ae k (Gw V d v l)=Ae k l:=by
 cases d with
 |none=>rfl
 |some d=>exact Ay (λ e=>h (by rw[e])) _ _
theorem Awh {ops:Array Oper} {ac:Nat->Acc}:∀{L:List Nat} {s s2 t:St V.E},Ave V ops ac L s s2->Al2 s t->∃t2,Ave V ops ac L t t2/\Al2 s2 t2
 |_,_,_,t,.nil,e=>⟨t,.nil,e⟩
 |_,s,_,t,.cons (i:=i) (s1:=s1) ho h hc r,e=>by
  obtain⟨t1,h1,n1,n2,⟨v,e1,e2⟩,e3,e4⟩:=Asy h e.n (λ k _=>e.slots k) (λ id _=>e.boxes id)
  have e':Al2 s1 t1:=by
   refine⟨by rw[n1,n2];exact e.n, ?_,λ id=> ?_⟩
   ·rw[e1,e2];exact A4v e.slots
   ·by_cases hid:id∈(ac i).writes
    ·exact(e3 id hid).symm
    ·rw[(e4 id hid).1,(e4 id hid).2];exact e.boxes id
  obtain⟨t2,r2,e2⟩:=Awh r e'
  exact⟨t2,.cons ho h1 hc r2,e2⟩
def Aqz (a b:Acc):Prop:=(∀id∈a.writes,id∉b.reads/\id∉b.writes)/\(∀id∈b.writes,id∉a.reads)
theorem B0p {ops:Array Oper} {ac:Nat->Acc} {i j:Nat} {oi oj:Oper} (hi:ops[i]?=some oi) (hj:ops[j]?=some oj) (hap:oi.apart ops oj=true) (hac:Aqz (ac i) (ac j)) {L:List Nat} {s s2:St V.E}
 (r:Ave V ops ac (i::j::L) s s2):∃t2,Ave V ops ac (j::i::L) s t2/\Al2 s2 t2:=by
 obtain⟨p1,p2,p3⟩:=Oper.apart_spec hap
 cases r with
 |cons ho h hc r=>
  rename_i o s1 c q
  rw[hi]at ho;cases ho
  cases r with
  |cons ho' h' hc' r=>
   rename_i o' s3 c' q'
   rw[hj]at ho';cases ho'
   obtain⟨_,_,n1,_,⟨v,e1,_⟩,_,e4⟩:=Asy h rfl (λ _ _=>rfl) (λ _ _=>rfl)
   -- j first
   obtain⟨t1,g1,m1,m2,⟨u,f1,f2⟩,f3,f4⟩:=Asy (s':=s) h' n1
    (λ k hk=>by rw[e1];exact A34 λ e=>p1 k e hk)
    (λ id hid=>(e4 id λ hw=>(hac.1 id hw).1 hid).2)
   -- then i
   obtain⟨t2,g2,m3,m4,⟨v',f5,f6⟩,f7,f8⟩:=Asy (s':=t1) h m2.symm
    (λ k hk=>by rw[f2];exact(A34 λ e=>p3 k e hk).symm)
    (λ id hid=>((f4 id λ hw=>hac.2 id hw hid).1).symm)
   have e:Al2 s3 t2:=by
    refine⟨by rw[m1,n1,m4,m2], ?_,λ id=> ?_⟩
    ·rw[f1,e1,f6,f2]
     have hv:Au2 (Gw V oi.dst v s.slots) (Gw V oi.dst v' s.slots):=by
      rw[<-e1,<-f5];exact λ _=>rfl
     intro k
     have h1:=A4v (d:=oj.dst) (v:=u) hv k
     rw[h1]
     cases hdi:oi.dst with
     |none=>rfl
     |some d=>
      cases hdj:oj.dst with
      |none=>rfl
      |some d'=>
       have hne:d'≠d:=λ e=>p2 d hdi (by rw[hdj,e])
       exact Au2.comm _ _ _ hne k
    ·by_cases hiw:id∈(ac i).writes
     ·rw[f7 id hiw,(f4 id (hac.1 id hiw).2).2]
     ·rw[(f8 id hiw).1]
      by_cases hjw:id∈(ac j).writes
      ·exact(f3 id hjw).symm
      ·rw[(f4 id hjw).1,(f4 id hjw).2,(e4 id hiw).2]
   obtain⟨t3,r3,e3⟩:=Awh r e
   exact⟨t3,.cons hj g1 hc' (.cons hi g2 hc r3),e3⟩
theorem A51 {ops:Array Oper} {ac:Nat->Acc} {i:Nat} {oi:Oper} (hi:ops[i]?=some oi):∀{L1 L2:List Nat} {s s2:St V.E},
 (∀j∈L1,∃oj,ops[j]?=some oj/\oj.apart ops oi=true/\Aqz (ac j) (ac i))->Ave V ops ac (L1++i::L2) s s2->∃t2,Ave V ops ac (i::(L1++L2)) s t2/\Al2 s2 t2
 |[],L2,s,s2,_,r=>⟨s2,r,.refl _⟩
 |j::L1,L2,s,s2,h,r=>by
  cases r with
  |cons ho hh hc r=>
   obtain⟨t2,r1,e1⟩:=A51 hi (λ k hk=>h k (by simp[hk])) r
   obtain⟨oj,hoj,h1,h2⟩:=h j (by simp)
   obtain⟨t3,r2,e2⟩:=B0p hoj hi h1 h2 (.cons ho hh hc r1)
   exact⟨t3,r2,e1.trans e2⟩
end
section
variable {V:Env} {P:Program} {C:Ctx}
theorem Sim.same {s t:St V.E} {a:Act} {w:World} (S:Sim V C s a w) (e:Al2 s t):Sim V C t a w:=by
 obtain⟨β,S⟩:=S
 obtain⟨M,X⟩:=S.mem.step (bx':=t.boxes) (β':=β) (w':=w) (λ _=>False) rfl rfl rfl (Nat.le_refl _) (λ j _=>⟨rfl,(e.boxes j).symm⟩) (λ _ _ _=>rfl) (λ j h=>h.elim) (λ j h=>h.elim)
  (λ j _ _ h=>h.elim) (λ j h=>h.elim) (λ j _ h=>h.elim) (λ _ j _ h=>h.elim)
 exact⟨β,by rw[S.size,e.n],S.defers,λ k x hk=>Az.ext X (S.slots k x ((Bjq (e.slots k)).trans hk)),M⟩
def Sa:Nat->List Nat->Bool
 |_,[]=>false
 |k,x::xs=>Nat.beq x k||Sa k xs
def Avz:List Nat->List Nat->Bool
 |[],_=>true
 |x::xs,l=> !(Sa x l)&&Avz xs l
def A0k (a b:Acc):Bool:=Avz a.writes b.reads&&Avz a.writes b.writes&&Avz b.writes a.reads
theorem Bk1 {k:Nat}:∀{l:List Nat},k∈l->Sa k l=true
 |x::xs,h=>by
  unfold Sa
  rcases List.mem_cons.1 h with rfl|h
  ·simp
  ·rw[Bk1 h];simp
theorem Akr:∀{l m:List Nat},Avz l m=true->∀k∈l,k∉m
 |x::xs,m,h,k,hk,hm=>by
  unfold Avz at h
  simp only[Bool.and_eq_true,Bool.not_eq_true']at h
  rcases List.mem_cons.1 hk with rfl|hk
  ·rw[Bk1 hm]at h;exact Bool.noConfusion h.1
  ·exact Akr h.2 k hk hm
theorem Bqy {a b:Acc} (h:A0k a b=true):Aqz a b:=by
 unfold A0k at h
 simp only[Bool.and_eq_true]at h
 exact⟨λ id hid=>⟨Akr h.1.1 id hid,Akr h.1.2 id hid⟩,λ id hid=>Akr h.2 id hid⟩
def B2q (masks:List Nat) (o:Oper):Nat:=
 o.after.toList.foldl (λ m e=>if Region.binds .any e then m|||((1<<<e.on)|||masks.getD e.on 0)else m) 0
def A81:List Oper->List Nat->List Nat
 |[],ms=>ms
 |o::os,ms=>A81 os (ms++[B2q ms o])
def Bxa:Nat->List Oper->Bool
 |_,[]=>true
 |i,o::os=>o.after.toList.all (λ e=> !Region.binds .any e||Nat.blt e.on i)&&Bxa (i+1) os
def Bih (ops:Array Oper) (oi:Oper) (ai:Acc) (mi:Nat):Nat->List Oper->List Acc->Bool
 |_,[],_=>true
 |j,oj::os,aj::as=>(mi.testBit j||(oj.apart ops oi&&A0k aj ai))&&Bih ops oi ai mi (j+1) os as
 |_,_::_,[]=>false
def A1e (ops:Array Oper) (allO:List Oper) (allA:List Acc):Nat->List Oper->List Acc->List Nat->Bool
 |_,[],_,_=>true
 |i,o::os,a::as,m::ms=>Bih ops o a m 0 (allO.take i) (allA.take i)&&A1e ops allO allA (i+1) os as ms
 |_,_,_,_=>false
def Bbc (ops:Array Oper) (acs:List Acc):Bool:=
 Bxa 0 ops.toList&&A1e ops ops.toList acs 0 ops.toList acs (A81 ops.toList [])
inductive A0c (ops:Array Oper) (j:Nat):Nat->Prop where
 |one {i o e}:ops[i]?=some o->e∈o.after->Region.binds .any e=true->e.on=j->A0c ops j i
 |more {i o e}:ops[i]?=some o->e∈o.after->Region.binds .any e=true->A0c ops j e.on->A0c ops j i
def Bti (ops:Array Oper) (ms:List Nat):Prop:=∀i j,(ms.getD i 0).testBit j=true->A0c ops j i
theorem By2 {ops:Array Oper} {ms:List Nat} (hm:Bti ops ms) {i:Nat} {o:Oper} (ho:ops[i]?=some o) {j:Nat} (h:(B2q ms o).testBit j=true):A0c ops j i:=by
 unfold B2q at h
 have gen:∀(l:List Edge) (m:Nat),(∀e∈l,e∈o.after)->(m.testBit j=true->A0c ops j i)->
  (l.foldl (λ m e=>if Region.binds .any e then m|||((1<<<e.on)|||ms.getD e.on 0)else m) m).testBit j=true->A0c ops j i:=by
  intro l
  induction l with
  |nil=>intro m _ hm h;exact hm h
  |cons e l ih=>
   intro m hl h0 h
   simp only[List.foldl_cons]at h
   refine ih _ (λ e' he'=>hl e' (by simp[he'])) ?_ h
   intro hb
   split at hb
   ·rename_i hbind
    rw[Nat.testBit_or,Nat.testBit_or]at hb
    simp only[Bool.or_eq_true]at hb
    rcases hb with hb|hb|hb
    ·exact h0 hb
    ·rw[Nat.one_shiftLeft,Nat.testBit_two_pow]at hb
     exact .one ho (hl e (by simp)) hbind (by simpa using hb)
    ·exact .more ho (hl e (by simp)) hbind (hm _ _ hb)
   ·exact h0 hb
 exact gen _ 0 (λ e he=>by simpa using he) (λ h=>by simp at h) h
theorem A5y {ops:Array Oper}:∀(os:List Oper) (ms:List Nat),ops.toList.drop ms.length=os->Bti ops ms->Bti ops (A81 os ms)
 |[],ms,_,hm=>hm
 |o::os,ms,hd,hm=>by
  unfold A81
  have ho:ops[ms.length]?=some o:=by
   have:=congrArg (·[0]?) hd
   simpa using this
  refine A5y os _ ?_ ?_
  ·have:=congrArg List.tail hd
   simpa using this
  ·intro i j h
   rw[List.getD_eq_getElem?_getD]at h
   rcases Nat.lt_trichotomy i ms.length with hl|he|hg
   ·rw[List.getElem?_append_left hl]at h
    exact hm i j (by rw[List.getD_eq_getElem?_getD];exact h)
   ·subst he
    simp at h
    exact By2 hm ho h
   ·rw[List.getElem?_eq_none (by simp;omega)]at h
    simp at h
theorem B6l {os:List Oper}:∀{i:Nat},Bxa i os=true->∀k o,os[k]?=some o->∀e∈o.after,Region.binds .any e=true->e.on<i+k:=by
 induction os with
 |nil=>intro i _ k o hk;simp at hk
 |cons o os ih=>
  intro i h k o' hk e he hb
  unfold Bxa at h
  simp only[Bool.and_eq_true,List.all_eq_true]at h
  cases k with
  |zero=>
   simp at hk;subst hk
   have:=h.1 e (by simpa using he)
   rw[hb]at this
   exact(Nat.blt_eq).mp (by simpa using this)
  |succ k=>
   have:=ih h.2 k o' (by simpa using hk) e he hb
   omega
theorem B5z {ops:Array Oper} {oi:Oper} {ai:Acc} {mi:Nat} {os:List Oper}:∀{as:List Acc} {j:Nat},Bih ops oi ai mi j os as=true->∀k oj,os[k]?=some oj->
 ∃aj,as[k]?=some aj/\(mi.testBit (j+k)=true\/(oj.apart ops oi=true/\Aqz aj ai)):=by
 induction os with
 |nil=>intro as j _ k oj hk;simp at hk
 |cons o os ih=>
  intro as j h k oj hk
  cases as with
  |nil=>simp[Bih]at h
  |cons a as=>
   unfold Bih at h
   simp only[Bool.and_eq_true,Bool.or_eq_true]at h
   cases k with
   |zero=>
    simp at hk;subst hk
    refine⟨a,by simp, ?_⟩
    rcases h.1 with h|h
    ·exact .inl h
    ·exact .inr ⟨h.1,Bqy h.2⟩
   |succ k=>
    obtain⟨aj,h1,h2⟩:=ih h.2 k oj (by simpa using hk)
    exact⟨aj,by simpa using h1,by rw[show j+(k+1)=j+1+k by omega];exact h2⟩
theorem B3d {ops:Array Oper} {allO:List Oper} {allA:List Acc} {os:List Oper}:∀{as:List Acc} {ms:List Nat} {i:Nat},A1e ops allO allA i os as ms=true->∀k o,os[k]?=some o->
 ∃a m,as[k]?=some a/\ms[k]?=some m/\Bih ops o a m 0 (allO.take (i+k)) (allA.take (i+k))=true:=by
 induction os with
 |nil=>intro as ms i _ k oj hk;simp at hk
 |cons o os ih=>
  intro as ms i h k o' hk
  cases as with
  |nil=>simp[A1e]at h
  |cons a as=>
   cases ms with
   |nil=>simp[A1e]at h
   |cons m ms=>
    unfold A1e at h
    simp only[Bool.and_eq_true]at h
    cases k with
    |zero=>simp at hk;subst hk;exact⟨a,m,by simp,by simp,h.1⟩
    |succ k=>
     obtain⟨a',m',h1,h2,h3⟩:=ih h.2 k o' (by simpa using hk)
     exact⟨a',m',by simpa using h1,by simpa using h2,by rw[show i+(k+1)=i+1+k by omega];exact h3⟩
def Apd (acs:List Acc) (i:Nat):Acc:=acs.getD i ⟨[],[]⟩
theorem B10 {ops:Array Oper} {acs:List Acc} (h:Bbc ops acs=true):(∀i o,ops[i]?=some o->∀e∈o.after,Region.binds .any e=true->e.on<i)/\
 ∀i j oi oj,j<i->ops[i]?=some oi->ops[j]?=some oj->A0c ops j i\/(oj.apart ops oi=true/\Aqz (Apd acs j) (Apd acs i)):=by
 unfold Bbc at h
 simp only[Bool.and_eq_true]at h
 refine⟨λ i o ho e he hb=> ?_,λ i j oi oj hji hoi hoj=> ?_⟩
 ·have:=B6l h.1 i o (by simpa using ho) e he hb
  simpa using this
 ·obtain⟨a,m,h1,h2,h3⟩:=B3d h.2 i oi (by simpa using hoi)
  rw[Nat.zero_add]at h3
  obtain⟨aj,h4,h5⟩:=B5z h3 j oj (by rw[List.getElem?_take];simpa [hji]using hoj)
  rw[Nat.zero_add]at h5
  rw[List.getElem?_take]at h4
  simp only[hji,if_true]at h4
  have hm:=A5y ops.toList [] rfl (ops:=ops) (λ i j h=>by simp at h)
  rcases h5 with h5|h5
  ·exact .inl (hm i j (by rw[List.getD_eq_getElem?_getD,h2];exact h5))
  ·refine .inr ?_
   have e1:Apd acs i=a:=by unfold Apd;rw[List.getD_eq_getElem?_getD,h1];rfl
   have e2:Apd acs j=aj:=by unfold Apd;rw[List.getD_eq_getElem?_getD,h4];rfl
   rw[e1,e2];exact h5
def rem (n:Nat) (listed:Array Bool):List Nat:=(List.range n).filter λ i=> !listed.getD i true
theorem A84 {n:Nat} {listed:Array Bool} {i:Nat}:i∈rem n listed↔i<n/\listed.getD i true=false:=by
 simp[rem]
theorem Bcz (n:Nat) (listed:Array Bool):(rem n listed).Pairwise (·< ·):=List.Pairwise.filter _ List.pairwise_lt_range
theorem Aok {listed:Array Bool} {i:Nat} (h:i<listed.size):listed.getD i true=listed.getD i false:=by
 simp[Array.getD_eq_getD_getElem?,h]
def B13 (ops:Array Oper) (listed:Array Bool):Prop:=∀i o,ops[i]?=some o->listed.getD i false=true->∀e∈o.after,Region.binds .any e=true->listed.getD e.on false=true
theorem Bm7 {ops:Array Oper} {listed:Array Bool} (hc:B13 ops listed) {j i:Nat} (h:A0c ops j i):∀o,ops[i]?=some o->(∀e∈o.after,Region.binds .any e=true->listed.getD e.on false=true)->listed.getD j false=true:=by
 induction h with
 |one ho he hb hj=>intro o ho' hl;rw[ho]at ho';cases ho';rw[<-hj];exact hl _ he hb
 |more ho he hb hr ih=>
  intro o ho' hl
  rw[ho]at ho';cases ho'
  have hl':=hl _ he hb
  rename_i i o e
  cases hoe:ops[e.on]? with
  |some oe=>exact ih oe hoe (hc e.on oe hoe hl')
  |none=>
   cases hr with
   |one ho2 _ _ _=>rw[hoe]at ho2;cases ho2
   |more ho2 _ _ _=>rw[hoe]at ho2;cases ho2
theorem B5y {n:Nat} {listed:Array Bool} {i:Nat} {L1 L2:List Nat} (hi:i<listed.size) (h:rem n listed=L1++i::L2):rem n (listed.setIfInBounds i true)=L1++L2:=by
 have hs:=Bcz n listed
 rw[h]at hs
 obtain⟨p1,p2,p3⟩:=List.pairwise_append.1 hs
 have h1:∀j∈L1,j≠i:=λ j hj=>Nat.ne_of_lt (p3 j hj i (by simp))
 have h2:∀j∈L2,j≠i:=λ j hj=>Nat.ne_of_gt ((List.pairwise_cons.1 p2).1 j hj)
 have:rem n (listed.setIfInBounds i true)=(rem n listed).filter λ j=>decide (j≠i):=by
  unfold rem
  rw[List.filter_filter]
  refine List.filter_congr λ j _=> ?_
  by_cases hji:j=i
  ·subst hji
   simp[Array.getD_eq_getD_getElem?,hi]
  ·rw[getD_set_ne true (Ne.symm hji)]
   simp[hji]
 rw[this,h,List.filter_append,List.filter_cons]
 simp only[ne_eq,not_true,decide_false,Bool.false_eq_true,if_false]
 rw[List.filter_eq_self.2 (λ j hj=>by simpa using h1 j hj),List.filter_eq_self.2 (λ j hj=>by simpa using h2 j hj)]
theorem Bm1 (G:Bs V P) {ops:Array Oper} {acs:List Acc} (hB:Bbc ops acs=true) {Q:Exit->Act->World->Prop} {sf:St V.E} (hQ:∀a w,Sim V C sf a w->Q .normal a w):
 ∀(fuel:Nat) (listed:Array Bool) (a:Act) (w:World) (s s2:St V.E),listed.size=ops.size->(rem ops.size listed).length=fuel->B13 ops listed->Sim V C s a w->
  Ave V ops (Apd acs) (rem ops.size listed) s s2->Al2 s2 sf->wpAny P .any ops Q fuel listed a w
 |0,listed,a,w,s,s2,hsz,hlen,hcl,S,r,e=>by
  have hnil:rem ops.size listed=[]:=by simpa using hlen
  rw[hnil]at r
  cases r
  refine⟨?_,hQ _ _ (S.same e)⟩
  cases hr:Region.ready .any ops listed with
  |nil=>rfl
  |cons j js=>
   have hj:j∈Region.ready .any ops listed:=by rw[hr];simp
   obtain⟨h1,o,h2,_⟩:=mem_ready.1 hj
   have:j∈rem ops.size listed:=A84.2 ⟨(Array.getElem?_eq_some_iff.1 h2).1,h1⟩
   rw[hnil]at this;cases this
 |fuel+1,listed,a,w,s,s2,hsz,hlen,hcl,S,r,e=>by
  obtain⟨hback,hpair⟩:=B10 hB
  refine⟨λ h0=> ?_,λ i hi=> ?_⟩
  ·exfalso
   have key:∀i,i<ops.size->listed.getD i true=false->∃k,k∈Region.ready .any ops listed:=by
    intro i
    induction i using Nat.strongRecOn with
    |_ i ih=>
     intro hi hu
     have ho:ops[i]?=some ops[i]:=by simp[hi]
     by_cases hall:∀e∈ops[i].after,Region.binds .any e=true->listed.getD e.on false=true
     ·exact⟨i,mem_ready.2 ⟨hu,_,ho,hall⟩⟩
     ·have:∃e,e∈ops[i].after/\Region.binds .any e=true/\listed.getD e.on false≠true:=by
       refine Classical.byContradiction λ hno=>hall λ e he hb=>Classical.byContradiction λ hl=>hno ⟨e,he,hb,hl⟩
      obtain⟨e,he,hb,hl⟩:=this
      have hlt:=hback i _ ho e he hb
      have:e.on<listed.size:=by omega
      exact ih e.on hlt (by omega) (by rw[Aok this];simpa using hl)
   cases hrem:rem ops.size listed with
   |nil=>rw[hrem]at hlen;simp at hlen
   |cons i L=>
    have:i∈rem ops.size listed:=by rw[hrem];simp
    obtain⟨h1,h2⟩:=A84.1 this
    obtain⟨k,hk⟩:=key i h1 h2
    rw[h0]at hk;cases hk
  ·obtain⟨hu,oi,hoi,hpre⟩:=mem_ready.1 hi
   have hlt:i<ops.size:=(Array.getElem?_eq_some_iff.1 hoi).1
   have hmem:i∈rem ops.size listed:=A84.2 ⟨hlt,hu⟩
   obtain⟨L1,L2,hL⟩:=List.append_of_mem hmem
   have hs:=Bcz ops.size listed
   rw[hL]at hs r
   have hlt1:∀j∈L1,j<i:=λ j hj=>(List.pairwise_append.1 hs).2.2 j hj i (by simp)
   obtain⟨t2,r2,e2⟩:=A51 hoi (λ j hj=>by
    have hjm:j∈rem ops.size listed:=by rw[hL];simp[hj]
    obtain⟨hj1,hj2⟩:=A84.1 hjm
    have hoj:ops[j]?=some ops[j]:=by simp[hj1]
    refine⟨_,hoj, ?_⟩
    rcases hpair i j oi _ (hlt1 j hj) hoi hoj with hr|hr
    ·have:=Bm7 hcl hr oi hoi hpre
     rw[Aok (by omega),this]at hj2
     cases hj2
    ·exact hr) r
   cases r2 with
   |cons ho hev hc r3=>
    rename_i o s1 c q
    refine Azz G ho S hev hc λ a' w' S'=> ?_
    have hset:=B5y (n:=ops.size) (listed:=listed) (i:=i) (by omega) hL
    refine Bm1 G hB hQ fuel _ a' w' s1 t2 (by simpa using hsz) ?_ ?_ S' (by rw[hset];exact r3) (e2.symm.trans e)
    ·rw[hset]
     rw[hL]at hlen
     simp at hlen ⊢
     omega
    ·intro k ok hk hlk e' he' hb'
     by_cases hki:k=i
     ·subst hki
      rw[hoi]at hk;cases hk
      exact getD_set_true (hpre e' he' hb')
     ·have hlk':listed.getD k false=true:=by
       rw[getD_set_ne false (Ne.symm hki)]at hlk;exact hlk
      exact getD_set_true (hcl k ok hk hlk' e' he' hb')
theorem Bwl {ops:Array Oper} {q:A11 V} {allA:List Acc}:∀(os:List Oper) (i:Nat) (s s':St V.E) (cs:List Cd) (acs:List Acc),ops.toList.drop i=os->allA.drop i=acs->Ay4 V ops.toList q i os s=some (s',cs,acs)->Fj cs->
 Ave V ops (Apd allA) ((List.range ops.size).drop i) s s'
 |[],i,s,s',cs,acs,hi,ha,h,hc=>by
  simp only[Ay4,Option.some.injEq,Prod.mk.injEq]at h
  obtain⟨rfl,_,_⟩:=h
  have:ops.size<=i:=by simpa using hi
  have hn:(List.range ops.size).drop i=[]:=by simpa using this
  rw[hn];exact .nil
 |o::os,i,s,s',cs,acs,hi,ha,h,hc=>by
  have hlt:i<ops.size:=by
   rcases Nat.lt_or_ge i ops.size with h|h
   ·exact h
   ·have:ops.toList.drop i=[]:=by simpa using h
    rw[this]at hi;cases hi
  have hn:(List.range ops.size).drop i=i::(List.range ops.size).drop (i+1):=by
   rw[List.drop_eq_getElem_cons (by simpa using hlt)];simp
  have ho:ops[i]?=some o:=by
   have:=congrArg (·[0]?) hi
   simpa using this
  have hi':ops.toList.drop (i+1)=os:=by
   have:=congrArg List.tail hi
   simpa using this
  rw[hn]
  simp only[Ay4]at h
  split at h
  ·rename_i s1 c1 a1 h1
   split at h
   ·rename_i s2 c2 as h2
    cases h
    obtain⟨hc1,hc2⟩:=Fj.append hc
    have ha1:Apd allA i=a1:=by
     have:=congrArg (·[0]?) ha
     unfold Apd
     rw[List.getD_eq_getElem?_getD]
     simp at this
     rw[this];rfl
    have ha':allA.drop (i+1)=as:=by
     have:=congrArg List.tail ha
     simpa using this
    exact .cons ho (by rw[ha1];exact h1) hc1 (Bwl os (i+1) s1 _ c2 as hi' ha' h2 hc2)
   ·cases h
  ·cases h
theorem Bz0 (G:Bs V P) {id:Nat} {ops:Array Oper} {drawn:Bool} {q:A11 V} {Q:Exit->Act->World->Prop} {s s':St V.E} {cs:List Cd} {acs:List Acc} {a:Act} {w:World} (S:Sim V C s a w)
 (h:Ay4 V ops.toList q 0 ops.toList s=some (s',cs,acs)) (hc:Fj cs) (hd:drawn=true->Bbc ops acs=true) (hQ:∀a' w',Sim V C s' a' w'->Q .normal a' w'):
 (Code.region id ops drawn).wp P Q a w:=by
 cases drawn with
 |false=>exact wp_region (by simpa using B3m G ops.toList 0 rfl s s' cs acs a w S h hc hQ)
 |true=>
  have r:=Bwl (allA:=acs) ops.toList 0 s s' cs acs rfl rfl h hc
  have hrem:rem ops.size (Array.replicate ops.size false)=List.range ops.size:=by
   unfold rem
   rw[List.filter_eq_self]
   intro i hi
   simp only[List.mem_range]at hi
   simp[Array.getD_eq_getD_getElem?,hi]
  refine wp_region_any G.mixed (Bm1 G (hd rfl) hQ ops.size _ a _ s s' (by simp) (by rw[hrem];simp) ?_ S.drew (by rw[hrem];simpa using r) (.refl _))
  intro i o ho hl
  simp only[Array.getD_eq_getD_getElem?,Array.getElem?_replicate]at hl
  split at hl<;>simp at hl
end
section
variable {T:Tab} {C:Ctx} {bx bx':List (Nat×Box T.E)} {β β':Nat->BI} {ok ok':Nat->Prop} {w w':World}
def Bbi {E:Nat->Type} (m:Av E->Option (Av E)):List (Av E)->Option (List (Av E))
 |[]=>some []
 |l::ls=>match m l with
  |some l'=>match Bbi m ls with
   |some r=>some (l'::r)
   |none=>none
  |none=>none
def Bv1 {E:Nat->Type} (m:Av E->Option (Av E)):CV E->Option (CV E)
 | .one l=>match m l with
   |some l'=>some (.one l')
   |none=>none
 | .ag ls=>match Bbi m ls with
   |some r=>some (.ag r)
   |none=>none
def Bby {E:Nat->Type} (m:Av E->Option (Av E)):List (CV E)->Option (List (CV E))
 |[]=>some []
 |c::cs=>match Bv1 m c with
  |some c'=>match Bby m cs with
   |some r=>some (c'::r)
   |none=>none
  |none=>none
def Bsr {E:Nat->Type} (m:Av E->Option (Av E)):SV E->Option (SV E)
 | .cv c=>match Bv1 m c with
   |some c'=>some (.cv c')
   |none=>none
 | .tup cs=>match Bby m cs with
   |some r=>some (.tup r)
   |none=>none
def Sr {E:Nat->Type} (m:Av E->Option (Av E)):List (Nat×Option (SV E))->List (Nat×Option (SV E))
 |[]=>[]
 |(k,some v)::r=>match Bsr m v with
  |some v'=>(k,some v')::Sr m r
  |none=>Sr m r
 |(_,none)::r=>Sr m r
def Ak3 {E:Nat->Type} (m:Av E->Option (Av E)):List (Nat×Box E)->Option (List (Nat×Box E))
 |[]=>some []
 |(k,.cells ls)::r=>match Bbi m ls with
  |some ls'=>match Ak3 m r with
   |some r'=>some ((k,.cells ls')::r')
   |none=>none
  |none=>none
 |(k,b)::r=>match Ak3 m r with
  |some r'=>some ((k,b)::r')
  |none=>none
section
variable {m:Av T.E->Option (Av T.E)} (hm:∀l l' v,m l=some l'->Ad T bx β ok w l v->Ad T bx' β' ok' w' l' v)
include hm
theorem Ash:∀{ls ls':List (Av T.E)} {vs:List Value},Bbi m ls=some ls'->Ba (Ad T bx β ok w) ls vs->Ba (Ad T bx' β' ok' w') ls' vs
 |[],ls',_,h,.nil=>by simp[Bbi]at h;subst h;exact .nil
 |l::ls,ls',_,h,.cons h1 h2=>by
  unfold Bbi at h
  split at h
  ·rename_i l' hl
   split at h
   ·rename_i r hr
    cases h
    exact .cons (hm _ _ _ hl h1) (Ash hr h2)
   ·cases h
  ·cases h
theorem Bjh {c c':CV T.E} {v:Value} (h:Bv1 m c=some c') (k:Ar T bx β ok w c v):Ar T bx' β' ok' w' c' v:=by
 unfold Bv1 at h
 split at h
 ·split at h
  ·rename_i l' hl
   cases h;exact hm _ _ _ hl k
  ·cases h
 ·split at h
  ·rename_i r hr
   cases h
   obtain⟨cs,rfl,k⟩:=k
   exact⟨cs,rfl,Ash hm hr k⟩
  ·cases h
theorem Bez:∀{cs cs':List (CV T.E)} {vs:List Value},Bby m cs=some cs'->Ba (Ar T bx β ok w) cs vs->Ba (Ar T bx' β' ok' w') cs' vs
 |[],cs',_,h,.nil=>by simp[Bby]at h;subst h;exact .nil
 |c::cs,cs',_,h,.cons h1 h2=>by
  unfold Bby at h
  split at h
  ·rename_i l' hl
   split at h
   ·rename_i r hr
    cases h
    exact .cons (Bjh hm hl h1) (Bez hr h2)
   ·cases h
  ·cases h
theorem Byd {x x':SV T.E} {v:Value} (h:Bsr m x=some x') (k:Az T bx β ok w x v):Az T bx' β' ok' w' x' v:=by
 unfold Bsr at h
 split at h
 ·split at h
  ·rename_i l' hl
   cases h;exact Bjh hm hl k
  ·cases h
 ·split at h
  ·rename_i r hr
   cases h
   obtain⟨vs,rfl,k⟩:=k
   exact⟨vs,rfl,Bez hm hr k⟩
  ·cases h
end
def Ahn {α:Type}:List (Nat×α)->Bool
 |[]=>true
 |[_]=>true
 |(j,_)::(k,y)::r=>Nat.blt j k&&Ahn ((k,y)::r)
theorem A2v {α:Type}:∀{l:List (Nat×α)} {j:Nat} {x:α},Ahn ((j,x)::l)=true->∀p∈l,j<p.1
 |[],_,_,_,p,hp=>by simp at hp
 |(k,y)::r,j,x,h,p,hp=>by
  simp only[Ahn,Bool.and_eq_true]at h
  have h1:j<k:=(Nat.blt_eq).mp h.1
  rcases List.mem_cons.1 hp with rfl|hp
  ·exact h1
  ·exact Nat.lt_trans h1 (A2v h.2 p hp)
theorem A4a {α:Type} {l:List (Nat×α)} {p:Nat×α} (h:Ahn (p::l)=true):Ahn l=true:=by
 cases l with
 |nil=>rfl
 |cons q r=>obtain⟨j,x⟩:=p;obtain⟨k,y⟩:=q;simp only[Ahn,Bool.and_eq_true]at h;exact h.2
theorem Aje {m:Av T.E->Option (Av T.E)} {k:Nat} {x':SV T.E}:∀{l:List (Nat×Option (SV T.E))},Ahn l=true->Ae k (Sr m l)=some (some x')->∃x,Ae k l=some (some x)/\Bsr m x=some x'
 |[],_,h=>by simp[Sr,Ae]at h
 |(j,none)::r,hs,h=>by
  simp only[Sr]at h
  obtain⟨x,h1,h2⟩:=Aje (A4a hs) h
  refine⟨x, ?_,h2⟩
  unfold Ae
  have hlt:=A2v hs (k,some x) (Ary h1)
  rw[Fi (by simp at hlt;omega)]
  exact h1
 |(j,some v)::r,hs,h=>by
  simp only[Sr]at h
  have later:Ae k (Sr m r)=some (some x')->∃x,Ae k ((j,some v)::r)=some (some x)/\Bsr m x=some x':=by
   intro h
   obtain⟨x,h1,h2⟩:=Aje (A4a hs) h
   refine⟨x, ?_,h2⟩
   unfold Ae
   have hlt:=A2v hs (k,some x) (Ary h1)
   rw[Fi (by simp at hlt;omega)]
   exact h1
  split at h
  ·rename_i v' hv
   unfold Ae at h
   split at h
   ·rename_i e
    cases h
    have:=Ah e;subst this
    exact⟨v,by simp[Ae],hv⟩
   ·exact later h
  ·exact later h
theorem Ais {m:Av T.E->Option (Av T.E)}:∀{l l':List (Nat×Box T.E)},Ak3 m l=some l'->∀k,
 (Ae k l=none/\Ae k l'=none)\/(∃ls ls',Ae k l=some (.cells ls)/\Ae k l'=some (.cells ls')/\Bbi m ls=some ls')\/(∃b,Ae k l=some b/\Ae k l'=some b/\∀ls,b≠ .cells ls)
 |[],l',h,k=>by simp[Ak3]at h;subst h;exact .inl ⟨rfl,rfl⟩
 |(j,b)::r,l',h,k=>by
  unfold Ak3 at h
  split at h
  ·rename_i heq;cases heq
  ·rename_i heq;cases heq
   split at h
   ·rename_i ls' hls
    split at h
    ·rename_i r' hr
     cases h
     by_cases hj:Nat.beq j k=true
     ·exact .inr (.inl ⟨_,ls',by simp[Ae,hj],by simp[Ae,hj],hls⟩)
     ·simp only[Ae,hj,Bool.false_eq_true,if_false];exact Ais hr k
    ·cases h
   ·cases h
  ·rename_i hne heq
   cases heq
   split at h
   ·rename_i r' hr
    cases h
    by_cases hj:Nat.beq j k=true
    ·exact .inr (.inr ⟨_,by simp[Ae,hj],by simp[Ae,hj],λ ls e=>hne _ e⟩)
    ·simp only[Ae,hj,Bool.false_eq_true,if_false];exact Ais hr k
   ·cases h
end
section
variable {V:Env} {C:Ctx}
def Zr {α:Type} (ks:List Nat):List (Nat×α)->List (Nat×α)
 |[]=>[]
 |(k,x)::r=>if Sa k ks then(k,x)::Zr ks r else Zr ks r
theorem Bpg {k:Nat}:∀{l:List Nat},Sa k l=true->k∈l
 |x::xs,h=>by
  unfold Sa at h
  simp only[Bool.or_eq_true]at h
  rcases h with h|h
  ·rw[Ah h];simp
  ·exact List.mem_cons_of_mem _ (Bpg h)
theorem Ia {α:Type} (ks:List Nat) (k:Nat):∀l:List (Nat×α),Ae k (Zr ks l)=if Sa k ks then Ae k l else none
 |[]=>by simp[Zr,Ae]
 |(j,x)::r=>by
  unfold Zr
  by_cases hj:Nat.beq j k=true
  ·have:=Ah hj;subst this
   split
   ·simp[Ae]
   ·rename_i h;rw[Ia ks j r];simp[h]
  ·split
   ·simp only[Ae,hj,Bool.false_eq_true,if_false];exact Ia ks k r
   ·rw[Ia ks k r];simp only[Ae,hj,Bool.false_eq_true,if_false]
def Bi2 (keep ids:List Nat):Bool:=ids.all λ i=>Sa i keep
def Ar4 {E:Nat->Type} (keep:List Nat):List (Nat×Option (SV E))->Bool
 |[]=>true
 |(_,some v)::r=>Bi2 keep v.ids&&Ar4 keep r
 |(_,none)::r=>Ar4 keep r
def Azc {E:Nat->Type} (keep:List Nat):List (Nat×Box E)->Bool
 |[]=>true
 |(_,.cells ls)::r=>Bi2 keep (B5 ls)&&Azc keep r
 |_::r=>Azc keep r
theorem Bru {keep ids:List Nat} (h:Bi2 keep ids=true):∀i∈ids,Sa i keep=true:=by
 unfold Bi2 at h;exact List.all_eq_true.1 h
theorem Au7 {E:Nat->Type} {keep:List Nat}:∀{l:List (Nat×Option (SV E))},Ar4 keep l=true->∀{k x},Ae k l=some (some x)->Bi2 keep x.ids=true
 |[],_,_,_,h=>by simp[Ae]at h
 |(j,none)::r,h,k,x,hl=>by
  simp only[Ar4]at h
  unfold Ae at hl
  split at hl
  ·cases hl
  ·exact Au7 h hl
 |(j,some v)::r,h,k,x,hl=>by
  simp only[Ar4,Bool.and_eq_true]at h
  unfold Ae at hl
  split at hl
  ·cases hl;exact h.1
  ·exact Au7 h.2 hl
theorem Aux {E:Nat->Type} {keep:List Nat}:∀{l:List (Nat×Box E)},Azc keep l=true->∀{k ls},Ae k l=some (.cells ls)->Bi2 keep (B5 ls)=true
 |[],_,_,_,h=>by simp[Ae]at h
 |(j,b)::r,h,k,x,hl=>by
  unfold Azc at h
  split at h
  ·rename_i heq;cases heq
  ·rename_i heq;cases heq
   simp only[Bool.and_eq_true]at h
   unfold Ae at hl
   split at hl
   ·cases hl;exact h.1
   ·exact Aux h.2 hl
  ·rename_i hne heq
   cases heq
   unfold Ae at hl
   split at hl
   ·cases hl;exact(hne _ _ rfl).elim
   ·exact Aux h hl
def Ben (ks ids:List Nat) (s:St V.E):Option (St V.E):=
 let sl:=Zr ks s.slots
 let bx:=Zr ids s.boxes
 if Ar4 ids sl&&Azc ids bx then some ⟨s.n,sl,bx⟩else none
theorem Bxb {ks ids:List Nat} {s s':St V.E} (h:Ben ks ids s=some s') {a:Act} {w:World} (S:Sim V C s a w):Sim V C s' a w:=by
 obtain⟨β,S⟩:=S
 unfold Ben at h
 simp only at h
 split at h
 ·rename_i hb
  cases h
  simp only[Bool.and_eq_true]at hb
  let β':Nat->BI:=λ j=>if Sa j ids then β j else {β j with own:=[]}
  have hβ:∀j,Sa j ids=true->β' j=β j:=λ j hj=>by show(if _ then _ else _)=_;rw[if_pos hj]
  have hβ':∀j,Sa j ids≠true->(β' j).own=[]:=λ j hj=>by show(if _ then _ else _:BI).own=_;rw[if_neg hj]
  have hsub:∀j x,x∈(β' j).own->Sa j ids=true/\x∈(β j).own:=by
   intro j x hx
   by_cases hj:Sa j ids=true
   ·rw[hβ j hj]at hx;exact⟨hj,hx⟩
   ·rw[hβ' j hj]at hx;simp at hx
  have hlook:∀j,Sa j ids=true->Ae j (Zr ids s.boxes)=Ae j s.boxes:=λ j hj=>by rw[Ia,if_pos hj]
  have L:Dd (A2 C β w) w (A2 C β' w) w:=⟨λ b hb=>⟨hb.1,hb.2.1,λ j hj=>hb.2.2 j (hsub j b hj).2⟩,λ _ _=>rfl⟩
  refine⟨β',S.size,S.defers,λ k x hk=> ?_, ?_⟩
  ·have hk':Ae k (Zr ks s.slots)=some (some x):=by
    unfold slot at hk;simp only at hk
    split at hk
    ·rename_i y hy;rw[hy,hk]
    ·cases hk
   have hin:=Bru (Au7 hb.1 hk')
   rw[Ia]at hk'
   split at hk'
   ·have:slot V s k=some x:=by unfold slot;rw[hk']
    exact Az.agree L (λ id hid=>⟨.inl (hlook id (hin id hid)),hβ id (hin id hid)⟩) (S.slots k x this)
   ·cases hk'
  ·refine⟨λ id b hid=> ?_,λ id hid=> ?_,λ id=> ?_,λ id id' x hx hx'=> ?_,λ id x hx=>S.mem.mine id x (hsub id x hx).2,S.mem.kept⟩
   ·have hid':=hid
    rw[Ia]at hid'
    split at hid'
    ·rename_i hm
     refine Dc.agree L (hβ id hm) (λ ls e i hi=> ?_) (S.mem.boxes id b hid')
     subst e
     have:=Bru (Aux hb.2 hid) i hi
     exact⟨.inl (hlook i this),hβ i this⟩
    ·cases hid'
   ·by_cases hm:Sa id ids=true
    ·rw[hβ id hm];exact S.mem.nones id (by rw[<-hlook id hm];exact hid)
    ·exact hβ' id hm
   ·by_cases hm:Sa id ids=true
    ·rw[hβ id hm];exact S.mem.nodup id
    ·rw[hβ' id hm];exact List.nodup_nil
   ·exact S.mem.apart id id' x (hsub id x hx).2 (hsub id' x hx').2
 ·cases h
inductive Pl where
 |slot (k:Nat)
 |cell (id:Nat)
def A98 (s:St V.E):Pl->Option (Bool×List (Av V.E))
 | .slot k=>match slot V s k with
   |some (.cv c)=>some (c.isAg,c.leaves)
   |_=>none
 | .cell id=>match Ae id s.boxes with
   |some (.cells ls)=>some (true,ls)
   |_=>none
def Ayi (s:St V.E) (bx:List (Nat×Box V.E)) (p:Pl) (ag:Bool) (ls:List (Av V.E)):Option (St V.E):=
 match p with
 | .slot k=>match B7 ag ls with
   |some c=>some ⟨s.n,put k (some (.cv c)) s.slots,bx⟩
   |none=>none
 | .cell id=>match Ae id bx with
   |some (.cells _)=>some ⟨s.n,s.slots,put id (.cells ls) bx⟩
   |_=>none
theorem Aoz.turn {s:St V.E} {β β':Nat->BI} {a:Act} {w:World} (S:Aoz V C s β a w) {bx':List (Nat×Box V.E)} (M:Bk V.T C bx' β' w) (X:Ext V.T s.boxes β (A2 C β w) w bx' β' (A2 C β' w) w) {k:Nat} {x:SV V.E}
 (h:Az V.T bx' β' (A2 C β' w) w x (Uz C a.tmps k)):Aoz V C ⟨s.n,Ab.put k (some x) s.slots,bx'⟩ β' a w:=by
 refine⟨S.size,S.defers,λ j y hj=> ?_,M⟩
 simp only[slot]at hj
 by_cases hjk:j=k
 ·subst hjk
  rw[Aw]at hj
  cases hj
  exact h
 ·rw[Ay hjk]at hj
  exact Az.ext X (S.slots j y hj)
theorem Azd {s s':St V.E} {β:Nat->BI} {a:Act} {w:World} (S:Aoz V C s β a w) {p:Pl} {ag:Bool} {ls:List (Av V.E)} (h:A98 s p=some (ag,ls)):
 ∃vs:List Value,Ba (Ad V.T s.boxes β (A2 C β w) w) ls vs/\∀(bx1:List (Nat×Box V.E)) (β1:Nat->BI) (ls':List (Av V.E)),Bk V.T C bx1 β1 w->Ext V.T s.boxes β (A2 C β w) w bx1 β1 (A2 C β1 w) w->
  Ba (Ad V.T bx1 β1 (A2 C β1 w) w) ls' vs->Ayi s bx1 p ag ls'=some s'->Sim V C s' a w:=by
 cases p with
 |slot k=>
  simp only[A98]at h
  split at h
  ·rename_i c hk
   cases h
   have hr':Ar V.T s.boxes β (A2 C β w) w c (Uz C a.tmps k):=S.slots k _ hk
   refine⟨_,Ar.cells hr',λ bx1 β1 ls' M1 X1 R1 hs=> ?_⟩
   simp only[Ayi]at hs
   split at hs
   ·rename_i c' hc'
    cases hs
    refine⟨β1,S.turn M1 X1 ?_⟩
    have hci:=Ar.isAg hr'
    unfold B7 at hc'
    split at hc'
    ·rename_i hag
     cases hc'
     obtain⟨vs,hv⟩:=hci.1 hag
     rw[hv]at R1 ⊢
     exact⟨vs,rfl,R1⟩
    ·rename_i l hag
     cases hc'
     rw[hci.2 hag]at R1
     cases R1 with
     |cons q1 q2=>exact q1
    ·cases hc'
   ·cases hs
  ·cases h
 |cell id=>
  simp only[A98]at h
  split at h
  ·rename_i ls0 hid
   cases h
   obtain⟨c,e,h1,h2,h3⟩:=S.mem.boxes id _ hid
   refine⟨_,h3,λ bx1 β1 ls' M1 X1 R1 hs=> ?_⟩
   simp only[Ayi]at hs
   split at hs
   ·rename_i ls1 hid1
    cases hs
    obtain⟨b',hb',hc⟩:=X1.box id _ hid
    rw[hid1]at hb';cases hb'
    simp only[Gu]at hc
    obtain⟨c',e',g1,g2,g3⟩:=M1.boxes id _ hid1
    rw[hc,h2]at g2
    cases g2
    obtain⟨M2,X2⟩:=M1.set (w':=w) id (.cells ls') (β1 id) rfl rfl rfl (Nat.le_refl _) (λ _ _ _=>rfl) (λ x hx=> .inl hx) (M1.nodup id)
     (λ b0 h0=>by rw[hid1]at h0;cases h0;simp only[Gu]) (λ X=>⟨c,e,by rw[A6];exact g1,by rw[A6,hc];exact h2,Ba.ext X R1⟩)
    exact⟨_,S.size,S.defers,λ k x hk=>Az.ext X2 (Az.ext X1 (S.slots k x hk)),M2⟩
   ·cases hs
  ·cases h
def B2f (p:Pl) (s:St V.E):Option (St V.E):=
 match A98 s p with
 |some (ag,ls)=>
  match Ac V s.boxes (frz V ls λ ls=> .ret (some (.cv (.ag ls))) []) [] []with
  |some (some (.cv (.ag ls)),_,bx,_)=>Ayi s bx p ag ls
  |_=>none
 |none=>none
theorem B96 {p:Pl} {s s':St V.E} (h:B2f p s=some s') {a:Act} {w:World} (S:Sim V C s a w):Sim V C s' a w:=by
 obtain⟨β,S⟩:=S
 unfold B2f at h
 split at h
 ·rename_i ag ls hp
  obtain⟨vs,hr,hset⟩:=Azd (s':=s') S hp
  split at h
  ·rename_i ls1 cs bx ac hi
   obtain⟨bx1,β1,ls',rs',ws',M1,X1,R1,I1,_⟩:=Xs ls _ _ β S.mem hr _ _ _ hi
   obtain⟨e1,_,e3⟩:=Aq I1
   simp only[Option.some.injEq,SV.cv.injEq,CV.ag.injEq]at e1
   subst e1;subst e3
   exact hset _ _ _ M1 X1 R1 h
  ·cases h
 ·cases h
def B05 (p:Pl) (j id e e2:Nat) (s:St V.E):Option (St V.E):=
 match A98 s p,Ae id s.boxes with
 |some (ag,ls),none=>match ls[j]? with
  |some (.sl t true [])=>
   match e2,t with
   |0,t=>Ayi s (put id (.arr e t [] 0 false) s.boxes) p ag (ls.set j (.ar id 0))
   |e2,.sl t=>Ayi s (put id (.rows e e2 t [] 0 0 .opn) s.boxes) p ag (ls.set j (.ar id 0))
   |_,_=>none
  |_=>none
 |_,_=>none
theorem Ba.set {α β:Type} {R:α->β->Prop} {l:List α} {m:List β} (h:Ba R l m):∀{i:Nat} {x:α},(∀y,m[i]?=some y->R x y)->Ba R (l.set i x) m:=by
 induction h with
 |nil=>intro i x _;exact .nil
 |cons h t ih=>
  intro i x hx
  cases i with
  |zero=>exact .cons (hx _ (by simp)) t
  |succ i=>exact .cons h (ih λ y hy=>hx y (by simpa using hy))
theorem Bzd {p:Pl} {j id e e2:Nat} {s s':St V.E} (h:B05 p j id e e2 s=some s') {a:Act} {w:World} (S:Sim V C s a w):Sim V C s' a w:=by
 obtain⟨β,S⟩:=S
 unfold B05 at h
 split at h
 ·rename_i ag ls hp hid
  obtain⟨vs,hR,hset⟩:=Azd (s':=s') S hp
  split at h
  ·rename_i t hj
   obtain⟨v,hv,hr⟩:=hR.get j _ hj
   simp only[Ad,Arb,Bl]at hr
   obtain⟨ad,cap,hvv,_,hcap,hst,_⟩:=hr
   have had:ad=none:=hst trivial rfl
   subst had
   have hcap:=hcap rfl
   subst hcap
   have hvv:v= .slice none 0 0:=by simpa using hvv
   have key:∀b:Box V.E,(∀bx1 β1 ok1,β1 id={β id with hdr:= .slice none 0 0,own:=[],rows:=[]}->Dc V.T bx1 β1 ok1 w id b)->((∃e t,b= .arr e t [] 0 false)\/(∃e e2 t,b= .rows e e2 t [] 0 0 .opn))->
    Ayi s (put id b s.boxes) p ag (ls.set j (.ar id 0))=some s'->Sim V C s' a w:=by
    intro b hb hb' hs
    obtain⟨M,X⟩:=S.mem.set (w':=w) id b {β id with hdr:= .slice none 0 0,own:=[],rows:=[]} rfl rfl rfl (Nat.le_refl _) (λ _ _ _=>rfl) (λ x hx=>by simp at hx) (by simp)
     (λ b0 h0=>by rw[hid]at h0;cases h0) (λ _=>hb _ _ _ (A6 _ _ _))
    refine hset _ _ _ M X ?_ hs
    refine(Ba.ext X hR).set λ y hy=> ?_
    rw[hv]at hy;cases hy
    rw[hvv]
    simp only[Ad,Aw,A6]
    refine⟨rfl, ?_⟩
    rcases hb' with⟨e,t,rfl⟩|⟨e,e2,t,rfl⟩<;>exact⟨Nat.le_refl _,λ _=>by first|rfl|trivial⟩
   split at h
   ·refine key _ (λ bx1 β1 ok1 hβ=> ?_) (.inl ⟨_,_,rfl⟩) h
    simp only[Dc,Lh]
    rw[hβ]
    exact⟨rfl,[],⟨by simp,.inl ⟨rfl,rfl⟩⟩,.nil⟩
   ·refine key _ (λ bx1 β1 ok1 hβ=> ?_) (.inr ⟨_,_,_,rfl⟩) h
    simp only[Dc,Zd]
    rw[hβ]
    exact⟨⟨by simp,.inl ⟨rfl,rfl⟩⟩,rfl,.nil⟩
   ·cases h
  ·cases h
 ·cases h
def stL {E:Nat->Type}:List (Av E)->List (Av E)
 |[]=>[]
 | .sl t _ xs::r=> .sl t false xs::stL r
 |l::r=>l::stL r
def B9k (p:Pl) (s:St V.E):Option (St V.E):=
 match A98 s p with
 |some (ag,ls)=>Ayi s s.boxes p ag (stL ls)
 |none=>none
theorem Bms {bx:List (Nat×Box V.E)} {β:Nat->BI} {ok:Nat->Prop} {w:World}:∀{ls:List (Av V.E)} {vs:List Value},Ba (Ad V.T bx β ok w) ls vs->Ba (Ad V.T bx β ok w) (stL ls) vs
 |[],_,.nil=> .nil
 |l::ls,_,.cons h t=>by
  unfold stL
  split
  ·rename_i heq;cases heq
  ·rename_i heq;cases heq
   exact .cons (A8f (.inr ⟨_,_,false,_,rfl,rfl,λ h=>by cases h⟩) h) (Bms t)
  ·rename_i heq;cases heq;exact .cons h (Bms t)
theorem Cb4 {p:Pl} {s s':St V.E} (h:B9k p s=some s') {a:Act} {w:World} (S:Sim V C s a w):Sim V C s' a w:=by
 obtain⟨β,S⟩:=S
 unfold B9k at h
 split at h
 ·rename_i ag ls hp
  obtain⟨vs,hR,hset⟩:=Azd (s':=s') S hp
  exact hset _ _ _ S.mem (Ext.refl _ _ _ _ _) (Bms hR) h
 ·cases h
def B9f (p:Pl) (j:Nat) (s:St V.E):Option (St V.E×List Cd):=
 match A98 s p with
 |some (ag,ls)=>match ls[j]? with
  |some (.sl t _ xs)=>match Ayi s s.boxes p ag (ls.set j (.sl t true xs))with
   |some s'=>some (s',[cd (xs≠[])])
   |none=>none
  |_=>none
 |none=>none
theorem Cbi {p:Pl} {j:Nat} {s s':St V.E} {cs:List Cd} (h:B9f p j s=some (s',cs)) (hc:Fj cs) {a:Act} {w:World} (S:Sim V C s a w):Sim V C s' a w:=by
 obtain⟨β,S⟩:=S
 unfold B9f at h
 split at h
 ·rename_i ag ls hp
  split at h
  ·rename_i t st xs hj
   split at h
   ·rename_i s1 hs
    cases h
    obtain⟨vs,hR,hset⟩:=Azd (s':=s') S hp
    refine hset _ _ _ S.mem (Ext.refl _ _ _ _ _) (hR.set λ y hy=> ?_) hs
    obtain⟨v,hv,hr⟩:=hR.get j _ hj
    rw[hv]at hy;cases hy
    exact A8f (bx:=s.boxes) (β:=β) (.inr ⟨t,st,true,xs,rfl,rfl,λ _=> .inr hc.1⟩) hr
   ·cases h
  ·cases h
 ·cases h
def Awk {E:Nat->Type} (id id':Nat) (l:Av E):Option (Av E):=if Avz (Co l) [id,id']then some l else none
def reL {E:Nat->Type} (id cur crv id' nv:Nat):Av E->Option (Av E)
 | .ar i ver=>if Nat.beq i id&&Nat.beq ver cur then some (.ar id' nv)else Awk id id' (.ar i ver)
 | .row i ver rv j=>if Nat.beq i id&&Nat.beq ver cur&&Nat.beq rv crv then some (.row id' nv 0 j)else Awk id id' (.row i ver rv j)
 | .ptr i off=>if Nat.beq i id then some (.ptr id' off)else Awk id id' (.ptr i off)
 |l=>Awk id id' l
def Su {E:Nat->Type} (nv:Nat):Box E->Option (Box E×Nat×Nat)
 | .cells ls=>some (.cells ls,0,0)
 | .arr e t xs v fz=>some (.arr e t xs nv fz,v,0)
 | .rows e e2 t xss v rv fz=>some (.rows e e2 t xss nv 0 fz,v,rv)
 | .map .. =>none
 | .gone=>none
def A86 {α:Type} (k:Nat):List (Nat×α)->List (Nat×α)
 |[]=>[]
 |(j,x)::r=>if Nat.beq j k then A86 k r else(j,x)::A86 k r
theorem Ax2 {α:Type} (k j:Nat):∀l:List (Nat×α),Ae j (A86 k l)=if j=k then none else Ae j l
 |[]=>by simp[A86,Ae]
 |(i,x)::r=>by
  unfold A86
  by_cases hi:Nat.beq i k=true
  ·have:=Ah hi;subst this
   simp only[hi,if_true]
   rw[Ax2 i j r]
   by_cases hj:j=i
   ·simp[hj]
   ·simp only[hj,if_false]
    show Ae j r=if Nat.beq i j then some x else Ae j r
    rw[Fi (Ne.symm hj)]
    rfl
  ·simp only[hi,Bool.false_eq_true,if_false]
   unfold Ae
   by_cases hij:Nat.beq i j=true
   ·have:=Ah hij;subst this
    have hne:i≠k:=λ e=>hi (by rw[e];simp)
    simp[hne]
   ·simp only[hij,Bool.false_eq_true,if_false];exact Ax2 k j r
def Cah (id id' nv:Nat) (s:St V.E):Option (St V.E):=
 match Ae id s.boxes with
 |some b=>match Su nv b with
  |some (b',cur,crv)=>
   if Nat.beq id id'||(Ae id' s.boxes).isNone then
    if Ahn s.slots then
     match Ak3 (reL id cur crv id' nv) (put id' b' (A86 id s.boxes))with
     |some bx=>some ⟨s.n,Sr (reL id cur crv id' nv) s.slots,bx⟩
     |none=>none
    else none
   else none
  |none=>none
 |none=>none
end
end Go.Ab
