/- Boxes told by other numbers; and all the small steps in one. A function's code, walked on abstract states from one place to the next. A function of the program meets what is told of it, where its code's walk comes to its end. A function of the program meets what is told of it: from its code's walk. Conditions: none beyond those that each theorem names. -/
import Derived.Test.YtgngflkahbpecaaGreatDoorP09
set_option linter.unusedSimpArgs false
set_option linter.unusedVariables false
namespace Go.Ab
open Go
section
variable {V:Env} {C:Ctx}
theorem Bva {E:Nat->Type} {id id':Nat} {l l':Av E} (h:Awk id id' l=some l'):l'=l/\∀i∈Co l,i≠id/\i≠id':=by
 unfold Awk at h
 split at h
 ·rename_i hn
  cases h
  refine⟨rfl,λ i hi=> ?_⟩
  have:=Akr hn i hi
  simpa using this
 ·cases h
theorem Ccl {id id' nv:Nat} {s s':St V.E} (h:Cah id id' nv s=some s') {a:Act} {w:World} (S:Sim V C s a w):Sim V C s' a w:=by
 obtain⟨β,S⟩:=S
 unfold Cah at h
 split at h
 ·rename_i b hb
  split at h
  ·rename_i b' cur crv hre
   split at h
   ·rename_i hid
    split at h
    ·rename_i hsort
     split at h
     ·rename_i bx hbx
      cases h
      have M:=S.mem
      let β':Nat->BI:=λ j=>if j=id' then β id else if j=id then {β j with own:=[]}else β j
      have hβ1:β' id'=β id:=by show(if _ then _ else _)=_;rw[if_pos rfl]
      have hβ2:id≠id'->(β' id).own=[]:=λ hne=>by
       show(if _ then _ else _:BI).own=_
       rw[if_neg hne,if_pos rfl]
      have hβ3:∀j,j≠id->j≠id'->β' j=β j:=λ j h1 h2=>by show(if _ then _ else _)=_;rw[if_neg h2,if_neg h1]
      have hfree:id≠id'->Ae id' s.boxes=none:=by
       intro hne
       simp only[Bool.or_eq_true]at hid
       rcases hid with hid|hid
       ·exact(hne (Ah hid)).elim
       ·simpa using hid
      -- the owned blocks are the same Ajn
      have hown:∀j x,x∈(β' j).own->∃k,x∈(β k).own/\(j=id'/\k=id\/j≠id'/\k=j/\j≠id):=by
       intro j x hx
       by_cases h1:j=id'
       ·subst h1;rw[hβ1]at hx;exact⟨id,hx,.inl ⟨rfl,rfl⟩⟩
       ·by_cases h2:j=id
        ·subst h2;rw[hβ2 h1]at hx;simp at hx
        ·rw[hβ3 j h2 h1]at hx;exact⟨j,hx,.inr ⟨h1,rfl,h2⟩⟩
      have L:Dd (A2 C β w) w (A2 C β' w) w:=⟨λ b hb=>⟨hb.1,hb.2.1,λ j hj=>by obtain⟨k,hk,_⟩:=hown j b hj;exact hb.2.2 k hk⟩,λ _ _=>rfl⟩
      have hput:∀j,Ae j (put id' b' (A86 id s.boxes))=if j=id' then some b' else if j=id then none else Ae j s.boxes:=by
       intro j
       by_cases h1:j=id'
       ·subst h1;rw[Aw,if_pos rfl]
       ·rw[Ay h1,Ax2,if_neg h1]
      have hlook:=Ais hbx
      have halike:∀j,j≠id->j≠id'->A40 (Ae j s.boxes) (Ae j bx):=by
       intro j h1 h2
       have e:=hput j
       rw[if_neg h2,if_neg h1]at e
       rcases hlook j with⟨p1,p2⟩|⟨ls,ls',p1,p2,_⟩|⟨b0,p1,p2,_⟩
       ·exact .inl (by rw[p2,<-e,p1])
       ·exact .inr ⟨ls,ls',by rw[<-e,p1],p2⟩
       ·exact .inl (by rw[p2,<-e,p1])
      have hnew:∃bn,Ae id' bx=some bn/\A40 (some b') (some bn):=by
       have e:=hput id'
       rw[if_pos rfl]at e
       rcases hlook id' with⟨p1,p2⟩|⟨ls,ls',p1,p2,_⟩|⟨b0,p1,p2,_⟩
       ·rw[e]at p1;cases p1
       ·rw[e]at p1;cases p1;exact⟨_,p2,.inr ⟨ls,ls',rfl,rfl⟩⟩
       ·rw[e]at p1;cases p1;exact⟨_,p2,.inl rfl⟩
      obtain⟨bn,hbn,hal⟩:=hnew
      have hm:∀l l' v,reL id cur crv id' nv l=some l'->Ad V.T s.boxes β (A2 C β w) w l v->Ad V.T bx β' (A2 C β' w) w l' v:=by
       intro l l' v hl hr
       have other:Awk id id' l=some l'->Ad V.T bx β' (A2 C β' w) w l' v:=by
        intro ho
        obtain⟨rfl,hids⟩:=Bva ho
        exact Ad.agree L _ v (λ i hi=>⟨halike i (hids i hi).1 (hids i hi).2,hβ3 i (hids i hi).1 (hids i hi).2⟩) hr
       cases l with
       |ar i ver=>
        simp only[reL]at hl
        split at hl
        ·rename_i hc
         cases hl
         simp only[Bool.and_eq_true]at hc
         have e1:=Ah hc.1;have e2:=Ah hc.2
         subst e1;subst e2
         simp only[Ad,hb,hbn]at hr ⊢
         refine⟨hr.1, ?_⟩
         cases b with
         |cells ls=>simp only[Su,Option.some.injEq,Prod.mk.injEq]at hre;obtain⟨rfl,_,_⟩:=hre;rcases hal with hal|⟨_,_,_,hal⟩<;>(cases hal;trivial)
         |arr e t xs v0 fz=>
          simp only[Su,Option.some.injEq,Prod.mk.injEq]at hre;obtain⟨rfl,rfl,rfl⟩:=hre
          rcases hal with hal|⟨_,_,hal,_⟩<;>cases hal
          exact⟨Nat.le_refl _,λ _=>by rw[hβ1];exact hr.2.2 rfl⟩
         |rows e e2 t xss v0 rv fz=>
          simp only[Su,Option.some.injEq,Prod.mk.injEq]at hre;obtain⟨rfl,rfl,rfl⟩:=hre
          rcases hal with hal|⟨_,_,hal,_⟩<;>cases hal
          exact⟨Nat.le_refl _,λ _=>by rw[hβ1];exact hr.2.2 rfl⟩
         |map k0 t0 l0=>simp[Su]at hre
         |gone=>simp[Su]at hre
        ·exact other hl
       |row i ver rv j=>
        simp only[reL]at hl
        split at hl
        ·rename_i hc
         cases hl
         simp only[Bool.and_eq_true]at hc
         have e1:=Ah hc.1.1;have e2:=Ah hc.1.2;have e3:=Ah hc.2
         subst e1;subst e2;subst e3
         simp only[Ad,hb,hbn]at hr ⊢
         refine⟨hr.1, ?_⟩
         cases b with
         |cells ls=>simp only[Su,Option.some.injEq,Prod.mk.injEq]at hre;obtain⟨rfl,_,_⟩:=hre;rcases hal with hal|⟨_,_,_,hal⟩<;>(cases hal;trivial)
         |arr e t xs v0 fz=>
          simp only[Su,Option.some.injEq,Prod.mk.injEq]at hre;obtain⟨rfl,rfl,rfl⟩:=hre
          rcases hal with hal|⟨_,_,hal,_⟩<;>cases hal
          trivial
         |rows e e2 t xss v0 rv0 fz=>
          simp only[Su,Option.some.injEq,Prod.mk.injEq]at hre;obtain⟨rfl,rfl,rfl⟩:=hre
          rcases hal with hal|⟨_,_,hal,_⟩<;>cases hal
          refine⟨Nat.le_refl _,λ _=>⟨Nat.zero_le _,λ _=> ?_⟩⟩
          rw[hβ1]
          exact(hr.2.2 rfl).2 rfl
         |map k0 t0 l0=>simp[Su]at hre
         |gone=>simp[Su]at hre
        ·exact other hl
       |ptr i off=>
        simp only[reL]at hl
        split at hl
        ·rename_i hc
         cases hl
         have e1:=Ah hc
         subst e1
         simp only[Ad,hb,hbn]at hr ⊢
         refine⟨hr.1, ?_⟩
         cases b with
         |cells ls=>simp only[Su,Option.some.injEq,Prod.mk.injEq]at hre;obtain⟨rfl,_,_⟩:=hre;rcases hal with hal|⟨_,_,_,hal⟩<;>(cases hal;rw[hβ1];exact hr.2)
         |arr e t xs v0 fz=>
          simp only[Su,Option.some.injEq,Prod.mk.injEq]at hre;obtain⟨rfl,rfl,rfl⟩:=hre
          rcases hal with hal|⟨_,_,hal,_⟩<;>cases hal
          trivial
         |rows e e2 t xss v0 rv0 fz=>
          simp only[Su,Option.some.injEq,Prod.mk.injEq]at hre;obtain⟨rfl,rfl,rfl⟩:=hre
          rcases hal with hal|⟨_,_,hal,_⟩<;>cases hal
          trivial
         |map k0 t0 l0=>simp[Su]at hre
         |gone=>simp[Su]at hre
        ·exact other hl
       |_=>exact other (by simpa [reL]using hl)
      refine⟨β',S.size,S.defers,λ k x hk=> ?_, ?_⟩
      ·have hk':Ae k (Sr (reL id cur crv id' nv) s.slots)=some (some x):=by
        unfold slot at hk;simp only at hk
        split at hk
        ·rename_i y hy;rw[hy,hk]
        ·cases hk
       obtain⟨x0,h1,h2⟩:=Aje hsort hk'
       have:slot V s k=some x0:=by unfold slot;rw[h1]
       exact Byd hm h2 (S.slots k x0 this)
      ·refine⟨λ j bj hj=> ?_,λ j hj=> ?_,λ j=> ?_,λ j j' x hx hx'=> ?_,λ j x hx=> ?_,M.kept⟩
       ·by_cases h1:j=id'
        ·subst h1
         rw[hbn]at hj;cases hj
         have hB:=M.boxes id b hb
         have e:=hput j
         rw[if_pos rfl]at e
         cases b with
         |cells ls=>
          simp only[Su,Option.some.injEq,Prod.mk.injEq]at hre;obtain⟨rfl,rfl,rfl⟩:=hre
          rcases hlook j with⟨p1,p2⟩|⟨ls1,ls',p1,p2,p3⟩|⟨b0,p1,p2,p3⟩
          ·rw[e]at p1;cases p1
          ·rw[e]at p1;cases p1
           rw[hbn]at p2;cases p2
           obtain⟨c,et,q1,q2,q3⟩:=hB
           exact⟨c,et,by rw[hβ1];exact q1,by rw[hβ1];exact q2,Ash hm p3 q3⟩
          ·rw[e]at p1;cases p1;exact(p3 _ rfl).elim
         |arr et t xs v0 fz=>
          simp only[Su,Option.some.injEq,Prod.mk.injEq]at hre;obtain⟨rfl,rfl,rfl⟩:=hre
          rcases hal with hal|⟨_,_,hal,_⟩<;>cases hal
          have hB':Dc V.T bx β' (A2 C β' w) w j (.arr et t xs v0 fz):=Dc.agree L hβ1 (λ ls e=>by cases e) hB
          cases fz<;>exact hB'
         |rows et e2 t xss v0 rv0 fz=>
          simp only[Su,Option.some.injEq,Prod.mk.injEq]at hre;obtain⟨rfl,rfl,rfl⟩:=hre
          rcases hal with hal|⟨_,_,hal,_⟩<;>cases hal
          have hB':Dc V.T bx β' (A2 C β' w) w j (.rows et e2 t xss v0 rv0 fz):=Dc.agree L hβ1 (λ ls e=>by cases e) hB
          cases fz<;>exact hB'
         |map k0 t0 l0=>simp[Su]at hre
         |gone=>simp[Su]at hre
        ·have e:=hput j
         rw[if_neg h1]at e
         by_cases h2:j=id
         ·rw[if_pos h2]at e
          rcases hlook j with⟨p1,p2⟩|⟨ls1,ls',p1,p2,p3⟩|⟨b0,p1,p2,p3⟩
          ·rw[p2]at hj;cases hj
          ·rw[e]at p1;cases p1
          ·rw[e]at p1;cases p1
         ·rw[if_neg h2]at e
          rcases hlook j with⟨p1,p2⟩|⟨ls1,ls',p1,p2,p3⟩|⟨b0,p1,p2,p3⟩
          ·rw[p2]at hj;cases hj
          ·rw[p2]at hj;cases hj
           rw[e]at p1
           obtain⟨c,et,q1,q2,q3⟩:=M.boxes j _ p1
           exact⟨c,et,by rw[hβ3 j h2 h1];exact q1,by rw[hβ3 j h2 h1];exact q2,Ash hm p3 q3⟩
          ·rw[p2]at hj;cases hj
           rw[e]at p1
           exact Dc.agree L (hβ3 j h2 h1) (λ ls e=>(p3 ls e).elim) (M.boxes j _ p1)
       ·by_cases h1:j=id'
        ·subst h1;rw[hbn]at hj;cases hj
        ·by_cases h2:j=id
         ·subst h2;exact hβ2 h1
         ·rw[hβ3 j h2 h1]
          refine M.nones j ?_
          have e:=hput j
          rw[if_neg h1,if_neg h2]at e
          rcases hlook j with⟨p1,p2⟩|⟨ls1,ls',p1,p2,p3⟩|⟨b0,p1,p2,p3⟩
          ·rw[<-e,p1]
          ·rw[p2]at hj;cases hj
          ·rw[p2]at hj;cases hj
       ·by_cases h1:j=id'
        ·subst h1;rw[hβ1];exact M.nodup id
        ·by_cases h2:j=id
         ·subst h2;rw[hβ2 h1];exact List.nodup_nil
         ·rw[hβ3 j h2 h1];exact M.nodup j
       ·obtain⟨k,hk,ck⟩:=hown j x hx
        obtain⟨k',hk',ck'⟩:=hown j' x hx'
        have e:=M.apart k k' x hk hk'
        subst e
        rcases ck with⟨c1,c2⟩|⟨c1,c2,c3⟩<;>rcases ck' with⟨d1,d2⟩|⟨d1,d2,d3⟩
        ·rw[c1,d1]
        ·exact(d3 (d2.symm.trans c2)).elim
        ·exact(c3 (c2.symm.trans d2)).elim
        ·rw[<-c2,<-d2]
       ·obtain⟨k,hk,_⟩:=hown j x hx
        exact M.mine k x hk
     ·cases h
    ·cases h
   ·cases h
  ·cases h
 ·cases h
inductive WOp where
 |keep (ks ids:List Nat)
 |fix (p:Pl)
 |own (p:Pl) (j id e e2:Nat)
 |st (p:Pl)
 |ne (p:Pl) (j:Nat)
 |re (id id' nv:Nat)
def Am4 (o:Option (St V.E)):Option (St V.E×List Cd):=
 match o with
 |some s=>some (s,[])
 |none=>none
def Cct:WOp->St V.E->Option (St V.E×List Cd)
 | .keep ks ids,s=>Am4 (Ben ks ids s)
 | .fix p,s=>Am4 (B2f p s)
 | .own p j id e e2,s=>Am4 (B05 p j id e e2 s)
 | .st p,s=>Am4 (B9k p s)
 | .ne p j,s=>B9f p j s
 | .re id id' nv,s=>Am4 (Cah id id' nv s)
def weak:List WOp->St V.E->Option (St V.E×List Cd)
 |[],s=>some (s,[])
 |o::os,s=>match Cct o s with
  |some (s',p)=>match weak os s' with
   |some (s'',q)=>some (s'',p++q)
   |none=>none
  |none=>none
theorem V2 {o:Option (St V.E)} {s:St V.E} {p:List Cd} (h:Am4 o=some (s,p)):o=some s:=by
 unfold Am4 at h
 split at h
 ·cases h;rfl
 ·cases h
theorem Awr:∀{os:List WOp} {s s':St V.E} {cs:List Cd},weak os s=some (s',cs)->Fj cs->∀{a:Act} {w:World},Sim V C s a w->Sim V C s' a w
 |[],s,s',cs,h,hc,a,w,S=>by simp only[weak,Option.some.injEq,Prod.mk.injEq]at h;obtain⟨rfl,_⟩:=h;exact S
 |o::os,s,s',cs,h,hc,a,w,S=>by
  unfold weak at h
  split at h
  ·rename_i s1 p h1
   split at h
   ·rename_i s2 q h2
    cases h
    obtain⟨hc1,hc2⟩:=Fj.append hc
    refine Awr h2 hc2 ?_
    cases o with
    |keep ks ids=>exact Bxb (V2 h1) S
    |fix k=>exact B96 (V2 h1) S
    |own k j id e e2=>exact Bzd (V2 h1) S
    |st k=>exact Cb4 (V2 h1) S
    |ne k j=>exact Cbi h1 hc1 S
    |re id id' nv=>exact Ccl (V2 h1) S
   ·cases h
  ·cases h
end
def auto:Nat->List Item->List Item
 |0,k=>k
 |n+1,.code .skip::k=>auto n k
 |n+1,.code (.label _)::k=>auto n k
 |n+1,.code (.seq x y)::k=>auto n (.code x:: .code y::k)
 |n+1,.code (.block id c)::k=>auto n (.code c:: .inBlock id::k)
 |n+1,.inBlock _::k=>auto n k
 |n+1,.code (.exit id)::k=>match exitTo id k with
  |some k'=>auto n k'
  |none=> .code (.exit id)::k
 |_+1,k=>k
inductive Way where
 |auto|reg|br (b:Bool)|enter
def Cc5 (c:Way) (k:List Item):List Item:=
 match c,auto 200 k with
 | .auto,k=>k
 | .reg,.code (.region ..)::k=>k
 | .br b,.code (.cond _ x y)::k=> .code (if b then x else y)::k
 | .enter,.code (.loop c)::k=> .code c:: .inLoop c::k
 | .enter,.inLoop c::k=> .code c:: .inLoop c::k
 |_,_=>[]
def ctl:List Way->List Item->List Item
 |[],k=>k
 |c::cs,k=>ctl cs (Cc5 c k)
section
variable (V:Env)
inductive Cmd where
 |auto
 |reg (q:A11 V)
 |br (b:Bool)
 |enter
 |weak (os:List WOp)
def Cac (c:Cmd V) (k:List Item) (s:St V.E):Option (List Item×St V.E×List Cd):=
 match c with
 | .weak os=>match weak os s with
   |some (s',cs)=>some (k,s',cs)
   |none=>none
 | .auto=>some (auto 200 k,s,[])
 | .reg q=>match auto 200 k with
   | .code (.region _ ops drawn)::k'=>match Ay4 V ops.toList q 0 ops.toList s with
     |some (s',cs,acs)=>if drawn then(if Bbc ops acs then some (k',s',cs)else none)else some (k',s',cs)
     |none=>none
   |_=>none
 | .br b=>match auto 200 k with
   | .code (.cond c x y)::k'=>match Hv V s 0 c with
     |some (.cv (.one (.bool x')))=>some (.code (if b then x else y)::k',s,[cd (x'=b)])
     |_=>none
   |_=>none
 | .enter=>match auto 200 k with
   | .code (.loop c)::k'=>some (.code c:: .inLoop c::k',s,[])
   | .inLoop c::k'=>some (.code c:: .inLoop c::k',s,[])
   |_=>none
def run:List (Cmd V)->List Item->St V.E->Option (List Item×St V.E×List Cd)
 |[],k,s=>some (k,s,[])
 |c::cs,k,s=>match Cac V c k s with
  |some (k',s',p)=>match run cs k' s' with
   |some (k'',s'',p')=>some (k'',s'',p++p')
   |none=>none
  |none=>none
end
section
variable {V:Env} {P:Program} {C:Ctx}
def Bv (V:Env) (P:Program) (C:Ctx) (F:Act->World->Prop) (k:List Item) (s:St V.E):Prop:=
 ∀a w,Sim V C s a w->∀(b:Frame) (cs:List Frame),∃a' w' todo,F a' w'/\Steps P (lone (b.at a k) cs w) (lone {b.at a' todo with mode:= .returning} cs w')
variable {F:Act->World->Prop}
theorem F9 (b:Frame) (a:Act) (cs:List Frame) (w:World):∀(n:Nat) (k:List Item),Steps P (lone (b.at a k) cs w) (lone (b.at a (auto n k)) cs w)
 |0,k=> .refl _ _
 |n+1,k=>by
  unfold auto
  split
  ·rename_i heq;cases heq
  ·rename_i heq;cases heq;exact .head step_skip (F9 b a cs w n _)
  ·rename_i heq;cases heq;exact .head step_label (F9 b a cs w n _)
  ·rename_i heq;cases heq;exact .head step_seq (F9 b a cs w n _)
  ·rename_i heq;cases heq;exact .head step_block (F9 b a cs w n _)
  ·rename_i heq;cases heq;exact .head step_inBlock (F9 b a cs w n _)
  ·rename_i heq;cases heq
   split
   ·rename_i k' hk;exact .head (step_exit hk) (F9 b a cs w n _)
   ·exact .refl _ _
  ·exact .refl _ _
theorem Bv.of_steps {k k':List Item} {s s':St V.E} (h:∀a w,Sim V C s a w->∀(b:Frame) (cs:List Frame),∃a' w',Sim V C s' a' w'/\Steps P (lone (b.at a k) cs w) (lone (b.at a' k') cs w')) (g:Bv V P C F k' s'):Bv V P C F k s:=by
 intro a w S b cs
 obtain⟨a1,w1,S1,h1⟩:=h a w S b cs
 obtain⟨a2,w2,todo,hF,h2⟩:=g a1 w1 S1 b cs
 exact⟨a2,w2,todo,hF,h1.trans h2⟩
theorem B5f (G:Bs V P) {c:Cmd V} {k k':List Item} {s s':St V.E} {cs:List Cd} (h:Cac V c k s=some (k',s',cs)) (hc:Fj cs):Bv V P C F k' s'->Bv V P C F k s:=by
 intro g
 have A:=λ (b:Frame) (a:Act) (cs:List Frame) (w:World)=>F9 (P:=P) b a cs w 200 k
 unfold Cac at h
 split at h
 ·split at h
  ·rename_i s1 c1 hw
   cases h
   intro a w S
   exact g a w (Awr hw hc S)
  ·cases h
 ·cases h
  exact .of_steps (λ a w S b cs=>⟨a,w,S,A b a cs w⟩) g
 ·split at h
  ·rename_i id ops drawn k1 hk
   split at h
   ·rename_i s1 c1 acs hev
    have key:∀(hd:drawn=true->Bbc ops acs=true),Fj c1->Bv V P C F k1 s1->Bv V P C F k s:=by
     intro hd hc g
     refine .of_steps (λ a w S b cs=> ?_) g
     have hwp:=Bz0 G (id:=id) (drawn:=drawn) (Q:=λ e a' w'=>e= .normal/\Sim V C s1 a' w') S hev hc hd (λ a' w' S'=>⟨rfl,S'⟩)
     obtain⟨e,a',w',⟨rfl,S'⟩,harr⟩:=hwp b k1 cs
     refine⟨a',w',S', ?_⟩
     have:=A b a cs w
     rw[hk]at this
     exact this.trans harr
    split at h
    ·split at h
     ·rename_i hany
      cases h
      exact key (λ _=>hany) hc g
     ·cases h
    ·rename_i hd
     cases h
     exact key (λ e=>(hd e).elim) hc g
   ·cases h
  ·cases h
 ·split at h
  ·rename_i o x y k1 hk
   split at h
   ·rename_i x' ho
    cases h
    refine .of_steps (λ a w S b cs=>⟨a,w,S, ?_⟩) g
    obtain⟨β,S⟩:=S
    have hr:=As7 S 0 o _ ho
    simp only[SR,Az,Ar,Ad]at hr
    have:=A b a cs w
    rw[hk]at this
    refine this.trans (.one ?_)
    rw[step_cond hr,hc.1]
   ·cases h
  ·cases h
 ·split at h
  ·rename_i c k1 hk
   cases h
   refine .of_steps (λ a w S b cs=>⟨a,w,S, ?_⟩) g
   have:=A b a cs w
   rw[hk]at this
   exact this.trans (.one step_loop)
  ·rename_i c k1 hk
   cases h
   refine .of_steps (λ a w S b cs=>⟨a,w,S, ?_⟩) g
   have:=A b a cs w
   rw[hk]at this
   exact this.trans (.one step_inLoop)
  ·cases h
theorem seg (G:Bs V P):∀{c:List (Cmd V)} {k k':List Item} {s s':St V.E} {cs:List Cd},run V c k s=some (k',s',cs)->Fj cs->Bv V P C F k' s'->Bv V P C F k s
 |[],k,k',s,s',cs,h,hc,g=>by
  simp only[run,Option.some.injEq,Prod.mk.injEq]at h
  obtain⟨rfl,rfl,_⟩:=h
  exact g
 |c::c',k,k',s,s',cs,h,hc,g=>by
  unfold run at h
  split at h
  ·rename_i k1 s1 p1 h1
   split at h
   ·rename_i k2 s2 p2 h2
    cases h
    obtain⟨hc1,hc2⟩:=Fj.append hc
    exact B5f G h1 hc1 (seg G h2 hc2 g)
   ·cases h
  ·cases h
end
def need {α:Type} (c:Prop) [Decidable c] (r:Option α):Option α:=cond (decide c) r none
theorem A8 {α:Type} {c:Prop} [Decidable c] {r:Option α} {y:α} (h:need c r=some y):c/\r=some y:=by
 unfold need at h
 by_cases hc:c
 ·rw[decide_eq_true hc]at h;exact⟨hc,h⟩
 ·rw[decide_eq_false hc]at h;cases h
theorem B5a {α:Type} {c:Prop} [Decidable c] {r:Option α} (h:c):need c r=r:=by unfold need;rw[decide_eq_true h];rfl
theorem bind_some {α β:Type} {x:Option α} {f:α->Option β} {y:β} (h:x.bind f=some y):∃z,x=some z/\f z=some y:=Option.bind_eq_some_iff.1 h
theorem Aj {α:Type} {b:Bool} {x y:Option α} {r:α} (h:(if b=true then x else y)=some r):(b=true/\x=some r)\/(b=false/\y=some r):=by
 cases b
 ·exact .inr ⟨rfl,by simpa using h⟩
 ·exact .inl ⟨rfl,by simpa using h⟩
def Abk {σ ρ:Type} (f:σ->Option (σ⊕ρ)):Nat->σ->Option ρ
 |0,_=>none
 |n+1,s=>(f s).bind fun
  | .inl s'=>Abk f n s'
  | .inr r=>some r
open Classical in
noncomputable def iter {σ ρ:Type} (f:σ->Option (σ⊕ρ)) (s:σ):Option ρ:=
 match Abk f 18446744073709551616 s with
 |some r=>some r
 |none=>if h:∃n r,Abk f n s=some r then some h.choose_spec.choose else none
theorem A3d {σ ρ:Type} {f:σ->Option (σ⊕ρ)}:∀{n m:Nat} {s:σ} {r r':ρ},Abk f n s=some r->Abk f m s=some r'->r=r'
 |0,_,_,_,_,h,_=>by simp[Abk]at h
 |_+1,0,_,_,_,_,h=>by simp[Abk]at h
 |n+1,m+1,s,r,r',h,h'=>by
  simp only[Abk]at h h'
  cases hf:f s with
  |none=>rw[hf]at h;cases h
  |some x=>
   rw[hf]at h h'
   cases x with
   |inl s'=>exact A3d (n:=n) (m:=m) h h'
   |inr q=>simp at h h';rw[<-h,h']
theorem Ax0 {σ ρ:Type} {f:σ->Option (σ⊕ρ)} {s:σ} {r:ρ}:iter f s=some r↔∃n,Abk f n s=some r:=by
 unfold iter
 generalize 18446744073709551616=N
 split
 ·rename_i r' hr
  constructor
  ·intro h;cases h;exact⟨N,hr⟩
  ·rintro⟨n,h⟩;exact congrArg some (A3d hr h)
 constructor
 ·intro h
  split at h
  ·rename_i hx
   cases h
   exact⟨hx.choose,hx.choose_spec.choose_spec⟩
  ·cases h
 ·rintro⟨n,h⟩
  have hx:∃n r,Abk f n s=some r:=⟨n,r,h⟩
  rw[dif_pos hx]
  exact congrArg some (A3d hx.choose_spec.choose_spec h)
theorem Axy {σ ρ:Type} (f:σ->Option (σ⊕ρ)) (s:σ):iter f s=(f s).bind fun
 | .inl s'=>iter f s'
 | .inr r=>some r:=by
 apply Option.ext
 intro r
 rw[Ax0]
 constructor
 ·rintro⟨n,h⟩
  cases n with
  |zero=>simp[Abk]at h
  |succ n=>
   simp only[Abk]at h
   cases hf:f s with
   |none=>rw[hf]at h;cases h
   |some x=>
    rw[hf]at h
    cases x with
    |inl s'=>exact Ax0.2 ⟨n,h⟩
    |inr q=>exact h
 ·intro h
  cases hf:f s with
  |none=>rw[hf]at h;cases h
  |some x=>
   rw[hf]at h
   cases x with
   |inl s'=>
    obtain⟨n,hn⟩:=Ax0.1 (show iter f s'=some r from h)
    exact⟨n+1,by simp only[Abk,hf];exact hn⟩
   |inr q=>exact⟨1,by simp only[Abk,hf];exact h⟩
theorem Bxy {σ ρ:Type} {f:σ->Option (σ⊕ρ)} (I:σ->Prop) (μ:σ->Nat) (Post:ρ->Prop)
 (h:∀s,I s->(∃s',f s=some (.inl s')/\I s'/\μ s'<μ s)\/(∃r,f s=some (.inr r)/\Post r)):∀s,I s->∃r,iter f s=some r/\Post r:=by
 intro s
 induction hn:μ s using Nat.strongRecOn generalizing s with
 |_ n ih=>
  intro hI
  rcases h s hI with⟨s',h1,h2,h3⟩|⟨r,h1,h2⟩
  ·obtain⟨r,hr,hp⟩:=ih (μ s') (by omega) s' rfl h2
   exact⟨r,by rw[Axy,h1];exact hr,hp⟩
  ·exact⟨r,by rw[Axy,h1];rfl,h2⟩
section
variable {V:Env} {P:Program} {C:Ctx} {F:Act->World->Prop}
theorem Bzi {σ ρ:Type} {f:σ->Option (σ⊕ρ)} {k:List Item} {S:σ->St V.E} {r:ρ}
 (h:∀v o,f v=some o->(∀v',o= .inl v'->Bv V P C F k (S v'))->(∀r',o= .inr r'->r'=r)->Bv V P C F k (S v)):∀v,iter f v=some r->Bv V P C F k (S v):=by
 intro v hv
 obtain⟨n,hn⟩:=Ax0.1 hv
 clear hv
 induction n generalizing v with
 |zero=>simp[Abk]at hn
 |succ n ih=>
  simp only[Abk]at hn
  obtain⟨o,ho,hn⟩:=bind_some hn
  refine h v o ho (λ v' e=> ?_) (λ r' e=> ?_)
  ·subst e;exact ih v' hn
  ·subst e;exact Option.some.inj hn
end
section
variable (V:Env)
def On (i:Nat):Nat:=1000000+i
def J6:Nat->List TypeId->(ts:List Ty)->HL V.E ts->List (Nat×Option (SV V.E))
 |_,_,[],_=>[]
 |i,0::os,t::ts,(x,r)=>(i,(B7 (Ux t) (t.toL V.T x)).map SV.cv)::J6 (i+1) os ts r
 |i,(_+1)::os,_::ts,(_,r)=>(i,some (.cv (.one (.ar (On i) 0))))::J6 (i+1) os ts r
 |i,[],t::ts,(x,r)=>(i,(B7 (Ux t) (t.toL V.T x)).map SV.cv)::J6 (i+1) [] ts r
def B2:Nat->List TypeId->(ts:List Ty)->HL V.E ts->List (Nat×Box V.E)
 |_,_,[],_=>[]
 |i,0::os,_::ts,(_,r)=>B2 (i+1) os ts r
 |i,(e+1)::os,.sl t::ts,(xs,r)=>(On i,.arr (e+1) t xs 0 false)::B2 (i+1) os ts r
 |i,(_+1)::os,_::ts,(_,r)=>B2 (i+1) os ts r
 |i,[],_::ts,(_,r)=>B2 (i+1) [] ts r
def As5 (n:Nat) (S:FS V.E) (x:HL V.E S.args):St V.E:=⟨n,J6 V 0 S.argOwn S.args x,B2 V 0 S.argOwn S.args x⟩
def N8 (bx:List (Nat×Box V.E)):List (TypeId×TypeId)->List (Av V.E)->Option (List (Av V.E)×List Nat)
 |_,[]=>some ([],[])
 |(0,_)::os,l::r=>match Av.av V.T l,N8 bx os r with
  |some _,some (ls,ids)=>some (l::ls,ids)
  |_,_=>none
 |[],l::r=>match Av.av V.T l,N8 bx [] r with
  |some _,some (ls,ids)=>some (l::ls,ids)
  |_,_=>none
 |(e+1,0)::os,.ar id ver::r=>match Ae id bx,N8 bx os r with
  |some (.arr e' t xs v false),some (ls,ids)=>if Nat.beq ver v&&Nat.beq e' (e+1)then some (.sl t false xs::ls,id::ids)else none
  |_,_=>none
 |(e+1,e2+1)::os,.ar id ver::r=>match Ae id bx,N8 bx os r with
  |some (.rows e' e2' t xss v _ .opn),some (ls,ids)=>if Nat.beq ver v&&Nat.beq e' (e+1)&&Nat.beq e2' (e2+1)then some (.sl (.sl t) false xss::ls,id::ids)else none
  |_,_=>none
 |_,_=>none
def A52 (s:St V.E):ResultVar->Option (CV V.E)
 | .tmp k=>match slotT V s k with
   |some (.cv c)=>some c
   |_=>none
 | .cell k t=>match slotT V s k,V.ti t with
   |some (.cv (.one (.ptr id off))),some i=>match Ae id s.boxes with
    |some (.cells ls)=>if Nat.ble (off+i.size) ls.length then B7 i.kind.agg ((ls.drop off).take i.size)else none
    |_=>none
   |_,_=>none
def Ai8 (s:St V.E):List (List (TypeId×TypeId))->(ts:List Ty)->List ResultVar->Option (HL V.E ts×List Nat)
 |_,[],[]=>some ((),[])
 |os,t::ts,r::rs=>match A52 V s r with
  |some c=>if c.isAg==Ux t then match N8 V s.boxes (os.headD []) c.leaves with
   |some (ls,ids)=>match t.ofL V.T ls with
    |some y=>match Ai8 s os.tail ts rs with
     |some (q,ids')=>some ((y,q),ids++ids')
     |none=>none
    |none=>none
   |none=>none
   else none
  |none=>none
 |_,_,_=>none
def Ak2:List Nat->Bool
 |[]=>true
 |x::xs=> !(Sa x xs)&&Ak2 xs
end
section
variable {V:Env} {P:Program} {C:Ctx}
theorem A39:∀{l:List Nat},Ak2 l=true->l.Nodup
 |[],_=>List.nodup_nil
 |x::xs,h=>by
  simp only[Ak2,Bool.and_eq_true,Bool.not_eq_true']at h
  refine List.nodup_cons.2 ⟨λ hm=> ?_,A39 h.2⟩
  rw[Bk1 hm]at h;exact Bool.noConfusion h.1
theorem B3g {bx bx':List (Nat×Box V.E)} {β β':Nat->BI} {ok:Nat->Prop} {w:World} {l:Av V.E} {x:AV} (h:Av.av V.T l=some x) {v:Value} (k:Ad V.T bx β ok w l v):Ad V.T bx' β' ok w l v:=
 (Ayt h v).2 ((Ayt h v).1 k)
theorem L7 {s:St V.E} {β:Nat->BI} {w:World} (M:Bk V.T C s.boxes β w) {ok':Nat->Prop} (L:Dd (A2 C β w) w ok' w):∀(ls:List (Av V.E)) (os:List (TypeId×TypeId)) (vs:List Value) (ls':List (Av V.E)) (ids:List Nat) (ms:List (Av V.E)),
 Ba (Ad V.T s.boxes β (A2 C β w) w) ls vs->N8 V s.boxes os ls=some (ls',ids)->Coe ls' ms->Dp V.T ok' w os ms vs (ids.flatMap λ id=>(β id).own)
 |[],os,_,ls',ids,ms,.nil,h,hc=>by
  have h:(([]:List (Av V.E)),([]:List Nat))=(ls',ids):=by
   cases os with
   |nil=>simpa [N8]using h
   |cons o os=>obtain⟨e,e2⟩:=o;simpa [N8]using h
  cases h
  cases hc
  exact .nil
 |l::ls,os,_,ls',ids,ms,.cons (b:=v) (m:=vs) h1 h2,h,hc=>by
  have data:∀{x:AV} {m:Av V.E},Av.av V.T l=some x->B99 l m->∀bx β',Ad V.T bx β' ok' w m v:=by
   intro x m hx hm bx β'
   have:=B3g (bx':=bx) (β':=β') hx h1
   have k:=A8f hm this
   refine Ad.agree L m v (λ id hid=> ?_) k
   exfalso
   rcases hm with rfl|⟨t,st,st',xs,rfl,rfl,_⟩
   ·cases l<;>simp[Av.av]at hx<;>simp[Co]at hid
   ·simp[Co]at hid
  unfold N8 at h
  split at h
  ·rename_i heq;cases heq
  ·rename_i heq;cases heq
   split at h
   ·rename_i x r ids' hx hr
    cases h
    cases hc with
    |cons c1 c2=>exact .data (data hx c1) (L7 M L ls _ vs _ _ _ h2 hr c2)
   ·cases h
  ·rename_i heq;cases heq
   split at h
   ·rename_i x r ids' hx hr
    cases h
    cases hc with
    |cons c1 c2=>exact .more (data hx c1) (L7 M L ls _ vs _ _ _ h2 hr c2)
   ·cases h
  ·rename_i heq;cases heq
   split at h
   ·rename_i e' t xs v0 r ids' hb hr
    split at h
    ·rename_i hv
     cases h
     simp only[Bool.and_eq_true]at hv
     simp only[Ad,hb]at h1
     have hvv:=h1.2.2 (Ah hv.1)
     have he:=Ah hv.2
     subst he
     obtain⟨q1,q2⟩:=M.boxes _ _ hb
     cases hc with
     |cons c1 c2=>
      rw[List.flatMap_cons,q1,<-hvv]
      rcases c1 with rfl|⟨t',st,st',xs',e1,e2,_⟩
      ·exact .arr (Nat.succ_ne_zero _) (by rw[hvv];exact q2.later L λ _ _=>rfl) (L7 M L ls _ vs _ _ _ h2 hr c2)
      ·cases e1;subst e2
       exact .arr (Nat.succ_ne_zero _) (by rw[hvv];exact q2.later L λ _ _=>rfl) (L7 M L ls _ vs _ _ _ h2 hr c2)
    ·cases h
   ·cases h
  ·rename_i heq;cases heq
   split at h
   ·rename_i e' e2' t xs v0 rv r ids' hb hr
    split at h
    ·rename_i hv
     cases h
     simp only[Bool.and_eq_true]at hv
     simp only[Ad,hb]at h1
     have hvv:=h1.2.2 (Ah hv.1.1)
     have he:=Ah hv.1.2
     have he2:=Ah hv.2
     subst he;subst he2
     have hB:=M.boxes _ _ hb
     simp only[Dc]at hB
     cases hc with
     |cons c1 c2=>
      rw[List.flatMap_cons]
      have hR:∀id e e2,v=(β id).hdr->Zd V.T (A2 C β w) w e e2 t xs (β id)->Zd V.T ok' w e e2 t xs ⟨0,v,(β id).own,(β id).rows⟩:=by
       intro id e e2 hv hB
       obtain⟨q1,q2,q3⟩:=hB
       rw[hv]
       exact⟨q1,q2,q3.imp λ _ _ k=>k.later L λ _ _=>rfl⟩
      rcases c1 with rfl|⟨t',st,st',xs',e1,e2,_⟩
      ·exact .rows (Nat.succ_ne_zero _) (Nat.succ_ne_zero _) (hR _ _ _ hvv hB) (L7 M L ls _ vs _ _ _ h2 hr c2)
      ·cases e1;subst e2
       exact .rows (Nat.succ_ne_zero _) (Nat.succ_ne_zero _) (hR _ _ _ hvv hB) (L7 M L ls _ vs _ _ _ h2 hr c2)
    ·cases h
   ·cases h
  ·cases h
def Bfs (a:Act):ResultVar->Sem Value
 | .tmp t=>pure (a.tmps.getD t undef)
 | .cell k t=>do loadVar t (<-asAddr (a.tmps.getD k undef))
theorem Bog (G:Auc V P) {s:St V.E} {β:Nat->BI} {a:Act} {w:World} (S:Aoz V C s β a w) {r:ResultVar} {c:CV V.E} (h:A52 V s r=some c):
 ∃v,(Bfs a r).run P w= .ok v w/\Ar V.T s.boxes β (A2 C β w) w c v:=by
 unfold A52 at h
 split at h
 ·rename_i k
  split at h
  ·rename_i c' hk
   cases h
   exact⟨a.tmps.getD k undef,by simp only[Bfs,Sem.run_pure],S.slotT hk⟩
  ·cases h
 ·rename_i k t
  split at h
  ·rename_i id off i hk hi
   split at h
   ·rename_i ls hb
    split at h
    ·rename_i hle
     have hle:=Nat.le_of_ble_eq_true hle
     obtain⟨info,d,z,I⟩:=G t i hi
     have hr:Az V.T s.boxes β (A2 C β w) w (.cv (.one (.ptr id off))) (a.tmps.getD k undef):=S.slotT hk
     simp only[Az,Ar,Ad,hb]at hr
     obtain⟨_,hv⟩:=hr
     obtain⟨cs,e,hown,hheap,hall⟩:=S.mem.boxes id _ hb
     have hall':=(hall.drop off).take i.size
     obtain⟨h1,h2⟩:=Apa (w:=w) I (β id).blk off ((cs.toList.drop off).take i.size) (by rw[<-hall'.length];simp;omega) (λ j v hv=>by
      rw[C8 hheap]
      rw[List.getElem?_take]at hv
      split at hv
      ·rw[List.getElem?_drop]at hv;simpa using hv
      ·cases hv)
     simp only[Bfs,hv,asAddr,Sem.run_bind,Sem.run_pure,Result.andThen_ok]
     rcases Abs h hall' with⟨ha,rfl,k⟩|⟨ha,l,v,_,rfl,h4,k⟩
     ·exact⟨_,h1 ha,k⟩
     ·exact⟨_,h2 ha v h4,k⟩
    ·cases h
   ·cases h
  ·cases h
theorem Bjj (HT:V.T.Ok) (G:Auc V P) {s:St V.E} {β:Nat->BI} {a:Act} {w:World} (S:Aoz V C s β a w) {ok':Nat->Prop} (L:Dd (A2 C β w) w ok' w):∀(ts:List Ty) (os:List (List (TypeId×TypeId))) (rs:List ResultVar) (y:HL V.E ts) (ids:List Nat),Ai8 V s os ts rs=some (y,ids)->
 ∃vs,(rs.mapM (Bfs a)).run P w= .ok vs w/\X9 V.T ok' w os ts y vs (ids.flatMap λ id=>(β id).own)
 |[],os,rs,y,ids,h=>by
  cases rs with
  |nil=>
   have h:(((),[]):HL V.E []×List Nat)=(y,ids):=by cases os<;>simpa [Ai8]using h
   cases h
   exact⟨[],by simp,rfl,rfl⟩
  |cons r rs=>cases os<;>simp[Ai8]at h
 |t::ts,os,[],y,ids,h=>by cases os<;>simp[Ai8]at h
 |t::ts,os,r::rs,y,ids,h=>by
  have h':(match A52 V s r with
   |some c=>if c.isAg==Ux t then match N8 V s.boxes (os.headD []) c.leaves with
    |some (ls,ids)=>match t.ofL V.T ls with
     |some y=>match Ai8 V s os.tail ts rs with
      |some (q,ids')=>some ((y,q),ids++ids')
      |none=>none
     |none=>none
    |none=>none
    else none
   |none=>none)=some (y,ids):=by
   rw[<-h];simp only[Ai8]
  split at h'
  ·rename_i c hk
   split at h'
   ·rename_i hag
    split at h'
    ·rename_i ls ids1 hf
     split at h'
     ·rename_i y1 hy
      split at h'
      ·rename_i q ids2 hr
       cases h'
       obtain⟨vs,h1,h2⟩:=Bjj HT G S L ts os.tail rs q ids2 hr
       obtain⟨v,hv,hrep⟩:=Bog G S hk
       have hO:=L7 S.mem L _ _ _ _ _ _ (Ar.cells hrep) hf (Amj HT hy)
       refine⟨v::vs, ?_,_,_,_,_,rfl,by rw[List.flatMap_append],⟨_,hO, ?_⟩,h2⟩
       ·rw[List.mapM_cons]
        simp only[Sem.run_bind,Sem.run_pure,hv,h1,Result.andThen_ok]
       ·have hci:=Ar.isAg hrep
        have hag:c.isAg=Ux t:=by simpa using hag
        split
        ·rename_i hn
         rw[hn]at hag
         obtain⟨cs,hcs⟩:=hci.1 hag
         rw[hcs];rfl
        ·rename_i hn
         simp only[Bool.not_eq_true]at hn
         rw[hn]at hag
         rw[hci.2 hag]
      ·cases h'
     ·cases h'
    ·cases h'
   ·cases h'
  ·cases h'
end
section
variable {V:Env} {P:Program} {C:Ctx}
def Bww (k:List Item):Bool:=
 match auto 200 k with
 |[]=>true
 | .code .ret::_=>true
 |_=>false
def Bqx (V:Env) (C:Ctx) (F:Act->World->Prop) (rs:List ResultVar) (os:List (List (TypeId×TypeId))) (ts:List Ty) (y:HL V.E ts):Prop:=
 ∀(s:St V.E) ids,Ai8 V s os ts rs=some (y,ids)->Ak2 ids=true->∀a w,Sim V C s a w->F a w
def Bu3 (V:Env) (rs:List ResultVar) (os:List (List (TypeId×TypeId))) (ts:List Ty) (c:List (Cmd V)) (k:List Item) (s:St V.E):Option (HL V.E ts×List Cd):=
 match run V c k s with
 |some (k',s',cs)=>if Bww k' then match Ai8 V s' os ts rs with
  |some (y,ids)=>if Ak2 ids then some (y,cs)else none
  |none=>none
  else none
 |none=>none
theorem B5q (G:Bs V P) {F:Act->World->Prop} {rs:List ResultVar} {os:List (List (TypeId×TypeId))} {ts:List Ty} {y:HL V.E ts} (E:Bqx V C F rs os ts y) {c:List (Cmd V)} {k:List Item} {s:St V.E} {cs:List Cd}
 (h:Bu3 V rs os ts c k s=some (y,cs)) (hc:Fj cs):Bv V P C F k s:=by
 unfold Bu3 at h
 split at h
 ·rename_i k' s' cs' hr
  split at h
  ·rename_i hend
   split at h
   ·rename_i y' ids hfin
    split at h
    ·rename_i hd
     cases h
     refine seg G hr hc λ a w S b cs=> ?_
     have hs:=F9 (P:=P) b a cs w 200 k'
     unfold Bww at hend
     split at hend
     ·rename_i hk
      rw[hk]at hs
      exact⟨a,w,[],E s' ids hfin hd a w S,hs.trans (.one step_end)⟩
     ·rename_i k1 hk
      rw[hk]at hs
      exact⟨a,w,.code .ret::k1,E s' ids hfin hd a w S,hs.trans (.one step_ret)⟩
     ·cases hend
    ·cases h
   ·cases h
  ·cases h
 ·cases h
theorem Calls.of_goes {f:FuncId} {fn:Func} {c:Code} {args:Array Value} {w:World} {R:Ending->World->Prop} (hf:P.funcs[f]?=some fn) (hb:fn.body=some c)
 (h:∀(b:Frame) (cs:List Frame),∃a' w' todo,(a'.defers=[]/\∃v,(results fn a'.tmps).run P w'= .ok v w'/\R (.returned v) w')/\
  Steps P (lone (b.at {tmps:=args++Array.replicate (fn.ntmps-args.size) undef,defers:=[]} [.code c]) cs w) (lone {b.at a' todo with mode:= .returning} cs w')):
 Calls P f args w R:=by
 intro cs
 let b:Frame:={(default:Frame)with fn:=f,kind:= .normal}
 have henter:Frame.enter P f args .normal=b.at {tmps:=args++Array.replicate (fn.ntmps-args.size) undef,defers:=[]} [.code c]:=by
  simp[Frame.enter,Frame.at,hf,hb,b]
 obtain⟨a',w',todo,⟨hd,v,hr,hR⟩,hs⟩:=h b cs
 rw[<-henter]at hs
 exact⟨.returned v,w',_,hR,hs,rfl,rfl,hd,rfl,fn,hf,hr⟩
theorem Apg {ok:Nat->Prop} {w:World}:∀(ts:List Ty) (os:List TypeId) (x:HL V.E ts) (vs:List Value) (own:List Nat),Oh V.T ok w os ts x vs own->vs.length=ts.length
 |[],_,_,vs,own,h=>by obtain⟨rfl,_⟩:=h;rfl
 |t::ts,os,(x,r),vs,own,h=>by
  obtain⟨v,vr,o1,o2,rfl,_,_,h⟩:=h
  simp[Apg ts _ r vr o2 h]
theorem Th:∀(ts:List Ty) (os:List TypeId) (x:HL V.E ts) (i:Nat) (id:Nat),id<On i->Ae id (B2 V i os ts x)=none
 |[],os,x,i,id,h=>by cases os with
  |nil=>rfl
  |cons o os=>cases o<;>rfl
 |t::ts,[],(x,r),i,id,h=>by
  have e:B2 V i [] (t::ts) (x,r)=B2 V (i+1) [] ts r:=by cases t<;>rfl
  rw[e];exact Th ts [] r (i+1) id (by unfold On at*;omega)
 |t::ts,0::os,(x,r),i,id,h=>by
  have e:B2 V i (0::os) (t::ts) (x,r)=B2 V (i+1) os ts r:=by cases t<;>rfl
  rw[e];exact Th ts os r (i+1) id (by unfold On at*;omega)
 |t::ts,(o+1)::os,(x,r),i,id,h=>by
  have IH:=Th ts os r (i+1) id (by unfold On at*;omega)
  cases t with
  |sl t=>simp only[B2,Ae];rw[Fi (by omega)];exact IH
  |_=>exact IH
structure Bv6 (w:World) (okp:Nat->Prop) (i:Nat) (os:List TypeId) (ts:List Ty) (x:HL V.E ts) (vs:List Value) (ow:List Nat) (β:Nat->BI):Prop where
 own:∀b,b∈ow↔∃id,b∈(β id).own
 low:∀id,id<On i->(β id).own=[]
 nodup:ow.Nodup->∀id,(β id).own.Nodup
 apart:ow.Nodup->∀id id' b,b∈(β id).own->b∈(β id').own->id=id'
 nones:∀id,Ae id (B2 V i os ts x)=none->(β id).own=[]
 boxes:∀id b,Ae id (B2 V i os ts x)=some b->∃e t xs,b= .arr e t xs 0 false/\(β id).own=(β id).hdr.ownBlock.toList/\Lh V.T okp w e t xs (β id).hdr
 slots:∀k y,Ae k (J6 V i os ts x)=some (some y)->i<=k/\∃v,vs[k-i]?=some v/\∃c,y= .cv c/\
  ((∃id,c= .one (.ar id 0)/\v.oneCell'=true/\v=(β id).hdr/\∃b,Ae id (B2 V i os ts x)=some b)\/(∀bx β',Ar V.T bx β' okp w c v))
theorem Bra (HT:V.T.Ok) {okp:Nat->Prop} {w:World}:∀(ts:List Ty) (os:List TypeId) (x:HL V.E ts) (vs:List Value) (own:List Nat) (i:Nat),Oh V.T okp w os ts x vs own->∃β,Bv6 (V:=V) w okp i os ts x vs own β
 |[],os,x,vs,own,i,h=>by
  obtain⟨rfl,rfl⟩:=h
  refine⟨λ _=>⟨0,undef,[],[]⟩,⟨by simp,by simp,by simp,by simp,by simp, ?_, ?_⟩⟩
  ·intro id b hb
   have:B2 V i os [] x=[]:=by cases os with
    |nil=>rfl
    |cons o os=>cases o<;>rfl
   rw[this]at hb;simp[Ae]at hb
  ·intro k y hk
   have:J6 V i os [] x=[]:=by cases os with
    |nil=>rfl
    |cons o os=>cases o<;>rfl
   rw[this]at hk;simp[Ae]at hk
 |t::ts,os,(x,r),vs,own,i,h=>by
  obtain⟨v,vr,o1,o2,rfl,rfl,harg,hrest⟩:=h
  obtain⟨β,E⟩:=Bra HT ts os.tail r vr o2 (i+1) hrest
  -- data
  have data:os.headD 0=0->J6 V i os (t::ts) (x,r)=(i,(B7 (Ux t) (t.toL V.T x)).map SV.cv)::J6 V (i+1) os.tail ts r->B2 V i os (t::ts) (x,r)=B2 V (i+1) os.tail ts r->
   ∃β,Bv6 (V:=V) w okp i os (t::ts) (x,r) (v::vr) (o1++o2) β:=by
   intro h0 hs hb
   rw[h0]at harg
   cases harg with
   |data hd=>
    refine⟨β,⟨by simpa using E.own,λ id hid=>E.low id (by unfold On at*;omega),by simpa using E.nodup,by simpa using E.apart,by rw[hb];exact E.nones,by rw[hb];exact E.boxes,λ k y hk=> ?_⟩⟩
    rw[hs]at hk
    unfold Ae at hk
    split at hk
    ·rename_i hik
     have:=Ah hik;subst this
     simp only[Option.some.injEq]at hk
     cases hl:B7 (Ux t) (t.toL V.T x)with
     |none=>rw[hl]at hk;cases hk
     |some c=>
      rw[hl]at hk
      simp only[Option.map_some,Option.some.injEq]at hk
      subst hk
      refine⟨Nat.le_refl _,v,by simp,c,rfl,.inr λ bx β'=> ?_⟩
      unfold Bsx at hd
      unfold B7 at hl
      split at hl
      ·rename_i hn
       cases hl
       rw[if_pos hn]at hd
       obtain⟨cs,rfl,hd⟩:=hd
       exact⟨cs,rfl,(T0 HT t x _).2 hd⟩
      ·rename_i l hn hll
       cases hl
       rw[if_neg (by simp[hn])]at hd
       have:=(T0 HT (bx:=bx) (β:=β') t x _).2 hd
       rw[hll]at this
       cases this with
       |cons q1 q2=>exact q1
      ·cases hl
    ·obtain⟨h1,v',h2,c,h3,h4⟩:=E.slots k y hk
     refine⟨by omega,v', ?_,c,h3,by rw[hb];exact h4⟩
     rw[show k-i=(k-(i+1))+1 by omega];simpa using h2
  match os,t,x,harg,data with
  |[],t,x,harg,data=>exact data rfl (by cases t<;>rfl) (by cases t<;>rfl)
  |0::os,t,x,harg,data=>exact data rfl (by cases t<;>rfl) (by cases t<;>rfl)
  |(o+1)::os,t,x,harg,_=>
   simp only[List.headD_cons]at harg
   cases harg with
   |own hA=>
    rename_i t xs
    have hlow:=E.low (On i) (by unfold On;omega)
    have hb0:Ae (On i) (B2 V (i+1) os ts r)=none:=Th ts os r (i+1) _ (by unfold On;omega)
    refine⟨upd β (On i) ⟨0,v,v.ownBlock.toList,[]⟩,⟨λ b=> ?_,λ id hid=> ?_,λ hnd id=> ?_,λ hnd id id' b h1 h2=> ?_,λ id hid=> ?_,λ id b hid=> ?_,λ k y hk=> ?_⟩⟩
    ·rw[List.mem_append,E.own]
     constructor
     ·rintro(h|⟨id,h⟩)
      ·exact⟨On i,by rw[A6];exact h⟩
      ·refine⟨id, ?_⟩
       rw[Di _ _ (λ e=>by rw[e,hlow]at h;simp at h)];exact h
     ·rintro⟨id,h⟩
      by_cases e:id=On i
      ·subst e;rw[A6]at h;exact .inl h
      ·rw[Di _ _ e]at h;exact .inr ⟨id,h⟩
    ·rw[Di _ _ (by omega)];exact E.low id (by unfold On at*;omega)
    ·have hnd:=List.nodup_append.1 hnd
     by_cases e:id=On i
     ·subst e;rw[A6];exact hnd.1
     ·rw[Di _ _ e];exact E.nodup hnd.2.1 id
    ·have hnd:=List.nodup_append.1 hnd
     by_cases e:id=On i<;>by_cases e':id'=On i
     ·rw[e,e']
     ·subst e;rw[A6]at h1;rw[Di _ _ e']at h2
      exact(hnd.2.2 b h1 b ((E.own b).2 ⟨id',h2⟩) rfl).elim
     ·subst e';rw[A6]at h2;rw[Di _ _ e]at h1
      exact(hnd.2.2 b h2 b ((E.own b).2 ⟨id,h1⟩) rfl).elim
     ·rw[Di _ _ e]at h1;rw[Di _ _ e']at h2
      exact E.apart hnd.2.1 id id' b h1 h2
    ·simp only[B2]at hid
     unfold Ae at hid
     split at hid
     ·cases hid
     ·rename_i hne
      have e:id≠On i:=by rintro rfl;simp at hne
      rw[Di _ _ e];exact E.nones id hid
    ·simp only[B2]at hid
     unfold Ae at hid
     split at hid
     ·rename_i he
      have:=Ah he;subst this
      cases hid
      refine⟨_,_,_,rfl, ?_, ?_⟩
      ·rw[A6]
      ·rw[A6];exact hA
     ·rename_i hne
      have e:id≠On i:=by rintro rfl;simp at hne
      rw[Di _ _ e];exact E.boxes id b hid
    ·simp only[J6]at hk
     unfold Ae at hk
     split at hk
     ·rename_i hik
      have:=Ah hik;subst this
      cases hk
      refine⟨Nat.le_refl _,v,by simp,_,rfl,.inl ⟨On i,rfl, ?_,by rw[A6], ?_⟩⟩
      ·obtain⟨css,⟨_,ho⟩,_⟩:=hA
       rcases ho with⟨rfl,_⟩|⟨g,cap,cur,rfl,_⟩<;>rfl
      ·exact⟨_,by simp only[B2,Ae];simp;rfl⟩
     ·obtain⟨h1,v',h2,c,h3,h4⟩:=E.slots k y hk
      refine⟨by omega,v', ?_,c,h3, ?_⟩
      ·rw[show k-i=(k-(i+1))+1 by omega];simpa using h2
      ·rcases h4 with⟨id,q1,q2,q3,b,q4⟩|h4
       ·have e:id≠On i:=by rintro rfl;have q4':Ae (On i) (B2 V (i+1) os ts r)=some b:=q4;rw[hb0]at q4';cases q4'
        refine .inl ⟨id,q1,q2,by rw[Di _ _ e];exact q3,b, ?_⟩
        simp only[B2,Ae];rw[Fi (λ e'=>e e'.symm)];exact q4
       ·exact .inr h4
theorem Bmn {C:Ctx} {tmps:Array Value} {k:Nat} (h:k<1000000):Uz C tmps k=tmps.getD k undef:=by
 unfold Uz;rw[Nat.blt_eq.mpr h]
theorem Bsa (G:Bs V P) (ht0:V.t0=false) {f:FuncId} {fn:Func} {c:Code} {S:FS V.E} (hf:P.funcs[f]?=some fn) (hb:fn.body=some c) (hn:(fn.name== "runtime.NumGoroutine")=false)
 (hlen:(Nat.ble S.args.length fn.ntmps&&Nat.ble S.args.length 1000000)=true)
 (h:∀x y,S.f x=some y->∀(C:Ctx) (F:Act->World->Prop),Bqx V C F fn.results.toList S.resOwn S.res y->Bv V P C F [.code c] (As5 V fn.ntmps S x)):E1 V P f S:=by
 refine⟨⟨fn,hf,by rw[hb];rfl,hn⟩, ?_⟩
 intro x y hxy okp w vs own hargs hnd hown hokp
 obtain⟨β,E⟩:=Bra (V:=V) (w:=w) (okp:=okp) G.tab S.args S.argOwn x vs own 0 hargs
 let C:Ctx:=⟨P,okp,w.heap.size,λ b=>b∈own,w,undef,[]⟩
 have hlen:S.args.length<=fn.ntmps/\S.args.length<=1000000:=by simpa using hlen
 have hvs:=Apg _ _ _ _ _ hargs
 have hok:∀b,okp b->A2 C β w b:=by
  intro b hb
  refine⟨hokp b hb,.inl hb,λ id hid=> ?_⟩
  have:=(E.own b).2 ⟨id,hid⟩
  exact(hown b this).2 hb
 have L:Dd okp w (A2 C β w) w:=⟨hok,λ _ _=>rfl⟩
 have M:Bk V.T C (B2 V 0 S.argOwn S.args x) β w:=by
  refine⟨λ id b hb=> ?_,E.nones,E.nodup hnd,E.apart hnd,λ id b hb=> ?_,⟨rfl,rfl,rfl,Nat.le_refl _,λ _ _ _=>rfl⟩⟩
  ·obtain⟨e,t,xs,rfl,h1,h2⟩:=E.boxes id b hb
   exact⟨h1,h2.later L λ _ _=>rfl⟩
  ·have:=(E.own b).2 ⟨id,hb⟩
   exact⟨(hown b this).1,.inr this⟩
 have Sm:Sim V C (As5 V fn.ntmps S x) {tmps:=vs.toArray++Array.replicate (fn.ntmps-vs.toArray.size) undef,defers:=[]} w:=by
  refine⟨β, ?_,⟨rfl,λ h=>by rw[ht0]at h;cases h⟩,λ k y hk=> ?_,M⟩
  ·simp[As5,hvs];omega
  ·have hk':Ae k (J6 V 0 S.argOwn S.args x)=some (some y):=by
    unfold slot at hk
    split at hk
    ·rename_i z hz;subst hk;exact hz
    ·cases hk
   obtain⟨_,v,hv,c,rfl,hc⟩:=E.slots k y hk'
   have hv':vs[k]?=some v:=by simpa using hv
   have hget:Uz C (vs.toArray++Array.replicate (fn.ntmps-vs.toArray.size) undef) k=v:=by
    have hlt:k<vs.length:=(List.getElem?_eq_some_iff.1 hv').1
    rw[Bmn (by omega),Array.getD_eq_getD_getElem?,Array.getElem?_append_left (by simpa using hlt)]
    simp[hv']
   show Az V.T _ β (A2 C β w) w (.cv c) _
   rw[hget]
   rcases hc with⟨id,rfl,h1,h2,b,h3⟩|hc
   ·obtain⟨e,t,xs,rfl,_,_⟩:=E.boxes id b h3
    show Ad V.T (B2 V 0 S.argOwn S.args x) β (A2 C β w) w (.ar id 0) v
    simp only[Ad,h3]
    exact⟨h1,Nat.le_refl _,λ _=>h2⟩
   ·have:=hc (B2 V 0 S.argOwn S.args x) β
    show Ar V.T (B2 V 0 S.argOwn S.args x) β (A2 C β w) w c v
    cases c with
    |one l=>exact Ad.agree L l v (λ id hid=>⟨.inl rfl,rfl⟩) this
    |ag ls=>
     obtain⟨cs,rfl,this⟩:=this
     exact⟨cs,rfl,this.imp λ l v k=>Ad.agree L l v (λ id hid=>⟨.inl rfl,rfl⟩) k⟩
 refine Calls.of_goes hf hb λ b cs=> ?_
 refine h x y hxy C _ ?_ _ _ Sm b cs
 intro s ids hfin hdis a w' S'
 obtain⟨β',S'⟩:=S'
 have M':=S'.mem
 have hmem:∀b,b∈(ids.flatMap λ id=>(β' id).own)↔∃id∈ids,b∈(β' id).own:=λ b=>List.mem_flatMap
 have L':Dd (A2 C β' w') w' (λ b=>b<w'.heap.size/\(okp b\/w.heap.size<=b\/b∈own)/\b∉(ids.flatMap λ id=>(β' id).own)) w':=
  ⟨λ b hb=>⟨hb.1,hb.2.1,λ hm=>by obtain⟨id,_,hm⟩:=(hmem b).1 hm;exact hb.2.2 id hm⟩,λ _ _=>rfl⟩
 obtain⟨rs,h1,h2⟩:=Bjj G.tab G.types S' L' _ _ _ _ _ hfin
 refine⟨S'.defers.1,Ape rs, ?_,rs,_,rfl, ?_, ?_, ?_,h2⟩
 ·have hm:=h1
  unfold results
  rw[Array.mapM_eq_mapM_toList]
  simp only[Sem.run_bind,Sem.run_map]
  refine(congrArg (λ r=>Result.andThen (Result.andThen r _) _) hm).trans ?_
  simp only[Result.andThen_ok,Sem.run_pure]
  congr 1
  match rs with
  |[]=>rfl
  |[v]=>rfl
  |v::v'::r=>rfl
 ·exact⟨M'.kept.os,M'.kept.tape,M'.kept.output,M'.kept.size,λ b hb hn=>M'.kept.heap b hb hn⟩
 ·exact Ajh (A39 hdis) (λ id _=>M'.nodup id) (λ id _ id' _ b h1 h2=>M'.apart id id' b h1 h2)
 ·intro b hb
  obtain⟨id,_,hb⟩:=(hmem b).1 hb
  obtain⟨h1,h2⟩:=M'.mine id b hb
  exact⟨h1,h2⟩
end
end Go.Ab
