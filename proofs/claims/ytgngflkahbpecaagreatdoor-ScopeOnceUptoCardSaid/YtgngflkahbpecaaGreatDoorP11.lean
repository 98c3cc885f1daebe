/- Tables of structs, put together of their fields. Short forms of the walks' steps. From what a row, with a condition or without, and with variables listed or without, says of a call's arguments to data, and from a function that meets its telling to the row's form. Conditions: none beyond those that each theorem names. -/
import Derived.Test.YtgngflkahbpecaaGreatDoorP10
import Derived.JoinedOf
import Derived.SizedLaws
import Derived.Carry
import Derived.ChangeSame
import Derived.LaidMore
import Derived.LaidHandle
import Derived.Handed
import Derived.Stop.Joined
import Derived.Deep.DeepHandedRow
set_option linter.unusedSimpArgs false
set_option linter.unusedVariables false
namespace Go.Ab
open Go
section
variable {E:Nat->Type}
def Prs (E:Nat->Type) (α:Type):=List (Av E)->Option (α×List (Av E))
def Prs.Spec {α:Type} (p:Prs E α) (f:α->List (Av E)):Prop:=∀ls x r,p ls=some (x,r)->∃l,ls=l++r/\Coe l (f x)
theorem Coe.append:∀{a b c d:List (Av E)},Coe a b->Coe c d->Coe (a++c) (b++d)
 |_,_,_,_,.nil,k=>k
 |_,_,_,_,.cons h t,k=> .cons h (t.append k)
def Aam (k:IntKind):Prs E Int
 | .int k' n::r=>if k'=k then some (n,r)else none
 |_=>none
theorem Cu (k:IntKind):Prs.Spec (Aam (E:=E) k) (λ n=>[.int k n]):=by
 intro ls x r h
 unfold Aam at h
 split at h
 ·split at h
  ·rename_i hk;subst hk;cases h;exact⟨[_],rfl,.cons (.inl rfl) .nil⟩
  ·cases h
 ·cases h
def Bcv:Prs E Bool
 | .bool b::r=>some (b,r)
 |_=>none
theorem Ae8:Prs.Spec (Bcv (E:=E)) (λ b=>[.bool b]):=by
 intro ls x r h
 unfold Bcv at h
 split at h
 ·cases h;exact⟨[_],rfl,.cons (.inl rfl) .nil⟩
 ·cases h
def Awd:Prs E (List UInt8)
 | .str b::r=>some (b,r)
 |_=>none
theorem Ic:Prs.Spec (Awd (E:=E)) (λ b=>[.str b]):=by
 intro ls x r h
 unfold Awd at h
 split at h
 ·cases h;exact⟨[_],rfl,.cons (.inl rfl) .nil⟩
 ·cases h
def pSl (t:Ty) (st:Bool):Prs E (List (t.den E))
 | .sl t' st' xs::r=>if h:t'=t then(if st'|| !st then some (Wf h xs,r)else none)else none
 |_=>none
theorem Ng (t:Ty) (st:Bool):Prs.Spec (pSl (E:=E) t st) (λ xs=>[.sl t st xs]):=by
 intro ls x r h
 unfold pSl at h
 split at h
 ·rename_i t' st' xs r'
  split at h
  ·rename_i ht
   subst ht
   split at h
   ·rename_i hst
    cases h
    refine⟨[_],rfl,.cons (.inr ⟨_,st',st,xs,rfl,rfl,λ hs=> .inl ?_⟩) .nil⟩
    subst hs
    simpa using hst
   ·cases h
  ·cases h
 ·cases h
def Eo {α β:Type} (p:Prs E α) (q:Prs E β):Prs E (α×β):=λ ls=>
 match p ls with
 |some (x,r)=>match q r with
  |some (y,r')=>some ((x,y),r')
  |none=>none
 |none=>none
theorem A1 {α β:Type} {p:Prs E α} {q:Prs E β} {f:α->List (Av E)} {g:β->List (Av E)} (hp:p.Spec f) (hq:q.Spec g):(Eo p q).Spec (λ x=>f x.1++g x.2):=by
 intro ls x r h
 unfold Eo at h
 split at h
 ·rename_i y r1 h1
  split at h
  ·rename_i z r2 h2
   cases h
   obtain⟨l1,rfl,c1⟩:=hp _ _ _ h1
   obtain⟨l2,rfl,c2⟩:=hq _ _ _ h2
   exact⟨l1++l2,by simp,c1.append c2⟩
  ·cases h
 ·cases h
def Add {α β:Type} (p:Prs E α) (m:α->β):Prs E β:=λ ls=>
 match p ls with
 |some (x,r)=>some (m x,r)
 |none=>none
theorem C5 {α β:Type} {p:Prs E α} {f:α->List (Av E)} (hp:p.Spec f) (m:α->β) (g:β->List (Av E)) (h:∀x,g (m x)=f x):(Add p m).Spec g:=by
 intro ls x r hx
 unfold Add at hx
 split at hx
 ·rename_i y r1 h1
  cases hx
  obtain⟨l,e,c⟩:=hp _ _ _ h1
  exact⟨l,e,by rw[h];exact c⟩
 ·cases hx
def Abt {α:Type} (p:Prs E α) (ls:List (Av E)):Option α:=
 match p ls with
 |some (x,[])=>some x
 |_=>none
theorem D2 {α:Type} {p:Prs E α} {f:α->List (Av E)} (hp:p.Spec f) {ls:List (Av E)} {x:α} (h:Abt p ls=some x):Coe ls (f x):=by
 unfold Abt at h
 split at h
 ·rename_i y h1
  cases h
  obtain⟨l,e,c⟩:=hp _ _ _ h1
  rw[e];simpa using c
 ·cases h
end
def Cal (T:Tab) (ti:TypeId->Option (TI T.E)) (eqs:TypeId->Bool) (fs:List (FuncId×FS T.E)) (ws:List (FuncId×FW T.E)) (cs:List (FuncId×FC T.E)) (t0:Bool):Env:=⟨T,ti,eqs,λ f=>Ae f fs,λ f=>Ae f ws,λ f=>Ae f cs,λ _=>none,t0,0,λ _ _=>none⟩
def Cap (T:Tab) (ti:TypeId->Option (TI T.E)) (eqs:TypeId->Bool) (fs:List (FuncId×FS T.E)) (ws:List (FuncId×FW T.E)) (t0:Bool):Env:=Cal T ti eqs fs ws [] t0
def Az3 (T:Tab) (ti:TypeId->Option (TI T.E)) (eqs:TypeId->Bool) (fs:List (FuncId×FS T.E)):Env:=Cap T ti eqs fs [] false
structure Bqm (T:Tab) (ti:TypeId->Option (TI T.E)) (eqs:TypeId->Bool) (P:Program):Prop where
 tab:T.Ok
 types:Auc (Az3 T ti eqs []) P
 eqs:Bxo (Az3 T ti eqs []) P
 mixed:P.follows .mixedOrders=true
def Ue (T:Tab) (ti:TypeId->Option (TI T.E)) (eqs:TypeId->Bool) (P:Program) (f:FuncId) (S:FS T.E):Prop:=E1 (Az3 T ti eqs []) P f S
def Al8 (T:Tab) (ti:TypeId->Option (TI T.E)) (eqs:TypeId->Bool) (P:Program):List (FuncId×FS T.E)->Prop
 |[]=>True
 |(f,S)::r=>Ue T ti eqs P f S/\Al8 T ti eqs P r
theorem Aro {T:Tab} {ti:TypeId->Option (TI T.E)} {eqs:TypeId->Bool} {P:Program}:∀{l:List (FuncId×FS T.E)},Al8 T ti eqs P l->∀{f S},Ae f l=some S->Ue T ti eqs P f S
 |[],_,_,_,h=>by simp[Ae]at h
 |(g,S')::r,hA,f,S,h=>by
  unfold Ae at h
  split at h
  ·rename_i e
   cases h
   have:=Ah e
   subst this
   exact hA.1
  ·exact Aro hA.2 h
def Bwu (T:Tab) (ti:TypeId->Option (TI T.E)) (eqs:TypeId->Bool) (P:Program) (f:FuncId) (S:FW T.E):Prop:=Bun (Az3 T ti eqs []) P f S
def Apu (T:Tab) (ti:TypeId->Option (TI T.E)) (eqs:TypeId->Bool) (P:Program):List (FuncId×FW T.E)->Prop
 |[]=>True
 |(f,S)::r=>Bwu T ti eqs P f S/\Apu T ti eqs P r
theorem Axc {T:Tab} {ti:TypeId->Option (TI T.E)} {eqs:TypeId->Bool} {P:Program}:∀{l:List (FuncId×FW T.E)},Apu T ti eqs P l->∀{f S},Ae f l=some S->Bwu T ti eqs P f S
 |[],_,_,_,h=>by simp[Ae]at h
 |(g,S')::r,hA,f,S,h=>by
  unfold Ae at h
  split at h
  ·rename_i e
   cases h
   have:=Ah e
   subst this
   exact hA.1
  ·exact Axc hA.2 h
def Bw0 (T:Tab) (ti:TypeId->Option (TI T.E)) (eqs:TypeId->Bool) (P:Program) (f:FuncId) (S:FC T.E):Prop:=Blq (Az3 T ti eqs []) P f S
def Beo (T:Tab) (ti:TypeId->Option (TI T.E)) (eqs:TypeId->Bool) (P:Program):List (FuncId×FC T.E)->Prop
 |[]=>True
 |(f,S)::r=>Bw0 T ti eqs P f S/\Beo T ti eqs P r
theorem Ay1 {T:Tab} {ti:TypeId->Option (TI T.E)} {eqs:TypeId->Bool} {P:Program}:∀{l:List (FuncId×FC T.E)},Beo T ti eqs P l->∀{f S},Ae f l=some S->Bw0 T ti eqs P f S
 |[],_,_,_,h=>by simp[Ae]at h
 |(g,S')::r,hA,f,S,h=>by
  unfold Ae at h
  split at h
  ·rename_i e
   cases h
   have:=Ah e
   subst this
   exact hA.1
  ·exact Ay1 hA.2 h
theorem B90 {T:Tab} {ti:TypeId->Option (TI T.E)} {eqs:TypeId->Bool} {fs:List (FuncId×FS T.E)} {ws:List (FuncId×FW T.E)} {cs:List (FuncId×FC T.E)} {t0:Bool}:∀(l m:List (Av T.E)),eqL (Cal T ti eqs fs ws cs t0) l m=eqL (Az3 T ti eqs []) l m:=by
 intro l
 induction l with
 |nil=>intro m;cases m<;>simp[eqL]
 |cons a l ih=>
  intro m
  cases m with
  |nil=>cases a<;>simp[eqL]
  |cons b m=>cases a<;>cases b<;>simp[eqL,ih]
theorem B1r {T:Tab} {ti:TypeId->Option (TI T.E)} {eqs:TypeId->Bool} {P:Program} {fs:List (FuncId×FS T.E)} {ws:List (FuncId×FW T.E)} {cs:List (FuncId×FC T.E)} {t0:Bool} (B:Bqm T ti eqs P) (h:Al8 T ti eqs P fs) (hw:Apu T ti eqs P ws) (hc:Beo T ti eqs P cs):
 Bs (Cal T ti eqs fs ws cs t0) P:=
 ⟨B.tab,λ t i hi=>by obtain⟨info,d,z,I⟩:=B.types t i hi;exact⟨info,d,z,I.inf,I.under,I.kind,I.size,I.bytes,I.ty,I.pos,I.bpos,I.zero,I.zeros,I.zcells,I.zagg⟩,
  λ t ht i hi bx β ok w' l m b c d hl h=>B.eqs t ht i hi bx β ok w' l m b c d hl (by rw[<-h];exact(B90 l m).symm),⟨λ _ _ hS=>Aro h hS,λ _ _ hS=>Axc hw hS,λ _ _ hS=>Ay1 hc hS,(λ _ _ hS=>by cases hS),λ _ _ _ hS=>by cases hS⟩,B.mixed⟩
theorem B4t {T:Tab} {ti:TypeId->Option (TI T.E)} {eqs:TypeId->Bool} {P:Program} {fs:List (FuncId×FS T.E)} {ws:List (FuncId×FW T.E)} {t0:Bool} (B:Bqm T ti eqs P) (h:Al8 T ti eqs P fs) (hw:Apu T ti eqs P ws):
 Bs (Cap T ti eqs fs ws t0) P:=B1r B h hw (cs:=[]) trivial
section
variable {V:Env} {P:Program} {C:Ctx} {F:Act->World->Prop}
theorem tt:True:=trivial
theorem rT:true=true:=rfl
theorem rF:false=false:=rfl
theorem sj {α:Type} {a b:α} (h:some a=some b):a=b:=Option.some.inj h
theorem si {α:Type} {a b:α} (h:some a=some b):b=a:=(Option.some.inj h).symm
theorem ns2 {α:Type} {a b:Prop} [Decidable a] [Decidable b] {r:Option α} {y:α} (h:need a (need b r)=some y):a/\b/\r=some y:=by
 obtain⟨h1,h⟩:=A8 h
 exact⟨h1,A8 h⟩
theorem ns3 {α:Type} {a b c:Prop} [Decidable a] [Decidable b] [Decidable c] {r:Option α} {y:α} (h:need a (need b (need c r))=some y):a/\b/\c/\r=some y:=by
 obtain⟨h1,h⟩:=A8 h
 exact⟨h1,ns2 h⟩
theorem ns4 {α:Type} {a b c d:Prop} [Decidable a] [Decidable b] [Decidable c] [Decidable d] {r:Option α} {y:α} (h:need a (need b (need c (need d r)))=some y):a/\b/\c/\d/\r=some y:=by
 obtain⟨h1,h⟩:=A8 h
 exact⟨h1,ns3 h⟩
theorem ca {α:Type} {o:Option α} {y:α} (h:o=some y):Option.map (λ r=>(r,())) o=some (y,()):=by rw[h];rfl
theorem cb {α β:Type} {o:Option (α×β)} {y:α×β} (h:o=some y):Option.map (λ r=>(r.1,r.2,())) o=some (y.1,y.2,()):=by rw[h];rfl
abbrev FT:=Act->World->Prop
def AN:Nat->Prop->Prop->Prop
 |0,_,q=>q
 |n+1,p,q=>p/\AN n p q
theorem ar:∀(n:Nat) {p q:Prop},p->q->AN n p q
 |0,_,_,_,k=>k
 |n+1,_,_,h,k=>⟨h,ar n h k⟩
theorem q1 {p0 k:Prop} (h0:p0) (h:k):p0/\k:=⟨h0,h⟩
theorem q2 {p0 p1 k:Prop} (h0:p0) (h1:p1) (h:k):p0/\p1/\k:=⟨h0,h1,h⟩
theorem q3 {p0 p1 p2 k:Prop} (h0:p0) (h1:p1) (h2:p2) (h:k):p0/\p1/\p2/\k:=⟨h0,h1,h2,h⟩
theorem q4 {p0 p1 p2 p3 k:Prop} (h0:p0) (h1:p1) (h2:p2) (h3:p3) (h:k):p0/\p1/\p2/\p3/\k:=⟨h0,h1,h2,h3,h⟩
theorem q5 {p0 p1 p2 p3 p4 k:Prop} (h0:p0) (h1:p1) (h2:p2) (h3:p3) (h4:p4) (h:k):p0/\p1/\p2/\p3/\p4/\k:=⟨h0,h1,h2,h3,h4,h⟩
theorem q6 {p0 p1 p2 p3 p4 p5 k:Prop} (h0:p0) (h1:p1) (h2:p2) (h3:p3) (h4:p4) (h5:p5) (h:k):p0/\p1/\p2/\p3/\p4/\p5/\k:=⟨h0,h1,h2,h3,h4,h5,h⟩
theorem e1 {p0:Prop} (h0:p0):p0/\True:=⟨h0,trivial⟩
theorem e2 {p0 p1:Prop} (h0:p0) (h1:p1):p0/\p1/\True:=⟨h0,h1,trivial⟩
theorem e3 {p0 p1 p2:Prop} (h0:p0) (h1:p1) (h2:p2):p0/\p1/\p2/\True:=⟨h0,h1,h2,trivial⟩
theorem e4 {p0 p1 p2 p3:Prop} (h0:p0) (h1:p1) (h2:p2) (h3:p3):p0/\p1/\p2/\p3/\True:=⟨h0,h1,h2,h3,trivial⟩
theorem e5 {p0 p1 p2 p3 p4:Prop} (h0:p0) (h1:p1) (h2:p2) (h3:p3) (h4:p4):p0/\p1/\p2/\p3/\p4/\True:=⟨h0,h1,h2,h3,h4,trivial⟩
theorem e6 {p0 p1 p2 p3 p4 p5:Prop} (h0:p0) (h1:p1) (h2:p2) (h3:p3) (h4:p4) (h5:p5):p0/\p1/\p2/\p3/\p4/\p5/\True:=⟨h0,h1,h2,h3,h4,h5,trivial⟩
@[reducible] def r0 {V:Env}:Cmd V:= .reg []
@[reducible] def bt {V:Env}:Cmd V:= .br true
@[reducible] def bf {V:Env}:Cmd V:= .br false
@[reducible] def au {V:Env}:Cmd V:= .auto
@[reducible] def en {V:Env}:Cmd V:= .enter
def bits {E:Nat->Type} (b:Bool) (l:List Nat):List (Nat×Orc E):=l.map λ i=>(i,.bit b)
@[reducible] def rf {V:Env} (f:List Nat):Cmd V:= .reg (bits false f)
@[reducible] def ru {V:Env} (t:List Nat):Cmd V:= .reg (bits true t)
@[reducible] def rb {V:Env} (f t:List Nat):Cmd V:= .reg (bits false f++bits true t)
@[reducible] def rg {V:Env} (f t:List Nat) (o:A11 V):Cmd V:= .reg (bits false f++bits true t++o)
@[reducible] def rc {V:Env} (i:Nat) (o:Orc V.E):Cmd V:= .reg [(i,o)]
@[reducible] def rs {E:Nat->Type} (t:Ty) (y:t.den E):Orc E:= .res ⟨[t],(y,())⟩
@[reducible] def rt {E:Nat->Type} (t u:Ty) (y:t.den E×u.den E):Orc E:= .res ⟨[t,u],(y.1,y.2,())⟩
@[reducible] def oi {E:Nat->Type} (k:Nat) (n:Int):Nat×Option (SV E):=(k,some (.cv (.one (.int .i64 n))))
@[reducible] def og {E:Nat->Type} (k:Nat) (ls:List (Av E)):Nat×Option (SV E):=(k,some (.cv (.ag ls)))
@[reducible] def ol {E:Nat->Type} (k:Nat) (l:Av E):Nat×Option (SV E):=(k,some (.cv (.one l)))
@[reducible] def op {E:Nat->Type} (k:Nat):Nat×Option (SV E):=(k,some (.cv (.one (.ptr k 0))))
@[reducible] def os {E:Nat->Type} (k:Nat) (t:Ty) (xs:List (t.den E)):Nat×Option (SV E):=(k,some (.cv (.one (.sl t false xs))))
@[reducible] def bc {E:Nat->Type} (k:Nat) (ls:List (Av E)):Nat×Box E:=(k,.cells ls)
@[reducible] def ba {E:Nat->Type} (k e:Nat) (t:Ty) (xs:List (t.den E)):Nat×Box E:=(k,.arr e t xs 0 false)
@[reducible] def f1 {E:Nat->Type} (as:List Ty) (t:Ty) (g:HL E as->Option (t.den E)):FS E:=⟨as,[t],[],[],t.den E,g,λ r=>(r,())⟩
@[reducible] def f2 {E:Nat->Type} (as:List Ty) (t u:Ty) (g:HL E as->Option (t.den E×u.den E)):FS E:=⟨as,[t,u],[],[],t.den E×u.den E,g,λ r=>(r.1,r.2,())⟩
abbrev En (V:Env) (C:Ctx) (F:FT) (fn:Func) (S:FS V.E) (y:HL V.E S.res):Prop:=Bqx V C F fn.results.toList S.resOwn S.res y
@[reducible] def c0 (fn:Func):List Item:=[.code (fn.body.getD .skip)]
def way:Nat->Way
 |0=> .reg
 |1=> .enter
 |2=> .br false
 |3=> .br true
 |_=> .auto
def ct (l:List Nat) (k:List Item):List Item:=ctl (l.map way) k
abbrev LP (V:Env) (P:Program) (C:Ctx) (F:FT) (k:List Item) {σ ρ:Type} (S:σ->St V.E) (X:ρ->Prop) (o:σ⊕ρ):Prop:=(∀v,o= .inl v->Bv V P C F k (S v))/\∀r,o= .inr r->X r
abbrev GX (V:Env) (P:Program) (C:Ctx) (F:FT) (k:List Item) {ρ:Type} (X:ρ->St V.E) (r:ρ):Prop:=Bv V P C F k (X r)
abbrev RX {ρ:Type} (y q:ρ):Prop:=q=y
theorem lg {σ ρ:Type} {f:σ->Option (σ⊕ρ)} {k:List Item} {S:σ->St V.E} {X:ρ->Prop} (h:∀v o,f v=some o->LP V P C F k S X o->Bv V P C F k (S v)) {v:σ} {r:ρ} (hv:iter f v=some r) (hX:X r):Bv V P C F k (S v):=
 Bzi (λ v o h1 hl hr=>h v o h1 ⟨hl,λ r' e=>(hr r' e).symm▸hX⟩) v hv
def Cba (V:Env) (c:List (Cmd V)) (k:List Item) (s:St V.E):Option (List Item×St V.E×Prop):=
 match run V c k s with
 |some (k',s',cs)=>some (k',s',Fj cs)
 |none=>none
theorem sg (G:Bs V P) (c:List (Cmd V)) {k k':List Item} {s s':St V.E} {Q:Prop} (q:Q) (g:Bv V P C F k' s')
 (h:Cba V (c++[.weak [.keep (s'.slots.map (·.1)) (s'.boxes.map (·.1))]]) k s=some (k',s',Q):=by kernel_rfl):Bv V P C F k s:=by
 unfold Cba at h
 split at h
 ·rename_i k1 s1 cs hr
  cases h
  exact seg G hr q g
 ·cases h
def Ca8 (V:Env) (rs:List ResultVar) (os:List (List (TypeId×TypeId))) (ts:List Ty) (c:List (Cmd V)) (k:List Item) (s:St V.E):Option (HL V.E ts×Prop):=
 match Bu3 V rs os ts c k s with
 |some (y,cs)=>some (y,Fj cs)
 |none=>none
theorem se (G:Bs V P) {rs:List ResultVar} {os:List (List (TypeId×TypeId))} {ts:List Ty} {y:HL V.E ts} (E:Bqx V C F rs os ts y) (c:List (Cmd V)) {k:List Item} {s:St V.E} {Q:Prop} (q:Q)
 (h:Ca8 V rs os ts c k s=some (y,Q):=by kernel_rfl):Bv V P C F k s:=by
 unfold Ca8 at h
 split at h
 ·rename_i y1 cs hr
  cases h
  exact B5q G E hr q
 ·cases h
theorem mt {fn:Func} {f:FuncId} {as rs:List Ty} {ao:List TypeId} {ro:List (List (TypeId×TypeId))} {α:Type} {g:HL V.E as->Option α} {pk:α->HL V.E rs} {S:HL V.E as->St V.E} (G:Bs V P)
 (w:Bs V P->∀x C F z,Bqx V C F fn.results.toList ro rs (pk z)->g x=some z->Bv V P C F [.code (fn.body.getD .skip)] (S x))
 (h0:V.t0=false:=by kernel_rfl) (h1:P.funcs[f]?=some fn:=by kernel_rfl) (h2:fn.body=some (fn.body.getD .skip):=by kernel_rfl) (h3:(fn.name== "runtime.NumGoroutine")=false:=by kernel_rfl) (h4:(Nat.ble as.length fn.ntmps&&Nat.ble as.length 1000000)=true:=by kernel_rfl)
 (hS:∀x,As5 V fn.ntmps ⟨as,rs,ao,ro,α,g,pk⟩ x=S x:=by intro x;kernel_rfl):E1 V P f ⟨as,rs,ao,ro,α,g,pk⟩:=
 Bsa G h0 h1 h2 h3 h4 λ x y h C F E=>by
  have h:Option.map pk (g x)=some y:=h
  obtain⟨z,hz,e⟩:=Option.map_eq_some_iff.1 h
  subst e
  rw[hS]
  exact w G x C F z E hz
theorem m0 {fn:Func} {f:FuncId} {S:FS V.E} (hn:∀x,S.f x=none) (h1:P.funcs[f]?=some fn:=by kernel_rfl) (h2:fn.body.isSome=true:=by kernel_rfl) (h3:(fn.name== "runtime.NumGoroutine")=false:=by kernel_rfl):E1 V P f S:=
 ⟨⟨fn,h1,h2,h3⟩,λ x y h=>by rw[hn x]at h;cases h⟩
end
inductive LK (E:Nat->Type) where
 |int (k:IntKind)|bool|str
 |sl (t:Ty) (b:Nat) (Q:t.den E->Prop)
structure Bpp (bk:(H:Type)->DataW H->Nat):Prop where
 str:∀H (s:List UInt8),s.length<=bk H (.lit (.string s))
 len:∀H (xs ys:List (DataW H)),xs.length<=bk H (.slice xs ys)
 elem:∀H (xs ys:List (DataW H)),∀x∈xs,bk H x<=bk H (.slice xs ys)
 part:∀H (xs:List (DataW H)),∀x∈xs,bk H x<=bk H (.agg xs)
def Shp {E:Nat->Type} (B:Nat):List (LK E)->List (Av E)->Prop
 |[],ls=>ls=[]
 | .int k::ks,ls=>∃n r,ls= .int k n::r/\k.has n/\Shp B ks r
 | .bool::ks,ls=>∃b r,ls= .bool b::r/\Shp B ks r
 | .str::ks,ls=>∃s r,ls= .str s::r/\s.length<=B/\Shp B ks r
 | .sl t b Q::ks,ls=>∃xs r,ls= .sl t false xs::r/\xs.length<=B/\(∀x∈xs,Q x)/\Shp B ks r
theorem Shp.append {E:Nat->Type} {B:Nat}:∀{ks ks':List (LK E)} {ls ls':List (Av E)},Shp B ks ls->Shp B ks' ls'->Shp B (ks++ks') (ls++ls')
 |[],_,_,_,h,h'=>by cases h;exact h'
 | .int k::ks,_,_,_,h,h'=>by obtain⟨n,r,rfl,h1,h2⟩:=h;exact⟨n,_,rfl,h1,h2.append h'⟩
 | .bool::ks,_,_,_,h,h'=>by obtain⟨n,r,rfl,h2⟩:=h;exact⟨n,_,rfl,h2.append h'⟩
 | .str::ks,_,_,_,h,h'=>by obtain⟨n,r,rfl,h1,h2⟩:=h;exact⟨n,_,rfl,h1,h2.append h'⟩
 | .sl t b Q::ks,_,_,_,h,h'=>by obtain⟨n,r,rfl,h1,h2,h3⟩:=h;exact⟨n,_,rfl,h1,h2,h3.append h'⟩
section
variable (T:Tab) (P:Program) (bk:(H:Type)->DataW H->Nat) (B:Nat)
def Bpw (ok:Nat->Prop) (w:World) (l:Av T.E) (v:Value):Prop:=∃a,Av.av T l=some a/\Bl ok w a [v]
def Apx (W:World) (b:Nat):Prop:=b<W.heap.size
def RdL (t:TypeId) (ks:List (LK T.E)):Prop:=
 ∀(H:Type) (enc:TypeId×Value->H) (W:World) (fuel:Nat) (cs:List Value) (d:DataW H) (ps:List MemPlace),DataW.trod enc P W 0 (λ _=>true) true fuel t cs=some (d,ps)->bk H d<=B->
  ∃ls,Shp B ks ls/\Ba (Bpw T (Apx W) W) ls cs
def RdE (t:TypeId) (u:Ty) (Q:u.den T.E->Prop):Prop:=
 ∀(H:Type) (enc:TypeId×Value->H) (W:World) (fuel:Nat) (cs:List Value) (d:DataW H) (ps:List MemPlace),DataW.trod enc P W 0 (λ _=>true) true fuel t cs=some (d,ps)->bk H d<=B->
  ∃x,Q x/\Bl (Apx W) W (u.av T x) cs
end
section
variable {T:Tab} {P:Program} {bk:(H:Type)->DataW H->Nat} {B:Nat} {t e:TypeId}
theorem Cas {k:IntKind} {n:Int} (h:(Lit.int k n).wf=true):k.has n:=by
 simpa [Lit.wf,Bool.and_eq_true,decide_eq_true_eq,IntKind.has]using h
theorem Ah0 {k:IntKind} (ht:P.underlying t=some (.int k)):RdL T P bk B t [.int k]:=by
 intro H enc W fuel cs d ps h _
 obtain⟨n,rfl,_,hw⟩:=DataW.trod_int ht h
 exact⟨[.int k n],⟨n,[],rfl,Cas hw,rfl⟩,.cons ⟨_,rfl,rfl⟩ .nil⟩
theorem Bds (ht:P.underlying t=some .bool):RdL T P bk B t [.bool]:=by
 intro H enc W fuel cs d ps h _
 obtain⟨b,rfl,_⟩:=DataW.trod_bool ht h
 exact⟨[.bool b],⟨b,[],rfl,rfl⟩,.cons ⟨_,rfl,rfl⟩ .nil⟩
theorem Qr (hk:Bpp bk) (ht:P.underlying t=some .string):RdL T P bk B t [.str]:=by
 intro H enc W fuel cs d ps h hz
 obtain⟨s,rfl,hx,_⟩:=DataW.trod_string ht h
 cases hx
 refine⟨[.str s.data.toList],⟨s.data.toList,[],rfl, ?_,rfl⟩,.cons ⟨_,rfl,by simp[Bl]⟩ .nil⟩
 exact Nat.le_trans (hk.str _ _) hz
theorem Bm8 {α:Type} {R:Nat->α->Prop}:∀n,(∀i,i<n->∃x,R i x)->∃xs:List α,xs.length=n/\∀i x,xs[i]?=some x->R i x
 |0,_=>⟨[],rfl,λ i x h=>by simp at h⟩
 |n+1,h=>by
  obtain⟨xs,h1,h2⟩:=Bm8 n λ i hi=>h i (by omega)
  obtain⟨x,hx⟩:=h n (by omega)
  refine⟨xs++[x],by simp[h1],λ i y hy=> ?_⟩
  by_cases hi:i<xs.length
  ·rw[List.getElem?_append_left hi]at hy;exact h2 i y hy
  ·rw[List.getElem?_append_right (by omega)]at hy
   have:i-xs.length=0:=by
    rcases Nat.eq_zero_or_pos (i-xs.length)with h|h
    ·exact h
    ·rw[List.getElem?_eq_none (by simp;omega)]at hy;cases hy
   rw[this]at hy
   simp at hy
   subst hy
   have:i=n:=by omega
   rw[this];exact hx
theorem Asq {w:World} {a:Addr} {n:Nat} {cs:List Value} (h:w.cells? 0 a n=some cs):cs.length=n/\∀j v,cs[j]?=some v->w.cell? (a.add j)=some v:=by
 unfold World.cells? at h
 rw[if_pos (Nat.zero_le _)]at h
 refine⟨by simpa using mapM_some_length h,λ j v hv=> ?_⟩
 have hj:j<n:=by
  rcases Nat.lt_or_ge j n with h'|h'
  ·exact h'
  ·rw[List.getElem?_eq_none (by have:=mapM_some_length h;simp at this;omega)]at hv;cases hv
 rw[mapM_some_get h j j (by simp[hj])]
 exact hv
theorem Bpr {w:World} {a:Addr} {v:Value} (h:w.cell? a=some v):a.block<w.heap.size:=by
 unfold World.cell? at h
 rcases Nat.lt_or_ge a.block w.heap.size with h'|h'
 ·exact h'
 ·rw[Array.getElem?_eq_none h']at h;cases h
theorem Ay6 {ad:Addr} (h:ad.spot=none) (n:Nat):ad.add n=⟨ad.block,ad.off+n,none⟩:=by
 unfold Addr.add
 split
 ·rename_i e;subst e;obtain⟨b,o,s⟩:=ad;simp at h;subst h;rfl
 ·rfl
theorem Nu (hk:Bpp bk) {u:Ty} {Q:u.den T.E->Prop} (ht:P.underlying t=some (.slice e)) (he:RdE T P bk B e u Q) (hsz:P.cellsOf e=u.sz T) (hpos:0<P.cellsOf e):RdL T P bk B t [.sl u (P.bytesOf e) Q]:=by
 intro H enc W fuel cs d ps h hz
 rcases DataW.trod_slice ht h with⟨rfl,hx⟩|⟨a,len,cap,elems,rest,n,rfl,rfl,hx,_,hlen,_,hel,hget,_,_⟩
 ·exact⟨[.sl u false []],⟨[],[],rfl,by simp,by simp,rfl⟩,.cons ⟨_,rfl,none,0,rfl,by simp,λ _=>rfl,(λ h=>by cases h),λ ad h=>by cases h⟩ .nil⟩
 ·cases hx
  have hz1:elems.length<=B:=by have:=hk.len H (elems.map (·.1)) (rest.map (·.1));rw[List.length_map]at this;omega
  have hz2:∀x∈elems.map (·.1),bk H x<=B:=λ x hx=>Nat.le_trans (hk.elem H _ _ x hx) hz
  obtain⟨xs,x1,x2⟩:=Bm8 (R:=λ i x=>Q x/\∃cs,W.cells? 0 (a.add (i*P.cellsOf e)) (P.cellsOf e)=some cs/\Bl (Apx W) W (u.av T x) cs) len (λ i hi=>by
   have:=hget i hi
   have hi':i<elems.length:=by omega
   rw[List.getElem?_eq_getElem hi']at this
   obtain⟨cs,c1,c2⟩:=Option.bind_eq_some_iff.1 this
   obtain⟨x,q1,q2⟩:=he H enc W n cs elems[i].1 elems[i].2 c2 (hz2 _ (List.mem_map.2 ⟨_,List.getElem_mem hi',rfl⟩))
   exact⟨x,q1,cs,c1,q2⟩)
  have hspot:xs≠[]->a.spot=none/\a.block<W.heap.size:=by
   intro hne
   have h0:0<xs.length:=List.length_pos_iff.2 hne
   obtain⟨_,cs,c1,_⟩:=x2 0 xs[0] (by rw[List.getElem?_eq_getElem h0])
   obtain⟨g1,g2⟩:=Asq c1
   have hc:0<cs.length:=by omega
   have:=g2 0 cs[0] (by rw[List.getElem?_eq_getElem hc])
   have e:(a.add (0*P.cellsOf e)).add 0=a:=by simp[Addr.add]
   rw[e]at this
   exact⟨World.cell?_spot this,Bpr this⟩
  refine⟨[.sl u false xs],⟨xs,[],rfl, ?_,λ x hx=> ?_,rfl⟩,.cons ⟨_,rfl,some a,cap,by rw[List.length_map,x1],by rw[List.length_map,x1];exact hlen,(λ h=>by cases h),(λ h=>by cases h),λ ad had=> ?_⟩ .nil⟩
  ·omega
  ·obtain⟨i,hi⟩:=List.getElem?_of_mem hx
   exact(x2 i x hi).1
  ·cases had
   refine⟨λ hne=>(hspot (by simpa using hne)).1,Fp.mk _ _ _ λ i y hy=> ?_⟩
   rw[List.getElem?_map]at hy
   obtain⟨x,hx,rfl⟩:=Option.map_eq_some_iff.1 hy
   obtain⟨_,cs,c1,c2⟩:=x2 i x hx
   obtain⟨g1,g2⟩:=Asq c1
   obtain⟨s1,s2⟩:=hspot (by rintro rfl;simp at hx)
   refine⟨cs,c2,by omega,s2,λ j v hv=> ?_⟩
   have:=g2 j v hv
   rw[Ay6 s1,Ay6 rfl]at this
   rw[<-hsz];exact this
inductive B2d (T:Tab) (P:Program) (bk:(H:Type)->DataW H->Nat) (B:Nat):Nat->List (Nat×TypeId×Nat)->List (LK T.E)->Nat->Prop where
 |nil {off}:B2d T P bk B off [] [] off
 |cons {off t n fs ks ks' fin}:RdL T P bk B t ks->B2d T P bk B (off+n) fs ks' fin->B2d T P bk B off ((off,t,n)::fs) (ks++ks') fin
theorem Bwn {H:Type} {enc:TypeId×Value->H} {W:World} {m:Nat} {cs:List Value}:∀{fs:List (Nat×TypeId×Nat)} {off fin:Nat} {ks:List (LK T.E)} {xs:List (DataW H×List MemPlace)},B2d T P bk B off fs ks fin->cs.length=fin->xs.length=fs.length->
 (∀(i:Nat) (f:Nat×TypeId×Nat),fs[i]?=some f->DataW.trod enc P W 0 (λ _=>true) true m f.2.1 ((cs.drop f.1).take f.2.2)=xs[i]?)->
 (∀(i:Nat) (f:Nat×TypeId×Nat) (x:DataW H×List MemPlace),fs[i]?=some f->xs[i]?=some x->bk H x.1<=B)->
 ∃ls,Shp B ks ls/\Ba (Bpw T (Apx W) W) ls (cs.drop off)
 |_,off,_,_,xs,.nil,hl,hx,_,_=>⟨[],rfl,by rw[List.drop_eq_nil_of_le (by omega)];exact .nil⟩
 |_,off,fin,_,[],.cons _ _,_,hx,_,_=>by simp at hx
 |_,off,fin,_,x::xs,.cons (t:=t) (n:=n) (fs:=fs) h2 h3,hl,hx,hg,hw=>by
  obtain⟨ls2,s2,a2⟩:=Bwn h3 hl (by simpa using hx) (λ i f' hf=>by have:=hg (i+1) f' (by simpa using hf);simpa using this) (λ i f' x' hf hx'=>hw (i+1) f' x' (by simpa using hf) (by simpa using hx'))
  obtain⟨ls1,s1,a1⟩:=h2 H enc W m _ x.1 x.2 (by have:=hg 0 (off,t,n) (by simp);simpa using this) (hw 0 (off,t,n) x (by simp) (by simp))
  refine⟨ls1++ls2,s1.append s2, ?_⟩
  have:cs.drop off=(cs.drop off).take n++cs.drop (off+n):=by
   rw[<-List.drop_drop,List.take_append_drop]
  rw[this]
  exact a1.append a2
def Blx (P:Program) (t:TypeId):Option (List (Nat×TypeId×Nat)):=match P.underlying t with
 |some (.struct fs)=>some (fs.toList.map λ f=>(f.offset,f.type,P.cellsOf f.type))
 |_=>none
theorem Jw (hk:Bpp bk) {fl:List (Nat×TypeId×Nat)} {ks:List (LK T.E)} {fin:Nat} (hf:Blx P t=some fl) (hfin:P.cellsOf t=fin) (h:B2d T P bk B 0 fl ks fin):RdL T P bk B t ks:=by
 intro H enc W fuel cs d ps htr hz
 unfold Blx at hf
 split at hf
 ·rename_i fs ht
  cases hf
  obtain⟨xs,n,rfl,hx,hl,hxl,hg⟩:=DataW.trod_struct ht htr
  cases hx
  have:=Bwn (enc:=enc) (W:=W) (m:=n) (cs:=cs) (xs:=xs) h (hl.trans hfin) (by simpa using hxl) (λ i f hf=>by
   rw[List.getElem?_map]at hf
   obtain⟨f',hf',rfl⟩:=Option.map_eq_some_iff.1 hf
   exact hg i f' (by simpa using hf')) (λ i f x _ hx'=>Nat.le_trans (hk.part H _ x.1 (List.mem_map.2 ⟨x,List.mem_of_getElem? hx',rfl⟩)) hz)
  simpa using this
 ·cases hf
theorem B6c (hk:Bpp bk) (ht:P.underlying t=some .string):RdE T P bk B t .str λ s:List UInt8=>s.length<=B:=by
 intro H enc W fuel cs d ps h hz
 obtain⟨s,rfl,hx,_⟩:=DataW.trod_string ht h
 cases hx
 exact⟨s.data.toList,Nat.le_trans (hk.str _ _) hz,by simp[Bl,Ty.av]⟩
theorem Bx3 (hk:Bpp bk) {u:Ty} {Q:u.den T.E->Prop} (ht:P.underlying t=some (.slice e)) (he:RdE T P bk B e u Q) (hsz:P.cellsOf e=u.sz T) (hpos:0<P.cellsOf e):RdE T P bk B t (.sl u) λ xs:List (u.den T.E)=>xs.length<=B/\∀x∈xs,Q x:=by
 intro H enc W fuel cs d ps h hz
 obtain⟨ls,⟨xs,r,rfl,h1,h2,h3⟩,a⟩:=Nu hk ht he hsz hpos H enc W fuel cs d ps h hz
 cases h3
 cases a with
 |cons k1 k2=>
  cases k2
  obtain⟨av,h4,h5⟩:=k1
  cases h4
  exact⟨xs,⟨h1,h2⟩,h5⟩
theorem A16 {ok:Nat->Prop} {w:World}:∀{ls:List (Av T.E)} {as:List AV} {cs:List Value},Ba (Bpw T ok w) ls cs->ls.map (Av.av T)=as.map some->Lo ok w as cs
 |[],as,_,.nil,h=>by
  have:as=[]:=by cases as with
   |nil=>rfl
   |cons a as=>simp at h
  subst this
  exact rfl
 |l::ls,[],_,.cons _ _,h=>by simp at h
 |l::ls,a::as,_,.cons (b:=v) (m:=vs) h1 h2,h=>by
  simp only[List.map_cons,List.cons.injEq]at h
  obtain⟨a',h3,h4⟩:=h1
  rw[h.1]at h3
  cases h3
  exact⟨[v],vs,rfl,h4,A16 h2 h.2⟩
theorem Aqe (ok:T.Ok) {n:Nat} {Q:T.E n->Prop} {ks:List (LK T.E)} (h:RdL T P bk B t ks) (mk:∀ls,Shp B ks ls->∃x,Q x/\T.toL n x=ls):RdE T P bk B t (.nm n) Q:=by
 intro H enc W fuel cs d ps htr hz
 obtain⟨ls,s,a⟩:=h H enc W fuel cs d ps htr hz
 obtain⟨x,hx,rfl⟩:=mk ls s
 exact⟨x,hx,A16 a (ok.av n x)⟩
def RdV (T:Tab) (P:Program) (bk:(H:Type)->DataW H->Nat) (B:Nat) (t:TypeId) (u:Ty) (Q:u.den T.E->Prop):Prop:=
 ∀(H:Type) (enc:TypeId×Value->H) (W:World) (base:Nat) (v:Value) (d:DataW H) (ps:List MemPlace),Value.okWide P W .any base t v->DataW.Trod enc P W 0 (λ _=>true) true t v d ps->bk H d<=B->
  ∃x,Q x/\Bsx T (Apx W) W u x v
def B3a (P:Program) (t:TypeId):Bool:=match P.underlying t with
 |some (.int _)|some .bool|some .string|some (.slice _)=>true
 |_=>false
theorem Bwo {u:Ty} {Q:u.den T.E->Prop} (h:RdE T P bk B t u Q) (hu:Ux u=false) (hk:B3a P t=true):RdV T P bk B t u Q:=by
 intro H enc W base v d ps hv htr hz
 obtain⟨fuel,htr⟩:=htr
 have hc:v.cells.toList=[v]:=by
  cases v<;>try rfl
  exfalso
  unfold Value.okWide Cell.okWide Cell.ok at hv
  unfold B3a at hk
  split at hk<;>rename_i h'<;>first|(rw[h']at hv;simp at hv)|cases hk
 rw[hc]at htr
 obtain⟨x,h1,h2⟩:=h H enc W fuel _ d ps htr hz
 exact⟨x,h1,by unfold Bsx;rw[if_neg (by rw[hu];exact Bool.false_ne_true)];exact h2⟩
inductive Bji (T:Tab) (P:Program) (bk:(H:Type)->DataW H->Nat) (B:Nat):List TypeId->(us:List Ty)->(HL T.E us->Prop)->Prop where
 |nil:Bji T P bk B [] [] λ _=>True
 |cons {t u Q ts us R}:RdV T P bk B t u Q->Bji T P bk B ts us R->Bji T P bk B (t::ts) (u::us) λ x=>Q x.1/\R x.2
theorem Bvn {H:Type} {enc:TypeId×Value->H} {W:World} {base:Nat} {ts:List TypeId} {us:List Ty} {Q:HL T.E us->Prop} (h:Bji T P bk B ts us Q):∀(vs:List Value) (ds:List (DataW H)) (ps:List MemPlace),DataW.TrodAll enc P W 0 (λ _=>true) true ts vs ds ps->
 (∀(j:Nat) t v,ts[j]?=some t->vs[j]?=some v->Value.okWide P W .any base t v)->(∀d∈ds,bk H d<=B)->∃x,Q x/\Oh T (Apx W) W [] us x vs []:=by
 induction h with
 |nil=>
  intro vs ds ps h _ _
  match vs,ds,h with
  |[],[],_=>exact⟨(),trivial,rfl,rfl⟩
 |cons h1 h2 ih=>
  intro vs ds ps h hv hz
  match vs,ds,h with
  |v::vs,d::ds,⟨p,q,g1,g2,g3⟩=>
   obtain⟨x,k1,k2⟩:=h1 H enc W base v d p (hv 0 _ v rfl rfl) g1 (hz d (by simp))
   obtain⟨y,k3,k4⟩:=ih vs ds q g2 (λ j t' v' hj hj'=>hv (j+1) t' v' (by simpa using hj) (by simpa using hj')) (λ d hd=>hz d (by simp[hd]))
   exact⟨(x,y),⟨k1,k3⟩,v,vs,[],[],rfl,rfl,.data k2,k4⟩
theorem A5g {H:Type} {enc:TypeId×Value->H} {W:World} {base:Nat} {sp:Nat->Bool} {held:Bool}:∀{ts:List TypeId} {vs:List Value} {ds:List (DataW H)} {ps:List MemPlace},DataW.TrodAll enc P W base sp held ts vs ds ps->ds.length=ts.length
 |[],[],[],_,_=>rfl
 |t::ts,v::vs,d::ds,ps,⟨p,q,_,h,_⟩=>by simp[A5g h]
theorem Atu {H:Type} {enc:TypeId×Value->H} {W W':World} (hl:laidOutB P=true) {sp':Nat->Bool}:∀{ts:List TypeId} {vs:List Value} {ds:List (DataW H)} {ps:List MemPlace},(∀t∈ts,P.readableRec t=true/\t<P.types.size)->DataW.TrodAll enc P W 0 (λ _=>true) true ts vs ds ps->
 (∀p∈ps,W.sameAt W' p)->(∀p∈ps,sp' p.block=true)->DataW.TrodAll enc P W' 0 sp' true ts vs ds ps
 |[],[],[],_,_,h,_,_=>h
 |t::ts,v::vs,d::ds,ps,hr,⟨p,q,h1,h2,h3⟩,hs,hb=>by
  subst h3
  exact⟨p,q,WideElems.Trod_stays hl (hr t (by simp)).1 (hr t (by simp)).2 h1 (λ x hx=>hs x (by simp[hx])) (λ x hx=>hb x (by simp[hx])),
   Atu hl (λ t' ht'=>hr t' (by simp[ht'])) h2 (λ x hx=>hs x (by simp[hx])) (λ x hx=>hb x (by simp[hx])),rfl⟩
end
section
variable (T:Tab) (P:Program) (bk:(H:Type)->DataW H->Nat) (B:Nat)
def Bnj (N:Nat) (t:TypeId) (ks:List (LK T.E)):Prop:=
 ∀(H:Type) (enc:TypeId×Value->H) (W:World) (fuel:Nat) (cs:List Value) (d:DataW H) (ps:List MemPlace),fuel<N->DataW.trod enc P W 0 (λ _=>true) true fuel t cs=some (d,ps)->bk H d<=B->
  ∃ls,Shp B ks ls/\Ba (Bpw T (Apx W) W) ls cs
def Bye (N:Nat) (t:TypeId) (u:Ty) (Q:u.den T.E->Prop):Prop:=
 ∀(H:Type) (enc:TypeId×Value->H) (W:World) (fuel:Nat) (cs:List Value) (d:DataW H) (ps:List MemPlace),fuel<N->DataW.trod enc P W 0 (λ _=>true) true fuel t cs=some (d,ps)->bk H d<=B->
  ∃x,Q x/\Bl (Apx W) W (u.av T x) cs
end
section
variable {T:Tab} {P:Program} {bk:(H:Type)->DataW H->Nat} {B:Nat} {t e:TypeId}
theorem RdL.n {ks:List (LK T.E)} (h:RdL T P bk B t ks) (N:Nat):Bnj T P bk B N t ks:=λ H enc W fuel cs d ps _=>h H enc W fuel cs d ps
theorem Bnj.le {ks:List (LK T.E)} {M N:Nat} (hm:M<=N) (h:Bnj T P bk B N t ks):Bnj T P bk B M t ks:=λ H enc W fuel cs d ps hf=>h H enc W fuel cs d ps (Nat.lt_of_lt_of_le hf hm)
theorem RdE.of_n {u:Ty} {Q:u.den T.E->Prop} (h:∀N,Bye T P bk B N t u Q):RdE T P bk B t u Q:=λ H enc W fuel cs d ps=>h (fuel+1) H enc W fuel cs d ps (Nat.lt_succ_self _)
theorem Bye.zero {u:Ty} {Q:u.den T.E->Prop}:Bye T P bk B 0 t u Q:=λ _ _ _ _ _ _ _ hf=>absurd hf (Nat.not_lt_zero _)
theorem Bre (hk:Bpp bk) {N:Nat} {u:Ty} {Q:u.den T.E->Prop} (ht:P.underlying t=some (.slice e)) (he:Bye T P bk B N e u Q) (hsz:P.cellsOf e=u.sz T) (hpos:0<P.cellsOf e):Bnj T P bk B (N+1) t [.sl u (P.bytesOf e) Q]:=by
 intro H enc W fuel cs d ps hfl h hz
 rcases DataW.trod_slice ht h with⟨rfl,hx⟩|⟨a,len,cap,elems,rest,n,hfu,rfl,hx,_,hlen,_,hel,hget,_,_⟩
 ·exact⟨[.sl u false []],⟨[],[],rfl,by simp,by simp,rfl⟩,.cons ⟨_,rfl,none,0,rfl,by simp,λ _=>rfl,(λ h=>by cases h),λ ad h=>by cases h⟩ .nil⟩
 ·cases hx
  have hz1:elems.length<=B:=by have:=hk.len H (elems.map (·.1)) (rest.map (·.1));rw[List.length_map]at this;omega
  have hz2:∀x∈elems.map (·.1),bk H x<=B:=λ x hx=>Nat.le_trans (hk.elem H _ _ x hx) hz
  obtain⟨xs,x1,x2⟩:=Bm8 (R:=λ i x=>Q x/\∃cs,W.cells? 0 (a.add (i*P.cellsOf e)) (P.cellsOf e)=some cs/\Bl (Apx W) W (u.av T x) cs) len (λ i hi=>by
   have:=hget i hi
   have hi':i<elems.length:=by omega
   rw[List.getElem?_eq_getElem hi']at this
   obtain⟨cs,c1,c2⟩:=Option.bind_eq_some_iff.1 this
   obtain⟨x,q1,q2⟩:=he H enc W n cs elems[i].1 elems[i].2 (by omega) c2 (hz2 _ (List.mem_map.2 ⟨_,List.getElem_mem hi',rfl⟩))
   exact⟨x,q1,cs,c1,q2⟩)
  have hspot:xs≠[]->a.spot=none/\a.block<W.heap.size:=by
   intro hne
   have h0:0<xs.length:=List.length_pos_iff.2 hne
   obtain⟨_,cs,c1,_⟩:=x2 0 xs[0] (by rw[List.getElem?_eq_getElem h0])
   obtain⟨g1,g2⟩:=Asq c1
   have hc:0<cs.length:=by omega
   have:=g2 0 cs[0] (by rw[List.getElem?_eq_getElem hc])
   have e:(a.add (0*P.cellsOf e)).add 0=a:=by simp[Addr.add]
   rw[e]at this
   exact⟨World.cell?_spot this,Bpr this⟩
  refine⟨[.sl u false xs],⟨xs,[],rfl, ?_,λ x hx=> ?_,rfl⟩,.cons ⟨_,rfl,some a,cap,by rw[List.length_map,x1],by rw[List.length_map,x1];exact hlen,(λ h=>by cases h),(λ h=>by cases h),λ ad had=> ?_⟩ .nil⟩
  ·omega
  ·obtain⟨i,hi⟩:=List.getElem?_of_mem hx
   exact(x2 i x hi).1
  ·cases had
   refine⟨λ hne=>(hspot (by simpa using hne)).1,Fp.mk _ _ _ λ i y hy=> ?_⟩
   rw[List.getElem?_map]at hy
   obtain⟨x,hx,rfl⟩:=Option.map_eq_some_iff.1 hy
   obtain⟨_,cs,c1,c2⟩:=x2 i x hx
   obtain⟨g1,g2⟩:=Asq c1
   obtain⟨s1,s2⟩:=hspot (by rintro rfl;simp at hx)
   refine⟨cs,c2,by omega,s2,λ j v hv=> ?_⟩
   have:=g2 j v hv
   rw[Ay6 s1,Ay6 rfl]at this
   rw[<-hsz];exact this
inductive Bpa (T:Tab) (P:Program) (bk:(H:Type)->DataW H->Nat) (B N:Nat):Nat->List (Nat×TypeId×Nat)->List (LK T.E)->Nat->Prop where
 |nil {off}:Bpa T P bk B N off [] [] off
 |cons {off t n fs ks ks' fin}:Bnj T P bk B N t ks->Bpa T P bk B N (off+n) fs ks' fin->Bpa T P bk B N off ((off,t,n)::fs) (ks++ks') fin
theorem B1v {H:Type} {enc:TypeId×Value->H} {W:World} {m N:Nat} (hm:m<N) {cs:List Value}:∀{fs:List (Nat×TypeId×Nat)} {off fin:Nat} {ks:List (LK T.E)} {xs:List (DataW H×List MemPlace)},Bpa T P bk B N off fs ks fin->cs.length=fin->xs.length=fs.length->
 (∀(i:Nat) (f:Nat×TypeId×Nat),fs[i]?=some f->DataW.trod enc P W 0 (λ _=>true) true m f.2.1 ((cs.drop f.1).take f.2.2)=xs[i]?)->
 (∀(i:Nat) (f:Nat×TypeId×Nat) (x:DataW H×List MemPlace),fs[i]?=some f->xs[i]?=some x->bk H x.1<=B)->
 ∃ls,Shp B ks ls/\Ba (Bpw T (Apx W) W) ls (cs.drop off)
 |_,off,_,_,xs,.nil,hl,hx,_,_=>⟨[],rfl,by rw[List.drop_eq_nil_of_le (by omega)];exact .nil⟩
 |_,off,fin,_,[],.cons _ _,_,hx,_,_=>by simp at hx
 |_,off,fin,_,x::xs,.cons (t:=t) (n:=n) (fs:=fs) h2 h3,hl,hx,hg,hw=>by
  obtain⟨ls2,s2,a2⟩:=B1v hm h3 hl (by simpa using hx) (λ i f' hf=>by have:=hg (i+1) f' (by simpa using hf);simpa using this) (λ i f' x' hf hx'=>hw (i+1) f' x' (by simpa using hf) (by simpa using hx'))
  obtain⟨ls1,s1,a1⟩:=h2 H enc W m _ x.1 x.2 hm (by have:=hg 0 (off,t,n) (by simp);simpa using this) (hw 0 (off,t,n) x (by simp) (by simp))
  refine⟨ls1++ls2,s1.append s2, ?_⟩
  have:cs.drop off=(cs.drop off).take n++cs.drop (off+n):=by
   rw[<-List.drop_drop,List.take_append_drop]
  rw[this]
  exact a1.append a2
theorem Bk2 (hk:Bpp bk) {N:Nat} {fl:List (Nat×TypeId×Nat)} {ks:List (LK T.E)} {fin:Nat} (hf:Blx P t=some fl) (hfin:P.cellsOf t=fin) (h:Bpa T P bk B N 0 fl ks fin):Bnj T P bk B (N+1) t ks:=by
 intro H enc W fuel cs d ps hfl htr hz
 unfold Blx at hf
 split at hf
 ·rename_i fs ht
  cases hf
  obtain⟨xs,n,hfu,hx,hl,hxl,hg⟩:=DataW.trod_struct ht htr
  cases hx
  have:=B1v (enc:=enc) (W:=W) (m:=n) (N:=N) (by omega) (cs:=cs) (xs:=xs) h (hl.trans hfin) (by simpa using hxl) (λ i f hf=>by
   rw[List.getElem?_map]at hf
   obtain⟨f',hf',rfl⟩:=Option.map_eq_some_iff.1 hf
   exact hg i f' (by simpa using hf')) (λ i f x _ hx'=>Nat.le_trans (hk.part H _ x.1 (List.mem_map.2 ⟨x,List.mem_of_getElem? hx',rfl⟩)) hz)
  simpa using this
 ·cases hf
theorem B20 {N:Nat} (ok:T.Ok) {n:Nat} {Q:T.E n->Prop} {ks:List (LK T.E)} (h:Bnj T P bk B N t ks) (mk:∀ls,Shp B ks ls->∃x,Q x/\T.toL n x=ls):Bye T P bk B N t (.nm n) Q:=by
 intro H enc W fuel cs d ps hfl htr hz
 obtain⟨ls,s,a⟩:=h H enc W fuel cs d ps hfl htr hz
 obtain⟨x,hx,rfl⟩:=mk ls s
 exact⟨x,hx,A16 a (ok.av n x)⟩
end
section
open Go.ChangeShapes
variable {H:Type} {enc:TypeId×Value->H} {T:Tab} {ti:TypeId->Option (TI T.E)} {eqs:TypeId->Bool}
theorem Bcg {bk:(H:Type)->DataW H->Nat} {B:Nat} {a:Assume} {C:Checked} {os:Os} {f:FuncId} {fn:Func} {s:OpenSpec} {F:Stop.Interp} {conds:List PathCond} {apart fresh handsOn again:Bool} {args:List Ty} {g:HL T.E args->Option Bool} {Q:HL T.E args->Prop} {tb:TypeId} {ts:List TypeId}
 {ls:List (String×DataW Unit)}
 (M:Ue T ti eqs C.prog f ⟨args,[.bool],[],[],Bool,g,λ r=>(r,())⟩) (hts:fn.params.toList=ts) (R:Bji T C.prog bk B ts args Q) (plain:∀x,Q x->g x=some true)
 (hbk:∀ds:List (DataW H),(∀k,s.cond=some k->k H ds=true)->∀d∈ds,bk H d<=B)
 (own:ownKnob C.prog.godebug=none) (laid:laidOutB C.prog=true) (hp:fn.params.toList.all (λ t=>C.prog.readableRec t&&decide (t<C.prog.types.size))=true)
 (hr:fn.resultTypes= #[tb]) (hb:C.prog.underlying tb=some .bool) (hv:s.vars=[]) (hs:∀ds:List (DataW H),ds.length=fn.params.toList.length->s.fn F H ds={results:=[.lit (.bool true)],args:=ds})
 (started:os.Started) (noInit:C.prog.inits.idxOf? f=none) (hfn:C.prog.funcs[f]?=some fn)
 (witness:∃(w:World) (tape:Tape) (i:Input),w.os=os/\(w.forCall tape i).Shaped C.prog/\i.vars=[]/\Input.okWide C.prog (w.forCall tape i) .any w.heap.size f i/\
  s.preRow enc C.prog fn conds apart ls (w.forCall tape i).memory i.args/\a.holds C.prog (lone (Frame.enter C.prog f i.args .normal) [] (w.forCall tape i))):
 ReturnsInHanded a C os f .any (s.preRow enc C.prog fn conds apart ls) ((s.at F).post enc C.prog fn apart fresh handsOn again):=by
 subst hts
 refine returnsInHanded_of_row own started noInit hfn witness ?_
 intro W base vs ds gs before hval hW _ hcond _ _ _ _
 have hW':=hW
 obtain⟨p,q,hA,hV,hps,hfz,hnd⟩:=hW
 rw[hv]at hV
 have hgs:gs=[]/\q=[]:=by
  match gs,hV with
  |[],h=>exact⟨rfl,h⟩
 obtain⟨rfl,rfl⟩:=hgs
 rw[List.append_nil]at hps
 subst hps
 have hlen:=A5g hA
 rw[List.append_nil]at hcond
 obtain⟨x,hx,hargs⟩:=Bvn R vs.toList ds before hA (λ j t v hj hj'=>hval j t v (by simpa using hj) (by simpa using hj')) (hbk ds hcond)
 have hcall:=M.2 x (true,()) (show Option.map (λ r=>(r,())) (g x)=_ by rw[plain x hx];rfl) (Apx W) W vs.toList [] hargs List.nodup_nil (by simp) (λ b h=>h)
 have hrd:∀t∈fn.params.toList,C.prog.readableRec t=true/\t<C.prog.types.size:=by
  intro t ht
  have:=List.all_eq_true.1 hp t ht
  simpa using this
 simp only[Array.toArray_toList]at hcall
 refine hcall.mono λ e W' ⟨rs,own',he,hbut,_,_,hres⟩=> ?_
 obtain⟨v,vr,o1,o2,rfl,rfl,⟨us,hus,huv⟩,hvr,_⟩:=hres
 have hvt:v= .bool true:=by
  have huv:us=[v]:=huv
  subst huv
  cases hus with
  |more h1 _=>exact h1 [] (λ _=>⟨0,.bool true,[],[]⟩)
 subst hvr hvt
 subst he
 have hB:RowKit.Below W.heap.size W W':=⟨hbut.os,hbut.tape,hbut.output,hbut.size,λ k hk=>hbut.heap k hk (by simp)⟩
 have hlt:∀p∈before,p.block<W.heap.size:=λ p hp=>by simpa using hW'.lt p hp
 have hs':(s.at F).fn H ds=_:=hs ds hlen
 have hfr:∀b off,MemPlace.cell b off∈before->W'.frozen? ⟨b,off,none⟩=W.frozen? ⟨b,off,none⟩:=λ b off h=>hB.frozen (hlt _ h)
 have hold:∀sp:Nat->Bool,(∀p∈before,sp p.block=true)->DataW.TrodAll enc C.prog W' 0 sp true fn.params.toList vs.toList ds before:=λ sp hsp=>Atu laid hrd hA (λ p hp=>hB.same (hlt p hp)) hsp
 have hbool:∀(b:Nat) (sp:Nat->Bool) (hd:Bool),DataW.TrodAll enc C.prog W' b sp hd fn.resultTypes.toList ((Value.bool true).resultList fn.resultTypes.size) [.lit (.bool true)] []:=by
  intro b sp hd
  rw[hr]
  show DataW.TrodAll enc C.prog W' b sp hd [tb] [.bool true] [.lit (.bool true)] []
  refine⟨[],[],⟨1, ?_⟩,rfl,rfl⟩
  simp[DataW.trod,hb,Value.cells]
 have hvars0:∀sp:Nat->Bool,DataW.TrodVars enc C.prog W' sp (s.at F).vars [] []:=by intro sp;rw[show(s.at F).vars=[]from hv];exact rfl
 refine⟨.bool true,rfl,ds,[],before,[],before,[],hW', ?_, ?_, ?_,hB.frame _,λ _=>⟨λ j t r hj hj'=> ?_,.lit (.bool true)::ds,[],before,⟨before,[], ?_, ?_,by simp,λ b off hb'=> ?_,λ ha=>hnd ha⟩,λ p hp _=>hp⟩⟩
 ·rw[List.append_nil,hs'];exact hbool _ _ _
 ·rw[List.append_nil,hs'];exact hold _ λ p hp=>by simpa using hlt p hp
 ·rw[List.append_nil,hs'];exact hvars0 _
 ·rw[hr]at hj hj'
  match j,hj,hj' with
  |0,hj,hj'=>
   simp[Value.resultList]at hj hj'
   subst hj;subst hj'
   simp[Value.okWide,hb,Cell.okWide,Cell.ok]
  |j+1,hj,_=>simp at hj
 ·have h1:DataW.TrodAll enc C.prog W' 0 (λ _=>true) true fn.resultTypes.toList ((Value.bool true).resultList fn.resultTypes.size) [.lit (.bool true)] []:=hbool _ _ _
  have:=trodAll_append (hold _ λ _ _=>rfl) h1
  simpa using this
 ·exact hvars0 _
 ·rw[hfr b off hb'];exact hfz b off hb'
end
end Go.Ab
