/- Functions of Go's library, told ahead for closed running: what they return at texts. What some functions of Go's library compute, as plain functions. A region of a function's code, told as one term, with what is called and decided in it; and that this is so. A function's code told as one term, from one place up to the next cuts; loops; and that this is so. A function by its pieces: places, loops, returns; short forms. Conditions: none beyond those that each theorem names. -/
import Derived.Test.YtgngflkahbpecaaGreatDoorP15
import Derived.Lib.Bytealg
import Derived.Lib.IndexAny
import Derived.Laws.RangeString
import Derived.Test.YtgngflkahbpecaaGreatDoorP11
import Derived.Test.YtgngflkahbpecaaGreatDoorP07
set_option linter.unusedSimpArgs false
set_option linter.unusedVariables false
namespace Go.Ab
open Go
section
variable {T:Tab} {P:Program} {f:FuncId}
theorem B0y {α β:Type} {R:α->β->Prop} {x:α} {l:List β} (h:Ba R [x] l):∃v,l=[v]/\R x v:=by
 cases h with
 |cons h1 h2=>cases h2;exact⟨_,rfl,h1⟩
theorem Bdx {α β:Type} {R:α->β->Prop} {x y:α} {l:List β} (h:Ba R [x,y] l):∃v u,l=[v,u]/\R x v/\R y u:=by
 cases h with
 |cons h1 h2=>obtain⟨u,rfl,h3⟩:=B0y h2;exact⟨_,_,rfl,h1,h3⟩
theorem Av3 {S:FL T.E} (hf:∃fn,P.funcs[f]?=some fn/\fn.body.isSome=true/\(fn.name== "runtime.NumGoroutine")=false)
 (h:∀lo args bx res bx',S.g lo args bx=some (res,bx')->bx'=bx/\∃n:Int,res=[.one (.int .i64 n)]/\∀(bx:List (Nat×Box T.E)) (β:Nat->BI) (ok:Nat->Prop) (w:World) (vs:List Value),Ba (Ar T bx β ok w) args vs->
  Calls P f vs.toArray w λ e w'=>e= .returned (.int .i64 n)/\U1 w w'):Mb T P f S:=by
 refine⟨hf,λ lo args bx res bx' hg C β w vs kx kv M ha hk=> ?_⟩
 obtain⟨rfl,n,rfl,hc⟩:=h lo args bx res bx' hg
 refine(hc _ _ _ _ _ ha).mono ?_
 rintro e w' ⟨rfl,G⟩
 obtain⟨M',X⟩:=M.grow G
 exact⟨β,[.int .i64 n],rfl,M',.cons rfl .nil,hk.imp λ _ _ k=>Az.ext X k⟩
def B4a (c:UInt8):List UInt8->Nat
 |[]=>0
 |x::r=>match Nat.beq x.toNat c.toNat with|true=>B4a c r+1|false=>B4a c r
theorem B27 (a b:UInt8):Nat.beq a.toNat b.toNat=(a==b):=by
 by_cases h:a=b
 ·subst h;simp
 ·have h2:(a==b)=false:=by simpa using h
  rw[h2]
  cases h3:Nat.beq a.toNat b.toNat with
  |false=>rfl
  |true=>exact absurd (UInt8.toNat_inj.1 (Nat.eq_of_beq_eq_true h3)) h
theorem Bxk (c:UInt8):∀l,B4a c l=Lib.countByte l c
 |[]=>rfl
 |x::r=>by
  have ih:=Bxk c r
  rw[B4a,B27]
  unfold Lib.countByte at*
  rw[List.count_cons,ih]
  cases x==c<;>simp
def B4p (c:UInt8):List UInt8->Nat->Int
 |[],_=> -1
 |x::r,i=>match Nat.beq x.toNat c.toNat with|true=>(i:Int)|false=>B4p c r (i+1)
theorem Bvy (c:UInt8):∀(l:List UInt8) (i:Nat),B4p c l i=if Lib.indexByte l c== -1 then -1 else Lib.indexByte l c+i
 |[],i=>rfl
 |x::r,i=>by
  have ih:=Bvy c r (i+1)
  have hg:=Lib.indexByte_ge r c
  rw[B4p,B27,Lib.indexByte]
  cases hx:x==c with
  |true=>simp
  |false=>
   simp only[Bool.false_eq_true,if_false]
   rw[ih]
   by_cases h:Lib.indexByte r c= -1
   ·simp[h]
   ·have h2:(Lib.indexByte r c== -1)=false:=by simpa using h
    have h3:(Lib.indexByte r c+1== -1)=false:=by simpa using(by omega:¬Lib.indexByte r c+1= -1)
    rw[h2];simp only[Bool.false_eq_true,if_false,h3];omega
theorem Bzf (c:UInt8) (l:List UInt8):B4p c l 0=Lib.indexByte l c:=by
 rw[Bvy]
 by_cases h:Lib.indexByte l c= -1
 ·simp[h]
 ·have h2:(Lib.indexByte l c== -1)=false:=by simpa using h
  rw[h2];simp
def B02 (E:Nat->Type):FL E:=⟨λ _ args bx=>match args with
 |[.one (.str s),.one (.str [c])]=>some ([.one (.int .i64 (B4a c s))],bx)
 |_=>none⟩
def B34 (E:Nat->Type):FL E:=⟨λ _ args bx=>match args with
 |[.one (.str s),.one (.int .u8 c)]=>some ([.one (.int .i64 (B4p (UInt8.ofNat c.toNat) s 0))],bx)
 |_=>none⟩
def B1e (E:Nat->Type):FL E:=⟨λ _ args bx=>match args with
 |[.one (.str []),.one (.str (_::_::_))]=>some ([.one (.int .i64 (-1))],bx)
 |_=>none⟩
theorem B1u (hf:∃fn,P.funcs[f]?=some fn/\fn.body.isSome=true/\(fn.name== "runtime.NumGoroutine")=false)
 (h:∀(s:ByteArray) (c:UInt8) (w:World),Calls P f #[.string s,.string ⟨#[c]⟩] w λ e w'=>e= .returned (.int .i64 (Lib.countByte s.data.toList c))/\w'=w):Mb T P f (B02 T.E):=by
 refine Av3 hf λ lo args bx res bx' hg=> ?_
 simp only[B02]at hg
 split at hg
 ·rename_i s c
  cases hg
  refine⟨rfl,_,rfl,λ bx β ok w vs ha=> ?_⟩
  obtain⟨v,u,rfl,h1,h2⟩:=Bdx ha
  have h1:v= .string ⟨s.toArray⟩:=h1
  have h2:u= .string ⟨#[c]⟩:=h2
  subst h1 h2
  refine(h ⟨s.toArray⟩ c w).mono ?_
  rintro e w' ⟨rfl,rfl⟩
  exact⟨by rw[Bxk],U1.refl _⟩
 ·cases hg
theorem B4g (hf:∃fn,P.funcs[f]?=some fn/\fn.body.isSome=true/\(fn.name== "runtime.NumGoroutine")=false)
 (h:∀(s:ByteArray) (c:Int) (w:World),Calls P f #[.string s,.int .u8 c] w λ e w'=>e= .returned (.int .i64 (Lib.indexByte s.data.toList c.toNat.toUInt8))/\w'=w):Mb T P f (B34 T.E):=by
 refine Av3 hf λ lo args bx res bx' hg=> ?_
 simp only[B34]at hg
 split at hg
 ·rename_i s c
  cases hg
  refine⟨rfl,_,rfl,λ bx β ok w vs ha=> ?_⟩
  obtain⟨v,u,rfl,h1,h2⟩:=Bdx ha
  have h1:v= .string ⟨s.toArray⟩:=h1
  have h2:u= .int .u8 c:=h2
  subst h1 h2
  refine(h ⟨s.toArray⟩ c w).mono ?_
  rintro e w' ⟨rfl,rfl⟩
  exact⟨by rw[Bzf],U1.refl _⟩
 ·cases hg
theorem B0r (hf:∃fn,P.funcs[f]?=some fn/\fn.body.isSome=true/\(fn.name== "runtime.NumGoroutine")=false)
 (h:∀(s chars:ByteArray) (w:World),2<=chars.size->s.size<=8->(∀(j:Nat) b,s.data.toList[j]?=some b->b.toNat<128)->Calls P f #[.string s,.string chars] w λ e w'=>e= .returned (.int .i64 (Lib.indexAny s.data.toList chars.data.toList))/\∃pos,w'=w.iter s pos):Mb T P f (B1e T.E):=by
 refine Av3 hf λ lo args bx res bx' hg=> ?_
 simp only[B1e]at hg
 split at hg
 ·rename_i a b r
  cases hg
  refine⟨rfl,_,rfl,λ bx β ok w vs ha=> ?_⟩
  obtain⟨v,u,rfl,h1,h2⟩:=Bdx ha
  have h1:v= .string ⟨#[]⟩:=h1
  have h2:u= .string ⟨(a::b::r).toArray⟩:=h2
  subst h1 h2
  refine(h ⟨#[]⟩ ⟨(a::b::r).toArray⟩ w (by simp[ByteArray.size]) (by simp[ByteArray.size]) (by intro j b hb;simp at hb)).mono ?_
  rintro e w' ⟨rfl,pos,rfl⟩
  exact⟨rfl,U1.alloc _ _⟩
 ·cases hg
end
def fst (p:Nat->Bool):Nat->Nat->Option Nat
 |_,0=>none
 |i,n+1=>if p i then some i else fst p (i+1) n
def B3:List UInt8->List UInt8->List (List UInt8)
 |acc,[]=>[acc]
 |acc,c::r=>if c==46 then acc::B3 [] r else B3 (acc++[c]) r
def Aa5:Option Nat->Int
 |some k=>(k:Int)
 |none=> -1
def Uu (c:UInt8):Bool:=decide (48<=c.toNat)&&decide (c.toNat<=57)
def Re:Nat->List UInt8->Nat
 |a,[]=>a
 |a,c::r=>Re (a*10+(c.toNat-48)) r
def I9 (s:List UInt8) (c:Int):Option Int:=
 need (0<=c/\c<256)<|
 some (Aa5 (fst (λ k=>decide (((s.getD k 0).toNat:Int)=c)) 0 s.length))
def Qo (s t:List UInt8):Option Int:=
 need (t.length=1)<|
 some (Aa5 (fst (λ k=>decide (s.getD k 0=t.getD 0 0)) 0 s.length))
def I7 (s t:List UInt8) (v n:Int):Option (List (List UInt8)):=
 need (t=[46]/\v=0/\n= -1/\s.length<4294967281)<|
 some (B3 [] s)
def S4 (s t:List UInt8):Option Int:=
 need ((∀x∈s,x.toNat<128)/\(∀x∈t,x.toNat<128)/\s.length<4294967281/\t.length<4294967281)<|
 some (Aa5 (fst (λ k=>t.contains (s.getD k 0)) 0 s.length))
def Y8 (s:List UInt8) (n:Int):Option (List UInt8):=
 need (0<=n/\s.length*n.toNat<=140737488355328/\n<=9223372036854775807)<|
 some (List.replicate n.toNat s).flatten
def Apr (s:List UInt8):Option Int:=
 need (s.length<=18/\s≠[]/\s.all Uu=true)<|
 some (Re 0 s:Int)
def Dq (l:List Int):Option (List Int):=
 need (l.length*8<=140737488355328)<|
 some l
section
variable (V:Env)
abbrev Got (α:Type) (E:Nat->Type):=Option (α×List (Nat×Box E)×List Nat×List Nat)
def Got.cons {E:Nat->Type} {α:Type} (l:α):Got (List α) E->Got (List α) E
 |some (ls,r)=>some (l::ls,r)
 |none=>none
def A57:List (Av V.E)->List (Nat×Box V.E)->List Nat->List Nat->Got (List (Av V.E)) V.E
 |[],bx,rs,ws=>some ([],bx,rs,ws)
 | .ar id ver::r,bx,rs,ws=>match Ae id bx with
   |some (.arr e t xs v fz)=>match Nat.beq ver v,fz with
    |true,true=>Got.cons (.sl t false xs) (A57 r bx (id::rs) ws)
    |true,false=>Got.cons (.sl t false xs) (A57 r (put id (.arr e t xs v true) bx) (id::rs) (id::ws))
    |false,_=>none
   |some (.rows e e2 t xss v rv fz)=>match Nat.beq ver v,fz with
    |true,.shut=>Got.cons (.sl (.sl t) false xss) (A57 r bx (id::rs) ws)
    |true,.opn=>Got.cons (.sl (.sl t) false xss) (A57 r (put id (.rows e e2 t xss v rv .shut) bx) (id::rs) (id::ws))
    |_,_=>none
   |_=>none
 |l::r,bx,rs,ws=>Got.cons l (A57 r bx rs ws)
def Ajs:List TypeId->List (CV V.E)->List (Nat×Box V.E)->List Nat->List Nat->Got (List (Bool×List (Av V.E))) V.E
 |_,[],bx,rs,ws=>some ([],bx,rs,ws)
 |0::os,c::r,bx,rs,ws=>match A57 V c.leaves bx rs ws with
  |some (l,bx,rs,ws)=>Got.cons (c.isAg,l) (Ajs os r bx rs ws)
  |none=>none
 |(e+1)::os,.one (.ar id ver)::r,bx,rs,ws=>match Ae id bx with
  |some (.arr e' t xs v false)=>match Nat.beq ver v&&Nat.beq e' (e+1)with
   |true=>Got.cons (false,[.sl t false xs]) (Ajs os r (put id .gone bx) (id::rs) (id::ws))
   |false=>none
  |_=>none
 |[],c::r,bx,rs,ws=>match A57 V c.leaves bx rs ws with
  |some (l,bx,rs,ws)=>Got.cons (c.isAg,l) (Ajs [] r bx rs ws)
  |none=>none
 |_,_,_,_,_=>none
variable {V}
def after {α:Type} (k:α->B0 V.E):Got α V.E->Option (Option (SV V.E)×List Cd×List (Nat×Box V.E)×Acc)
 |some (l,bx,rs,ws)=>Ac V bx (k l) rs ws
 |none=>none
theorem T3 {α:Type} (l:α) (k:List α->B0 V.E) (g:Got (List α) V.E):after k (Got.cons l g)=after (λ ls=>k (l::ls)) g:=by
 cases g<;>rfl
theorem Yc:∀(ls:List (Av V.E)) (k:List (Av V.E)->B0 V.E) (bx:List (Nat×Box V.E)) (rs ws:List Nat),Ac V bx (frz V ls k) rs ws=after k (A57 V ls bx rs ws)
 |[],k,bx,rs,ws=>rfl
 |l::r,k,bx,rs,ws=>by
  cases l
  case ar id ver=>
   simp only[frz,A57,Ac]
   cases Ae id bx with
   |none=>rfl
   |some b=>
    cases b<;>try rfl
    ·rename_i e t xs v fz
     simp only
     cases Nat.beq ver v
     ·rfl
     ·cases fz
      ·simp only[if_true,Bool.false_eq_true,if_false,Ac,T3,Yc r]
      ·simp only[if_true,T3,Yc r]
    ·rename_i e e2 t xss v rv fz
     simp only
     cases Nat.beq ver v
     ·rfl
     ·cases fz
      ·simp only[if_true,Ac,T3,Yc r]
      ·simp only[if_true,T3,Yc r]
      ·rfl
  all_goals simp only[frz,A57,T3,Yc r]
theorem Arp:∀(os:List TypeId) (cs:List (CV V.E)) (k:List (Bool×List (Av V.E))->B0 V.E) (bx:List (Nat×Box V.E)) (rs ws:List Nat),Ac V bx (G3 V os cs k) rs ws=after k (Ajs V os cs bx rs ws)
 |os,[],k,bx,rs,ws=>by cases os<;>simp[G3,Ajs,after]
 |os,c::r,k,bx,rs,ws=>by
  have data:∀os',Ac V bx (frz V c.leaves λ l=>G3 V os' r λ r'=>k ((c.isAg,l)::r')) rs ws=after k (match A57 V c.leaves bx rs ws with
   |some (l,bx,rs,ws)=>Got.cons (c.isAg,l) (Ajs V os' r bx rs ws)
   |none=>none):=by
   intro os'
   rw[Yc]
   cases A57 V c.leaves bx rs ws with
   |none=>rfl
   |some g=>
    obtain⟨l,bx1,rs1,ws1⟩:=g
    show Ac V bx1 (G3 V os' r λ r'=>k ((c.isAg,l)::r')) rs1 ws1=after k (Got.cons (c.isAg,l) (Ajs V os' r bx1 rs1 ws1))
    rw[Arp os' r,T3]
  match os with
  |[]=>simp only[G3,Ajs];exact data []
  |0::os=>simp only[G3,Ajs];exact data os
  |(e+1)::os=>
   cases c with
   |ag ls=>simp[G3,Ajs,Ac,after]
   |one l=>
    cases l
    case ar id ver=>
     simp only[G3,Ajs,Ac]
     cases Ae id bx with
     |none=>rfl
     |some b=>
      cases b<;>try rfl
      rename_i e' t xs v fz
      cases fz
      ·simp only
       cases(Nat.beq ver v&&Nat.beq e' (e+1))
       ·rfl
       ·simp only[if_true,Ac,Arp os r,<-T3]
      ·rfl
    all_goals simp[G3,Ajs,Ac,after]
abbrev Rp:=List (Nat×Bool)
def At6 (b:Rp):Operand->Option Bool
 | .tmp d=>Ae d b
 |_=>none
def B2s:Operand->Bool->Rp->Rp
 | .tmp d,x,b=>(d,x)::b
 |_,_,b=>b
def Ccg (d:Option Tmp) (n:Option Bool) (b:Rp):Rp:=
 match d,n with
 |some d,some x=>(d,x)::A86 d b
 |some d,none=>A86 d b
 |none,_=>b
variable (V)
def K3 (b:Rp) (s:St V.E):Prop:=∀d x,Ae d b=some x->slotT V s d=some (.cv (.one (.bool x)))
def Ayo {ρ:Type}:List Cd->Option ρ->Option ρ
 |[],r=>r
 |c::cs,r=>cond c.b (Ayo cs r) none
section
variable {ρ:Type}
abbrev KO (V:Env) (ρ:Type):=Rp->St V.E->Acc->Option ρ
def Bq9 (o:Oper) (b:Rp) (s:St V.E) (n:Option Bool) (v:Option (SV V.E)) (bx:List (Nat×Box V.E)) (ac:Acc) (k:KO V ρ):Option ρ:=k (Ccg o.dst n b) ⟨s.n,Gw V o.dst v s.slots,bx⟩ ac
def A7n (o:Oper) (q:Orc V.E) (b:Rp) (s:St V.E) (n:Option Bool) (k:KO V ρ):Option ρ:=
 match Ac V s.boxes (Afb V (V.base+o.dst.getD 0) o (Dx V s (Cz V o) o.op.operands.toList) q) [] []with
 |some (v,c,bx,ac)=>Ayo c (Bq9 V o b s n v bx ac k)
 |none=>none
def Bi8 (o:Oper) (b:Rp) (s:St V.E) (n:Option Bool) (v:Option (SV V.E)) (k:KO V ρ):Option ρ:=
 match v with
 |some v=>Bq9 V o b s n (some v) s.boxes ⟨[],[]⟩ k
 |none=>none
def Ca2:Option (SV V.E)->Option (SV V.E)->Bool
 |some (.cv (.one (.bool _))),some (.cv (.one (.bool _)))=>true
 |_,_=>false
def Bte (o:Oper) (c x y:Operand) (b:Rp) (s:St V.E) (k:KO V ρ):Option ρ:=
 match At6 b c with
 |some true=>Bi8 V o b s (At6 b x) (Hv V s o.type x) k
 |some false=>Bi8 V o b s (At6 b y) (Hv V s o.type y) k
 |none=>match Hv V s o.type c with
  |some (.cv (.one (.bool z)))=>match Ca2 V (Hv V s o.type x) (Hv V s o.type y)with
   |true=>A7n V o .none b s none k
   |false=>if z=true then Bi8 V o (B2s c true b) s none (Hv V s o.type x) k else Bi8 V o (B2s c false b) s none (Hv V s o.type y) k
  |_=>none
def B80 (o:Oper) (S:FS V.E) (b:Rp) (s:St V.E) (k:KO V ρ) (bx:List (Nat×Box V.E)) (rs ws:List Nat) (z:S.ρ):Option ρ:=
 match Ac V bx (Abd V (V.base+o.dst.getD 0) S.resOwn S.res (S.out z) (Q8 V [])) rs ws with
 |some (v,c,bx,ac)=>Ayo c (Bq9 V o b s none v bx ac k)
 |none=>none
def B3f (o:Oper) (X:FX V.E) (m:List (Nat×Nat)) (src:List (Nat×Box V.E)) (b:Rp) (s:St V.E) (k:KO V ρ) (rs:List Nat) (z:X.ρ):Option ρ:=
 match Bs9 V.T X (V.base+o.dst.getD 0) m src z with
 |some (res,nw,bx)=>match Ac V s.boxes (A12 V nw (Bmt V bx (Q8 V [] res))) rs []with
  |some (v,c,bx',ac)=>Ayo c (Bq9 V o b s none v bx' ac k)
  |none=>none
 |none=>none
def Btq (o:Oper) (cl:Call) (b:Rp) (s:St V.E) (k:KO V ρ):Option ρ:=
 match cl.callee with
 | .builtin _=>A7n V o .none b s none k
 | .value fv=>match Hv V s 0 fv with
   |some (.cv (.one (.clo f caps)))=>match V.fs f with
    |some S=>match A5v V (Dx V s cl.argTypes.toList cl.args.toList)with
     |some ls=>match Ajs V S.argOwn (ls++caps.map .one) s.boxes [] []with
      |some (gl,bx,rs,ws)=>match Aa1 V.T S.args gl with
       |some x=>Option.bind (S.g x) (B80 V o S b s k bx rs ws)
       |none=>none
      |none=>none
     |none=>none
    |none=>match A5v V (Dx V s cl.argTypes.toList cl.args.toList)with
     |some ls=>match V.xs f (ls++caps.map .one)with
      |some X=>match H1 X.ins [] (ls++caps.map .one) [] [] s.boxes []with
       |some (m,src,rs)=>match Bsz V.T X (ls++caps.map .one) m src with
        |some x=>Option.bind (X.g x) (B3f V o X m src b s k rs)
        |none=>none
       |none=>none
      |none=>A7n V o .go b s none k
     |none=>none
   |_=>none
 |_=>none
def B9v (own:List Nat) (o:Oper) (ls:List (Option (SV V.E))):Orc V.E:=
 match ls with
 |[some (.cv (.one (.ar _ _)))]=> .own
 |_=>match o.dst with
  |some d=>match Sa d own||ls.isEmpty with
   |true=> .lit
   |false=> .none
  |none=> .none
def B5o (own:List Nat) (o:Oper):Orc V.E:=
 match o.dst with
 |some d=>match Sa d own with
  |true=> .none
  |false=> .own
 |none=> .own
def Bt0 (own:List Nat) (o:Oper) (b:Rp) (s:St V.E) (k:KO V ρ):Option ρ:=
 match Aj8 V s.n o.dst with
 |true=>match o.op with
  | .move x=>A7n V o .none b s (At6 b x) k
  | .assign x=>A7n V o .none b s (At6 b x) k
  | .pick c x y=>Bte V o c x y b s k
  | .call cl=>Btq V o cl b s k
  | .buildSlice _ n ps=>A7n V o (B9v V own o (if Nat.beq n ps.size then Dx V s (Cz V o) o.op.operands.toList else[none])) b s none k
  | .makeSlice _ _ _=>A7n V o (B5o V own o) b s none k
  |_=>A7n V o .none b s none k
 |false=>none
def Awf (o:Oper) (b:Rp) (s:St V.E) (k:KO V ρ):Option ρ:=
 match Aj8 V s.n o.dst with
 |true=>Bq9 V o b s none (some (.tup [])) s.boxes ⟨[],[]⟩ k
 |false=>none
def dnG (own:List Nat) (ops:List Oper) (i:Nat) (o:Oper) (b:Rp) (s:St V.E) (k:KO V ρ):Option ρ:=
 match o.guard with
 |none=>Bt0 V own o b s k
 |some (j,w)=>match Nat.beq j i,(ops[j]?).bind (·.dst)with
  |false,some d=>match Ae d b with
   |some x=>match x==w with
    |true=>Bt0 V own o b s k
    |false=>Awf V o b s k
   |none=>match slotT V s d with
    |some (.cv (.one (.bool z)))=>match w with
     |true=>if z=true then Bt0 V own o ((d,true)::b) s k else Awf V o ((d,false)::b) s k
     |false=>if z=true then Awf V o ((d,true)::b) s k else Bt0 V own o ((d,false)::b) s k
    |some (.tup [])=>Awf V o b s k
    |_=>none
  |_,_=>none
def B28 (own:List Nat) (ops:List Oper) (K:Rp->St V.E->List Acc->Option ρ):List Oper->Nat->List Acc->Rp->St V.E->Option ρ
 |[],_,acs,b,s=>K b s acs
 |o::os,i,acs,b,s=>dnG V own ops i o b s λ b s ac=>B28 own ops K os (i+1) (acs++[ac]) b s
end
section
variable {V} {ρ:Type} {ops:List Oper} {i:Nat} {o:Oper} {b:Rp} {s:St V.E} {k:KO V ρ} {r:ρ}
theorem Ub:∀{c:List Cd} {x:Option ρ},Ayo c x=some r->Fj c/\x=some r
 |[],_,h=>⟨trivial,h⟩
 |c::cs,x,h=>by
  unfold Ayo at h
  cases hb:c.b with
  |true=>rw[hb]at h;obtain⟨h1,h2⟩:=Ub h;exact⟨⟨c.h hb,h1⟩,h2⟩
  |false=>rw[hb]at h;cases h
theorem Bz3 {n d:Nat} {v:Option (SV V.E)} {sl:List (Nat×Option (SV V.E))} {bx bx':List (Nat×Box V.E)} (h:d≠n):slotT V (⟨s.n,put n v sl,bx⟩:St V.E) d=slotT V ⟨s.n,sl,bx'⟩ d:=by
 unfold slotT slot
 simp only[Ay h]
theorem Are {n:Option Bool} {v:Option (SV V.E)} {bx:List (Nat×Box V.E)} (hb:K3 V b s) (hd:Aj8 V s.n o.dst=true) (hn:∀x,n=some x->v=some (.cv (.one (.bool x)))):K3 V (Ccg o.dst n b) ⟨s.n,Gw V o.dst v s.slots,bx⟩:=by
 intro d x h
 cases hdst:o.dst with
 |none=>
  rw[hdst]at h
  have h:Ae d b=some x:=by cases n<;>exact h
  have:=hb d x h
  rw[<-this];rfl
 |some e=>
  rw[hdst]at h hd
  have key:∀(h:Ae d (A86 e b)=some x),slotT V (⟨s.n,put e v s.slots,bx⟩:St V.E) d=some (.cv (.one (.bool x))):=by
   intro h
   rw[Ax2]at h
   split at h
   ·cases h
   ·rename_i hne
    rw[Bz3 (bx':=s.boxes) hne]
    exact hb d x h
  cases n with
  |none=>exact key h
  |some y=>
   have h2:(if Nat.beq e d=true then some y else Ae d (A86 e b))=some x:=h
   clear h
   by_cases he:Nat.beq e d=true
   ·rw[if_pos he]at h2
    have:=Ah he;subst this
    cases h2
    show slotT V (⟨s.n,put e v s.slots,bx⟩:St V.E) e=_
    unfold slotT slot
    simp only[Aj8,Bool.and_eq_true]at hd
    rw[hd.2.1]
    simp only[Aw,hn _ rfl]
   ·rw[if_neg he]at h2;exact key h2
theorem Ar0 {c:Operand} {t:TypeId} {x:Bool} (hb:K3 V b s) (h:Hv V s t c=some (.cv (.one (.bool x)))):K3 V (B2s c x b) s:=by
 cases c with
 |tmp d=>
  intro e y he
  have h2:(if Nat.beq d e=true then some x else Ae e b)=some y:=he
  clear he
  by_cases hq:Nat.beq d e=true
  ·rw[if_pos hq]at h2
   have:=Ah hq;subst this
   cases h2
   exact h
  ·rw[if_neg hq]at h2;exact hb e y h2
 |_=>exact hb
theorem Afd {c:Operand} {t:TypeId} {x:Bool} (hb:K3 V b s) (h:At6 b c=some x):Hv V s t c=some (.cv (.one (.bool x))):=by
 cases c with
 |tmp d=>exact hb d x h
 |_=>cases h
def Bpu (V:Env) (o:Oper) (b:Rp) (s:St V.E) (k:KO V ρ) (r:ρ):Prop:=
 ∃(q:Orc V.E) (v:Option (SV V.E)) (c:List Cd) (bx:List (Nat×Box V.E)) (ac:Acc) (b':Rp),Ac V s.boxes (Afb V (V.base+o.dst.getD 0) o (Dx V s (Cz V o) o.op.operands.toList) q) [] []=some (v,c,bx,ac)/\Fj c/\
  K3 V b' ⟨s.n,Gw V o.dst v s.slots,bx⟩/\k b' ⟨s.n,Gw V o.dst v s.slots,bx⟩ ac=some r
theorem Az9 {q:Orc V.E} {n:Option Bool} (hb:K3 V b s) (hd:Aj8 V s.n o.dst=true) (hn:∀x v c bx ac,n=some x->Ac V s.boxes (Afb V (V.base+o.dst.getD 0) o (Dx V s (Cz V o) o.op.operands.toList) q) [] []=some (v,c,bx,ac)->v=some (.cv (.one (.bool x)))) (h:A7n V o q b s n k=some r):Bpu V o b s k r:=by
 unfold A7n at h
 split at h
 ·rename_i v c bx ac hi
  obtain⟨h1,h2⟩:=Ub h
  exact⟨q,v,c,bx,ac,_,hi,h1,Are hb hd λ x hx=>hn x v c bx ac hx hi,h2⟩
 ·cases h
theorem Bx0 {c x y:Operand} (ho:o.op= .pick c x y) (hb:K3 V b s) (hd:Aj8 V s.n o.dst=true) (h:Bte V o c x y b s k=some r):Bpu V o b s k r:=by
 have hops:Dx V s (Cz V o) o.op.operands.toList=[Hv V s o.type c,Hv V s o.type x,Hv V s o.type y]:=by
  unfold Cz;rw[ho];rfl
 -- one way,told by the bool z that is d
 have way:∀(z d:Bool) (b1:Rp) (n:Option Bool),Hv V s o.type c=some (.cv (.one (.bool z)))->z=d->K3 V b1 s->(∀u,n=some u->(if d then Hv V s o.type x else Hv V s o.type y)=some (.cv (.one (.bool u))))->
  Bi8 V o b1 s n (if d then Hv V s o.type x else Hv V s o.type y) k=some r->Bpu V o b s k r:=by
  intro z d b1 n hc hz hb1 hn h
  unfold Bi8 at h
  split at h
  ·rename_i v hv
   refine⟨.bit d,some v,[cd (z=d)],s.boxes,⟨[],[]⟩,_, ?_,⟨hz,trivial⟩,Are hb1 hd λ u hu=>by rw[<-hv];exact hn u hu,h⟩
   rw[hops,hc]
   unfold Afb
   rw[ho]
   simp only
   cases d<;>simp only[Bool.false_eq_true,if_true,if_false]at hv<;>simp only[hv,Bool.false_eq_true,if_true,if_false]<;>rfl
  ·cases h
 unfold Bte at h
 split at h
 ·rename_i hbit
  exact way true true b (At6 b x) (Afd hb hbit) rfl hb (λ u hu=>Afd hb hu) h
 ·rename_i hbit
  exact way false false b (At6 b y) (Afd hb hbit) rfl hb (λ u hu=>Afd hb hu) h
 ·split at h
  ·rename_i z hc
   split at h
   ·exact Az9 hb hd (λ x _ _ _ _ hx=>by cases hx) h
   ·by_cases hz:z=true
    ·rw[if_pos hz]at h
     exact way z true _ none hc hz (Ar0 hb (by rw[hc,hz])) (λ u hu=>by cases hu) h
    ·rw[if_neg hz]at h
     have hz:z=false:=by simpa using hz
     exact way z false _ none hc hz (Ar0 hb (by rw[hc,hz])) (λ u hu=>by cases hu) h
  ·cases h
theorem Bzu {cl:Call} (ho:o.op= .call cl) (hb:K3 V b s) (hd:Aj8 V s.n o.dst=true) (h:Btq V o cl b s k=some r):Bpu V o b s k r:=by
 unfold Btq at h
 split at h
 ·exact Az9 hb hd (λ x _ _ _ _ hx=>by cases hx) h
 ·rename_i fv hcl
  split at h
  ·rename_i f caps hfv
   split at h
   ·rename_i S hS
    split at h
    ·rename_i ls hls
     split at h
     ·rename_i gl bx rs ws hg
      split at h
      ·rename_i x hx
       obtain⟨z,hz,h⟩:=bind_some h
       unfold B80 at h
       split at h
       ·rename_i v c bx' ac hi
        obtain⟨h1,h2⟩:=Ub h
        refine⟨.go,v,c,bx',ac,_, ?_,h1,Are hb hd (λ x hx=>by cases hx),h2⟩
        have hops:Dx V s (Cz V o) o.op.operands.toList=Hv V s 0 fv::Dx V s cl.argTypes.toList cl.args.toList:=by
         have:(Op.call cl).operands.toList=fv::cl.args.toList:=by simp[Op.operands,Call.operands,hcl]
         rw[ho,this]
         unfold Cz
         rw[ho]
         simp only[hcl,Dx]
        rw[hops,hfv]
        unfold Afb
        rw[ho]
        simp only[hcl,hls]
        unfold Aqt
        rw[hS]
        simp only[Arp,hg,after,hx]
        unfold A85
        simp only[hz]
        exact hi
       ·cases h
      ·cases h
     ·cases h
    ·cases h
   ·rename_i hS
    split at h
    ·rename_i ls hls
     split at h
     ·rename_i X hX
      split at h
      ·rename_i m src rs hg
       split at h
       ·rename_i x hx
        obtain⟨z,hz,h⟩:=bind_some h
        unfold B3f at h
        split at h
        ·rename_i res nw bx1 hl
         split at h
         ·rename_i v c bx' ac hi
          obtain⟨h1,h2⟩:=Ub h
          refine⟨.go,v,c,bx',ac,_, ?_,h1,Are hb hd (λ x hx=>by cases hx),h2⟩
          have hops:Dx V s (Cz V o) o.op.operands.toList=Hv V s 0 fv::Dx V s cl.argTypes.toList cl.args.toList:=by
           have:(Op.call cl).operands.toList=fv::cl.args.toList:=by simp[Op.operands,Call.operands,hcl]
           rw[ho,this]
           unfold Cz
           rw[ho]
           simp only[hcl,Dx]
          rw[hops,hfv]
          unfold Afb
          rw[ho]
          simp only[hcl,hls]
          unfold Aqt
          rw[hS]
          simp only[hX]
          unfold Asz
          rw[A48,hg]
          simp only[hx,hz,hl]
          exact hi
         ·cases h
        ·cases h
       ·cases h
      ·cases h
     ·exact Az9 hb hd (λ x _ _ _ _ hx=>by cases hx) h
    ·cases h
  ·cases h
 ·cases h
theorem Bw7 {own:List Nat} (hb:K3 V b s) (h:Bt0 V own o b s k=some r):Aj8 V s.n o.dst=true/\Bpu V o b s k r:=by
 unfold Bt0 at h
 split at h
 ·rename_i hd
  refine⟨hd, ?_⟩
  have none_:∀{q:Orc V.E},A7n V o q b s none k=some r->Bpu V o b s k r:=λ h=>Az9 hb hd (λ x _ _ _ _ hx=>by cases hx) h
  have mv:∀{x:Operand},(o.op= .move x\/o.op= .assign x)->A7n V o .none b s (At6 b x) k=some r->Bpu V o b s k r:=by
   intro x ho h
   refine Az9 hb hd (λ u v c bx ac hu hi=> ?_) h
   have hops:Dx V s (Cz V o) o.op.operands.toList=[Hv V s o.type x]:=by
    rcases ho with ho|ho<;>(unfold Cz;rw[ho];rfl)
   rw[hops,Afd hb hu]at hi
   unfold Afb at hi
   rcases ho with ho|ho<;>(rw[ho]at hi;simp only[Ac,Option.some.injEq,Prod.mk.injEq]at hi;exact hi.1.symm)
  split at h
  ·rename_i x ho;exact mv (.inl ho) h
  ·rename_i x ho;exact mv (.inr ho) h
  ·rename_i c x y ho;exact Bx0 ho hb hd h
  ·rename_i cl ho;exact Bzu ho hb hd h
  ·exact none_ h
  ·exact none_ h
  ·exact none_ h
 ·cases h
def Bek (V:Env) (ops:List Oper) (i:Nat) (o:Oper) (s:St V.E) (k:KO V ρ) (r:ρ):Prop:=
 ∃(q:A11 V) (s':St V.E) (c:List Cd) (ac:Acc) (b':Rp),Au9 V ops i o q s=some (s',c,ac)/\Fj c/\K3 V b' s'/\k b' s' ac=some r
theorem Bwj {q0:Orc V.E->A11 V} {c0:List Cd} (hw:∀q,Abb V ops s (q0 q) o=some (true,c0)) (hi:∀q,Afu V (q0 q) i=q) (hc0:Fj c0) (hd:Aj8 V s.n o.dst=true) (h:Bpu V o b s k r):Bek V ops i o s k r:=by
 obtain⟨q,v,c,bx,ac,b',h1,h2,h3,h4⟩:=h
 refine⟨q0 q,⟨s.n,Gw V o.dst v s.slots,bx⟩,c0++c,ac,b', ?_, ?_,h3,h4⟩
 ·unfold Au9
  rw[hd,hw q]
  simp only[hi q,h1]
 ·have key:∀{c1 c':List Cd},Fj c1->Fj c'->Fj (c1++c'):=by
   intro c1
   induction c1 with
   |nil=>intro c' _ h;exact h
   |cons x xs ih=>intro c' h1 h2;exact⟨h1.1,ih h1.2 h2⟩
  exact key hc0 h2
theorem Bwr {q:A11 V} {c0:List Cd} (hw:Abb V ops s q o=some (false,c0)) (hc0:Fj c0) (hb:K3 V b s) (h:Awf V o b s k=some r):Bek V ops i o s k r:=by
 unfold Awf at h
 split at h
 ·rename_i hd
  refine⟨q,⟨s.n,Gw V o.dst (some (.tup [])) s.slots,s.boxes⟩,c0,⟨[],[]⟩,_, ?_,hc0,Are hb hd (λ x hx=>by cases hx),h⟩
  unfold Au9
  rw[hd,hw]
 ·cases h
theorem B94 {own:List Nat} (hb:K3 V b s) (h:dnG V own ops i o b s k=some r):Bek V ops i o s k r:=by
 unfold dnG at h
 split at h
 ·rename_i hg
  obtain⟨hd,h⟩:=Bw7 hb h
  exact Bwj (q0:=λ q=>[(i,q)]) (c0:=[]) (λ q=>by unfold Abb;rw[hg]) (λ q=>by simp[Afu,Ae]) trivial hd h
 ·rename_i j w hg
  split at h
  ·rename_i d hij hdst
   have hne:Nat.beq j i=false:=hij
   have hor:∀(x:Bool) (q:Orc V.E),Afu V [(j,Orc.bit x),(i,q)] i=q:=λ x q=>by simp[Afu,Ae,hne]
   have horj:∀(x:Bool) (q:Orc V.E),Afu V [(j,Orc.bit x),(i,q)] j= .bit x:=λ x q=>by simp[Afu,Ae]
   have wa:∀(z x:Bool) (q:Orc V.E),slotT V s d=some (.cv (.one (.bool z)))->Abb V ops s [(j,Orc.bit x),(i,q)] o=some (x==w,[cd (z=x)]):=by
    intro z x q hz
    unfold Abb
    rw[hg]
    simp only[hdst,hz,horj]
   have yes:∀(z x:Bool) (b1:Rp),slotT V s d=some (.cv (.one (.bool z)))->z=x->(x==w)=true->K3 V b1 s->Bt0 V own o b1 s k=some r->Bek V ops i o s k r:=by
    intro z x b1 hz hzx hxw hb1 h
    obtain⟨hd,h⟩:=Bw7 hb1 h
    exact Bwj (q0:=λ q=>[(j,.bit x),(i,q)]) (c0:=[cd (z=x)]) (λ q=>by rw[wa z x q hz,hxw]) (λ q=>hor x q) ⟨hzx,trivial⟩ hd h
   have no:∀(z x:Bool) (b1:Rp),slotT V s d=some (.cv (.one (.bool z)))->z=x->(x==w)=false->K3 V b1 s->Awf V o b1 s k=some r->Bek V ops i o s k r:=by
    intro z x b1 hz hzx hxw hb1 h
    exact Bwr (q:=[(j,.bit x),(i,.none)]) (c0:=[cd (z=x)]) (by rw[wa z x .none hz,hxw]) ⟨hzx,trivial⟩ hb1 h
   have ad:∀(z x:Bool),slotT V s d=some (.cv (.one (.bool z)))->z=x->K3 V ((d,x)::b) s:=λ z x hz e=>Ar0 (c:= .tmp d) (t:=0) hb (by rw[<-e];exact hz)
   split at h
   ·rename_i x hx
    have hs:=hb d x hx
    split at h
    ·rename_i hxw;exact yes x x b hs rfl hxw hb h
    ·rename_i hxw;exact no x x b hs rfl hxw hb h
   ·split at h
    ·rename_i z hz
     split at h
     ·by_cases e:z=true
      ·rw[if_pos e]at h;exact yes z true _ hz e rfl (ad z true hz e) h
      ·rw[if_neg e]at h
       have e:z=false:=by simpa using e
       exact no z false _ hz e rfl (ad z false hz e) h
     ·by_cases e:z=true
      ·rw[if_pos e]at h;exact no z true _ hz e rfl (ad z true hz e) h
      ·rw[if_neg e]at h
       have e:z=false:=by simpa using e
       exact yes z false _ hz e rfl (ad z false hz e) h
    ·rename_i hz
     exact Bwr (q:=[]) (c0:=[]) (by unfold Abb;rw[hg];simp only[hdst,hz]) trivial hb h
    ·cases h
  ·cases h
end
end
section
variable {V:Env} {P:Program} {C:Ctx} {F:Act->World->Prop} {ρ:Type}
theorem Bon {own:List Nat} {ops:Array Oper} {K:Rp->St V.E->List Acc->Option ρ} {r:ρ}:∀(os:List Oper) (i:Nat) (acs:List Acc) (b:Rp) (s:St V.E),ops.toList.drop i=os->K3 V b s->B28 V own ops.toList K os i acs b s=some r->
 ∃as s2 b',K b' s2 (acs++as)=some r/\K3 V b' s2/\∀allA:List Acc,allA.drop i=as->Ave V ops (Apd allA) ((List.range ops.size).drop i) s s2
 |[],i,acs,b,s,hi,hb,h=>by
  have:ops.size<=i:=by simpa using hi
  have hn:(List.range ops.size).drop i=[]:=by simpa using this
  rw[hn]
  exact⟨[],s,b,by rw[List.append_nil];exact h,hb,λ _ _=> .nil⟩
 |o::os,i,acs,b,s,hi,hb,h=>by
  have hlt:i<ops.size:=by
   rcases Nat.lt_or_ge i ops.size with h|h
   ·exact h
   ·have:ops.toList.drop i=[]:=by simpa using h
    rw[this]at hi;cases hi
  have hn:(List.range ops.size).drop i=i::(List.range ops.size).drop (i+1):=by
   rw[List.drop_eq_getElem_cons (by simpa using hlt)];simp
  have ho:ops[i]?=some o:=by
   have:=congrArg (·[0]?) hi
   simpa using this
  have hi':ops.toList.drop (i+1)=os:=by
   have:=congrArg List.tail hi
   simpa using this
  obtain⟨q,s1,c,ac,b1,h1,h2,h3,h4⟩:=B94 hb h
  obtain⟨as,s2,b2,h5,h6,h7⟩:=Bon os (i+1) (acs++[ac]) b1 s1 hi' h3 h4
  refine⟨ac::as,s2,b2,by rw[<-h5,List.append_assoc];rfl,h6,λ allA ha=> ?_⟩
  rw[hn]
  have ha1:Apd allA i=ac:=by
   have:=congrArg (·[0]?) ha
   unfold Apd
   rw[List.getD_eq_getElem?_getD]
   simp at this
   rw[this];rfl
  have ha':allA.drop (i+1)=as:=by
   have:=congrArg List.tail ha
   simpa using this
  exact .cons ho (by rw[ha1];exact h1) h2 (h7 allA ha')
theorem Bxw (G:Bs V P) {ops:Array Oper} {ac:Nat->Acc} {Q:Exit->Act->World->Prop}:∀{L:List Nat} {s s2:St V.E},Ave V ops ac L s s2->∀{a:Act} {w:World},Sim V C s a w->(∀a' w',Sim V C s2 a' w'->Q .normal a' w')->wpOps P ops Q L a w
 |_,_,_,.nil,a,w,S,hQ=>hQ _ _ S
 |_,_,_,.cons ho h hc r,a,w,S,hQ=>by
  rw[wpOps_cons]
  exact Azz G ho S h hc λ a' w' S'=>Bxw G r S' hQ
theorem Byo (G:Bs V P) {id:Nat} {ops:Array Oper} {drawn:Bool} {Q:Exit->Act->World->Prop} {s s2:St V.E} {as:List Acc} {a:Act} {w:World} (S:Sim V C s a w)
 (hr:Ave V ops (Apd as) (List.range ops.size) s s2) (hd:drawn=true->Bbc ops as=true) (hQ:∀a' w',Sim V C s2 a' w'->Q .normal a' w'):(Code.region id ops drawn).wp P Q a w:=by
 cases drawn with
 |false=>exact wp_region (by simpa using Bxw G hr S hQ)
 |true=>
  have hrem:rem ops.size (Array.replicate ops.size false)=List.range ops.size:=by
   unfold rem
   rw[List.filter_eq_self]
   intro i hi
   simp only[List.mem_range]at hi
   simp[Array.getD_eq_getD_getElem?,hi]
  refine wp_region_any G.mixed (Bm1 G (hd rfl) hQ ops.size _ a _ s s2 (by simp) (by rw[hrem];simp) ?_ S.drew (by rw[hrem];exact hr) (.refl _))
  intro i o ho hl
  simp only[Array.getD_eq_getD_getElem?,Array.getElem?_replicate]at hl
  split at hl<;>simp at hl
structure Pc (V:Env) (ρ:Type) where
 k:List Item
 l:List (Tk V.E)
 val:HV V.E l->Option ρ
def Pc.st {V:Env} {ρ:Type} (n:Nat) (p:Pc V ρ) (v:HV V.E p.l):St V.E:=⟨n,(mkS V.T p.l v).2.1,(mkS V.T p.l v).2.2⟩
def Bnk (V:Env) (P:Program) (n:Nat) (C:Ctx) (F:Act->World->Prop) {ρ:Type} (X:ρ->Prop) (p:Pc V ρ):Prop:=∀v o,p.val v=some o->X o->Bv V P C F p.k (p.st n v)
def B2t {E:Nat->Type}:List (Tk E)->List Nat
 |[]=>[]
 | .S k _::r=>k::B2t r
 |_::r=>B2t r
def Z4 {E:Nat->Type}:List (Tk E)->List Nat
 |[]=>[]
 | .C k::r=>k::Z4 r
 | .A k _ _ _ _::r=>k::Z4 r
 | .R k _ _ _ _ _::r=>k::Z4 r
 | .M k _ _::r=>k::Z4 r
 |_::r=>Z4 r
inductive Sc where
 |g (x:Sc)
 |b (x y:Sc)
 |l (x:Sc)
 |w (w:List WOp) (x:Sc)
 |c (n:Nat) (ws:List (List WOp))
 |e (ws:List (List WOp))
noncomputable def owe {ρ:Type} (p:Prop) (r:Option ρ):Option ρ:=cond (@decide p (Classical.propDecidable p)) r none
noncomputable def Cci {E:Nat->Type} {ρ:Type} (q:List (QD E)) (r:Option ρ):List (QD E)->Option ρ
 |[]=>r
 |a::t=>owe (q=a::t) r
noncomputable def jp {E:Nat->Type} {ρ:Type} (l:List (Tk E)) (r:Option ρ):Option ρ:=owe (tl l=tl l) r
theorem Cbh {E:Nat->Type} {ρ:Type} (l:List (Tk E)) (r:Option ρ):jp l r=r:=by
 unfold jp owe
 rw[@decide_eq_true _ (Classical.propDecidable _) rfl];rfl
theorem Bz9 {E:Nat->Type} {ρ:Type} {q:List (QD E)} {x:Option ρ} {r:ρ} {t:List (QD E)} (hl:t=[]->q=[]) (h:Cci q x t=some r):q=t/\x=some r:=by
 cases t with
 |nil=>exact⟨hl rfl,h⟩
 |cons a t=>
  have h:cond (@decide (q=a::t) (Classical.propDecidable _)) x none=some r:=h
  cases hd: @decide (q=a::t) (Classical.propDecidable _)with
  |true=>rw[hd]at h;exact⟨@of_decide_eq_true _ (Classical.propDecidable _) hd,h⟩
  |false=>rw[hd]at h;cases h
theorem Btt {E:Nat->Type}:∀(l:List (Tk E)) (h:HV E (Ajv l)),tl l=[]->(Cq l h).2=[]:=by
 intro l
 induction l with
 |nil=>intro h _;rfl
 |cons t r ih=>
  intro h e
  cases t with
  |q t x=>simp[tl]at e
  |S k ag=>exact ih h e
  |k l=>exact ih h e
  |C id=>exact ih h e
  |_=>obtain⟨y,h⟩:=h;exact ih h e
variable (V)
def B74 (n:Nat) (p:Pc V ρ) (s:St V.E):Option (HV V.E p.l×List (QD V.E)):=
 match Nat.beq s.n n,Ben (B2t p.l) (Z4 p.l) s with
 |true,some s=>match ofS V.T (Ajv p.l) [] s.slots s.boxes with
  |some h=>some (Cq p.l h)
  |none=>none
 |_,_=>none
def Bzr {α:Type} (f:St V.E->Option α) (g:List Cd->α->Option ρ):List (List WOp)->St V.E->Option ρ
 |[],_=>none
 |w::ws,s=>match weak w s with
  |some (s',cs)=>match f s' with
   |some y=>g cs y
   |none=>Bzr f g ws s
  |none=>Bzr f g ws s
def B6z (own:List Nat) (K:Rp->St V.E->Option ρ) (ops:Array Oper) (drawn:Bool) (b:Rp) (s:St V.E):Option ρ:=
 B28 V own ops.toList (λ b s acs=>match !drawn||Bbc ops acs with
  |true=>K b s
  |false=>none) ops.toList 0 [] b s
noncomputable def dn (own:List Nat) (n:Nat) (cuts:List (Pc V ρ)) (fin:St V.E->Option ρ):Sc->List Item->Rp->St V.E->Option ρ
 | .g x,k,b,s=>match auto 200 k with
   | .code (.region _ ops drawn)::k'=>B6z V own (dn own n cuts fin x k') ops drawn b s
   |_=>none
 | .b x y,k,b,s=>match auto 200 k with
   | .code (.cond c t f)::k'=>match At6 b c with
     |some true=>dn own n cuts fin x (.code t::k') b s
     |some false=>dn own n cuts fin y (.code f::k') b s
     |none=>match Hv V s 0 c with
      |some (.cv (.one (.bool z)))=>if z=true then dn own n cuts fin x (.code t::k') (B2s c true b) s else dn own n cuts fin y (.code f::k') (B2s c false b) s
      |_=>none
   |_=>none
 | .l x,k,b,s=>match auto 200 k with
   | .code (.loop c)::k'=>dn own n cuts fin x (.code c:: .inLoop c::k') b s
   | .inLoop c::k'=>dn own n cuts fin x (.code c:: .inLoop c::k') b s
   |_=>none
 | .w w x,k,_,s=>match weak w s with
   |some (s,cs)=>Ayo cs (dn own n cuts fin x k [] s)
   |none=>none
 | .c j ws,_,_,s=>match cuts[j]? with
   |some p=>Bzr V (B74 V n p) (λ cs v=>Ayo cs (Cci v.2 (p.val v.1) (tl p.l))) ws s
   |none=>none
 | .e ws,k,_,s=>match Bww k with
   |true=>Bzr V fin (λ cs o=>Ayo cs (some o)) ws s
   |false=>none
def arr:Sc->List Item->List (Nat×List Item)
 | .g x,k=>match auto 200 k with
   | .code (.region _ _ _)::k'=>arr x k'
   |_=>[]
 | .b x y,k=>match auto 200 k with
   | .code (.cond _ t f)::k'=>arr x (.code t::k')++arr y (.code f::k')
   |_=>[]
 | .l x,k=>match auto 200 k with
   | .code (.loop c)::k'=>arr x (.code c:: .inLoop c::k')
   | .inLoop c::k'=>arr x (.code c:: .inLoop c::k')
   |_=>[]
 | .w _ x,k=>arr x k
 | .c j _,k=>[(j,auto 200 k)]
 | .e _,_=>[]
def Ahq {V:Env} (cuts:List (Pc V ρ)) (x:Nat×List Item):Nat×List Item:=match cuts[x.1]? with
 |some p=>(x.1,p.k)
 |none=>(x.1,[])
variable {V}
def Ant (V:Env) (P:Program) (n:Nat) (C:Ctx) (F:Act->World->Prop) {ρ:Type} (X:ρ->Prop):List (Pc V ρ)->Prop
 |[]=>True
 |p::ps=>Bnk V P n C F X p/\Ant V P n C F X ps
theorem Bsi {n:Nat} {X:ρ->Prop}:∀{cuts:List (Pc V ρ)},Ant V P n C F X cuts->∀{j:Nat} {p:Pc V ρ},cuts[j]?=some p->Bnk V P n C F X p
 |p::ps,h,0,_,e=>by simp at e;subst e;exact h.1
 |p::ps,h,j+1,_,e=>Bsi h.2 (by simpa using e)
theorem Asx {α:Type} {f:St V.E->Option α} {g:List Cd->α->Option ρ} {o:ρ}:∀{ws:List (List WOp)} {s:St V.E},Bzr V f g ws s=some o->∃s' cs w y,weak w s=some (s',cs)/\f s'=some y/\g cs y=some o
 |[],_,h=>by cases h
 |w::ws,s,h=>by
  unfold Bzr at h
  split at h
  ·rename_i s' cs hw
   split at h
   ·rename_i y hy;exact⟨s',cs,w,y,hw,hy,h⟩
   ·exact Asx h
  ·exact Asx h
theorem Xv {α:Type} {f:α->α}:∀{l:List α},l.map f=l->∀x∈l,f x=x
 |a::l,h,x,hx=>by
  simp only[List.map_cons,List.cons.injEq]at h
  rcases List.mem_cons.1 hx with rfl|hx
  ·exact h.1
  ·exact Xv h.2 x hx
theorem Ah1 (G:Bs V P) {own:List Nat} {n:Nat} {cuts:List (Pc V ρ)} {fin:St V.E->Option ρ} {X:ρ->Prop} (hc:Ant V P n C F X cuts) (hf:∀s o,fin s=some o->X o->∀a w,Sim V C s a w->F a w) {o:ρ} (hX:X o):
 ∀(sc:Sc) (k:List Item) (b:Rp) (s:St V.E),dn V own n cuts fin sc k b s=some o->K3 V b s->(∀x∈arr sc k,Ahq cuts x=x)->Bv V P C F k s
 | .g x,k,b,s,h,hb,ha=>by
   have A:=λ (b:Frame) (a:Act) (cs:List Frame) (w:World)=>F9 (P:=P) b a cs w 200 k
   unfold dn at h
   split at h
   ·rename_i id ops drawn k' hk
    unfold arr at ha
    rw[hk]at ha
    unfold B6z at h
    obtain⟨as,s2,b2,h1,h2,h3⟩:=Bon ops.toList 0 [] b s rfl hb h
    rw[List.nil_append]at h1
    split at h1
    ·rename_i hd
     have g:=Ah1 G hc hf hX x k' b2 s2 h1 h2 ha
     refine .of_steps (λ a w S b cs=> ?_) g
     have hwp:=Byo G (id:=id) (drawn:=drawn) (Q:=λ e a' w'=>e= .normal/\Sim V C s2 a' w') S (h3 as rfl) (λ e=>by rw[e]at hd;exact hd) (λ a' w' S'=>⟨rfl,S'⟩)
     obtain⟨e,a',w',⟨rfl,S'⟩,harr⟩:=hwp b k' cs
     refine⟨a',w',S', ?_⟩
     have:=A b a cs w
     rw[hk]at this
     exact this.trans harr
    ·cases h1
   ·cases h
 | .b x y,k,b,s,h,hb,ha=>by
   have A:=λ (b:Frame) (a:Act) (cs:List Frame) (w:World)=>F9 (P:=P) b a cs w 200 k
   unfold dn at h
   split at h
   ·rename_i c t f k' hk
    unfold arr at ha
    rw[hk]at ha
    have way:∀(z d:Bool),Hv V s 0 c=some (.cv (.one (.bool z)))->z=d->Bv V P C F (.code (if d then t else f)::k') s->Bv V P C F k s:=by
     intro z d hz hd g
     refine .of_steps (λ a w S b cs=>⟨a,w,S, ?_⟩) g
     obtain⟨β,S⟩:=S
     have hr:=As7 S 0 c _ hz
     simp only[SR,Az,Ar,Ad]at hr
     have:=A b a cs w
     rw[hk]at this
     refine this.trans (.one ?_)
     rw[step_cond hr,hd]
    split at h
    ·rename_i hbit
     exact way true true (Afd hb hbit) rfl (Ah1 G hc hf hX x _ b s h hb λ q hq=>ha q (List.mem_append_left _ hq))
    ·rename_i hbit
     exact way false false (Afd hb hbit) rfl (Ah1 G hc hf hX y _ b s h hb λ q hq=>ha q (List.mem_append_right _ hq))
    ·split at h
     ·rename_i z hz
      by_cases e:z=true
      ·rw[if_pos e]at h
       exact way z true hz e (Ah1 G hc hf hX x _ _ s h (Ar0 hb (by rw[hz,e])) λ q hq=>ha q (List.mem_append_left _ hq))
      ·rw[if_neg e]at h
       have e:z=false:=by simpa using e
       exact way z false hz e (Ah1 G hc hf hX y _ _ s h (Ar0 hb (by rw[hz,e])) λ q hq=>ha q (List.mem_append_right _ hq))
     ·cases h
   ·cases h
 | .l x,k,b,s,h,hb,ha=>by
   have A:=λ (b:Frame) (a:Act) (cs:List Frame) (w:World)=>F9 (P:=P) b a cs w 200 k
   unfold dn at h
   split at h
   ·rename_i c k' hk
    unfold arr at ha
    rw[hk]at ha
    refine .of_steps (λ a w S b cs=>⟨a,w,S, ?_⟩) (Ah1 G hc hf hX x _ b s h hb ha)
    have:=A b a cs w
    rw[hk]at this
    exact this.trans (.one step_loop)
   ·rename_i c k' hk
    unfold arr at ha
    rw[hk]at ha
    refine .of_steps (λ a w S b cs=>⟨a,w,S, ?_⟩) (Ah1 G hc hf hX x _ b s h hb ha)
    have:=A b a cs w
    rw[hk]at this
    exact this.trans (.one step_inLoop)
   ·cases h
 | .w w x,k,b,s,h,hb,ha=>by
   unfold dn at h
   split at h
   ·rename_i s1 cs hw
    obtain⟨hcs,h⟩:=Ub h
    have g:=Ah1 G hc hf hX x k [] s1 h (λ _ _ h=>by cases h) ha
    exact λ a w S=>g a w (Awr hw hcs S)
   ·cases h
 | .c j ws,k,b,s,h,hb,ha=>by
   unfold dn at h
   split at h
   ·rename_i p hp
    obtain⟨s1,cs,w,v,hw,hv,h⟩:=Asx h
    obtain⟨hcs,h⟩:=Ub h
    unfold B74 at hv
    split at hv
    rotate_left
    ·cases hv
    rename_i s2 hn hk
    split at hv
    ·rename_i v0 hv0
     cases hv
     obtain⟨hq,h⟩:=Bz9 (Btt p.l v0) h
     have hm:=B3s _ G.tab _ _ _ _ _ hv0
     rw[B07 _ _ _ hq]at hm
     generalize (Cq p.l v0).1=v at h hm
     have hpl:=ha (j,auto 200 k) (by simp[arr])
     unfold Ahq at hpl
     rw[hp]at hpl
     have hpl:p.k=auto 200 k:=(Prod.mk.inj hpl).2
     have g:=Bsi hc hp v o h hX
     rw[hpl]at g
     refine .of_steps (λ a w S b cs=>⟨a,w, ?_,F9 b a cs w 200 k⟩) g
     have S2:=Bxb hk (Awr hw hcs S)
     have hn2:s2.n=n:=by
      have:s2.n=s1.n:=by
       unfold Ben at hk
       simp only at hk
       split at hk
       ·cases hk;rfl
       ·cases hk
      rw[this];exact Ah hn
     have:p.st n v=s2:=by
      unfold Pc.st
      rw[hm,<-hn2]
     rw[this];exact S2
    ·cases hv
   ·cases h
 | .e ws,k,b,s,h,hb,ha=>by
   unfold dn at h
   split at h
   ·rename_i hend
    obtain⟨s1,cs,w,o',hw,hfin,h⟩:=Asx h
    obtain⟨hcs,h⟩:=Ub h
    cases h
    intro a w S b cs
    have S1:=Awr hw hcs S
    have hs:=F9 (P:=P) b a cs w 200 k
    unfold Bww at hend
    split at hend
    ·rename_i hk
     rw[hk]at hs
     exact⟨a,w,[],hf s1 o hfin hX a w S1,hs.trans (.one step_end)⟩
    ·rename_i k1 hk
     rw[hk]at hs
     exact⟨a,w,.code .ret::k1,hf s1 o hfin hX a w S1,hs.trans (.one step_ret)⟩
    ·cases hend
   ·cases h
end
section
variable {V:Env} {P:Program} {C:Ctx} {F:FT} {ρ τ σ:Type} {n:Nat}
def Anz (V:Env) (C:Ctx) (F:FT) (fin:St V.E->Option ρ) (X:ρ->Prop):Prop:=∀s o,fin s=some o->X o->∀a w,Sim V C s a w->F a w
def B53 (V:Env) (rs:List ResultVar) (os:List (List (TypeId×TypeId))) (ts:List Ty) (cv:HL V.E ts->ρ) (s:St V.E):Option ρ:=
 match Ai8 V s os ts rs with
 |some (y,ids)=>match Ak2 ids with
  |true=>some (cv y)
  |false=>none
 |none=>none
theorem B44 {rs:List ResultVar} {os:List (List (TypeId×TypeId))} {ts:List Ty} {cv:HL V.E ts->ρ} {X:ρ->Prop} (h:∀y,X (cv y)->Bqx V C F rs os ts y):Anz V C F (B53 V rs os ts cv) X:=by
 intro s o hs hX a w S
 unfold B53 at hs
 split at hs
 ·rename_i y ids hf
  split at hs
  ·rename_i hd
   cases hs
   exact h y hX s ids hf hd a w S
  ·cases hs
 ·cases hs
theorem fS (fn:Func) (S:FS V.E) (cv:HL V.E S.res->ρ) {X:ρ->Prop} (h:∀y,X (cv y)->Bqx V C F fn.results.toList S.resOwn S.res y):Anz V C F (B53 V fn.results.toList S.resOwn S.res cv) X:=B44 h
theorem an {X:ρ->Prop}:Ant V P n C F X []:=trivial
theorem ac {X:ρ->Prop} {p:Pc V ρ} {ps:List (Pc V ρ)} (h:Bnk V P n C F X p) (k:Ant V P n C F X ps):Ant V P n C F X (p::ps):=⟨h,k⟩
def Ccz (V:Env) {ρ:Type} (_:St V.E):Option ρ:=none
theorem Au {X:ρ->Prop}:Anz V C F (Ccz V) X:=λ _ _ h=>by cases h
theorem pk (G:Bs V P) (own:List Nat) {cuts:List (Pc V ρ)} {fin:St V.E->Option ρ} {X:ρ->Prop} {p:Pc V ρ} (hf:Anz V C F fin X) (sc:Sc) (hc:Ant V P n C F X cuts)
 (e:∀v,dn V own n cuts fin sc p.k [] (p.st n v)=p.val v:=by intro v;kernel_rfl) (ha:(arr sc p.k).map (Ahq cuts)=arr sc p.k:=by kernel_rfl):Bnk V P n C F X p:=
 λ v _ h hX=>Ah1 G hc hf hX sc p.k [] _ ((e v).trans h) (λ _ _ h=>by cases h) (Xv ha)
theorem pv (G:Bs V P) (own:List Nat) {cuts:List (Pc V ρ)} {fin:St V.E->Option ρ} {X:ρ->Prop} {p:Pc V ρ} {v:HV V.E p.l} {o:ρ} (hf:Anz V C F fin X) (sc:Sc) (hc:Ant V P n C F X cuts)
 (h:p.val v=some o) (hX:X o) (e:dn V own n cuts fin sc p.k [] (p.st n v)=p.val v:=by kernel_rfl) (ha:(arr sc p.k).map (Ahq cuts)=arr sc p.k:=by kernel_rfl):Bv V P C F p.k (p.st n v):=
 Ah1 G hc hf hX sc p.k [] _ (e.trans h) (λ _ _ h=>by cases h) (Xv ha)
theorem rv (x:σ) (z:ρ) (G:Bs V P) (own:List Nat) (n:Nat) {cuts:List (Pc V ρ)} {fin:St V.E->Option ρ} {X:ρ->Prop} {k:List Item} {S:σ->St V.E} {g:σ->Option ρ} (hf:Anz V C F fin X) (sc:Sc) (hc:Ant V P n C F X cuts)
 (h:g x=some z) (hX:X z) (e:dn V own n cuts fin sc k [] (S x)=g x:=by kernel_rfl) (ha:(arr sc k).map (Ahq cuts)=arr sc k:=by kernel_rfl):Bv V P C F k (S x):=
 Ah1 G hc hf hX sc k [] _ (e.trans h) (λ _ _ h=>by cases h) (Xv ha)
abbrev LX (V:Env) (P:Program) (n:Nat) (C:Ctx) (F:FT) (k:List Item) (l:List (Tk V.E)) (XL:τ->Prop):HV V.E l⊕τ->Prop:=LP V P C F k (λ v=>Pc.st n (⟨k,l,λ _=>none⟩:Pc V Unit) v) XL
theorem lk {k:List Item} {l:List (Tk V.E)} {body:HV V.E l->Option (HV V.E l⊕τ)} {XK:τ->Option ρ} {X:ρ->Prop} {XL:τ->Prop} (hb:Bnk V P n C F (LX V P n C F k l XL) ⟨k,l,body⟩) (hx:∀r o,XK r=some o->X o->XL r):
 Bnk V P n C F X ⟨k,l,λ v=>Option.bind (iter body v) XK⟩:=by
 intro v o h hX
 obtain⟨r,h1,h2⟩:=bind_some h
 exact lg (λ v o h hl=>hb v o h hl) h1 (hx r o h2 hX)
theorem bk {k:List Item} {l:List (Tk V.E)} {XL:τ->Prop}:Bnk V P n C F (LX V P n C F k l XL) ⟨k,l,λ v=>some (.inl v)⟩:=λ v o h hX=>hX.1 v (sj h).symm
abbrev GE (V:Env) (P:Program) (n:Nat) (C:Ctx) (F:FT) (k:List Item) (l:List (Tk V.E)) (x:HV V.E l):Prop:=Bv V P C F k (Pc.st n (⟨k,l,λ _=>none⟩:Pc V Unit) x)
theorem xt {k:List Item} {l:List (Tk V.E)} {XL:τ->Prop} {k':List Item} {l':List (Tk V.E)} (inj:HV V.E l'->τ) (hg:∀x,XL (inj x)->GE V P n C F k' l' x):
 Bnk V P n C F (LX V P n C F k l XL) ⟨k',l',λ x=>some (.inr (inj x))⟩:=λ v _ h hX=>hg v (hX.2 _ (sj h).symm)
theorem xs {α β:Type} {f:α->Option ρ} {g:β->Option ρ} {X:ρ->Prop} {A:α->Prop} {B:β->Prop} (ha:∀r o,f r=some o->X o->A r) (hb:∀r o,g r=some o->X o->B r):∀r o,Sum.elim f g r=some o->X o->Sum.elim A B r
 | .inl x,o,h,hX=>ha x o h hX
 | .inr x,o,h,hX=>hb x o h hX
theorem xr {Y:ρ->Prop}:∀r o,some r=some o->Y o->Y r:=λ _ _ h hY=>by cases h;exact hY
theorem xl {k:List Item} {l:List (Tk V.E)} {XL:τ->Prop} {f:σ->τ}:∀r o,(some (.inr (f r)):Option (HV V.E l⊕τ))=some o->LX V P n C F k l XL o->XL (f r):=λ _ _ h hX=>hX.2 _ (sj h).symm
theorem md {fn:Func} {f:FuncId} {as rs:List Ty} {ao:List TypeId} {ro:List (List (TypeId×TypeId))} {α:Type} {g:HL V.E as->Option α} {out:α->HL V.E rs} (G:Bs V P)
 (w:Bs V P->∀C F x z,g x=some z->Bqx V C F fn.results.toList ro rs (out z)->Bv V P C F [.code (fn.body.getD .skip)] (As5 V fn.ntmps ⟨as,rs,ao,ro,α,g,out⟩ x))
 (h0:V.t0=false:=by kernel_rfl) (h1:P.funcs[f]?=some fn:=by kernel_rfl) (h2:fn.body=some (fn.body.getD .skip):=by kernel_rfl) (h3:(fn.name== "runtime.NumGoroutine")=false:=by kernel_rfl) (h4:(Nat.ble as.length fn.ntmps&&Nat.ble as.length 1000000)=true:=by kernel_rfl):E1 V P f ⟨as,rs,ao,ro,α,g,out⟩:=
 Bsa G h0 h1 h2 h3 h4 λ x y h C F E=>by
  have h:Option.map out (g x)=some y:=h
  obtain⟨z,hz,e⟩:=Option.map_eq_some_iff.1 h
  subst e
  exact w G C F x z hz E
end
end Go.Ab
