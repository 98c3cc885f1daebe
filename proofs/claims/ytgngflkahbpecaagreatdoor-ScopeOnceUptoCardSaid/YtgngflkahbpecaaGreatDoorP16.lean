/- Functions of Go's library, told ahead for closed running: what they return at texts. What some functions of Go's library compute, as plain functions. Conditions: none beyond those that each theorem names. -/
import Derived.Test.YtgngflkahbpecaaGreatDoorP15
import Derived.Lib.Bytealg
import Derived.Lib.IndexAny
import Derived.Laws.RangeString
import Derived.Test.YtgngflkahbpecaaGreatDoorP11
namespace Go.Ab
open Go
section
variable {T:Tab} {P:Program} {f:FuncId}
theorem B4t {α β:Type} {R:α->β->Prop} {x:α} {l:List β} (h:Ba R [x] l):∃v,l=[v]/\R x v:=by
 cases h with
 |cons h1 h2=>cases h2;exact⟨_,rfl,h1⟩
theorem Be9 {α β:Type} {R:α->β->Prop} {x y:α} {l:List β} (h:Ba R [x,y] l):∃v u,l=[v,u]/\R x v/\R y u:=by
 cases h with
 |cons h1 h2=>obtain⟨u,rfl,h3⟩:=B4t h2;exact⟨_,_,rfl,h1,h3⟩
theorem Av5 {S:FL T.E} (hf:∃fn,P.funcs[f]?=some fn/\fn.body.isSome=true/\(fn.name== "runtime.NumGoroutine")=false)
 (h:∀lo args bx res bx',S.g lo args bx=some (res,bx')->bx'=bx/\∃n:Int,res=[.one (.int .i64 n)]/\∀(bx:List (Nat×Box T.E)) (β:Nat->BI) (ok:Nat->Prop) (w:World) (vs:List Value),Ba (Ar T bx β ok w) args vs->
  Calls P f vs.toArray w λ e w'=>e= .returned (.int .i64 n)/\U1 w w'):L7 T P f S:=by
 refine⟨hf,λ lo args bx res bx' hg C β w vs kx kv M ha hk=> ?_⟩
 obtain⟨rfl,n,rfl,hc⟩:=h lo args bx res bx' hg
 refine(hc _ _ _ _ _ ha).mono ?_
 rintro e w' ⟨rfl,G⟩
 obtain⟨M',X⟩:=M.grow G
 exact⟨β,[.int .i64 n],rfl,M',.cons rfl .nil,hk.imp λ _ _ k=>Az.ext X k⟩
def B02 (c:UInt8):List UInt8->Nat
 |[]=>0
 |x::r=>match Nat.beq x.toNat c.toNat with|true=>B02 c r+1|false=>B02 c r
theorem B0s (a b:UInt8):Nat.beq a.toNat b.toNat=(a==b):=by
 by_cases h:a=b
 ·subst h;simp
 ·have h2:(a==b)=false:=by simpa using h
  rw[h2]
  cases h3:Nat.beq a.toNat b.toNat with
  |false=>rfl
  |true=>exact absurd (UInt8.toNat_inj.1 (Nat.eq_of_beq_eq_true h3)) h
theorem Bwl (c:UInt8):∀l,B02 c l=Lib.countByte l c
 |[]=>rfl
 |x::r=>by
  have ih:=Bwl c r
  rw[B02,B0s]
  unfold Lib.countByte at*
  rw[List.count_cons,ih]
  cases x==c<;>simp
def B2v (c:UInt8):List UInt8->Nat->Int
 |[],_=> -1
 |x::r,i=>match Nat.beq x.toNat c.toNat with|true=>(i:Int)|false=>B2v c r (i+1)
theorem Bxh (c:UInt8):∀(l:List UInt8) (i:Nat),B2v c l i=if Lib.indexByte l c== -1 then -1 else Lib.indexByte l c+i
 |[],i=>rfl
 |x::r,i=>by
  have ih:=Bxh c r (i+1)
  have hg:=Lib.indexByte_ge r c
  rw[B2v,B0s,Lib.indexByte]
  cases hx:x==c with
  |true=>simp
  |false=>
   simp only[Bool.false_eq_true,if_false]
   rw[ih]
   by_cases h:Lib.indexByte r c= -1
   ·simp[h]
   ·have h2:(Lib.indexByte r c== -1)=false:=by simpa using h
    have h3:(Lib.indexByte r c+1== -1)=false:=by simpa using(by omega:¬Lib.indexByte r c+1= -1)
    rw[h2];simp only[Bool.false_eq_true,if_false,h3];omega
theorem By5 (c:UInt8) (l:List UInt8):B2v c l 0=Lib.indexByte l c:=by
 rw[Bxh]
 by_cases h:Lib.indexByte l c= -1
 ·simp[h]
 ·have h2:(Lib.indexByte l c== -1)=false:=by simpa using h
  rw[h2];simp
def B2l (E:Nat->Type):FL E:=⟨λ _ args bx=>match args with
 |[.one (.str s),.one (.str [c])]=>some ([.one (.int .i64 (B02 c s))],bx)
 |_=>none⟩
def B4e (E:Nat->Type):FL E:=⟨λ _ args bx=>match args with
 |[.one (.str s),.one (.int .u8 c)]=>some ([.one (.int .i64 (B2v (UInt8.ofNat c.toNat) s 0))],bx)
 |_=>none⟩
def B3d (E:Nat->Type):FL E:=⟨λ _ args bx=>match args with
 |[.one (.str []),.one (.str (_::_::_))]=>some ([.one (.int .i64 (-1))],bx)
 |_=>none⟩
theorem B18 (hf:∃fn,P.funcs[f]?=some fn/\fn.body.isSome=true/\(fn.name== "runtime.NumGoroutine")=false)
 (h:∀(s:ByteArray) (c:UInt8) (w:World),Calls P f #[.string s,.string ⟨#[c]⟩] w λ e w'=>e= .returned (.int .i64 (Lib.countByte s.data.toList c))/\w'=w):L7 T P f (B2l T.E):=by
 refine Av5 hf λ lo args bx res bx' hg=> ?_
 simp only[B2l]at hg
 split at hg
 ·rename_i s c
  cases hg
  refine⟨rfl,_,rfl,λ bx β ok w vs ha=> ?_⟩
  obtain⟨v,u,rfl,h1,h2⟩:=Be9 ha
  have h1:v= .string ⟨s.toArray⟩:=h1
  have h2:u= .string ⟨#[c]⟩:=h2
  subst h1 h2
  refine(h ⟨s.toArray⟩ c w).mono ?_
  rintro e w' ⟨rfl,rfl⟩
  exact⟨by rw[Bwl],U1.refl _⟩
 ·cases hg
theorem B4w (hf:∃fn,P.funcs[f]?=some fn/\fn.body.isSome=true/\(fn.name== "runtime.NumGoroutine")=false)
 (h:∀(s:ByteArray) (c:Int) (w:World),Calls P f #[.string s,.int .u8 c] w λ e w'=>e= .returned (.int .i64 (Lib.indexByte s.data.toList c.toNat.toUInt8))/\w'=w):L7 T P f (B4e T.E):=by
 refine Av5 hf λ lo args bx res bx' hg=> ?_
 simp only[B4e]at hg
 split at hg
 ·rename_i s c
  cases hg
  refine⟨rfl,_,rfl,λ bx β ok w vs ha=> ?_⟩
  obtain⟨v,u,rfl,h1,h2⟩:=Be9 ha
  have h1:v= .string ⟨s.toArray⟩:=h1
  have h2:u= .int .u8 c:=h2
  subst h1 h2
  refine(h ⟨s.toArray⟩ c w).mono ?_
  rintro e w' ⟨rfl,rfl⟩
  exact⟨by rw[By5],U1.refl _⟩
 ·cases hg
theorem B2c (hf:∃fn,P.funcs[f]?=some fn/\fn.body.isSome=true/\(fn.name== "runtime.NumGoroutine")=false)
 (h:∀(s chars:ByteArray) (w:World),2<=chars.size->s.size<=8->(∀(j:Nat) b,s.data.toList[j]?=some b->b.toNat<128)->Calls P f #[.string s,.string chars] w λ e w'=>e= .returned (.int .i64 (Lib.indexAny s.data.toList chars.data.toList))/\∃pos,w'=w.iter s pos):L7 T P f (B3d T.E):=by
 refine Av5 hf λ lo args bx res bx' hg=> ?_
 simp only[B3d]at hg
 split at hg
 ·rename_i a b r
  cases hg
  refine⟨rfl,_,rfl,λ bx β ok w vs ha=> ?_⟩
  obtain⟨v,u,rfl,h1,h2⟩:=Be9 ha
  have h1:v= .string ⟨#[]⟩:=h1
  have h2:u= .string ⟨(a::b::r).toArray⟩:=h2
  subst h1 h2
  refine(h ⟨#[]⟩ ⟨(a::b::r).toArray⟩ w (by simp[ByteArray.size]) (by simp[ByteArray.size]) (by intro j b hb;simp at hb)).mono ?_
  rintro e w' ⟨rfl,pos,rfl⟩
  exact⟨rfl,U1.alloc _ _⟩
 ·cases hg
end
def fst (p:Nat->Bool):Nat->Nat->Option Nat
 |_,0=>none
 |i,n+1=>if p i then some i else fst p (i+1) n
def B3:List UInt8->List UInt8->List (List UInt8)
 |acc,[]=>[acc]
 |acc,c::r=>if c==46 then acc::B3 [] r else B3 (acc++[c]) r
def Aas:Option Nat->Int
 |some k=>(k:Int)
 |none=> -1
def Uo (c:UInt8):Bool:=decide (48<=c.toNat)&&decide (c.toNat<=57)
def Si:Nat->List UInt8->Nat
 |a,[]=>a
 |a,c::r=>Si (a*10+(c.toNat-48)) r
def Ji (s:List UInt8) (c:Int):Option Int:=
 need (0<=c/\c<256)<|
 some (Aas (fst (λ k=>decide (((s.getD k 0).toNat:Int)=c)) 0 s.length))
def Qh (s t:List UInt8):Option Int:=
 need (t.length=1)<|
 some (Aas (fst (λ k=>decide (s.getD k 0=t.getD 0 0)) 0 s.length))
def Iz (s t:List UInt8) (v n:Int):Option (List (List UInt8)):=
 need (t=[46]/\v=0/\n= -1/\s.length<4294967281)<|
 some (B3 [] s)
def Tq (s t:List UInt8):Option Int:=
 need ((∀x∈s,x.toNat<128)/\(∀x∈t,x.toNat<128)/\s.length<4294967281/\t.length<4294967281)<|
 some (Aas (fst (λ k=>t.contains (s.getD k 0)) 0 s.length))
def Yz (s:List UInt8) (n:Int):Option (List UInt8):=
 need (0<=n/\s.length*n.toNat<=140737488355328/\n<=9223372036854775807)<|
 some (List.replicate n.toNat s).flatten
def Apx (s:List UInt8):Option Int:=
 need (s.length<=18/\s≠[]/\s.all Uo=true)<|
 some (Si 0 s:Int)
def Du (l:List Int):Option (List Int):=
 need (l.length*8<=140737488355328)<|
 some l
end Go.Ab
