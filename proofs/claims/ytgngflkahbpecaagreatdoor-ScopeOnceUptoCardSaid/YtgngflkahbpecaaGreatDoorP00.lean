/- The abstract values, states and evaluator of the own layer: what a piece of the model's code computes, told on plain data. Conditions: none beyond those that each theorem names. -/
import Derived.Orders
import Derived.KernelRfl
set_option linter.unusedSimpArgs false
set_option linter.unusedVariables false
namespace Go.Ab
open Go
inductive Ty where
 |int (k:IntKind)|bool|str|sl (t:Ty)|nm (n:Nat)
 deriving DecidableEq
@[reducible] def Ty.den (E:Nat->Type):Ty->Type
 | .int _=>Int
 | .bool=>Bool
 | .str=>List UInt8
 | .sl t=>List (t.den E)
 | .nm n=>E n
inductive Av (E:Nat->Type):Type where
 |int (k:IntKind) (n:Int)
 |bool (b:Bool)
 |str (s:List UInt8)
 |sl (t:Ty) (st:Bool) (xs:List (t.den E)) -- a slice that nobody writes;st:nil just if empty
 |ar (id ver:Nat) -- the slice that the box id holds
 |row (id ver rv:Nat) (i:Int) -- a row of the box id of rows
 |ptr (id off:Nat) -- into the box id of cells
 |ep (id ver:Nat) (i:Int) (off:Nat) -- an element of the box id of an array
 |rp (id ver rv:Nat) (i k:Int) (off:Nat) -- an element of a row
 |cp (t:Ty) (x:t.den E) (off:Nat) -- into memory that nobody writes,where x lies
 |bs (ls:List (Av E)) -- a slice just made of one element each
 |clo (f:FuncId) (caps:List (Av E))
 |win (id ver:Nat) (i n:Int) -- a piece of the array that the box id holds
 |mp (id:Nat) -- the map that the box id holds
 |nptr|nfn|nmp|nif
inductive AV where
 |int (k:IntKind) (n:Int)|bool (b:Bool)|str (s:List UInt8)
 |sl (esz:Nat) (st:Bool) (xs:List AV)|ag (xs:List AV)
structure Tab where
 E:Nat->Type
 sz:Nat->Nat
 df:(n:Nat)->E n
 toL:(n:Nat)->E n->List (Av E)
 ofL:(n:Nat)->List (Av E)->Option (E n)
 av:(n:Nat)->E n->List AV
 kx:(n:Nat)->Option (IntKind×(E n->List Int)):=λ _=>none
def Ty.sz (T:Tab):Ty->Nat
 | .nm n=>T.sz n
 |_=>1
def Ty.df (T:Tab):(t:Ty)->t.den T.E
 | .int _=>(0:Int)
 | .bool=>false
 | .str=>([]:List UInt8)
 | .sl _=>[]
 | .nm n=>T.df n
def Ty.av (T:Tab):(t:Ty)->t.den T.E->AV
 | .int k,n=> .int k n
 | .bool,b=> .bool b
 | .str,s=> .str s
 | .sl t,xs=> .sl (t.sz T) false (xs.map (Ty.av T t))
 | .nm n,x=> .ag (T.av n x)
def Av.av (T:Tab):Av T.E->Option AV
 | .int k n=>some (.int k n)
 | .bool b=>some (.bool b)
 | .str s=>some (.str s)
 | .sl t st xs=>some (.sl (t.sz T) st (xs.map (t.av T)))
 |_=>none
def Ty.toL (T:Tab):(t:Ty)->t.den T.E->List (Av T.E)
 | .int k,n=>[.int k n]
 | .bool,b=>[.bool b]
 | .str,s=>[.str s]
 | .sl t,xs=>[.sl t false xs]
 | .nm n,x=>T.toL n x
def Wf {E:Nat->Type} {t u:Ty} (h:t=u) (xs:List (t.den E)):List (u.den E):=h▸xs
def Ty.ofL (T:Tab):(t:Ty)->List (Av T.E)->Option (t.den T.E)
 | .int k,ls=>match ls with
   |[.int k' n]=>if k'=k then some n else none
   |_=>none
 | .bool,ls=>match ls with
   |[.bool b]=>some b
   |_=>none
 | .str,ls=>match ls with
   |[.str s]=>some s
   |_=>none
 | .sl t,ls=>match ls with
   |[.sl t' _ xs]=>if h:t'=t then some (Wf h xs)else none
   |_=>none
 | .nm n,ls=>T.ofL n ls
def B99 {E:Nat->Type} (a b:Av E):Prop:=
 a=b\/∃t st st' xs,a= .sl t st xs/\b= .sl t st' xs/\(st'=true->st=true\/xs≠[])
inductive Coe {E:Nat->Type}:List (Av E)->List (Av E)->Prop where
 |nil:Coe [] []
 |cons {a b l m}:B99 a b->Coe l m->Coe (a::l) (b::m)
structure Tab.Ok (T:Tab):Prop where
 av:∀n x,(T.toL n x).map (Av.av T)=(T.av n x).map some
 len:∀n x,(T.toL n x).length=T.sz n
 ofL:∀n ls x,T.ofL n ls=some x->Coe ls (T.toL n x)
 kx:∀n k f,T.kx n=some (k,f)->∀x,T.toL n x=(f x).map (Av.int k):=by intro _ _ _ h;cases h
inductive CV (E:Nat->Type) where
 |one (l:Av E)
 |ag (ls:List (Av E))
inductive SV (E:Nat->Type) where
 |cv (c:CV E)
 |tup (cs:List (CV E))
def CV.leaves {E:Nat->Type}:CV E->List (Av E)
 | .one l=>[l]
 | .ag ls=>ls
inductive RS where
 |opn|shut|mix (i j:Int)
inductive Box (E:Nat->Type) where
 |cells (ls:List (Av E))
 |arr (e:TypeId) (t:Ty) (xs:List (t.den E)) (ver:Nat) (fz:Bool)
 |rows (e e2:TypeId) (t:Ty) (xss:List (List (t.den E))) (ver rv:Nat) (fz:RS)
 |map (k t:Ty) (l:List (k.den E×t.den E))
 |gone
def Ae.{u} {α:Type u} (k:Nat):List (Nat×α)->Option α
 |[]=>none
 |(j,x)::r=>if Nat.beq j k then some x else Ae k r
def put {α:Type} (k:Nat) (x:α):List (Nat×α)->List (Nat×α)
 |[]=>[(k,x)]
 |(j,y)::r=>if Nat.beq j k then(k,x)::r else if Nat.blt k j then(k,x)::(j,y)::r else(j,y)::put k x r
structure St (E:Nat->Type) where
 n:Nat
 slots:List (Nat×Option (SV E))
 boxes:List (Nat×Box E)
inductive TK where
 |int (k:IntKind)|bool|str
 |slice (elem:TypeId)
 |struct (fs:List (Nat×TypeId))
 |array (len:Nat) (elem:TypeId)
 |ptr (elem:TypeId)
 |map (key elem:TypeId)
 |func
 |other
 deriving DecidableEq
structure TI (E:Nat->Type) where
 kind:TK
 size:Nat
 bytes:Nat
 zero:List (Av E)
 ty:Ty
def TK.agg:TK->Bool
 | .struct _| .array .. =>true
 |_=>false
def HL (E:Nat->Type):List Ty->Type
 |[]=>Unit
 |t::ts=>t.den E×HL E ts
structure FS (E:Nat->Type) where
 args:List Ty
 res:List Ty
 argOwn:List TypeId
 resOwn:List (List (TypeId×TypeId))
 ρ:Type
 g:HL E args->Option ρ
 out:ρ->HL E res
def FS.f {E:Nat->Type} (S:FS E) (x:HL E S.args):Option (HL E S.res):=(S.g x).map S.out
structure FW (E:Nat->Type) where
 e:TypeId
 t:Ty
 args:List Ty
 res:List Ty
 f:List (t.den E)->Int->Int->HL E args->Option (List (t.den E)×HL E res)
inductive Via where
 |ptr|clo (h:FuncId)|fn (h:FuncId)
def Via.val:Via->Value->Value
 | .ptr,v=>v
 | .clo h,v=> .func (.func h) #[] #[v]
 | .fn h,_=> .func (.func h) #[] #[]
def Via.isFn:Via->Bool
 | .fn _=>true
 |_=>false
def Via.at {E:Nat->Type}:Via->Av E->Option (Av E)
 | .ptr,l=>some l
 | .clo h,.clo h' [l]=>if Nat.beq h h' then some l else none
 | .fn h,.clo h' []=>if Nat.beq h h' then some .nptr else none
 |_,_=>none
def B6r {E:Nat->Type} {t u:Ty} (h:t=u) (x:t.den E):u.den E:=h▸x
structure FC (E:Nat->Type) where
 c:Ty
 args:List Ty
 res:List Ty
 ρ:Type
 g:c.den E->HL E args->Option ρ
 out:ρ->HL E res
 via:Via
def FC.f {E:Nat->Type} (S:FC E) (c:S.c.den E) (x:HL E S.args):Option (HL E S.res):=(S.g c x).map S.out
def Ae3:Ty->Bool
 | .int _| .bool| .str=>true
 |_=>false
def CV.isAg {E:Nat->Type}:CV E->Bool
 | .ag _=>true
 | .one _=>false
def Ux:Ty->Bool
 | .nm _=>true
 |_=>false
def kqI (a b:Int):Bool:=decide (a=b)
def kqB (a b:Bool):Bool:=a==b
def kqS (a b:List UInt8):Bool:=decide (a=b)
def kqA {α:Type} (f:α->List Int) (a b:α):Bool:=decide (f a=f b)
def Nj (T:Tab):(k:Ty)->k.den T.E->k.den T.E->Bool
 | .int _=>kqI
 | .bool=>kqB
 | .str=>kqS
 | .nm n=>match T.kx n with
   |some (_,f)=>kqA f
   |none=>λ _ _=>false
 |_=>λ _ _=>false
def Kh {α β:Type} (eq:α->α->Bool) (x:α):List (α×β)->Option β
 |[]=>none
 |(y,v)::r=>if eq x y then some v else Kh eq x r
def Hc {α β:Type} (eq:α->α->Bool) (x:α) (v:β):List (α×β)->List (α×β)
 |[]=>[(x,v)]
 |(y,w)::r=>if eq x y then(x,v)::r else(y,w)::Hc eq x v r
def A3g {α:Type}:List α->Option (List α×α)
 |[]=>none
 |[a]=>some ([],a)
 |a::b::r=>match A3g (b::r)with
  |some (i,l)=>some (a::i,l)
  |none=>none
structure Dyn (E:Nat->Type) where
 ts:List Ty
 x:HL E ts
structure FL (E:Nat->Type) where
 g:Nat->List (CV E)->List (Nat×Box E)->Option (List (CV E)×List (Nat×Box E))
inductive Tk (E:Nat->Type) where
 |S (k:Nat) (ag:Bool)
 |v (t:Ty)
 |n (u:Ty)
 |k (l:Av E)
 |s (m:Nat)
 |r (id ver rv:Nat)
 |p (t:Ty) (off:Nat)
 |e (id ver off:Nat)
 |C (id:Nat)
 |A (id:Nat) (e:TypeId) (t:Ty) (ver:Nat) (fz:Bool)
 |R (id:Nat) (e e2:TypeId) (t:Ty) (ver rv:Nat)
 |M (id:Nat) (k t:Ty)
 |q (t:Ty) (x:t.den E) -- a datum that is told,and owed
@[reducible] def HV (E:Nat->Type):List (Tk E)->Type
 |[]=>Unit
 | .v t::r=>t.den E×HV E r
 | .n u::r=>List (u.den E)×HV E r
 | .s m::r=>E m×HV E r
 | .r _ _ _::r=>Int×HV E r
 | .p t _::r=>t.den E×HV E r
 | .e _ _ _::r=>Int×HV E r
 | .A _ _ t _ _::r=>List (t.den E)×HV E r
 | .R _ _ _ t _ _::r=>List (List (t.den E))×HV E r
 | .M _ k t::r=>List (k.den E×t.den E)×HV E r
 | .S _ _::r=>HV E r
 | .k _::r=>HV E r
 | .C _::r=>HV E r
 | .q _ _::r=>HV E r
def vl {E:Nat->Type}:(t:Ty)->t.den E->Av E
 | .int k,n=> .int k n
 | .bool,b=> .bool b
 | .str,s=> .str s
 | .sl u,xs=> .sl u false xs
 | .nm _,_=> .nptr
def lv {E:Nat->Type}:(t:Ty)->Av E->Option (t.den E)
 | .int k,.int k' n=>if k'=k then some n else none
 | .bool,.bool b=>some b
 | .str,.str s=>some s
 | .sl u,.sl u' false xs=>if h:u'=u then some (Wf h xs)else none
 |_,_=>none
def Bj5 {E:Nat->Type}:List (Av E)->List (Av E)->Bool
 |[],[]=>true
 | .ptr i o::ls,.ptr i' o'::ms=>Nat.beq i i'&&(Nat.beq o o'&&Bj5 ls ms)
 |_,_=>false
def Bo6 {E:Nat->Type}:Av E->Av E->Bool
 | .int k n,.int k' n'=>decide (k=k')&&decide (n=n')
 | .bool b,.bool b'=>b==b'
 | .str s,.str s'=>decide (s=s')
 | .sl t st [],.sl t' st' []=>decide (t=t')&&(st==st')
 | .ar i v,.ar i' v'=>Nat.beq i i'&&Nat.beq v v'
 | .ptr i o,.ptr i' o'=>Nat.beq i i'&&Nat.beq o o'
 | .mp i,.mp i'=>Nat.beq i i'
 | .nptr,.nptr| .nfn,.nfn| .nmp,.nmp| .nif,.nif=>true
 | .clo f ls,.clo f' ls'=>Nat.beq f f'&&Bj5 ls ls'
 |_,_=>false
def A0s {E:Nat->Type}:List (Av E)->List (Av E)->Bool
 |[],[]=>true
 | .sl _ st _::ls,.sl _ st' _::ms=>(st==st')&&A0s ls ms
 | .sl _ _ _::_,_=>false
 |_::ls,_::ms=>A0s ls ms
 |_,_=>false
section
variable (T:Tab)
abbrev Mk (E:Nat->Type):=List (Av E)×List (Nat×Option (SV E))×List (Nat×Box E)
def Cbw {E:Nat->Type} (ag:Bool) (ls:List (Av E)):CV E:=
 match ag,ls with
 |false,[l]=> .one l
 |_,ls=> .ag ls
def mkS:(l:List (Tk T.E))->HV T.E l->Mk T.E
 |[],_=>([],[],[])
 | .v t::r,(x,h)=>(vl t x::(mkS r h).1,(mkS r h).2)
 | .n u::r,(x,h)=>(.sl u true x::(mkS r h).1,(mkS r h).2)
 | .s m::r,(x,h)=>(T.toL m x++(mkS r h).1,(mkS r h).2)
 | .r id ver rv::r,(x,h)=>(.row id ver rv x::(mkS r h).1,(mkS r h).2)
 | .p t off::r,(x,h)=>(.cp t x off::(mkS r h).1,(mkS r h).2)
 | .e id ver off::r,(x,h)=>(.ep id ver x off::(mkS r h).1,(mkS r h).2)
 | .k l::r,h=>(l::(mkS r h).1,(mkS r h).2)
 | .q t x::r,h=>(Ty.toL T t x++(mkS r h).1,(mkS r h).2)
 | .S k ag::r,h=>([],(k,some (.cv (Cbw ag (mkS r h).1)))::(mkS r h).2.1,(mkS r h).2.2)
 | .C id::r,h=>([],(mkS r h).2.1,(id,.cells (mkS r h).1)::(mkS r h).2.2)
 | .A id e t ver fz::r,(x,h)=>([],(mkS r h).2.1,(id,.arr e t x ver fz)::(mkS r h).2.2)
 | .R id e e2 t ver rv::r,(x,h)=>([],(mkS r h).2.1,(id,.rows e e2 t x ver rv .opn)::(mkS r h).2.2)
 | .M id k t::r,(x,h)=>([],(mkS r h).2.1,(id,.map k t x)::(mkS r h).2.2)
def B9p {E:Nat->Type} {t u:Ty} (h:t=u) (xs:List (List (t.den E))):List (List (u.den E)):=h▸xs
def Cbq {E:Nat->Type} {k k' t t':Ty} (h:k=k') (h':t=t') (xs:List (k.den E×t.den E)):List (k'.den E×t'.den E):=h▸h'▸xs
def ofS:(l:List (Tk T.E))->List (Av T.E)->List (Nat×Option (SV T.E))->List (Nat×Box T.E)->Option (HV T.E l)
 |[],[],[],[]=>some ()
 |[],_,_,_=>none
 | .v t::r,l::ls,sl,bx=>match lv t l with
   |some x=>match ofS r ls sl bx with
    |some h=>some (x,h)
    |none=>none
   |none=>none
 | .n u::r,.sl u' true xs::ls,sl,bx=>if e:u'=u then(match ofS r ls sl bx with
  |some h=>some (Wf e xs,h)
  |none=>none)else none
 | .s m::r,ls,sl,bx=>match T.ofL m (ls.take (T.sz m))with
   |some x=>match A0s (ls.take (T.sz m)) (T.toL m x)with
    |true=>match ofS r (ls.drop (T.sz m)) sl bx with
     |some h=>some (x,h)
     |none=>none
    |false=>none
   |none=>none
 | .r id ver rv::r,.row id' ver' rv' i::ls,sl,bx=>match Nat.beq id id'&&(Nat.beq ver ver'&&Nat.beq rv rv')with
   |true=>match ofS r ls sl bx with
    |some h=>some (i,h)
    |none=>none
   |false=>none
 | .p t off::r,.cp t' x off'::ls,sl,bx=>if e:t'=t then(match Nat.beq off off' with
   |true=>match ofS r ls sl bx with
    |some h=>some (B6r e x,h)
    |none=>none
   |false=>none)else none
 | .e id ver off::r,.ep id' ver' i off'::ls,sl,bx=>match Nat.beq id id'&&(Nat.beq ver ver'&&Nat.beq off off')with
   |true=>match ofS r ls sl bx with
    |some h=>some (i,h)
    |none=>none
   |false=>none
 | .k l::r,l'::ls,sl,bx=>match Bo6 l l' with
   |true=>ofS r ls sl bx
   |false=>none
 | .S k ag::r,[],(k',some (.cv c))::sl,bx=>match Nat.beq k k'&&(ag==c.isAg)with
   |true=>ofS r c.leaves sl bx
   |false=>none
 | .C id::r,[],sl,(id',.cells ls)::bx=>match Nat.beq id id' with
   |true=>ofS r ls sl bx
   |false=>none
 | .A id e t ver fz::r,[],sl,(id',.arr e' t' xs ver' fz')::bx=>if q:t'=t then(match Nat.beq id id'&&(Nat.beq e e'&&(Nat.beq ver ver'&&(fz==fz')))with
   |true=>match ofS r [] sl bx with
    |some h=>some (Wf q xs,h)
    |none=>none
   |false=>none)else none
 | .R id e e2 t ver rv::r,[],sl,(id',.rows e' e2' t' xs ver' rv' .opn)::bx=>if q:t'=t then(match Nat.beq id id'&&(Nat.beq e e'&&(Nat.beq e2 e2'&&(Nat.beq ver ver'&&Nat.beq rv rv')))with
   |true=>match ofS r [] sl bx with
    |some h=>some (B9p q xs,h)
    |none=>none
   |false=>none)else none
 | .M id k t::r,[],sl,(id',.map k' t' xs)::bx=>if q:k'=k then(if q':t'=t then(match Nat.beq id id' with
   |true=>match ofS r [] sl bx with
    |some h=>some (Cbq q q' xs,h)
    |none=>none
   |false=>none)else none)else none
 |_,_,_,_=>none
end
structure FX (E:Nat->Type) where
 ins:List (Tk E)
 outs:List (Tk E)
 ρ:Type
 g:HV E ins->Option ρ
 out:ρ->HV E outs
abbrev A95:=List (Nat×Nat×Nat)
section
variable {E:Nat->Type}
mutual
def Aiy (src:List (Nat×Box E)) (m:A95):Av E->Option (Av E)
 | .ar id ver=>match Ae id src,Ae id m with
   |some (.arr _ _ _ v false),some (b,nv)=>if Nat.beq ver v then some (.ar b nv)else none
   |some (.rows _ _ _ _ v _ .opn),some (b,nv)=>if Nat.beq ver v then some (.ar b nv)else none
   |_,_=>none
 | .ptr id off=>match Ae id src,Ae id m with
   |some (.cells _),some (b,_)=>some (.ptr b off)
   |_,_=>none
 | .mp id=>match Ae id src,Ae id m with
   |some (.map ..),some (b,_)=>some (.mp b)
   |_,_=>none
 | .clo f caps=>match A5h src m caps with
   |some cs=>some (.clo f cs)
   |none=>none
 | .row .. | .ep .. | .rp .. | .bs _| .win .. =>none
 | .int k n=>some (.int k n)
 | .bool b=>some (.bool b)
 | .str t=>some (.str t)
 | .sl t st xs=>some (.sl t st xs)
 | .cp t x off=>some (.cp t x off)
 | .nptr=>some .nptr
 | .nfn=>some .nfn
 | .nmp=>some .nmp
 | .nif=>some .nif
def A5h (src:List (Nat×Box E)) (m:A95):List (Av E)->Option (List (Av E))
 |[]=>some []
 |l::ls=>match Aiy src m l,A5h src m ls with
  |some l',some ls'=>some (l'::ls')
  |_,_=>none
end
def Bxu (src:List (Nat×Box E)) (m:A95):CV E->Option (CV E)
 | .one l=>match Aiy src m l with
   |some l=>some (.one l)
   |none=>none
 | .ag ls=>match A5h src m ls with
   |some ls=>some (.ag ls)
   |none=>none
def A0u (src:List (Nat×Box E)) (m:A95):List (CV E)->Option (List (CV E))
 |[]=>some []
 |c::cs=>match Bxu src m c,A0u src m cs with
  |some c',some cs'=>some (c'::cs')
  |_,_=>none
def Ada (src:List (Nat×Box E)) (m:A95) (nv:Nat):Box E->Option (Box E)
 | .cells ls=>match A5h src m ls with
   |some ls=>some (.cells ls)
   |none=>none
 | .arr e t xs _ false=>some (.arr e t xs nv false)
 | .rows e e2 t xss _ _ .opn=>some (.rows e e2 t xss nv 0 .opn)
 | .map k t l=>some (.map k t l)
 |_=>none
def Aj7 (src:List (Nat×Box E)) (m:A95):List (Nat×Box E)->Option (List (Nat×Box E))
 |[]=>some []
 |(i,b)::r=>match Ae i m with
  |some (j,nv)=>match Ada src m nv b,Aj7 src m r with
   |some b',some r'=>some ((j,b')::r')
   |_,_=>none
  |none=>none
def Cbv:Av E->Av E->List (Nat×Nat)
 | .ar j _,.ar i _=>[(i,j)]
 | .ptr j _,.ptr i _=>[(i,j)]
 | .mp j,.mp i=>[(i,j)]
 |_,_=>[]
def Cbb:List (Av E)->List (Av E)->List (Nat×Nat)
 |a::l,b::m=>Cbv a b++Cbb l m
 |_,_=>[]
def prs:Av E->Av E->List (Nat×Nat)
 | .clo _ l,.clo _ m=>Cbb l m
 |a,b=>Cbv a b
def Cb3 (i j:Nat):List (Nat×Nat)->Bool
 |[]=>false
 |(a,b)::r=>(Nat.beq a i&&Nat.beq b j)||Cb3 i j r
def B5r:List (Nat×Nat)->List (Nat×Nat)->List (Nat×Nat)
 |[],m=>m
 |(i,j)::r,m=>if Cb3 i j m then B5r r m else B5r r ((i,j)::m)
def inv (j:Nat):List (Nat×Nat)->Option Nat
 |[]=>none
 |(a,b)::r=>if Nat.beq b j then some a else inv j r
def B2l (i:Nat):List Nat->Bool
 |[]=>false
 |j::r=>Nat.beq j i||B2l i r
def A4x:List Nat->Bool
 |[]=>true
 |i::r=> !B2l i r&&A4x r
def C9 {α:Type}:List (Nat×α)->List Nat
 |[]=>[]
 |(k,_)::r=>k::C9 r
def A1o:List (Nat×Nat)->List Nat
 |[]=>[]
 |(_,j)::r=>j::A1o r
def K4:List (Nat×Nat)->A95
 |[]=>[]
 |(i,j)::r=>(i,j,0)::K4 r
def B2a:Nat->List (CV E)->List (Nat×Option (SV E))
 |_,[]=>[]
 |i,c::cs=>(i,some (.cv c))::B2a (i+1) cs
def Blt:List (Nat×Option (SV E))->Option (List (CV E))
 |[]=>some []
 |(_,some (.cv c))::r=>match Blt r with
  |some cs=>some (c::cs)
  |none=>none
 |_=>none
def Qa:Option (Box E)->Box E->Option Nat
 |some (.cells _),.cells _=>some 0
 |some (.arr _ t _ v false),.arr _ t' _ v' false=>if t'=t then some (v+1+v')else none
 |some (.rows _ _ t _ v _ .opn),.rows _ _ t' _ v' _ .opn=>if t'=t then some (v+1+v')else none
 |some (.map k t _),.map k' t' _=>if k'=k/\t'=t then some 0 else none
 |_,_=>none
def Bdz (m:List (Nat×Nat)) (src:List (Nat×Box E)):Nat->List (Nat×Box E)->Option A95
 |_,[]=>some []
 |n,(j,b)::r=>match inv j m with
  |some i=>match Qa (Ae i src) b,Bdz m src n r with
   |some nv,some q=>some ((j,i,nv)::q)
   |_,_=>none
  |none=>match Ae n src,Bdz m src (n+1) r with
   |none,some q=>some ((j,n,0)::q)
   |_,_=>none
def Bfd (src:List (Nat×Box E)):List (Nat×Box E)->List (Nat×Box E)
 |[]=>[]
 |(i,b)::r=>match Ae i src with
  |some _=>Bfd src r
  |none=>(i,b)::Bfd src r
def Axk (out:List (Nat×Box E)):List (Nat×Box E)->List (Nat×Box E)
 |[]=>[]
 |(i,_)::r=>(i,(Ae i out).getD .gone)::Axk out r
end
section
variable (T:Tab)
def Bo9 {E:Nat->Type}:List (Tk E)->List (CV E)->List (CV E)
 | .S _ _:: .v (.sl _)::r,.one (.sl t _ xs)::cs=> .one (.sl t false xs)::Bo9 r cs
 | .S _ _::r,c::cs=>c::Bo9 r cs
 |_::r,cs=>Bo9 r cs
 |[],cs=>cs
def Bsz (X:FX T.E) (args:List (CV T.E)) (m:List (Nat×Nat)) (src:List (Nat×Box T.E)):Option (HV T.E X.ins):=
 match A4x (C9 m)&&(A4x (A1o m)&&A4x (C9 src)),A0u src (K4 m) args,Aj7 src (K4 m) src.reverse with
 |true,some as,some bs=>ofS T X.ins [] (B2a 0 (Bo9 X.ins as)) bs
 |_,_,_=>none
def Bs9 (X:FX T.E) (dst:Nat) (m:List (Nat×Nat)) (src:List (Nat×Box T.E)) (z:X.ρ):Option (List (CV T.E)×List (Nat×Box T.E)×List (Nat×Box T.E)):=
 match Bdz m src ((dst+1)*4096) (mkS T X.outs (X.out z)).2.2,Blt (mkS T X.outs (X.out z)).2.1 with
 |some mb,some cs=>match A0u (mkS T X.outs (X.out z)).2.2 mb cs,Aj7 (mkS T X.outs (X.out z)).2.2 mb (mkS T X.outs (X.out z)).2.2,A4x (C9 (mkS T X.outs (X.out z)).2.2)with
  |some res,some out,true=>match A4x (C9 out)with
   |true=>some (res,Bfd src out,Axk out src)
   |false=>none
  |_,_,_=>none
 |_,_=>none
end
structure Env where
 T:Tab
 ti:TypeId->Option (TI T.E)
 eqs:TypeId->Bool
 fs:FuncId->Option (FS T.E)
 ws:FuncId->Option (FW T.E)
 cs:FuncId->Option (FC T.E)
 ps:FuncId->Option (FL T.E)
 t0:Bool -- nothing writes the first slot
 base:Nat -- where the numbers of the boxes that are made begin
 xs:FuncId->List (CV T.E)->Option (FX T.E)
abbrev Env.E (V:Env):=V.T.E
inductive Orc (E:Nat->Type) where
 |none
 |bit (b:Bool)
 |res (d:Dyn E)
 |own
 |lit
 |go -- a call:what its telling reckons
structure Cd where
 p:Prop
 b:Bool
 h:b=true->p
@[reducible] def cd (p:Prop) [d:Decidable p]:Cd:=⟨p,decide p,of_decide_eq_true⟩
@[reducible] def cc (p:Prop):Cd:=⟨p,false,λ h=>Bool.noConfusion h⟩
inductive B0 (E:Nat->Type) where
 |fail
 |ret (v:Option (SV E)) (c:List Cd)
 |read (id:Nat) (k:Option (Box E)->B0 E)
 |write (id:Nat) (b:Box E) (k:B0 E)
def B0.one {E:Nat->Type} (l:Av E) (c:List Cd:=[]):B0 E:= .ret (some (.cv (.one l))) c
def B0.cv {E:Nat->Type} (a:CV E) (c:List Cd:=[]):B0 E:= .ret (some (.cv a)) c
def B7 {E:Nat->Type} (agg:Bool) (ls:List (Av E)):Option (CV E):=
 match agg,ls with
 |true,ls=>some (.ag ls)
 |false,[l]=>some (.one l)
 |_,_=>none
def tcv {E:Nat->Type} (c:Option (CV E)) (p:List Cd:=[]):B0 E:=
 match c with
 |some c=> .cv c p
 |none=> .fail
def Abg {α:Type}:List α->Nat->List α->Option (List α)
 |l,_,[]=>some l
 |_::l,0,x::xs=>(Abg l 0 xs).map (x:: ·)
 |y::l,n+1,x::xs=>(Abg l n (x::xs)).map (y:: ·)
 |[],_,_::_=>none
def At:Nat:=140737488355328 -- 2^47
section
variable (V:Env)
def A8g (t:TypeId):Value->Option (SV V.E)
 | .int k n=>some (.cv (.one (.int k n)))
 | .bool b=>some (.cv (.one (.bool b)))
 | .string s=>some (.cv (.one (.str s.data.toList)))
 | .slice none 0 0=>
   match V.ti t with
   |some ⟨.slice e,_,_,_,_⟩=>
    match V.ti e with
    |some i=>some (.cv (.one (.sl i.ty true [])))
    |none=>none
   |_=>none
 | .pointer none=>some (.cv (.one .nptr))
 | .nilFunc=>some (.cv (.one .nfn))
 | .map none=>some (.cv (.one .nmp))
 | .nilIface=>some (.cv (.one .nif))
 |_=>none
def slot (s:St V.E) (k:Nat):Option (SV V.E):=
 match Ae k s.slots with
 |some x=>x
 |none=>none
def slotT (s:St V.E) (k:Nat):Option (SV V.E):=
 match Nat.blt k 1000000 with
 |true=>slot V s k
 |false=>none
def Hv (s:St V.E) (t:TypeId):Operand->Option (SV V.E)
 | .tmp k=>slotT V s k
 | .const v=>A8g V t v
 | .func f=>some (.cv (.one (.clo f [])))
 | .global _=>none
def Bfa (fs:List (Nat×TypeId)):List (Nat×Operand)->List TypeId
 |[]=>[]
 |(i,_)::r=>((fs[i]?).map (·.2)).getD 0::Bfa fs r
def Cz (o:Oper):List TypeId:=
 match o.op with
 | .binOp _ t _ _ u=>[t,u]
 | .store t _ _=>[t,t]
 | .box t _=>[t]
 | .mapUpdate t _ _ _=>match V.ti t with
   |some ⟨.map k e,_,_,_,_⟩=>[0,k,e]
   |_=>[]
 | .insert t _ _ _=>match V.ti t with
   |some ⟨.map k e,_,_,_,_⟩=>[0,k,e]
   |_=>[]
 | .makeSlice _ _ _=>[0,0]
 | .build t ps=>match V.ti t with
   |some ⟨.struct fs,_,_,_,_⟩=>Bfa fs ps.toList
   |some ⟨.array _ e,_,_,_,_⟩=>ps.toList.map λ _=>e
   |_=>[]
 | .buildSlice t _ ps=>match V.ti t with
   |some ⟨.slice e,_,_,_,_⟩=>ps.toList.map λ _=>e
   |_=>[]
 | .call c=>match c.callee with
   | .builtin _=>c.argTypes.toList
   |_=>0::c.argTypes.toList
 |_=>[o.type,o.type,o.type]
def Dx (s:St V.E):List TypeId->List Operand->List (Option (SV V.E))
 |t::ts,x::xs=>Hv V s t x::Dx s ts xs
 |[],x::xs=>Hv V s 0 x::Dx s [] xs
 |_,[]=>[]
def fieldPlace (fs:List (Nat×TypeId)) (i:Nat):Option (Nat×Nat):=
 match fs[i]? with
 |some (off,t)=>match V.ti t with
  |some j=>some (off,j.size)
  |none=>none
 |none=>none
def Anv {E:Nat->Type} (place:Nat->Option (Nat×Nat)):List (Av E)->List (Nat×Option (SV E))->Option (List (Av E))
 |cells,[]=>some cells
 |cells,(i,some (.cv v))::r=>
  match place i with
  |some (off,size)=>
   if Nat.beq v.leaves.length size then
    match Abg cells off v.leaves with
    |some c=>Anv place c r
    |none=>none
   else none
  |none=>none
 |_,_=>none
def Afx (t:TypeId):Option (TI V.E):=
 match V.ti t with
 |some ⟨.slice e,_,_,_,_⟩=>V.ti e
 |_=>none
def Bfb (t:TypeId):Option (TypeId×TI V.E):=
 match V.ti t with
 |some ⟨.slice e,_,_,_,_⟩=>match V.ti e with
  |some i=>some (e,i)
  |none=>none
 |_=>none
def Bne (op:BinOp) (k:IntKind) (a b:Int):B0 V.E:=
 match op with
 | .add=> .one (.int k (k.wrap (a+b)))
 | .sub=> .one (.int k (k.wrap (a-b)))
 | .mul=> .one (.int k (k.wrap (a*b)))
 | .quo=> .one (.int k (k.wrap (a.tdiv b))) [cd (b≠0)]
 | .rem=> .one (.int k (a.tmod b)) [cd (b≠0)]
 | .and=> .one (.int k (k.wrap (BitVec.ofInt k.bits a&&& BitVec.ofInt k.bits b).toNat))
 | .or=> .one (.int k (k.wrap (BitVec.ofInt k.bits a|||BitVec.ofInt k.bits b).toNat))
 | .xor=> .one (.int k (k.wrap (BitVec.ofInt k.bits a^^^BitVec.ofInt k.bits b).toNat))
 | .eql=> .one (.bool (decide (a=b)))
 | .neq=> .one (.bool (!decide (a=b)))
 | .lss=> .one (.bool (decide (a<b)))
 | .leq=> .one (.bool (decide (a<=b)))
 | .gtr=> .one (.bool (decide (b<a)))
 | .geq=> .one (.bool (decide (b<=a)))
 |_=> .fail
def Bmj (op:BinOp) (a b:List UInt8):B0 V.E:=
 match op with
 | .add=> .one (.str (a++b)) [cd (a.length+b.length<=At)]
 | .eql=> .one (.bool (decide (a=b)))
 | .neq=> .one (.bool (!decide (a=b)))
 | .lss=> .one (.bool (Op.bytesLess a b))
 | .leq=> .one (.bool (Op.bytesLess a b||decide (a=b)))
 | .gtr=> .one (.bool !(Op.bytesLess a b||decide (a=b)))
 | .geq=> .one (.bool !(Op.bytesLess a b))
 |_=> .fail
def eqL:List (Av V.E)->List (Av V.E)->Option Bool
 |[],[]=>some true
 | .int k a::l,.int k' b::m=>if k=k' then(eqL l m).map (decide (a=b)&& ·)else none
 | .bool a::l,.bool b::m=>(eqL l m).map ((a==b)&& ·)
 | .str a::l,.str b::m=>(eqL l m).map (decide (a=b)&& ·)
 |_,_=>none
def R7 {E:Nat->Type}:List (Av E)->List (Av E)->Bool
 |[],[]=>true
 | .int k _::z,.int k' _::l=>decide (k=k')&&R7 z l
 | .bool _::z,.bool _::l=>R7 z l
 | .str _::z,.str _::l=>R7 z l
 |_,_=>false
def B65 {α:Type} (st:Bool) (xs:List α):List Cd:=
 match st with
 |true=>[]
 |false=>[cd (xs.isEmpty=false)]
def A8k (op:BinOp) (t:TypeId) (a b:SV V.E):B0 V.E:=
 match op,a,b with
 | .shl,.cv (.one (.int k x)),.cv (.one (.int _ y))=> .one (.int k (k.wrap (x*2^min y.toNat k.bits))) [cd (0<=y)]
 | .shr,.cv (.one (.int k x)),.cv (.one (.int _ y))=> .one (.int k (x.fdiv (2^min y.toNat k.bits))) [cd (0<=y)]
 |op,.cv (.one (.int k x)),.cv (.one (.int k' y))=>if k=k' then Bne V op k x y else .fail
 |op,.cv (.one (.str x)),.cv (.one (.str y))=>Bmj V op x y
 | .eql,.cv (.one (.bool x)),.cv (.one (.bool y))=>match V.ti t with
   |some ⟨.bool,_,_,_,_⟩=> .one (.bool (x==y))
   |_=> .fail
 | .neq,.cv (.one (.bool x)),.cv (.one (.bool y))=>match V.ti t with
   |some ⟨.bool,_,_,_,_⟩=> .one (.bool !(x==y))
   |_=> .fail
 | .eql,.cv (.one (.sl _ st xs)),.cv (.one (.sl _ true []))=>match V.ti t with
   |some ⟨.slice _,_,_,_,_⟩=> .one (.bool xs.isEmpty) (B65 st xs)
   |_=> .fail
 | .neq,.cv (.one (.sl _ st xs)),.cv (.one (.sl _ true []))=>match V.ti t with
   |some ⟨.slice _,_,_,_,_⟩=> .one (.bool !xs.isEmpty) (B65 st xs)
   |_=> .fail
 | .eql,.cv (.one (.ar id ver)),.cv (.one (.sl _ true []))=>match V.ti t with
   |some ⟨.slice _,_,_,_,_⟩=> .read id fun
    |some (.arr _ _ xs v _)=>if Nat.beq ver v then .one (.bool false) [cd (xs.isEmpty=false)]else .fail
    |_=> .fail
   |_=> .fail
 | .eql,.cv (.ag l),.cv (.ag m)=>match eqL V l m,V.eqs t,V.ti t with
   |some b,true,some i=>if R7 i.zero l then .one (.bool b)else .fail
   |_,_,_=> .fail
 | .neq,.cv (.ag l),.cv (.ag m)=>match eqL V l m,V.eqs t,V.ti t with
   |some b,true,some i=>if R7 i.zero l then .one (.bool (!b))else .fail
   |_,_,_=> .fail
 |_,_,_=> .fail
def Bt5 (op:UnOp) (a:SV V.E):B0 V.E:=
 match op,a with
 | .neg,.cv (.one (.int k x))=> .one (.int k (k.wrap (0-x)))
 | .not,.cv (.one (.bool x))=> .one (.bool !x)
 |_,_=> .fail
def A91 (src dst:Option (TI V.E)) (a:SV V.E):B0 V.E:=
 match src,dst,a with
 |some ⟨.int _,_,_,_,_⟩,some ⟨.int k,_,_,_,_⟩,.cv (.one (.int _ n))=> .one (.int k (k.wrap n))
 |some ⟨.str,_,_,_,_⟩,some ⟨.str,_,_,_,_⟩,.cv (.one (.str s))=> .one (.str s)
 |_,_,_=> .fail
def part (agg:Bool) (size:Nat) (off:Nat) (ls:List (Av V.E)):B0 V.E:=
 if Nat.ble (off+size) ls.length then tcv (B7 agg ((ls.drop off).take size))else .fail
def Ae1 (i:TI V.E) (a:SV V.E):B0 V.E:=
 match a with
 | .cv (.one (.ptr id off))=> .read id fun
   |some (.cells ls)=>part V i.kind.agg i.size off ls
   |_=> .fail
 | .cv (.one (.cp t x off))=>if Nat.ble (off+i.size) (t.sz V.T)then tcv (B7 i.kind.agg (((t.toL V.T x).drop off).take i.size))else .fail
 | .cv (.one (.ep id ver j off))=> .read id fun
   |some (.arr _ t xs v _)=>
    if Nat.beq ver v&&Nat.ble (off+i.size) (t.sz V.T)then tcv (B7 i.kind.agg (((t.toL V.T (xs.getD j.toNat (t.df V.T))).drop off).take i.size))else .fail
   |some (.rows _ _ t xss v rv fz)=>if Nat.beq ver v&&Nat.beq off 0&& !i.kind.agg then(match fz with| .shut=> .one (.sl t false (xss.getD j.toNat []))| .opn=> .one (.row id ver rv j)| .mix .. => .fail)else .fail
   |_=> .fail
 | .cv (.one (.rp id ver rv j k off))=> .read id fun
   |some (.rows _ _ t xss v rv' .opn)=>
    if Nat.beq ver v&&Nat.beq rv rv'&&Nat.ble (off+i.size) (t.sz V.T)then
     tcv (B7 i.kind.agg (((t.toL V.T ((xss.getD j.toNat []).getD k.toNat (t.df V.T))).drop off).take i.size))else .fail
   |_=> .fail
 |_=> .fail
def done:B0 V.E:= .ret none []
def As0 (i:TI V.E) (a v:SV V.E):B0 V.E:=
 match a,v with
 | .cv (.one (.ptr id off)),.cv c=> .read id fun
   |some (.cells ls)=>
    if Nat.beq c.leaves.length i.size then
     match Abg ls off c.leaves with
     |some ls'=> .write id (.cells ls') (done V)
     |none=> .fail
    else .fail
   |_=> .fail
 | .cv (.one (.ep id ver j off)),.cv c=> .read id fun
   |some (.arr e t xs v false)=>
    if Nat.beq ver v&&Nat.beq c.leaves.length i.size then
     match Abg (t.toL V.T (xs.getD j.toNat (t.df V.T))) off c.leaves with
     |some ls=>match t.ofL V.T ls with
      |some y=> .write id (.arr e t (xs.set j.toNat y) v false) (done V)
      |none=> .fail
     |none=> .fail
    else .fail
   |some (.rows e e2 t xss v rv .opn)=>
    match c with
    | .one (.ar id2 ver2)=> .read id2 fun
      |some (.arr e3 t2 ys v2 false)=>
       if Nat.beq ver v&&Nat.beq ver2 v2&&Nat.beq off 0&& !(Nat.beq id id2)&&Nat.beq e3 e2&&Nat.beq i.size 1 then
        if h:t2=t then .write id2 .gone (.write id (.rows e e2 t (xss.set j.toNat (Wf h ys)) v (rv+1) .opn) (done V))else .fail
       else .fail
      |_=> .fail
    | .one (.row id2 ver2 rv2 k)=>
      if Nat.beq ver v&&Nat.beq off 0&&Nat.beq i.size 1 then
       if Nat.beq id id2 then
        if Nat.beq ver2 v&&Nat.beq rv2 rv then .write id (.rows e e2 t xss v rv (.mix j k)) (done V)else .fail
       else .read id2 fun
       |some (.rows _ e4 t2 yss v2 rv' .opn)=>
        if Nat.beq ver2 v2&&Nat.beq rv2 rv'&&Nat.beq e4 e2 then
         if h:t2=t then .write id2 .gone (.write id (.rows e e2 t (xss.set j.toNat (Wf h (yss.getD k.toNat []))) v (rv+1) .opn) (done V))else .fail
        else .fail
       |_=> .fail
      else .fail
    |_=> .fail
   |some (.rows e e2 t xss v rv (.mix a b))=>
    match c with
    | .one (.row id2 ver2 rv2 k)=>
      if Nat.beq ver v&&Nat.beq ver2 v&&Nat.beq off 0&&Nat.beq id id2&&Nat.beq rv2 rv&&Nat.beq i.size 1 then
       .write id (.rows e e2 t ((xss.set a.toNat (xss.getD b.toNat [])).set b.toNat (xss.getD a.toNat [])) v (rv+1) .opn) (.ret none [cd (j=b),cd (k=a)])else .fail
    |_=> .fail
   |_=> .fail
 | .cv (.one (.rp id ver rv j k off)),.cv c=> .read id fun
   |some (.rows e e2 t xss v rv' .opn)=>
    if Nat.beq ver v&&Nat.beq rv rv'&&Nat.beq c.leaves.length i.size then
     match Abg (t.toL V.T ((xss.getD j.toNat []).getD k.toNat (t.df V.T))) off c.leaves with
     |some ls=>match t.ofL V.T ls with
      |some y=> .write id (.rows e e2 t (xss.set j.toNat ((xss.getD j.toNat []).set k.toNat y)) v rv .opn) (done V)
      |none=> .fail
     |none=> .fail
    else .fail
   |_=> .fail
 |_,_=> .fail
def Af (i:Int) (n:Nat):Prop:=0<=i/\i<n
instance (i:Int) (n:Nat):Decidable (Af i n):=inferInstanceAs (Decidable (0<=i/\i<n))
def Y2 (et:Ty) (a ix:SV V.E):B0 V.E:=
 match a,ix with
 | .cv (.one (.sl t _ xs)),.cv (.one (.int _ i))=>if t=et then .one (.cp t (xs.getD i.toNat (t.df V.T)) 0) [cd (Af i xs.length)]else .fail
 | .cv (.one (.ar id ver)),.cv (.one (.int _ i))=> .read id fun
   |some (.arr _ t xs v _)=>if Nat.beq ver v&&decide (t=et)then .one (.ep id ver i 0) [cd (Af i xs.length)]else .fail
   |some (.rows _ _ _ xss v _ _)=>if Nat.beq ver v&&Nat.beq (et.sz V.T) 1 then .one (.ep id ver i 0) [cd (Af i xss.length)]else .fail
   |_=> .fail
 | .cv (.one (.win id ver o n)),.cv (.one (.int _ i))=> .read id fun
   |some (.arr _ t _ v _)=>if Nat.beq ver v&&decide (t=et)then .one (.ep id ver (o+i) 0) [cd (0<=i),cd (i<n)]else .fail
   |_=> .fail
 | .cv (.one (.row id ver rv j)),.cv (.one (.int _ i))=> .read id fun
   |some (.rows _ _ t xss v rv' .opn)=>if Nat.beq ver v&&Nat.beq rv rv'&&decide (t=et)then .one (.rp id ver rv j i 0) [cd (Af i (xss.getD j.toNat []).length)]else .fail
   |_=> .fail
 |_,_=> .fail
def Aru (n sz:Nat) (a ix:SV V.E):B0 V.E:=
 match a,ix with
 | .cv (.one (.ptr id o)),.cv (.one (.int _ i))=> .read id fun
   |some (.cells _)=>if Af i n then .one (.ptr id (o+i.toNat*sz))else .fail
   |_=> .fail
 | .cv (.one (.cp t x o)),.cv (.one (.int _ i))=>if Af i n then .one (.cp t x (o+i.toNat*sz))else .fail
 |_,_=> .fail
def Sf (off:Nat) (a:SV V.E):B0 V.E:=
 match a with
 | .cv (.one (.ptr id o))=> .read id fun
   |some (.cells _)=> .one (.ptr id (o+off))
   |_=> .fail
 | .cv (.one (.cp t x o))=> .one (.cp t x (o+off))
 | .cv (.one (.ep id ver i o))=> .read id fun
   |some (.arr _ _ _ v _)=>if Nat.beq ver v then .one (.ep id ver i (o+off))else .fail
   |_=> .fail
 | .cv (.one (.rp id ver rv i k o))=> .read id fun
   |some (.rows _ _ _ _ v rv' _)=>if Nat.beq ver v&&Nat.beq rv rv' then .one (.rp id ver rv i k (o+off))else .fail
   |_=> .fail
 |_=> .fail
def A8j (k:TK) (a:SV V.E):B0 V.E:=
 match k,a with
 | .str,.cv (.one (.str s))=> .one (.int .i64 s.length)
 | .slice _,.cv (.one (.sl _ _ xs))=> .one (.int .i64 xs.length)
 | .slice _,.cv (.one (.ar id ver))=> .read id fun
   |some (.arr _ _ xs v _)=>if Nat.beq ver v then .one (.int .i64 xs.length)else .fail
   |some (.rows _ _ _ xss v _ _)=>if Nat.beq ver v then .one (.int .i64 xss.length)else .fail
   |_=> .fail
 | .slice _,.cv (.one (.win id ver _ n))=> .read id fun
   |some (.arr _ _ _ v _)=>if Nat.beq ver v then .one (.int .i64 n)else .fail
   |_=> .fail
 | .slice _,.cv (.one (.row id ver rv j))=> .read id fun
   |some (.rows _ _ _ xss v rv' .opn)=>if Nat.beq ver v&&Nat.beq rv rv' then .one (.int .i64 (xss.getD j.toNat []).length)else .fail
   |_=> .fail
 |_,_=> .fail
def frz:List (Av V.E)->(List (Av V.E)->B0 V.E)->B0 V.E
 |[],k=>k []
 | .ar id ver::r,k=> .read id fun
   |some (.arr e t xs v fz)=>if Nat.beq ver v then
    (if fz then frz r λ ls=>k (.sl t false xs::ls)else .write id (.arr e t xs v true) (frz r λ ls=>k (.sl t false xs::ls)))else .fail
   |some (.rows e e2 t xss v rv fz)=>if Nat.beq ver v then
    (match fz with| .shut=>frz r λ ls=>k (.sl (.sl t) false xss::ls)| .opn=> .write id (.rows e e2 t xss v rv .shut) (frz r λ ls=>k (.sl (.sl t) false xss::ls))| .mix .. => .fail)else .fail
   |_=> .fail
 |l::r,k=>frz r λ ls=>k (l::ls)
def V9:TK->Ty->Bool
 | .int k,.int k'=>decide (k=k')
 | .bool,.bool=>true
 | .str,.str=>true
 |_,_=>false
def B3u (i:TI V.E):Bool:=
 match i.kind,i.ty with
 | .array n e,.nm s=>match V.ti e,V.T.kx s with
   |some ie,some (k,_)=>decide (ie.kind= .int k)&&Nat.beq ie.size 1&&Nat.beq (V.T.sz s) n
   |_,_=>false
 |_,_=>false
def A24 (i:TI V.E):Bool:=V9 i.kind i.ty||B3u V i
def Bjb (t:TypeId):Option (TI V.E×TI V.E):=
 match V.ti t with
 |some ⟨.map k e,_,_,_,_⟩=>match V.ti k,V.ti e with
  |some i,some j=>if A24 V i&&(Ux j.ty==j.kind.agg)then some (i,j)else none
  |_,_=>none
 |_=>none
def Avj (i j:TI V.E) (a x:SV V.E) (ok:Bool):B0 V.E:=
 match a,x with
 | .cv (.one (.mp id)),.cv key=> .read id fun
   |some (.map k t l)=>if decide (k=i.ty)&&decide (t=j.ty)&&(key.isAg==Ux i.ty)then
    match k.ofL V.T key.leaves,t.ofL V.T j.zero with
    |some kx,some z=>match B7 j.kind.agg (t.toL V.T ((Kh (Nj V.T k) kx l).getD z))with
     |some c=>if ok then .ret (some (.tup [c,.one (.bool (Kh (Nj V.T k) kx l).isSome)])) []else .cv c
     |none=> .fail
    |_,_=> .fail
    else .fail
   |_=> .fail
 |_,_=> .fail
def Al4 (i j:TI V.E) (a x v:SV V.E):B0 V.E:=
 match a,x,v with
 | .cv (.one (.mp id)),.cv key,.cv c=>frz V c.leaves λ ls=> .read id fun
   |some (.map k t l)=>if decide (k=i.ty)&&decide (t=j.ty)&&(key.isAg==Ux i.ty)&&(c.isAg==j.kind.agg)then
    match k.ofL V.T key.leaves,t.ofL V.T ls with
    |some kx,some y=> .write id (.map k t (Hc (Nj V.T k) kx y l)) (done V)
    |_,_=> .fail
    else .fail
   |_=> .fail
 |_,_,_=> .fail
def Rf (id:Nat) (b:Box V.E) (k:B0 V.E):B0 V.E:= .read id fun
 |none=> .write id b k
 |some _=> .fail
def Avc (t:Ty) (sz:Nat):Nat->List (Av V.E)->Option (List (t.den V.E))
 |0,[]=>some []
 |n+1,ls=>
  match t.ofL V.T (ls.take sz)with
  |some x=>match Avc t sz n (ls.drop sz)with
   |some r=>some (x::r)
   |none=>none
  |none=>none
 |_,_=>none
def repeatL {α:Type} (l:List α):Nat->List α
 |0=>[]
 |n+1=>l++repeatL l n
def Amf (dst:Nat) (e:TypeId) (i:TI V.E) (a b:SV V.E):B0 V.E:=
 match a,b with
 | .cv (.one (.sl t true [])),.cv (.one (.sl t' _ ys))=>
   if h:t'=t then if t=i.ty then Rf V dst (.arr e t (Wf h ys) 0 false) (.one (.ar dst 0) [cd (ys.length*i.bytes<=At)])else .fail else .fail
 | .cv (.one (.ar id ver)),.cv (.one (.sl t' _ ys))=> .read id fun
   |some (.arr e' t xs v false)=>
    if Nat.beq ver v&&Nat.beq e' e&&decide (t=i.ty)then
     if h:t'=t then .write id (.arr e t (xs++Wf h ys) (v+1) false) (.one (.ar id (v+1)) [cd ((xs.length+ys.length)*i.bytes<=At)])else .fail
    else .fail
   |_=> .fail
 | .cv (.one (.ar id ver)),.cv (.one (.bs [.ar id2 ver2]))=> .read id fun
   |some (.rows e' e2 t xss v rv .opn)=> .read id2 fun
    |some (.arr e3 t2 ys v2 false)=>
     if Nat.beq ver v&&Nat.beq ver2 v2&& !(Nat.beq id id2)&&Nat.beq e' e&&Nat.beq e3 e2&&Nat.beq i.size 1 then
      if h:t2=t then .write id2 .gone (.write id (.rows e e2 t (xss++[Wf h ys]) (v+1) rv .opn) (.one (.ar id (v+1)) [cd ((xss.length+1)*i.bytes<=At)]))else .fail
     else .fail
    |_=> .fail
   |_=> .fail
 |_,_=> .fail
def Blc (dst:Nat) (e:TypeId) (i:TI V.E) (a x:SV V.E):B0 V.E:=
 match x with
 | .cv (.one (.ar id ver))=>frz V [.ar id ver] fun
   |[l]=>Amf V dst e i a (.cv (.one l))
   |_=> .fail
 |x=>Amf V dst e i a x
def Ad3 (k:TK) (et:Option Ty) (a:SV V.E) (lo hi:Option Int):B0 V.E:=
 match k,et,a with
 | .str,_,.cv (.one (.str s))=>
   .one (.str ((s.drop (lo.getD 0).toNat).take ((hi.getD s.length).toNat-(lo.getD 0).toNat))) [cd (0<=lo.getD 0),cd (lo.getD 0<=hi.getD s.length),cd (hi.getD s.length<=s.length)]
 | .slice _,some et,.cv (.one (.sl t _ xs))=>if t=et then
   .one (.sl t false ((xs.drop (lo.getD 0).toNat).take ((hi.getD xs.length).toNat-(lo.getD 0).toNat))) [cd (0<=lo.getD 0),cd (lo.getD 0<=hi.getD xs.length),cd (hi.getD xs.length<=xs.length)]else .fail
 | .slice _,some et,.cv (.one (.ar id ver))=> .read id fun
   |some (.arr e t xs v false)=>if Nat.beq ver v&&decide (t=et)then
    match lo with
    |none=> .write id (.arr e t (xs.take (hi.getD xs.length).toNat) (v+1) false) (.one (.ar id (v+1)) [cd (0<=hi.getD xs.length),cd (hi.getD xs.length<=xs.length)])
    |some l=> .one (.win id ver l (hi.getD xs.length-l)) [cd (0<=l),cd (l<hi.getD xs.length),cd (hi.getD xs.length<=xs.length)]
    else .fail
   |_=> .fail
 |_,_,_=> .fail
def Aa1 (T:Tab):(ts:List Ty)->List (Bool×List (Av T.E))->Option (HL T.E ts)
 |[],[]=>some ()
 |t::ts,(a,l)::ls=>
  if a==Ux t then
   match t.ofL T l with
   |some x=>match Aa1 T ts ls with
    |some r=>some (x,r)
    |none=>none
   |none=>none
  else none
 |_,_=>none
def Ga (id:Nat):List (TypeId×TypeId)->List (Av V.E)->(List (Av V.E)->B0 V.E)->B0 V.E
 |_,[],k=>k []
 |(0,_)::os,l::r,k=>Ga (id+1000) os r λ ls=>k (l::ls)
 |(e,0)::os,.sl t _ xs::r,k=>Rf V id (.arr e t xs 0 false) (Ga (id+1000) os r λ ls=>k (.ar id 0::ls))
 |(e,e2)::os,.sl (.sl t) _ xss::r,k=>Rf V id (.rows e e2 t xss 0 0 .opn) (Ga (id+1000) os r λ ls=>k (.ar id 0::ls))
 |[],l::r,k=>Ga (id+1000) [] r λ ls=>k (l::ls)
 |_,_,_=> .fail
def Abd (id:Nat) (own:List (List (TypeId×TypeId))):(ts:List Ty)->HL V.E ts->(List (CV V.E)->B0 V.E)->B0 V.E
 |[],_,k=>k []
 |t::ts,(x,r),k=>
  let go (ls:List (Av V.E)):B0 V.E:=match B7 (Ux t) ls with
   |some c=>Abd (id+10000) (own.drop 1) ts r λ cs=>k (c::cs)
   |none=> .fail
  Ga V id (own.headD []) (t.toL V.T x) go
def G3:List TypeId->List (CV V.E)->(List (Bool×List (Av V.E))->B0 V.E)->B0 V.E
 |_,[],k=>k []
 |0::os,c::r,k=>frz V c.leaves λ l=>G3 os r λ r'=>k ((c.isAg,l)::r')
 |(e+1)::os,.one (.ar id ver)::r,k=> .read id fun
  |some (.arr e' t xs v false)=>if Nat.beq ver v&&Nat.beq e' (e+1)then .write id .gone (G3 os r λ r'=>k ((false,[.sl t false xs])::r'))else .fail
  |_=> .fail
 |[],c::r,k=>frz V c.leaves λ l=>G3 [] r λ r'=>k ((c.isAg,l)::r')
 |_,_,_=> .fail
def B01 (E:Nat->Type) (ts:List Ty) (d:Dyn E):Option (HL E ts):=
 if h:d.ts=ts then some (h▸d.x)else none
def A5v:List (Option (SV V.E))->Option (List (CV V.E))
 |[]=>some []
 |some (.cv c)::r=>match A5v r with
  |some ls=>some (c::ls)
  |none=>none
 |_=>none
def Amk:List (Option (SV V.E))->Option (List (Av V.E))
 |[]=>some []
 |some (.cv (.one l))::r=>match Amk r with
  |some ls=>some (l::ls)
  |none=>none
 |_=>none
def Q8 (p:List Cd):List (CV V.E)->B0 V.E
 |[c]=> .cv c p
 |cs=> .ret (some (.tup cs)) p
def A18 (dst:Nat) (S:Option (FW V.E)) (args:List (CV V.E)) (d:Dyn V.E):B0 V.E:=
 match S,args with
 |some S,.one (.win id ver i n)::rest=>
  G3 V [] rest λ ls=> .read id fun
   |some (.arr e t xs v false)=>
    if Nat.beq ver v&&Nat.beq e S.e then
     if h:t=S.t then
      match Aa1 V.T S.args ls,B01 V.E (.sl S.t::S.res) d with
      |some x,some y=>Abd V dst [] S.res y.2 λ cs=> .write id (.arr e S.t y.1 v false) (Q8 V [cc (S.f (Wf h xs) i n x=some (y.1,y.2)),cd (y.1.length=xs.length)] cs)
      |_,_=> .fail
     else .fail
    else .fail
   |_=> .fail
 |_,_=> .fail
def Ar7 (dst:Nat) (S:Option (FC V.E)) (args:List (CV V.E)) (d:Dyn V.E):B0 V.E:=
 match S,A3g args with
 |some S,some (rest,.one l)=>
  G3 V [] rest λ ls=>match Aa1 V.T S.args ls,B01 V.E S.res d,S.via.at l with
   |some x,some y,some (.ptr id off)=> .read id fun
    |some (.cells cl)=>match S.c.ofL V.T ((cl.drop off).take (S.c.sz V.T))with
     |some c=>if S.res.all Ae3 then Abd V dst [] S.res y (Q8 V [cc (S.f c x=some y)])else .fail
     |none=> .fail
    |_=> .fail
   |some x,some y,some (.cp t z 0)=>if h:t=S.c then Abd V dst [] S.res y (Q8 V [cc (S.f (B6r h z) x=some y)])else .fail
   |some x,some y,some .nptr=>if S.via.isFn then Abd V dst [] S.res y (Q8 V [cc (S.f (S.c.df V.T) x=some y)])else .fail
   |_,_,_=> .fail
 |_,_=> .fail
mutual
def B9m {E:Nat->Type}:Av E->Bool
 | .int _ _| .bool _| .str _| .sl _ _ _| .cp _ _ _| .nptr| .nfn| .nmp| .nif=>true
 | .clo _ ls=>A9g ls
 |_=>false
def A9g {E:Nat->Type}:List (Av E)->Bool
 |[]=>true
 |l::ls=>B9m l&&A9g ls
end
def Bk8 {E:Nat->Type}:List (CV E)->Bool
 |[]=>true
 |c::cs=>A9g c.leaves&&Bk8 cs
def CV.turn {E:Nat->Type}:CV E->List (Av E)->CV E
 | .one _,[l]=> .one l
 |_,ls=> .ag ls
def Bxd:List (CV V.E)->(List (CV V.E)->B0 V.E)->B0 V.E
 |[],k=>k []
 |c::r,k=>frz V c.leaves λ ls=>Bxd r λ cs=>k (c.turn ls::cs)
def A12:List (Nat×Box V.E)->B0 V.E->B0 V.E
 |[],k=>k
 |(id,b)::r,k=>Rf V id b (A12 r k)
def A3b (dst:Nat) (S:Option (FL V.E)) (args:List (CV V.E)):B0 V.E:=
 match S with
 |some S=>Bxd V args λ as=>match Bk8 as,S.g ((dst+1)*4096) as []with
  |true,some (res,bx)=>A12 V bx (Q8 V [] res)
  |_,_=> .fail
 |none=> .fail
def Aox:List (Tk V.E)->List (Av V.E)->List (CV V.E)->List (Nat×Nat)->List (Nat×Box V.E)->(List (Nat×Nat)->List (Nat×Box V.E)->B0 V.E)->B0 V.E
 |[],_,_,m,src,k=>k m src
 | .S _ _::r,_,c::cs,m,src,k=>Aox r c.leaves cs m src k
 | .C j::r,_,cs,m,src,k=>match inv j m with
   |some i=> .read i λ b=>match b with
    |some (.cells ls)=>Aox r ls cs m ((i,.cells ls)::src) k
    |_=> .fail
   |none=> .fail
 | .A j _ _ _ _::r,_,cs,m,src,k=>match inv j m with
   |some i=> .read i λ b=>match b with
    |some b=>Aox r [] cs m ((i,b)::src) k
    |none=> .fail
   |none=> .fail
 | .R j _ _ _ _ _::r,_,cs,m,src,k=>match inv j m with
   |some i=> .read i λ b=>match b with
    |some b=>Aox r [] cs m ((i,b)::src) k
    |none=> .fail
   |none=> .fail
 | .M j _ _::r,_,cs,m,src,k=>match inv j m with
   |some i=> .read i λ b=>match b with
    |some b=>Aox r [] cs m ((i,b)::src) k
    |none=> .fail
   |none=> .fail
 | .k l::r,l'::ls,cs,m,src,k=>Aox r ls cs (B5r (prs l l') m) src k
 | .s n::r,ls,cs,m,src,k=>Aox r (ls.drop (V.T.sz n)) cs m src k
 | .v _::r,_::ls,cs,m,src,k=>Aox r ls cs m src k
 | .n _::r,_::ls,cs,m,src,k=>Aox r ls cs m src k
 | .r _ _ _::r,_::ls,cs,m,src,k=>Aox r ls cs m src k
 | .p _ _::r,_::ls,cs,m,src,k=>Aox r ls cs m src k
 | .e _ _ _::r,_::ls,cs,m,src,k=>Aox r ls cs m src k
 |_,_,_,_,_,_=> .fail
def Bmt:List (Nat×Box V.E)->B0 V.E->B0 V.E
 |[],k=>k
 |(i,b)::r,k=> .write i b (Bmt r k)
def Asz (dst:Nat) (X:FX V.E) (args:List (CV V.E)):B0 V.E:=
 Aox V X.ins [] args [] [] λ m src=>match Bsz V.T X args m src with
  |some x=>match X.g x with
   |some z=>match Bs9 V.T X dst m src z with
    |some (res,nw,bx)=>A12 V nw (Bmt V bx (Q8 V [] res))
    |none=> .fail
   |none=> .fail
  |none=> .fail
def A85 (S:FS V.E) (o:Orc V.E) (x:HL V.E S.args):Option (HL V.E S.res×List Cd):=
 match o with
 | .res d=>match B01 V.E S.res d with
   |some y=>some (y,[cc (S.f x=some y)])
   |none=>none
 | .go=>match S.g x with
   |some z=>some (S.out z,[])
   |none=>none
 |_=>none
def Aqt (dst:Nat) (f:FuncId) (args:List (CV V.E)) (o:Orc V.E):B0 V.E:=
 match V.fs f with
 |some S=>
  G3 V S.argOwn args λ ls=>
   match Aa1 V.T S.args ls with
   |some x=>match A85 V S o x with
    |some (y,c)=>Abd V dst S.resOwn S.res y (Q8 V c)
    |none=> .fail
   |none=> .fail
 |none=>match o with
  | .res d=>match V.ws f with
    |some S=>A18 V dst (some S) args d
    |none=>Ar7 V dst (V.cs f) args d
  | .go=>match V.xs f args with
    |some X=>Asz V dst X args
    |none=>A3b V dst (V.ps f) args
  |_=> .fail
def Bet (i:TI V.E) (a b:SV V.E):B0 V.E:=
 match a,b with
 | .cv (.one (.ar id ver)),.cv (.one l)=>frz V [l] fun
   |[.sl t' _ ys]=> .read id fun
    |some (.arr e t xs v false)=>if Nat.beq ver v&&decide (t=i.ty)then
     if h:t'=t then .write id (.arr e t (Wf h ys) v false) (.one (.int .i64 ys.length) [cd (ys.length=xs.length)])else .fail
     else .fail
    |_=> .fail
   |_=> .fail
 |_,_=> .fail
def Apc (dst:Nat) (b:Builtin) (ats:List TypeId) (args:List (Option (SV V.E))):B0 V.E:=
 match b,args with
 | .len,[some a]=>match ats with
   |t::_=>match V.ti t with
    |some i=>A8j V i.kind a
    |none=> .fail
   |[]=> .fail
 | .append,[some a,some x]=>match ats with
   |[t,u]=>match V.ti t,V.ti u with
    |some ⟨.slice e,_,_,_,_⟩,some ⟨.slice _,_,_,_,_⟩=>match V.ti e with
     |some i=>Blc V dst e i a x
     |none=> .fail
    |_,_=> .fail
   |_=> .fail
 | .copy,[some a,some x]=>match ats with
   |[t,u]=>match V.ti t,V.ti u with
    |some ⟨.slice e,_,_,_,_⟩,some ⟨.slice _,_,_,_,_⟩=>match V.ti e with
     |some i=>Bet V i a x
     |none=> .fail
    |_,_=> .fail
   |_=> .fail
 | .min,[some (.cv (.one (.int k a))),some (.cv (.one (.int k' b)))]=>if k=k' then .one (.int k (if b<a then b else a))else .fail
 | .max,[some (.cv (.one (.int k a))),some (.cv (.one (.int k' b)))]=>if k=k' then .one (.int k (if a<b then b else a))else .fail
 |_,_=> .fail
def Bbr (dst:Nat) (e:TypeId) (i:TI V.E) (own:Bool) (l c:Int):B0 V.E:=
 match i.ty.ofL V.T i.zero with
 |some z=>
  match i.kind,i.ty,z,own with
  | .slice e2,.sl t,z,true=>Rf V dst (.rows e e2 t (List.replicate l.toNat z) 0 0 .opn) (.one (.ar dst 0) [cd (0<=l),cd (l<=c),cd (c*i.bytes<=At)])
  |_,_,_,_=>Rf V dst (.arr e i.ty (List.replicate l.toNat z) 0 false) (.one (.ar dst 0) [cd (0<=l),cd (l<=c),cd (c*i.bytes<=At)])
 |none=> .fail
def Rm:List (Nat×Operand)->List (Option (SV V.E))->List (Nat×Option (SV V.E))
 |(i,_)::r,v::vs=>(i,v)::Rm r vs
 |_,_=>[]
def A19 (dst:Nat) (e:TypeId) (i:TI V.E) (n:Nat) (q:Orc V.E) (ls:List (Av V.E)):B0 V.E:=
 match q,ls with
 | .own,[l]=> .one (.bs [l])
 | .lit,ls=>frz V ls λ ls=>match Avc V i.ty i.size n ls with
   |some xs=>Rf V dst (.arr e i.ty xs 0 false) (.one (.ar dst 0))
   |none=> .fail
 |_,_=>frz V ls λ ls=>match Avc V i.ty i.size n ls with
  |some xs=> .one (.sl i.ty false xs)
  |none=> .fail
def Afb (dst:Nat) (o:Oper) (vs:List (Option (SV V.E))) (q:Orc V.E):B0 V.E:=
 match o.op,vs with
 | .move _,[some v]=> .ret (some v) []
 | .assign _,[some v]=> .ret (some v) []
 | .pick ..,[some (.cv (.one (.bool b))),x,y]=>
   match q with
   | .bit d=>match if d then x else y with
     |some v=> .ret (some v) [cd (b=d)]
     |none=> .fail
   |_=>match x,y with
    |some (.cv (.one (.bool x))),some (.cv (.one (.bool y)))=> .one (.bool (if b then x else y))
    |_,_=> .fail
 | .alloc t,[]=>match V.ti t with
   |some i=>Rf V dst (.cells i.zero) (.one (.ptr dst 0))
   |none=> .fail
 | .box t _,[some (.cv c)]=>match V.ti t with
   |some _=>Rf V dst (.cells c.leaves) (.one (.ptr dst 0))
   |none=> .fail
 | .build t ps,vs=>match V.ti t with
   |some ⟨.struct fs,_,_,z,_⟩=>if fs.all (λ x=>(V.ti x.2).isSome)then match Anv (fieldPlace V fs) z (Rm V ps.toList vs)with
    |some ls=> .cv (.ag ls)
    |none=> .fail
    else .fail
   |some ⟨.array _ e,_,_,z,_⟩=>match V.ti e with
    |some j=>match Anv (λ k=>some (k*j.size,j.size)) z (Rm V ps.toList vs)with
     |some ls=> .cv (.ag ls)
     |none=> .fail
    |none=> .fail
   |_=> .fail
 | .buildSlice t n ps,vs=>match Bfb V t with
   |some (e,i)=>if Nat.ble (n*i.size) 16777216 then
    match Anv (λ k=>some (k*i.size,i.size)) (repeatL i.zero n) (Rm V ps.toList vs)with
    |some ls=>
     A19 V dst e i n q ls
    |none=> .fail
    else .fail
   |none=> .fail
 | .load t _,[some a]=>match V.ti t with
   |some i=>Ae1 V i a
   |none=> .fail
 | .store t _ _,[some a,some v]=>match V.ti t with
   |some i=>As0 V i a v
   |none=> .fail
 | .nilCheck _,[some (.cv (.one (.ptr id off)))]=> .read id fun
   |some (.cells _)=> .one (.ptr id off)
   |_=> .fail
 | .binOp op t _ _ _,[some a,some b]=>A8k V op t a b
 | .unOp op _ _,[some a]=>Bt5 V op a
 | .convert u d _,[some a]=>A91 V (V.ti u) (V.ti d) a
 | .makeFunc (.func f) fi _,vs=>if fi.isEmpty then match Amk V vs with
  |some ls=> .one (.clo f ls)
  |none=> .fail
  else .fail
 | .makeSlice t _ _,[some (.cv (.one (.int _ l))),some (.cv (.one (.int _ c)))]=>match V.ti t with
   |some ⟨.slice e,_,_,_,_⟩=>match V.ti e with
    |some i=>Bbr V dst e i (match q with| .own=>true|_=>false) l c
    |none=> .fail
   |_=> .fail
 | .slice t _ none none none,[some a]=>match V.ti t with
   |some i=>Ad3 V i.kind ((Afx V t).map (·.ty)) a none none
   |none=> .fail
 | .slice t _ (some _) none none,[some a,some (.cv (.one (.int _ l)))]=>match V.ti t with
   |some i=>Ad3 V i.kind ((Afx V t).map (·.ty)) a (some l) none
   |none=> .fail
 | .slice t _ none (some _) none,[some a,some (.cv (.one (.int _ h)))]=>match V.ti t with
   |some i=>Ad3 V i.kind ((Afx V t).map (·.ty)) a none (some h)
   |none=> .fail
 | .slice t _ (some _) (some _) none,[some a,some (.cv (.one (.int _ l))),some (.cv (.one (.int _ h)))]=>match V.ti t with
   |some i=>Ad3 V i.kind ((Afx V t).map (·.ty)) a (some l) (some h)
   |none=> .fail
 | .fieldAddr s _ f,[some a]=>match V.ti s with
   |some ⟨.struct fs,_,_,_,_⟩=>match fieldPlace V fs f with
    |some (off,size)=>if Nat.beq size 0 then .fail else Sf V off a
    |none=> .fail
   |_=> .fail
 | .field s _ f,[some (.cv (.ag ls))]=>match V.ti s with
   |some ⟨.struct fs,_,_,_,_⟩=>match fs[f]? with
    |some (off,t)=>match V.ti t with
     |some i=>part V i.kind.agg i.size off ls
     |none=> .fail
    |none=> .fail
   |_=> .fail
 | .indexAddr t _ _,[some a,some i]=>match Afx V t with
   |some j=>Y2 V j.ty a i
   |none=>match V.ti t with
    |some ⟨.array n e,_,_,_,_⟩=>match V.ti e with
     |some j=>Aru V n j.size a i
     |none=> .fail
    |_=> .fail
 | .index t _ _,[some (.cv (.ag ls)),some (.cv (.one (.int _ i)))]=>match V.ti t with
   |some ⟨.array n e,_,_,_,_⟩=>match V.ti e with
    |some j=>if Af i n then part V j.kind.agg j.size (i.toNat*j.size) ls else .fail
    |none=> .fail
   |_=> .fail
 | .index t _ _,[some (.cv (.one (.str s))),some (.cv (.one (.int _ i)))]=>match V.ti t with
   |some ⟨.str,_,_,_,_⟩=> .one (.int .u8 (s.getD i.toNat 0).toNat) [cd (Af i s.length)]
   |_=> .fail
 | .makeMap t none,[]=>match Bjb V t with
   |some (i,j)=>Rf V dst (.map i.ty j.ty []) (.one (.mp dst))
   |none=> .fail
 | .lookup t _ _ ok,[some a,some x]=>match Bjb V t with
   |some (i,j)=>Avj V i j a x ok
   |none=> .fail
 | .mapUpdate t _ _ _,[some a,some x,some v]=>match Bjb V t with
   |some (i,j)=>Al4 V i j a x v
   |none=> .fail
 | .insert t _ _ _,[some a,some x,some v]=>match Bjb V t with
   |some (i,j)=>Al4 V i j a x v
   |none=> .fail
 | .extract _ n,[some (.tup cs)]=>tcv cs[n]?
 | .call c,vs=>match c.callee,vs with
   | .builtin b,vs=>Apc V dst b c.argTypes.toList vs
   | .value _,some (.cv (.one (.clo f caps)))::vs=>match A5v V vs with
     |some ls=>Aqt V dst f (ls++caps.map .one) q
     |none=> .fail
   |_,_=> .fail
 |_,_=> .fail
structure Acc where
 reads:List Nat
 writes:List Nat
def Ac (bs:List (Nat×Box V.E)):B0 V.E->List Nat->List Nat->Option (Option (SV V.E)×List Cd×List (Nat×Box V.E)×Acc)
 | .fail,_,_=>none
 | .ret v c,rs,ws=>some (v,c,bs,⟨rs,ws⟩)
 | .read id k,rs,ws=>Ac bs (k (Ae id bs)) (id::rs) ws
 | .write id b k,rs,ws=>Ac (put id b bs) k rs (id::ws)
abbrev A11:=List (Nat×Orc V.E)
def Afu (q:List (Nat×Orc V.E)) (i:Nat):Orc V.E:=
 match Ae i q with
 |some x=>x
 |none=> .none
def Abb (ops:List Oper) (s:St V.E) (q:List (Nat×Orc V.E)) (o:Oper):Option (Bool×List Cd):=
 match o.guard with
 |none=>some (true,[])
 |some (j,want)=>
  match(ops[j]?).bind (·.dst)with
  |some d=>match slotT V s d,Afu V q j with
   |some (.cv (.one (.bool b))),.bit x=>some (x==want,[cd (b=x)])
   |some (.tup []),_=>some (false,[])
   |_,_=>none
  |none=>none
def Aj8 (n:Nat):Option Tmp->Bool
 |some d=>Nat.blt d n&&(Nat.blt d 1000000&&(!V.t0||Nat.blt 0 d))
 |none=>true
def Gw (d:Option Tmp) (v:Option (SV V.E)) (slots:List (Nat×Option (SV V.E))):List (Nat×Option (SV V.E)):=
 match d with
 |some d=>put d v slots
 |none=>slots
def Au9 (ops:List Oper) (i:Nat) (o:Oper) (q:List (Nat×Orc V.E)) (s:St V.E):Option (St V.E×List Cd×Acc):=
 match Aj8 V s.n o.dst with
 |true=>match Abb V ops s q o with
  |none=>none
  |some (false,c)=>some (⟨s.n,Gw V o.dst (some (.tup [])) s.slots,s.boxes⟩,c,⟨[],[]⟩)
  |some (true,c)=>
   match Ac V s.boxes (Afb V (V.base+o.dst.getD 0) o (Dx V s (Cz V o) o.op.operands.toList) (Afu V q i)) [] []with
   |some (v,c',bs,a)=>some (⟨s.n,Gw V o.dst v s.slots,bs⟩,c++c',a)
   |none=>none
 |false=>none
def Ay4 (ops:List Oper) (q:List (Nat×Orc V.E)):Nat->List Oper->St V.E->Option (St V.E×List Cd×List Acc)
 |_,[],s=>some (s,[],[])
 |i,o::os,s=>
  match Au9 V ops i o q s with
  |some (s',c,a)=>match Ay4 ops q (i+1) os s' with
   |some (s'',c',as)=>some (s'',c++c',a::as)
   |none=>none
  |none=>none
end
end Go.Ab
