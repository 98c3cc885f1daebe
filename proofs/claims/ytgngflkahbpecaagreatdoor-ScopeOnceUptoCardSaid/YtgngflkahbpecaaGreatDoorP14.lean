/- What is reckoned of a function with no telling of it: its code is run on what the leaves and boxes are; and that this is so. Levels of calls. A run of a function's code does what the code does. A run of a function's code does what the code does: regions, calls, loops. Conditions: none beyond those that each theorem names. -/
import Derived.Test.YtgngflkahbpecaaGreatDoorP13
import Derived.Test.YtgngflkahbpecaaGreatDoorP11
set_option linter.unusedSimpArgs false
set_option linter.unusedVariables false
namespace Go.Ab
open Go
section
variable {V:Env} {C:Ctx}
theorem Bfh {p:Nat->Bool} {bx bx':List (Nat×Box V.E)} {β:Nat->BI} {w:World} (M:Bk V.T C bx β w) (hl:∀id,Ae id bx'=if p id=true then Ae id bx else none)
 (hc:∀id ls,p id=true->Ae id bx=some (.cells ls)->∀i∈B5 ls,p i=true):
 ∃β',Bk V.T C bx' β' w/\Dd (A2 C β w) w (A2 C β' w) w/\∀id,p id=true->Ae id bx'=Ae id bx/\β' id=β id:=by
 let β':Nat->BI:=λ j=>if p j=true then β j else {β j with own:=[]}
 have hβ:∀j,p j=true->β' j=β j:=λ j hj=>by show(if _ then _ else _)=_;rw[if_pos hj]
 have hβ':∀j,p j≠true->(β' j).own=[]:=λ j hj=>by show(if _ then _ else _:BI).own=_;rw[if_neg hj]
 have hsub:∀j x,x∈(β' j).own->p j=true/\x∈(β j).own:=by
  intro j x hx
  by_cases hj:p j=true
  ·rw[hβ j hj]at hx;exact⟨hj,hx⟩
  ·rw[hβ' j hj]at hx;simp at hx
 have hlook:∀j,p j=true->Ae j bx'=Ae j bx:=λ j hj=>by rw[hl,if_pos hj]
 have L:Dd (A2 C β w) w (A2 C β' w) w:=⟨λ b hb=>⟨hb.1,hb.2.1,λ j hj=>hb.2.2 j (hsub j b hj).2⟩,λ _ _=>rfl⟩
 refine⟨β',⟨λ id b hid=> ?_,λ id hid=> ?_,λ id=> ?_,λ id id' x hx hx'=>M.apart id id' x (hsub id x hx).2 (hsub id' x hx').2,λ id x hx=>M.mine id x (hsub id x hx).2,M.kept⟩,L,λ id hp=>⟨hlook id hp,hβ id hp⟩⟩
 ·have hid':=hid
  rw[hl]at hid'
  split at hid'
  ·rename_i hm
   refine Dc.agree L (hβ id hm) (λ ls e i hi=> ?_) (M.boxes id b hid')
   subst e
   have:=hc id ls hm hid' i hi
   exact⟨.inl (hlook i this),hβ i this⟩
  ·cases hid'
 ·by_cases hm:p id=true
  ·rw[hβ id hm];exact M.nones id (by rw[<-hlook id hm];exact hid)
  ·exact hβ' id hm
 ·by_cases hm:p id=true
  ·rw[hβ id hm];exact M.nodup id
  ·rw[hβ' id hm];exact List.nodup_nil
end
def B7k {E:Nat->Type}:List (CV E)->SV E
 |[c]=> .cv c
 |cs=> .tup cs
theorem By4 {T:Tab} {bx:List (Nat×Box T.E)} {β:Nat->BI} {ok:Nat->Prop} {w:World} {cs:List (CV T.E)} {vs:List Value} (h:Ba (Ar T bx β ok w) cs vs):Az T bx β ok w (B7k cs) (Ape vs):=by
 have hl:=h.length
 match cs,vs,h,hl with
 |[],[],h,_=>exact⟨#[],rfl,.nil⟩
 |[c],[v],.cons h _,_=>exact h
 |c::c'::cs,v::v'::vs,h,_=>exact⟨(v::v'::vs).toArray,rfl,by simpa using h⟩
section
variable (V:Env)
def A8w (d:Tmp):List Oper->Bool
 |[]=>false
 |o::os=>match o.op with
  | .call c=>match c.callee,c.args.toList with
    | .builtin .append,.tmp e::_=>match Nat.beq e d with
      |true=>true
      |false=>A8w d os
    |_,_=>A8w d os
  |_=>A8w d os
noncomputable def Axm (ops:List Oper) (sl:Sl V) (o:Oper):Orc V.E:=
 match o.op with
 | .pick c _ _=>match M8 V sl 0 c with
   |some (.cv (.one (.bool b)))=> .bit b
   |_=> .none
 | .buildSlice _ _ _=>match o.dst with
   |some d=>match A8w d ops with
    |true=> .lit
    |false=> .none
   |none=> .none
 | .call c=>match c.callee with
   | .value _=> .go
   |_=> .none
 |_=> .none
noncomputable def Brj (ops:List Oper) (i:Nat) (sl:Sl V) (o:Oper):Option Bool:=
 match o.guard with
 |none=>some true
 |some (j,want)=>match Nat.beq i j with
  |true=>none
  |false=>match(ops[j]?).bind (·.dst)with
   |some d=>match Bo5 V sl d with
    |some (.cv (.one (.bool b)))=>some (b==want)
    |some (.tup [])=>some false
    |_=>none
   |none=>none
noncomputable def Buz (n:Nat):Option Tmp->Bool
 |none=>true
 |some d=>match Nat.blt d n with
  |true=>Nat.blt d 1000000
  |false=>false
noncomputable def A4m (d:Option Tmp) (v:Option (SV V.E)) (sl:Sl V):Sl V:=
 match d with
 |some d=>By0 d v sl
 |none=>sl
noncomputable def B78 (n:Nat) (sl:Sl V) (o:Oper):Option (Option (SV V.E)×List Cd×List (Nat×Box V.E)×Acc)->Option (St V.E×List Cd×Acc)
 |some (v,c,bs,a)=>some (⟨n,A4m V o.dst v sl,bs⟩,c,a)
 |none=>none
noncomputable def B69 (ops:List Oper) (n:Nat) (sl:Sl V) (bx:Bx V) (o:Oper):Option (St V.E×List Cd×Acc):=
 B78 V n sl o (A8o V (Aoh V sl o (Axm V ops sl o) (Xm V (V.base+o.dst.getD 0) ⟨n,sl,bx⟩ o (Axm V ops sl o))) bx [] [])
noncomputable def Bxj (ops:List Oper) (i:Nat) (o:Oper):St V.E->Option (St V.E×List Cd×Acc)
 |⟨n,sl,bx⟩=>match Buz n o.dst with
  |true=>match Brj V ops i sl o with
   |some true=>B69 V ops n sl bx o
   |some false=>some (⟨n,A4m V o.dst (some (.tup [])) sl,bx⟩,[],⟨[],[]⟩)
   |none=>none
  |false=>none
def Bzh:List Cd->Bool
 |[]=>true
 |c::cs=>match c.b with
  |true=>Bzh cs
  |false=>false
noncomputable def Aqw (ops:List Oper):Nat->List Oper->St V.E->Option (St V.E×List Acc)
 |_,[],s=>some (s,[])
 |i,o::os,s=>match Bxj V ops i o s with
  |some (s',c,a)=>match Bzh c with
   |true=>match Aqw ops (i+1) os s' with
    |some (s'',as)=>some (s'',a::as)
    |none=>none
   |false=>none
  |none=>none
noncomputable def B7p (L:FuncId->Option (FL V.E)) (o:Oper) (n:Nat) (sl:Sl V) (bx:Bx V) (f:FuncId) (caps:List (Av V.E)) (vs:List (Option (SV V.E))):Option (St V.E):=
 match L f,A5v V vs with
 |some S,some ls=>match S.g (V.base+4096) (ls++caps.map .one) bx with
  |some (res,bx)=>some ⟨n,A4m V o.dst (some (B7k res)) sl,bx⟩
  |none=>none
 |_,_=>none
noncomputable def B8f (L:FuncId->Option (FL V.E)) (o:Oper) (n:Nat) (sl:Sl V) (bx:Bx V) (vs:List (Option (SV V.E))):Option (SV V.E)->Option (St V.E)
 |some (.cv (.one (.clo f caps)))=>B7p V L o n sl bx f caps vs
 |_=>none
noncomputable def A31 (sl:Sl V):List TypeId->List Operand->List (Option (SV V.E))
 |t::ts,x::xs=>M8 V sl t x::A31 sl ts xs
 |[],x::xs=>M8 V sl 0 x::A31 sl [] xs
 |_,[]=>[]
noncomputable def B3c (L:FuncId->Option (FL V.E)) (o:Oper):St V.E->Option (St V.E)
 |⟨n,sl,bx⟩=>match Buz n o.dst with
  |true=>match o.op with
   | .call cl=>match cl.callee with
     | .value fv=>B8f V L o n sl bx (A31 V sl cl.argTypes.toList cl.args.toList) (M8 V sl 0 fv)
     |_=>none
   |_=>none
  |false=>none
noncomputable def B7o (o:Oper):St V.E->Option (St V.E)
 |⟨n,sl,bx⟩=>match Buz n o.dst with
  |true=>some ⟨n,A4m V o.dst (some (.tup [])) sl,bx⟩
  |false=>none
noncomputable def B4q:Option (St V.E×List Cd×Acc)->Option (St V.E)
 |some (s,c,_)=>match Bzh c with
  |true=>some s
  |false=>none
 |none=>none
noncomputable def Bis (L:FuncId->Option (FL V.E)) (ops:List Oper) (i:Nat) (o:Oper) (s:St V.E):Option (St V.E):=
 match Bbg o with
 |true=>match Brj V ops i s.slots o with
  |some true=>B3c V L o s
  |some false=>B7o V o s
  |none=>none
 |false=>B4q V (Bxj V ops i o s)
noncomputable def Avb (L:FuncId->Option (FL V.E)) (ops:List Oper) (os:List Oper):Nat->St V.E->Option (St V.E):=
 List.rec (motive:=λ _=>Nat->St V.E->Option (St V.E)) (λ _ s=>some s) (λ o _ ih i s=>Option.rec (motive:=λ _=>Option (St V.E)) none (ih (i+1)) (Bis V L ops i o s)) os
def Bxi {E:Nat->Type}:Option (Box E)->List Nat
 |some (.cells ls)=>B5 ls
 |_=>[]
def Azb {E:Nat->Type} (base:Nat) (bx:List (Nat×Box E)):Nat->List Nat->List Nat->List Nat
 |0,_,acc=>acc
 |_,[],acc=>acc
 |n+1,i::is,acc=>match Nat.blt i base||Sa i acc with
  |true=>Azb base bx n is acc
  |false=>Azb base bx n (Bxi (Ae i bx)++is) (i::acc)
def Bl2 {E:Nat->Type} (base:Nat):List (Nat×Box E)->List Nat
 |[]=>[]
 |(k,b)::r=>match Nat.blt k base with
  |true=>Bxi (some b)++Bl2 base r
  |false=>Bl2 base r
def Aw4 (base:Nat) (ids:List Nat) (i:Nat):Bool:=Nat.blt i base||Sa i ids
def A5c {E:Nat->Type} (base:Nat) (ids:List Nat):List (Nat×Box E)->List (Nat×Box E)
 |[]=>[]
 |(k,b)::r=>match Aw4 base ids k with
  |true=>(k,b)::A5c base ids r
  |false=>A5c base ids r
def Axp (base:Nat) (ids:List Nat):List Nat->Bool
 |[]=>true
 |i::is=>match Aw4 base ids i with
  |true=>Axp base ids is
  |false=>false
def Ak5 {E:Nat->Type} (base:Nat) (ids:List Nat):List (Nat×Box E)->Bool
 |[]=>true
 |(_,.cells ls)::r=>match Axp base ids (B5 ls)with
  |true=>Ak5 base ids r
  |false=>false
 |_::r=>Ak5 base ids r
def Bwi {E:Nat->Type} (base:Nat) (roots:List Nat) (bx:List (Nat×Box E)):Option (List (Nat×Box E)):=
 let ids:=Azb base bx 100000 (roots++Bl2 base bx) []
 let bx':=A5c base ids bx
 match Axp base ids roots&&Ak5 base ids bx' with
 |true=>some bx'
 |false=>none
def A8q {E:Nat->Type}:List (Nat×Option (SV E))->List Nat
 |[]=>[]
 |(_,some v)::r=>v.ids++A8q r
 |(_,none)::r=>A8q r
def A8z (ks:List Nat) (s:St V.E):Option (St V.E):=
 let sl:=Zr ks s.slots
 match Bwi V.base (A8q sl) s.boxes with
 |some bx=>some ⟨s.n,sl,bx⟩
 |none=>none
def Arx:Code->Nat
 | .region id _ _=>id
 | .seq a _=>Arx a
 | .block _ c=>Arx c
 | .loop c=>Arx c
 | .scope c=>Arx c
 |_=>0
def A3c (lv:Nat->Option (List Nat)) (c:Code) (s:St V.E):Option (St V.E):=
 match lv (Arx c)with
 |some ks=>A8z V ks s
 |none=>some s
inductive Nx (E:Nat->Type) where
 |fail
 |done (s:St E)
 |next (k:List Item) (s:St E)
def B32 {E:Nat->Type} (k:List Item):Option (St E)->Nx E
 |some s=> .next k s
 |none=> .fail
def Bwh (k:List Item) (ops:Array Oper):Option (St V.E×List Acc)->Nx V.E
 |some (s',acs)=>match Bbc ops acs with
  |true=> .next k s'
  |false=> .fail
 |none=> .fail
def B8p (x y:Code) (k:List Item) (s:St V.E):Option (SV V.E)->Nx V.E
 |some (.cv (.one (.bool b)))=>match b with
  |true=> .next (.code x::k) s
  |false=> .next (.code y::k) s
 |_=> .fail
noncomputable def B1h (L:FuncId->Option (FL V.E)) (lv:Nat->Option (List Nat)) (k:List Item) (s:St V.E):Code->Nx V.E
 | .skip=> .next k s
 | .label _=> .next k s
 | .seq x y=> .next (.code x:: .code y::k) s
 | .block id c=> .next (.code c:: .inBlock id::k) s
 | .exit id=>match exitTo id k with
   |some k'=> .next k' s
   |none=> .fail
 | .ret=> .done s
 | .region _ ops draw=>match draw with
   |true=>Bwh V k ops (Aqw V ops.toList 0 ops.toList s)
   |false=>B32 k (Avb V L ops.toList ops.toList 0 s)
 | .cond c x y=>B8p V x y k s (M8 V s.slots 0 c)
 | .loop c=>B32 (.code c:: .inLoop c::k) (A3c V lv c s)
 |_=> .fail
noncomputable def Bv5 (L:FuncId->Option (FL V.E)) (lv:Nat->Option (List Nat)) (s:St V.E):List Item->Nx V.E
 |[]=> .done s
 |i::k=>match i with
  | .code c=>B1h V L lv k s c
  | .inBlock _=> .next k s
  | .inLoop c=>B32 (.code c:: .inLoop c::k) (A3c V lv c s)
  |_=> .fail
noncomputable def goX (L:FuncId->Option (FL V.E)) (lv:Nat->Option (List Nat)) (fuel:Nat):List Item->St V.E->Option (St V.E):=
 Nat.rec (λ _ _=>none) (λ _ ih k s=>match Bv5 V L lv s k with
  | .fail=>none
  | .done s=>some s
  | .next k s=>ih k s) fuel
def A1g (s:St V.E):List ResultVar->Option (List (CV V.E))
 |[]=>some []
 |r::rs=>match A52 V s r with
  |some c=>match A1g s rs with
   |some cs=>some (c::cs)
   |none=>none
  |none=>none
def M9 {E:Nat->Type}:Nat->List (CV E)->List (Nat×Option (SV E))
 |_,[]=>[]
 |i,c::cs=>(i,some (.cv c))::M9 (i+1) cs
def Bz5 {α:Type}:Nat->List (Nat×α)->Nat
 |t,[]=>t
 |t,(k,_)::r=>match Nat.blt t k with
  |true=>Bz5 k r
  |false=>Bz5 t r
def A1c {α:Type} (lo:Nat) (bx:List (Nat×α)):Nat:=(Bz5 lo bx/4096+1)*4096
noncomputable def B1l (L:FuncId->Option (FL V.E)) (lv:Nat->Option (List Nat)) (fn:Func) (args:List (CV V.E)) (bx:List (Nat×Box V.E)):Option (List (CV V.E)×List (Nat×Box V.E)):=
 match Nat.ble args.length fn.ntmps&&Nat.ble args.length 1000000,fn.body with
 |true,some c=>match goX V L lv 18446744073709551616 [.code c] ⟨fn.ntmps,M9 0 args,bx⟩with
  |some s=>match A1g V s fn.results.toList with
   |some res=>match Bwi V.base (res.flatMap λ c=>B5 c.leaves) s.boxes with
    |some bx'=>some (res,bx')
    |none=>none
   |none=>none
  |none=>none
 |_,_=>none
end
noncomputable def Byw (T:Tab) (ti:TypeId->Option (TI T.E)) (eqs:TypeId->Bool) (L:FuncId->Option (FL T.E)) (base:Nat):Env:=
 ⟨T,ti,eqs,λ _=>none,λ _=>none,λ _=>none,L,false,base,λ _ _=>none⟩
noncomputable def lvl (P:Program) (T:Tab) (ti:TypeId->Option (TI T.E)) (eqs:TypeId->Bool) (lv:FuncId->Nat->Option (List Nat)) (nat:FuncId->Option (FL T.E)) (n:Nat):FuncId->Option (FL T.E):=
 Nat.rec (λ _=>none) (λ _ L f=>match nat f with
  |some S=>some S
  |none=>match P.funcs.toList[f]? with
   |some fn=>match fn.body.isNone||fn.name== "runtime.NumGoroutine" with
    |true=>none
    |false=>some ⟨λ lo args bx=>B1l (Byw T ti eqs L (A1c lo bx)) L (lv f) fn args bx⟩
   |none=>none) n
section
variable {V:Env} {P:Program} {C:Ctx}
def Hg (m:Sl V) (s:St V.E):St V.E:=⟨s.n,s.slots++m,s.boxes⟩
def Azn (m:Sl V):Prop:=∀k,k<1000000->Ae k m=none
def Low (s:St V.E):Prop:=∀k,1000000<=k->Ae k s.slots=none
theorem H5 {α:Type} (k:Nat) (m:List (Nat×α)):∀l:List (Nat×α),Ae k (l++m)=match Ae k l with|some x=>some x|none=>Ae k m
 |[]=>rfl
 |(j,x)::r=>by
  show(if Nat.beq j k=true then some x else Ae k (r++m))=match(if Nat.beq j k=true then some x else Ae k r)with|some x=>some x|none=>Ae k m
  split
  ·rfl
  ·exact H5 k m r
theorem Ana {m:Sl V} (hm:Azn m) (s:St V.E) (k:Nat):slotT V (Hg m s) k=slotT V s k:=by
 unfold slotT
 split
 ·rename_i hk
  unfold slot Hg
  simp only[H5]
  have:=hm k (Nat.blt_eq.mp hk)
  cases Ae k s.slots with
  |none=>rw[this]
  |some x=>rfl
 ·rfl
theorem Asm {m:Sl V} (hm:Azn m) (s:St V.E) (t:TypeId) (x:Operand):Hv V (Hg m s) t x=Hv V s t x:=by
 cases x with
 |tmp k=>exact Ana hm s k
 |_=>rfl
theorem Al7 {m:Sl V} (hm:Azn m) (s:St V.E):∀(xs:List Operand) (ts:List TypeId),Dx V (Hg m s) ts xs=Dx V s ts xs
 |[],ts=>by cases ts<;>rfl
 |x::xs,[]=>by simp only[Dx,Asm hm,Al7 hm s xs]
 |x::xs,t::ts=>by simp only[Dx,Asm hm,Al7 hm s xs]
theorem Brd:∀{c:List Cd},Bzh c=true->Fj c
 |[],_=>trivial
 |c::cs,h=>by
  unfold Bzh at h
  split at h
  ·rename_i hb;exact⟨c.h hb,Brd h⟩
  ·cases h
theorem Bkx (h0:V.t0=false) {n:Nat} {d:Option Tmp} (h:Buz n d=true):Aj8 V n d=true:=by
 cases d with
 |none=>rfl
 |some d=>
  unfold Buz at h
  simp only at h
  split at h
  ·rename_i h1
   simp only[Aj8,h0,h1,h]
   rfl
  ·cases h
theorem Bdd {n:Nat} {d:Option Tmp} (h:Buz n d=true):∀k,d=some k->k<n/\Nat.blt k 1000000=true:=by
 rintro k rfl
 unfold Buz at h
 simp only at h
 split at h
 ·rename_i h1;exact⟨Nat.blt_eq.mp h1,h⟩
 ·cases h
theorem Bb8 (d:Option Tmp) (v:Option (SV V.E)) (sl:Sl V) (k:Nat):Ae k (A4m V d v sl)=if d=some k then some v else Ae k sl:=by
 cases d with
 |none=>rw[if_neg (by simp)];rfl
 |some d=>
  show Ae k (By0 d v sl)=_
  rw[A2g]
  by_cases h:k=d
  ·subst h;simp
  ·rw[if_neg h,if_neg (by simpa using Ne.symm h)]
theorem Blm (d:Option Tmp) (v:Option (SV V.E)) (sl:Sl V) (k:Nat):Ae k (Gw V d v sl)=if d=some k then some v else Ae k sl:=by
 cases d with
 |none=>rw[if_neg (by simp)];rfl
 |some d=>
  by_cases h:k=d
  ·subst h;rw[if_pos rfl];exact Aw _ _ _
  ·rw[if_neg (by simpa using Ne.symm h)];exact Ay h _ _
theorem Ask (d:Option Tmp) (v:Option (SV V.E)) (sl m:Sl V):Au2 (Gw V d v (sl++m)) (A4m V d v sl++m):=by
 intro k
 rw[Blm,H5,H5,Bb8]
 split<;>rfl
theorem A8s {s:St V.E} (h:Low s) {d:Option Tmp} (hd:∀k,d=some k->k<s.n/\Nat.blt k 1000000=true) (v:Option (SV V.E)) (bx:Bx V):Low (⟨s.n,A4m V d v s.slots,bx⟩:St V.E):=by
 intro k hk
 show Ae k (A4m V d v s.slots)=none
 rw[Bb8,if_neg]
 ·exact h k hk
 ·intro e
  have:=Nat.blt_eq.mp (hd k e).2
  omega
theorem Axo {m:Sl V} (hm:Azn m) {ops:List Oper} {i:Nat} {s:St V.E} {o:Oper} {b:Bool} (h:Brj V ops i s.slots o=some b) (so:Orc V.E):
 ∃q c,Abb V ops (Hg m s) q o=some (b,c)/\Fj c/\Afu V q i=so:=by
 unfold Brj at h
 split at h
 ·rename_i hg
  cases h
  exact⟨[(i,so)],[],by unfold Abb;rw[hg],trivial,by simp[Afu,Ae]⟩
 ·rename_i j want hg
  split at h
  ·cases h
  ·rename_i hij
   split at h
   ·rename_i d hd
    have hs:∀k,Bo5 V s.slots k=slotT V (Hg m s) k:=λ k=>by rw[Ana hm,Bst V s.n s.slots s.boxes]
    rw[hs]at h
    have ho:Afu V [(j,Orc.bit true),(i,so)] i=so:=by
     have:Nat.beq j i=false:=by
      cases hb:Nat.beq j i with
      |false=>rfl
      |true=>have:=Ah hb;subst this;simp at hij
     simp[Afu,Ae,this]
    split at h
    ·rename_i x hx
     cases h
     refine⟨[(j,.bit x),(i,so)],[cd (x=x)], ?_,⟨rfl,trivial⟩, ?_⟩
     ·unfold Abb
      rw[hg]
      dsimp only
      rw[hd]
      dsimp only
      rw[hx,show Afu V [(j,Orc.bit x),(i,so)] j= .bit x by simp[Afu,Ae]]
     ·have:Nat.beq j i=false:=by
       cases hb:Nat.beq j i with
       |false=>rfl
       |true=>have:=Ah hb;subst this;simp at hij
      simp[Afu,Ae,this]
    ·rename_i hx
     cases h
     refine⟨[(j,.bit true),(i,so)],[], ?_,trivial,ho⟩
     unfold Abb
     rw[hg]
     simp only[hd,hx]
    ·cases h
   ·cases h
theorem Bps (h0:V.t0=false) {m:Sl V} (hm:Azn m) {ops:List Oper} {i:Nat} {o:Oper} {s s':St V.E} {c:List Cd} {a:Acc} (h:Bxj V ops i o s=some (s',c,a)) (hc:Bzh c=true) (hl:Low s):
 Low s'/\∃q s2 c2,Au9 V ops i o q (Hg m s)=some (s2,c2,a)/\Fj c2/\Al2 s2 (Hg m s'):=by
 obtain⟨n,sl,bx⟩:=s
 unfold Bxj at h
 simp only at h
 split at h
 ·rename_i hd
  have hlow:=Bdd hd
  split at h
  ·rename_i hw
   unfold B69 at h
   obtain⟨q,c1,hq,hc1,ho⟩:=Axo (s:=⟨n,sl,bx⟩) hm hw (Axm V ops sl o)
   unfold B78 at h
   split at h
   ·rename_i v c' bs a' hi
    cases h
    have e1:=B1y (V.base+o.dst.getD 0) (⟨n,sl,bx⟩:St V.E) o (Axm V ops sl o)
    simp only at e1
    rw[e1]at hi
    obtain⟨b1,hi',hsame⟩:=Av6 V _ bx bx [] [] (λ _=>rfl) hi
    refine⟨A8s hl hlow _ _,q,⟨n,Gw V o.dst v (sl++m),b1⟩,c1++c, ?_, ?_,⟨rfl,Ask _ _ _ _,λ k=>(hsame k).symm⟩⟩
    ·unfold Au9
     rw[show(Hg m (⟨n,sl,bx⟩:St V.E)).n=n from rfl,Bkx h0 hd,hq]
     simp only[ho,Al7 hm]
     have hi2:Ac V (Hg m (⟨n,sl,bx⟩:St V.E)).boxes (Afb V (V.base+o.dst.getD 0) o (Dx V (⟨n,sl,bx⟩:St V.E) (Cz V o) o.op.operands.toList) (Axm V ops sl o)) [] []=some (v,c,b1,a):=hi'
     rw[hi2]
     rfl
    ·have key:∀{c1 c':List Cd},Fj c1->Fj c'->Fj (c1++c'):=by
      intro c1
      induction c1 with
      |nil=>intro c' _ h;exact h
      |cons x xs ih=>intro c' h1 h2;exact⟨h1.1,ih h1.2 h2⟩
     exact key hc1 (Brd hc)
   ·cases h
  ·rename_i hw
   cases h
   obtain⟨q,c1,hq,hc1,ho⟩:=Axo (s:=⟨n,sl,bx⟩) hm hw (.none)
   refine⟨A8s hl hlow _ _,q,⟨n,Gw V o.dst (some (.tup [])) (sl++m),bx⟩,c1, ?_,hc1,⟨rfl,Ask _ _ _ _,λ _=>rfl⟩⟩
   unfold Au9
   rw[show(Hg m (⟨n,sl,bx⟩:St V.E)).n=n from rfl,Bkx h0 hd,hq]
   rfl
  ·cases h
 ·cases h
end
section
variable {V:Env} {P:Program} {C:Ctx}
theorem Btr (h0:V.t0=false) {m:Sl V} (hm:Azn m) {ops:Array Oper} {allA:List Acc}:∀(os:List Oper) (i:Nat) (s s':St V.E) (acs:List Acc),ops.toList.drop i=os->allA.drop i=acs->Aqw V ops.toList i os s=some (s',acs)->Low s->
 Low s'/\∃s2,Ave V ops (Apd allA) ((List.range ops.size).drop i) (Hg m s) s2/\Al2 s2 (Hg m s')
 |[],i,s,s',acs,hi,ha,h,hl=>by
  simp only[Aqw,Option.some.injEq,Prod.mk.injEq]at h
  obtain⟨rfl,_⟩:=h
  have:ops.size<=i:=by simpa using hi
  have hn:(List.range ops.size).drop i=[]:=by simpa using this
  rw[hn]
  exact⟨hl,_,.nil,.refl _⟩
 |o::os,i,s,s',acs,hi,ha,h,hl=>by
  have hlt:i<ops.size:=by
   rcases Nat.lt_or_ge i ops.size with h|h
   ·exact h
   ·have:ops.toList.drop i=[]:=by simpa using h
    rw[this]at hi;cases hi
  have hn:(List.range ops.size).drop i=i::(List.range ops.size).drop (i+1):=by
   rw[List.drop_eq_getElem_cons (by simpa using hlt)];simp
  have ho:ops[i]?=some o:=by
   have:=congrArg (·[0]?) hi
   simpa using this
  have hi':ops.toList.drop (i+1)=os:=by
   have:=congrArg List.tail hi
   simpa using this
  rw[hn]
  simp only[Aqw]at h
  split at h
  ·rename_i s1 c1 a1 h1
   split at h
   ·rename_i hc1
    split at h
    ·rename_i s2 as h2
     cases h
     obtain⟨hl1,q,t1,c2,e1,e2,e3⟩:=Bps h0 hm h1 hc1 hl
     have ha1:Apd allA i=a1:=by
      have:=congrArg (·[0]?) ha
      unfold Apd
      rw[List.getD_eq_getElem?_getD]
      simp at this
      rw[this];rfl
     have ha':allA.drop (i+1)=as:=by
      have:=congrArg List.tail ha
      simpa using this
     obtain⟨hl2,t2,r,e4⟩:=Btr h0 hm os (i+1) s1 _ as hi' ha' h2 hl1
     obtain⟨t3,r',e5⟩:=Awh r e3.symm
     exact⟨hl2,t3,.cons ho (by rw[ha1];exact e1) e2 r',e5.symm.trans e4⟩
    ·cases h
   ·cases h
  ·cases h
theorem B1n (G:Bs V P) (h0:V.t0=false) {m:Sl V} (hm:Azn m) {id:Nat} {ops:Array Oper} {Q:Exit->Act->World->Prop} {s s':St V.E} {acs:List Acc} {a:Act} {w:World} (S:Sim V C (Hg m s) a w)
 (h:Aqw V ops.toList 0 ops.toList s=some (s',acs)) (hd:Bbc ops acs=true) (hl:Low s) (hQ:∀a' w',Sim V C (Hg m s') a' w'->Q .normal a' w'):
 (Code.region id ops true).wp P Q a w:=by
 obtain⟨_,s2,r,e⟩:=Btr (allA:=acs) h0 hm ops.toList 0 s s' acs rfl rfl h hl
 have hrem:rem ops.size (Array.replicate ops.size false)=List.range ops.size:=by
  unfold rem
  rw[List.filter_eq_self]
  intro i hi
  simp only[List.mem_range]at hi
  simp[Array.getD_eq_getD_getElem?,hi]
 refine wp_region_any G.mixed (Bm1 G hd hQ ops.size _ a _ (Hg m s) s2 (by simp) (by rw[hrem];simp) ?_ S.drew (by rw[hrem];simpa using r) e)
 intro i o ho hl
 simp only[Array.getD_eq_getD_getElem?,Array.getElem?_replicate]at hl
 split at hl<;>simp at hl
def kpX (V:Env) (s:St V.E) (ks:List Nat):List (SV V.E):=ks.filterMap λ k=>slot V s k
def kpV (V:Env) (C:Ctx) (s:St V.E) (a:Act) (ks:List Nat):List Value:=ks.filterMap λ k=>(slot V s k).map λ _=>Uz C a.tmps k
theorem Bug {R:SV V.E->Value->Prop} {s:St V.E} {a:Act}:∀(ks:List Nat),(∀k x,slot V s k=some x->R x (Uz C a.tmps k))->Ba R (kpX V s ks) (kpV V C s a ks)
 |[],_=> .nil
 |k::ks,h=>by
  unfold kpX kpV
  cases hk:slot V s k with
  |none=>simp only[List.filterMap_cons,hk,Option.map_none];exact Bug ks h
  |some x=>simp only[List.filterMap_cons,hk,Option.map_some];exact .cons (h k x hk) (Bug ks h)
theorem Bvp {R:SV V.E->Value->Prop} {s:St V.E} {a:Act}:∀(ks:List Nat),Ba R (kpX V s ks) (kpV V C s a ks)->∀k∈ks,∀x,slot V s k=some x->R x (Uz C a.tmps k)
 |[],_,k,hk,_,_=>by simp at hk
 |j::ks,h,k,hk,x,hx=>by
  unfold kpX kpV at h
  cases hj:slot V s j with
  |none=>
   simp only[List.filterMap_cons,hj,Option.map_none]at h
   rcases List.mem_cons.1 hk with rfl|hk
   ·rw[hj]at hx;cases hx
   ·exact Bvp ks h k hk x hx
  |some y=>
   simp only[List.filterMap_cons,hj,Option.map_some]at h
   cases h with
   |cons h1 h2=>
    rcases List.mem_cons.1 hk with rfl|hk
    ·rw[hj]at hx;cases hx;exact h1
    ·exact Bvp ks h2 k hk x hx
theorem B4n {s:St V.E} {k:Nat} {x:SV V.E} (h:slot V s k=some x):k∈s.slots.map (·.1):=by
 unfold slot at h
 split at h
 ·rename_i y hy;exact List.mem_map.2 ⟨_,Ary hy,rfl⟩
 ·cases h
theorem B3l {n:Nat} {sl sl':Sl V} {a:Act} {bx':Bx V} {β':Nat->BI} {w':World} (hsz:a.tmps.size=n) (hdf:a.defers=[]) (h0:V.t0=false) (M:Bk V.T C bx' β' w')
 (hs:∀k x,Ae k sl=some (some x)->Az V.T bx' β' (A2 C β' w') w' x (Uz C a.tmps k)) {dst:Option Tmp} (hd:∀d,dst=some d->d<n/\Nat.blt d 1000000=true) {x:SV V.E} {v:Value}
 (hx:Az V.T bx' β' (A2 C β' w') w' x v) (hsl:Au2 sl' (Gw V dst (some x) sl)):Aoz V C ⟨n,sl',bx'⟩ β' (a.put dst v) w':=by
 have hslot:∀k y,slot V (⟨n,sl',bx'⟩:St V.E) k=some y->Ae k (Gw V dst (some x) sl)=some (some y):=by
  intro k y h
  unfold slot at h
  split at h
  ·rename_i z hz;subst h;rw[<-hsl k];exact hz
  ·cases h
 cases dst with
 |none=>exact⟨hsz,⟨hdf,λ h=>by rw[h0]at h;cases h⟩,λ k y hk=>hs k y (hslot k y hk),M⟩
 |some d=>
  obtain⟨hlt,hb⟩:=hd d rfl
  refine⟨by simpa [Act.put]using hsz,⟨by simpa [Act.put]using hdf,λ h=>by rw[h0]at h;cases h⟩,λ k y hk=> ?_,M⟩
  have hk:=hslot k y hk
  by_cases hkd:k=d
  ·subst hkd
   rw[show Gw V (some k) (some x) sl=put k (some x) sl from rfl,Aw]at hk
   cases hk
   have:Uz C (a.put (some k) v).tmps k=v:=by
    unfold Uz
    rw[hb]
    simp[Act.put,Array.getD_eq_getD_getElem?,hsz,hlt]
   rw[this];exact hx
  ·rw[show Gw V (some d) (some x) sl=put d (some x) sl from rfl,Ay hkd]at hk
   have:Uz C (a.put (some d) v).tmps k=Uz C a.tmps k:=by
    unfold Uz
    split
    ·simp[Act.put,Array.getD_eq_getD_getElem?,Array.getElem?_setIfInBounds_ne (Ne.symm hkd)]
    ·rfl
   rw[this];exact hs k y hk
theorem A1t (n:Nat) (sl:Sl V) (bx:Bx V):∀(xs:List Operand) (ts:List TypeId),A31 V sl ts xs=Dx V ⟨n,sl,bx⟩ ts xs
 |[],ts=>by cases ts<;>rfl
 |x::xs,[]=>by simp only[A31,Dx,Ap5 V n sl bx,A1t n sl bx xs]
 |x::xs,t::ts=>by simp only[A31,Dx,Ap5 V n sl bx,A1t n sl bx xs]
theorem B1x (h0:V.t0=false) {L:FuncId->Option (FL V.E)} (HL:∀f S,L f=some S->Mb V.T P f S) {m:Sl V} (hm:Azn m) {ops:Array Oper} {i:Nat} {o:Oper} (ho:ops[i]?=some o) {s s':St V.E} {a:Act} {w:World}
 (S:Sim V C (Hg m s) a w) (hw:Brj V ops.toList i s.slots o=some true) (h:B3c V L o s=some s') (hl:Low s) {K:Act->World->Prop} {Q:Exit->Act->World->Prop} (hK:Low s'->∀a' w',Sim V C (Hg m s') a' w'->K a' w'):wpOp P ops Q i K a w:=by
 obtain⟨β,S⟩:=S
 obtain⟨q,c,hq,hc,_⟩:=Axo hm hw .none
 have hwant:=A9v S hq hc
 unfold wpOp
 rw[ho]
 simp only
 rw[hwant]
 simp only[if_true]
 refine .inl ?_
 obtain⟨n,sl,bx⟩:=s
 unfold B3c at h
 simp only at h
 split at h
 ·rename_i hd
  have hlow:=Bdd hd
  split at h
  ·rename_i cl hop
   split at h
   ·rename_i fv hcv
    unfold B8f at h
    split at h
    ·rename_i f caps hfv
     unfold B7p at h
     split at h
     ·rename_i S0 ls hS0 hls
      split at h
      ·rename_i res bx1 hg
       cases h
       rw[Ap5 V n sl bx,<-Asm hm]at hfv
       rw[A1t n sl bx,<-Al7 hm]at hls
       have hf:=As7 S 0 fv _ hfv
       simp only[SR,Az,Ar,Ad]at hf
       obtain⟨capv,hfv,hcap⟩:=hf
       have hv:=Ari S cl.args.toList cl.argTypes.toList
       have hargs:=(Bat hv hls).append (Bfw hcap)
       obtain⟨⟨fn,hfn,hbd,hnm⟩,hM⟩:=HL f S0 hS0
       let ks:=(Hg m (⟨n,sl,bx⟩:St V.E)).slots.map (·.1)
       have hkp:=Bug (C:=C) (a:=a) (s:=Hg m (⟨n,sl,bx⟩:St V.E)) (R:=Az V.T bx β (A2 C β w) w) ks (λ k x hx=>S.slots k x hx)
       have hcalls:=hM _ _ _ _ _ hg C β w _ _ _ S.mem hargs hkp
       unfold Oper.wp
       have hexec:(execOp a.eval o).run P w= .ok (.enter f (cl.args.map a.eval++capv)) w:=by
        simp only[execOp,hop,resolve,hcv,hfv,Deferred.ofValue,Sem.run_bind,Sem.run_pure,Result.andThen_ok,invoke]
        rw[A0g hfn hbd hnm]
        simp
       rw[hexec,Oper.upon_enter]
       have harr:(cl.args.toList.map a.eval++capv.toList).toArray=cl.args.map a.eval++capv:=by
        apply Array.ext';simp
       rw[harr]at hcalls
       refine hcalls.mono ?_
       rintro e w' ⟨β',rs,rfl,M',hres,hkp'⟩
       refine hK (A8s hl hlow _ _) _ _ ⟨β', ?_⟩
       refine B3l (sl:=sl++m) (by simpa [Hg]using S.size) S.defers.1 h0 M' (λ k x hx=> ?_) hlow (By4 hres) (λ k=>(Ask _ _ _ _ k).symm)
       have hsl:slot V (Hg m (⟨n,sl,bx⟩:St V.E)) k=some x:=by
        unfold slot
        rw[show Ae k (Hg m (⟨n,sl,bx⟩:St V.E)).slots=some (some x)from hx]
       exact Bvp ks hkp' k (B4n hsl) x hsl
      ·cases h
     ·cases h
    ·cases h
   ·cases h
  ·cases h
 ·cases h
theorem Cam (G:Bs V P) (h0:V.t0=false) {L:FuncId->Option (FL V.E)} (HL:∀f S,L f=some S->Mb V.T P f S) {m:Sl V} (hm:Azn m) {ops:Array Oper} {i:Nat} {o:Oper} (ho:ops[i]?=some o) {s s':St V.E} {a:Act} {w:World}
 (S:Sim V C (Hg m s) a w) (h:Bis V L ops.toList i o s=some s') (hl:Low s) {K:Act->World->Prop} {Q:Exit->Act->World->Prop} (hK:Low s'->∀a' w',Sim V C (Hg m s') a' w'->K a' w'):wpOp P ops Q i K a w:=by
 unfold Bis at h
 split at h
 ·split at h
  ·rename_i hw
   exact B1x h0 HL hm ho S hw h hl hK
  ·rename_i hw
   obtain⟨n,sl,bx⟩:=s
   unfold B7o at h
   simp only at h
   split at h
   ·rename_i hd
    cases h
    have hlow:=Bdd hd
    obtain⟨q,c,hq,hc,_⟩:=Axo (s:=⟨n,sl,bx⟩) hm hw .none
    have hev:Au9 V ops.toList i o q (Hg m (⟨n,sl,bx⟩:St V.E))=some (⟨n,Gw V o.dst (some (.tup [])) (sl++m),bx⟩,c,⟨[],[]⟩):=by
     unfold Au9
     rw[show(Hg m (⟨n,sl,bx⟩:St V.E)).n=n from rfl,Bkx h0 hd,hq]
     rfl
    exact Azz G ho S hev hc λ a' w' S'=>hK (A8s hl hlow _ _) a' w' (S'.same ⟨rfl,Ask _ _ _ _,λ _=>rfl⟩)
   ·cases h
  ·cases h
 ·unfold B4q at h
  split at h
  ·rename_i s1 c1 a1 h1
   split at h
   ·rename_i hc
    cases h
    obtain⟨hl1,q,t1,c2,e1,e2,e3⟩:=Bps h0 hm h1 hc hl
    exact Azz G ho S e1 e2 λ a' w' S'=>hK hl1 a' w' (S'.same e3)
   ·cases h
  ·cases h
theorem Brk (L:FuncId->Option (FL V.E)) (ops:List Oper) (o:Oper) (os:List Oper) (i:Nat) (s:St V.E):Avb V L ops (o::os) i s=(match Bis V L ops i o s with|some s'=>Avb V L ops os (i+1) s'|none=>none):=by
 show Option.rec (motive:=λ _=>Option (St V.E)) none (Avb V L ops os (i+1)) (Bis V L ops i o s)=_
 cases Bis V L ops i o s<;>rfl
theorem Bw2 (G:Bs V P) (h0:V.t0=false) {L:FuncId->Option (FL V.E)} (HL:∀f S,L f=some S->Mb V.T P f S) {m:Sl V} (hm:Azn m) {ops:Array Oper} {Q:Exit->Act->World->Prop}:
 ∀(os:List Oper) (i:Nat) (_:ops.toList.drop i=os) (s s':St V.E) (a:Act) (w:World),Sim V C (Hg m s) a w->Avb V L ops.toList os i s=some s'->Low s->(Low s'->∀a' w',Sim V C (Hg m s') a' w'->Q .normal a' w')->
  wpOps P ops Q ((List.range ops.size).drop i) a w
 |[],i,hi,s,s',a,w,S,h,hl,hQ=>by
  have h:some s=some s':=h
  cases h
  have:ops.size<=i:=by simpa using hi
  have hn:(List.range ops.size).drop i=[]:=by simpa using this
  rw[hn]
  exact hQ hl _ _ S
 |o::os,i,hi,s,s',a,w,S,h,hl,hQ=>by
  have hlt:i<ops.size:=by
   rcases Nat.lt_or_ge i ops.size with h|h
   ·exact h
   ·have:ops.toList.drop i=[]:=by simpa using h
    rw[this]at hi;cases hi
  have hn:(List.range ops.size).drop i=i::(List.range ops.size).drop (i+1):=by
   rw[List.drop_eq_getElem_cons (by simpa using hlt)];simp
  have ho:ops[i]?=some o:=by
   have:=congrArg (·[0]?) hi
   simpa using this
  have hi':ops.toList.drop (i+1)=os:=by
   have:=congrArg List.tail hi
   simpa using this
  rw[hn,wpOps_cons]
  rw[Brk]at h
  split at h
  ·rename_i s1 h1
   exact Cam G h0 HL hm ho S h1 hl λ hl1 a' w' S'=>Bw2 G h0 HL hm os (i+1) hi' s1 s' a' w' S' h hl1 hQ
  ·cases h
end
end Go.Ab
