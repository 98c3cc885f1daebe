/- One operation, told by small steps that are quickly reckoned; and that they tell what `core` tells. Conditions: none beyond those that each theorem names. -/
import Derived.Test.YtgngflkahbpecaaGreatDoorP12
namespace Go.Ab
open Go
section
variable (V:Env)
def Aji {E:Nat->Type}:Option (SV E)->Option (Av E)
 |some (.cv (.one l))=>some l
 |_=>none
def B1u (k:TK) (size off:Nat) (ls:List (Av V.E)):B0 V.E:=
 match Nat.ble (off+size) ls.length with
 |true=>tcv (B6 k.agg ((ls.drop off).take size))
 |false=> .fail
def B9x (i:TI V.E) (off:Nat):Option (Box V.E)->B0 V.E
 |some (.cells ls)=>B1u V i.kind i.size off ls
 |_=> .fail
def Bnc (i:TI V.E):Av V.E->B0 V.E
 | .ptr id off=> .read id (B9x V i off)
 | .cp t x off=>match Nat.ble (off+i.size) (t.sz V.T)with
   |true=>tcv (B6 i.kind.agg (((t.toL V.T x).drop off).take i.size))
   |false=> .fail
 |l=>Af5 V i (.cv (.one l))
def B83 (a:Av V.E):Option (TI V.E)->B0 V.E
 |some i=>Bnc V i a
 |none=> .fail
def B8g (t:TypeId) (a:Option (SV V.E)) (old:B0 V.E):B0 V.E:=
 match Aji a with
 |some l=>B83 V l (V.ti t)
 |none=>old
def Cb1 (id:Nat) (i:TI V.E) (off:Nat) (ls new:List (Av V.E)):B0 V.E:=
 match Nat.beq new.length i.size with
 |true=>match Abn ls off new with
  |some ls'=> .write id (.cells ls') (done V)
  |none=> .fail
 |false=> .fail
def Bv9 (i:TI V.E) (id off:Nat) (c:CV V.E):Option (Box V.E)->B0 V.E
 |some (.cells ls)=>Cb1 V id i off ls c.leaves
 |_=> .fail
def Bxp (id off:Nat) (c:CV V.E):Option (TI V.E)->B0 V.E
 |some i=> .read id (Bv9 V i id off c)
 |none=> .fail
def B15 (t:TypeId) (a v:Option (SV V.E)) (old:B0 V.E):B0 V.E:=
 match Aji a with
 |some (.ptr id off)=>match v with
  |some (.cv c)=>Bxp V id off c (V.ti t)
  |_=>old
 |_=>old
def Ca6 (op:BinOp) (k:IntKind) (x:Int) (k':IntKind) (y:Int) (old:B0 V.E):B0 V.E:=
 match op with
 | .shl| .shr=>old
 |op=>match decide (k=k')with
  |true=>Bns V op k x y
  |false=> .fail
def Ccx (op:BinOp) (x y:List UInt8) (old:B0 V.E):B0 V.E:=
 match op with
 | .shl| .shr=>old
 |op=>Bnm V op x y
def Cb7 (op:BinOp) (a b:Option (SV V.E)) (old:B0 V.E):B0 V.E:=
 match Aji a with
 |some (.int k x)=>match Aji b with
  |some (.int k' y)=>Ca6 V op k x k' y old
  |_=>old
 |some (.str x)=>match Aji b with
  |some (.str y)=>Ccx V op x y old
  |_=>old
 |_=>old
def Bxw (a:Option (SV V.E)):B0 V.E:=
 match a with
 |some v=> .ret (some v) []
 |none=> .fail
def B72 (q:Orc V.E) (c x y:Option (SV V.E)) (old:B0 V.E):B0 V.E:=
 match q,Aji c with
 | .bit d,some (.bool b)=>match(match d with|true=>x|false=>y)with
   |some v=> .ret (some v) [cd (b=d)]
   |none=> .fail
 |_,_=>old
def Bzg (off:Nat) (id o:Nat):Option (Box V.E)->B0 V.E
 |some (.cells _)=> .one (.ptr id (o+off))
 |_=> .fail
def Bwm (off:Nat):Av V.E->B0 V.E
 | .ptr id o=> .read id (Bzg V off id o)
 | .cp t x o=> .one (.cp t x (o+off))
 |l=>Ru V off (.cv (.one l))
def Bwy (l:Av V.E):Option (Nat×Nat)->B0 V.E
 |some (off,size)=>match Nat.beq size 0 with
  |true=> .fail
  |false=>Bwm V off l
 |none=> .fail
def Bbb (s:TypeId) (f:Nat) (a:Option (SV V.E)) (old:B0 V.E):B0 V.E:=
 match Aji a with
 |some l=>match V.ti s with
  |some ⟨.struct fs,_,_,_,_⟩=>Bwy V l (fieldPlace V fs f)
  |_=> .fail
 |none=>old
def Bxr (t:TypeId) (a i:Option (SV V.E)) (old:B0 V.E):B0 V.E:=
 match Aji a,Aji i with
 |some x,some y=>match Afm V t with
  |some j=>Yl V j.ty (.cv (.one x)) (.cv (.one y))
  |none=>old
 |_,_=>old
def Bo2 (n:Nat) (a:Option (SV V.E)):B0 V.E:=
 match a with
 |some (.tup cs)=>tcv cs[n]?
 |_=> .fail
def Cau (t:TypeId) (a:Option (SV V.E)) (old:B0 V.E):B0 V.E:=
 match a with
 |some a=>match V.ti t with
  |some i=>A82 V i.kind a
  |none=> .fail
 |none=>old
noncomputable def B6v (sl:Sl V) (c:Call) (old:B0 V.E):B0 V.E:=
 match c.callee with
 | .builtin .len=>match c.args.toList,c.argTypes.toList with
   |[x],[t]=>Cau V t (Mz V sl t x) old
   |_,_=>old
 |_=>old
noncomputable def Aok (sl:Sl V) (o:Oper) (q:Orc V.E) (old:B0 V.E):B0 V.E:=
 match o.op with
 | .move x=>Bxw V (Mz V sl o.type x)
 | .assign x=>Bxw V (Mz V sl o.type x)
 | .pick c x y=>B72 V q (Mz V sl o.type c) (Mz V sl o.type x) (Mz V sl o.type y) old
 | .load t x=>B8g V t (Mz V sl o.type x) old
 | .store t a v=>B15 V t (Mz V sl t a) (Mz V sl t v) old
 | .binOp op t x y u=>Cb7 V op (Mz V sl t x) (Mz V sl u y) old
 | .fieldAddr t x f=>Bbb V t f (Mz V sl o.type x) old
 | .indexAddr t x i=>Bxr V t (Mz V sl o.type x) (Mz V sl o.type i) old
 | .extract x n=>Bo2 V n (Mz V sl o.type x)
 | .call c=>B6v V sl c old
 |_=>old
def X7 (dst:Nat) (s:St V.E) (o:Oper) (q:Orc V.E):B0 V.E:=Afw V dst o (Dx V s (Cx V o) o.op.operands.toList) q
theorem Ny {E:Nat->Type} {a:Option (SV E)} {l:Av E} (h:Aji a=some l):a=some (.cv (.one l)):=by
 unfold Aji at h
 split at h
 ·cases h;rfl
 ·cases h
variable {V}
theorem B2b (k:TK) (size off:Nat) (ls:List (Av V.E)):B1u V k size off ls=part V k.agg size off ls:=by
 unfold B1u part
 split
 ·rename_i h;rw[if_pos h]
 ·rename_i h;rw[if_neg (by simp[h])]
theorem Bzd (i:TI V.E) (l:Av V.E):Bnc V i l=Af5 V i (.cv (.one l)):=by
 cases l<;>first|rfl|skip
 ·simp only[Bnc,Af5]
  congr 1
  funext b
  cases b with
  |none=>rfl
  |some b=>cases b<;>first|rfl|exact B2b _ _ _ _
 simp only[Bnc,Af5]
 split
 ·rename_i h;rw[if_pos h]
 ·rename_i h;rw[if_neg (by simp[h])]
theorem Btv (off:Nat) (l:Av V.E):Bwm V off l=Ru V off (.cv (.one l)):=by
 cases l<;>first|rfl|skip
theorem B4g (dst:Nat) (s:St V.E) (o:Oper) (q:Orc V.E):Aok V s.slots o q (X7 V dst s o q)=X7 V dst s o q:=by
 obtain⟨d,op,type,pos,after,guard⟩:=o
 have hop:∀t x,Mz V s.slots t x=Ho V s t x:=λ t x=>Aql V s.n s.slots s.boxes t x
 cases op
 case move x=>
  simp only[Aok,hop,X7,Afw,Cx,Op.operands,Dx,Bxw]
  cases Ho V s type x<;>rfl
 case assign x=>
  simp only[Aok,hop,X7,Afw,Cx,Op.operands,Dx,Bxw]
  cases Ho V s type x<;>rfl
 case pick c x y=>
  simp only[Aok,hop,X7,Cx,Op.operands,Dx,B72]
  cases hc:Aji (Ho V s type c)with
  |none=>cases q<;>rfl
  |some l=>
   cases q<;>first|rfl|skip
   cases l<;>first|rfl|skip
   rename_i d b
   rw[Ny hc]
   simp only[Afw]
   cases d<;>rfl
 case load t x=>
  simp only[Aok,hop,X7,Cx,Op.operands,Dx,B8g]
  cases hc:Aji (Ho V s type x)with
  |none=>rfl
  |some l=>
   rw[Ny hc]
   simp only[Afw]
   cases V.ti t with
   |none=>rfl
   |some i=>exact Bzd i l
 case store t a v=>
  simp only[Aok,hop,X7,Cx,Op.operands,Dx,B15]
  cases hc:Aji (Ho V s t a)with
  |none=>rfl
  |some l=>
   cases l<;>first|rfl|skip
   rename_i id off
   rw[Ny hc]
   cases hv:Ho V s t v with
   |none=>rfl
   |some v=>
    cases v with
    |tup _=>rfl
    |cv c=>
     simp only[Afw]
     cases V.ti t with
     |none=>rfl
     |some i=>
      simp only[Bxp,As5]
      congr 1
      funext b
      unfold Bv9
      split
      ·rename_i ls
       simp only[Cb1]
       split
       ·rename_i h;rw[if_pos h];rfl
       ·rename_i h;rw[if_neg (by simp[h])]
      ·rename_i hne
       cases b with
       |none=>rfl
       |some b=>cases b<;>first|rfl|exact(hne _ rfl).elim
 case binOp op t x y u=>
  simp only[Aok,hop,X7,Cx,Op.operands,Dx,Cb7]
  cases ha:Aji (Ho V s t x)with
  |none=>rfl
  |some l=>
   cases l<;>first|rfl|skip
   ·cases hb:Aji (Ho V s u y)with
    |none=>rfl
    |some m=>
     cases m<;>first|rfl|skip
     rw[Ny ha,Ny hb]
     simp only[Afw]
     rename_i k n k' m
     cases op<;>simp only[Ca6,A84]<;>(split<;>rename_i h<;>simp at h<;>simp[h])
   ·cases hb:Aji (Ho V s u y)with
    |none=>rfl
    |some m=>
     cases m<;>first|rfl|skip
     rw[Ny ha,Ny hb]
     simp only[Afw]
     cases op<;>rfl
 case fieldAddr t x f=>
  simp only[Aok,hop,X7,Cx,Op.operands,Dx,Bbb]
  cases hc:Aji (Ho V s type x)with
  |none=>rfl
  |some l=>
   rw[Ny hc]
   simp only[Afw]
   cases V.ti t with
   |none=>rfl
   |some i=>
    obtain⟨k,a,b,c,e⟩:=i
    cases k<;>first|rfl|skip
    rename_i fs
    simp only
    cases fieldPlace V fs f with
    |none=>rfl
    |some p=>
     obtain⟨off,size⟩:=p
     simp only[Bwy]
     cases h:Nat.beq size 0 with
     |true=>simp
     |false=>simp[Btv]
 case indexAddr t x i=>
  simp only[Aok,hop,X7,Cx,Op.operands,Dx,Bxr]
  cases hc:Aji (Ho V s type x)with
  |none=>rfl
  |some l=>
   cases hi:Aji (Ho V s type i)with
   |none=>rfl
   |some m=>
    rw[Ny hc,Ny hi]
    cases he:Afm V t with
    |none=>rfl
    |some j=>simp only[Afw,hop,he]
 case extract x n=>
  simp only[Aok,hop,X7,Cx,Op.operands,Dx,Bo2]
  cases Ho V s type x with
  |none=>rfl
  |some v=>cases v<;>rfl
 case call c=>
  simp only[Aok,B6v,hop]
  split
  ·rename_i hcl
   split
   ·rename_i x t hx ht
    cases ho:Ho V s t x with
    |none=>simp only[Cau]
    |some a=>
     simp only[Cau,X7,Afw,Cx,hcl,Op.operands,Call.operands,ht]
     have:(#[]++c.args).toList=[x]:=by simp[hx]
     rw[this]
     simp only[Dx,ho,Arn]
     cases V.ti t<;>rfl
   ·rfl
  ·rfl
 all_goals rfl
end
end Go.Ab
