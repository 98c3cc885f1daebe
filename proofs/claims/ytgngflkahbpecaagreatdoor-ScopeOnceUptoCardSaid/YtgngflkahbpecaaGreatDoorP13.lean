/- One operation, told by small steps that are quickly reckoned; and that they tell what `core` tells. Conditions: none beyond those that each theorem names. -/
import Derived.Test.YtgngflkahbpecaaGreatDoorP12
set_option linter.unusedSimpArgs false
set_option linter.unusedVariables false
namespace Go.Ab
open Go
section
variable (V:Env)
def Ajn {E:Nat->Type}:Option (SV E)->Option (Av E)
 |some (.cv (.one l))=>some l
 |_=>none
def B2j (k:TK) (size off:Nat) (ls:List (Av V.E)):B0 V.E:=
 match Nat.ble (off+size) ls.length with
 |true=>tcv (B7 k.agg ((ls.drop off).take size))
 |false=> .fail
def B93 (i:TI V.E) (off:Nat):Option (Box V.E)->B0 V.E
 |some (.cells ls)=>B2j V i.kind i.size off ls
 |_=> .fail
def Bno (i:TI V.E):Av V.E->B0 V.E
 | .ptr id off=> .read id (B93 V i off)
 | .cp t x off=>match Nat.ble (off+i.size) (t.sz V.T)with
   |true=>tcv (B7 i.kind.agg (((t.toL V.T x).drop off).take i.size))
   |false=> .fail
 |l=>Ae1 V i (.cv (.one l))
def B91 (a:Av V.E):Option (TI V.E)->B0 V.E
 |some i=>Bno V i a
 |none=> .fail
def B7n (t:TypeId) (a:Option (SV V.E)) (old:B0 V.E):B0 V.E:=
 match Ajn a with
 |some l=>B91 V l (V.ti t)
 |none=>old
def Cch (id:Nat) (i:TI V.E) (off:Nat) (ls new:List (Av V.E)):B0 V.E:=
 match Nat.beq new.length i.size with
 |true=>match Abg ls off new with
  |some ls'=> .write id (.cells ls') (done V)
  |none=> .fail
 |false=> .fail
def Bxn (i:TI V.E) (id off:Nat) (c:CV V.E):Option (Box V.E)->B0 V.E
 |some (.cells ls)=>Cch V id i off ls c.leaves
 |_=> .fail
def Bw6 (id off:Nat) (c:CV V.E):Option (TI V.E)->B0 V.E
 |some i=> .read id (Bxn V i id off c)
 |none=> .fail
def B3w (t:TypeId) (a v:Option (SV V.E)) (old:B0 V.E):B0 V.E:=
 match Ajn a with
 |some (.ptr id off)=>match v with
  |some (.cv c)=>Bw6 V id off c (V.ti t)
  |_=>old
 |_=>old
def Cb9 (op:BinOp) (k:IntKind) (x:Int) (k':IntKind) (y:Int) (old:B0 V.E):B0 V.E:=
 match op with
 | .shl| .shr=>old
 |op=>match decide (k=k')with
  |true=>Bne V op k x y
  |false=> .fail
def Ccw (op:BinOp) (x y:List UInt8) (old:B0 V.E):B0 V.E:=
 match op with
 | .shl| .shr=>old
 |op=>Bmj V op x y
def Ca4 (op:BinOp) (a b:Option (SV V.E)) (old:B0 V.E):B0 V.E:=
 match Ajn a with
 |some (.int k x)=>match Ajn b with
  |some (.int k' y)=>Cb9 V op k x k' y old
  |_=>old
 |some (.str x)=>match Ajn b with
  |some (.str y)=>Ccw V op x y old
  |_=>old
 |_=>old
def Bw3 (a:Option (SV V.E)):B0 V.E:=
 match a with
 |some v=> .ret (some v) []
 |none=> .fail
def B6u (q:Orc V.E) (c x y:Option (SV V.E)) (old:B0 V.E):B0 V.E:=
 match q,Ajn c with
 | .bit d,some (.bool b)=>match(match d with|true=>x|false=>y)with
   |some v=> .ret (some v) [cd (b=d)]
   |none=> .fail
 |_,_=>old
def Bzl (off:Nat) (id o:Nat):Option (Box V.E)->B0 V.E
 |some (.cells _)=> .one (.ptr id (o+off))
 |_=> .fail
def Bv3 (off:Nat):Av V.E->B0 V.E
 | .ptr id o=> .read id (Bzl V off id o)
 | .cp t x o=> .one (.cp t x (o+off))
 |l=>Sf V off (.cv (.one l))
def Bwf (l:Av V.E):Option (Nat×Nat)->B0 V.E
 |some (off,size)=>match Nat.beq size 0 with
  |true=> .fail
  |false=>Bv3 V off l
 |none=> .fail
def Bdl (s:TypeId) (f:Nat) (a:Option (SV V.E)) (old:B0 V.E):B0 V.E:=
 match Ajn a with
 |some l=>match V.ti s with
  |some ⟨.struct fs,_,_,_,_⟩=>Bwf V l (fieldPlace V fs f)
  |_=> .fail
 |none=>old
def Bv4 (t:TypeId) (a i:Option (SV V.E)) (old:B0 V.E):B0 V.E:=
 match Ajn a,Ajn i with
 |some x,some y=>match Afx V t with
  |some j=>Y2 V j.ty (.cv (.one x)) (.cv (.one y))
  |none=>old
 |_,_=>old
def Bqh (n:Nat) (a:Option (SV V.E)):B0 V.E:=
 match a with
 |some (.tup cs)=>tcv cs[n]?
 |_=> .fail
def Can (t:TypeId) (a:Option (SV V.E)) (old:B0 V.E):B0 V.E:=
 match a with
 |some a=>match V.ti t with
  |some i=>A8j V i.kind a
  |none=> .fail
 |none=>old
noncomputable def B8e (sl:Sl V) (c:Call) (old:B0 V.E):B0 V.E:=
 match c.callee with
 | .builtin .len=>match c.args.toList,c.argTypes.toList with
   |[x],[t]=>Can V t (M8 V sl t x) old
   |_,_=>old
 |_=>old
noncomputable def Aoh (sl:Sl V) (o:Oper) (q:Orc V.E) (old:B0 V.E):B0 V.E:=
 match o.op with
 | .move x=>Bw3 V (M8 V sl o.type x)
 | .assign x=>Bw3 V (M8 V sl o.type x)
 | .pick c x y=>B6u V q (M8 V sl o.type c) (M8 V sl o.type x) (M8 V sl o.type y) old
 | .load t x=>B7n V t (M8 V sl o.type x) old
 | .store t a v=>B3w V t (M8 V sl t a) (M8 V sl t v) old
 | .binOp op t x y u=>Ca4 V op (M8 V sl t x) (M8 V sl u y) old
 | .fieldAddr t x f=>Bdl V t f (M8 V sl o.type x) old
 | .indexAddr t x i=>Bv4 V t (M8 V sl o.type x) (M8 V sl o.type i) old
 | .extract x n=>Bqh V n (M8 V sl o.type x)
 | .call c=>B8e V sl c old
 |_=>old
def Xm (dst:Nat) (s:St V.E) (o:Oper) (q:Orc V.E):B0 V.E:=Afb V dst o (Dx V s (Cz V o) o.op.operands.toList) q
theorem Ob {E:Nat->Type} {a:Option (SV E)} {l:Av E} (h:Ajn a=some l):a=some (.cv (.one l)):=by
 unfold Ajn at h
 split at h
 ·cases h;rfl
 ·cases h
variable {V}
theorem B21 (k:TK) (size off:Nat) (ls:List (Av V.E)):B2j V k size off ls=part V k.agg size off ls:=by
 unfold B2j part
 split
 ·rename_i h;rw[if_pos h]
 ·rename_i h;rw[if_neg (by simp[h])]
theorem By8 (i:TI V.E) (l:Av V.E):Bno V i l=Ae1 V i (.cv (.one l)):=by
 cases l<;>first|rfl|skip
 ·simp only[Bno,Ae1]
  congr 1
  funext b
  cases b with
  |none=>rfl
  |some b=>cases b<;>first|rfl|exact B21 _ _ _ _
 simp only[Bno,Ae1]
 split
 ·rename_i h;rw[if_pos h]
 ·rename_i h;rw[if_neg (by simp[h])]
theorem Btm (off:Nat) (l:Av V.E):Bv3 V off l=Sf V off (.cv (.one l)):=by
 cases l<;>first|rfl|skip
theorem B1y (dst:Nat) (s:St V.E) (o:Oper) (q:Orc V.E):Aoh V s.slots o q (Xm V dst s o q)=Xm V dst s o q:=by
 obtain⟨d,op,type,pos,after,guard⟩:=o
 have hop:∀t x,M8 V s.slots t x=Hv V s t x:=λ t x=>Ap5 V s.n s.slots s.boxes t x
 cases op
 case move x=>
  simp only[Aoh,hop,Xm,Afb,Cz,Op.operands,Dx,Bw3]
  cases Hv V s type x<;>rfl
 case assign x=>
  simp only[Aoh,hop,Xm,Afb,Cz,Op.operands,Dx,Bw3]
  cases Hv V s type x<;>rfl
 case pick c x y=>
  simp only[Aoh,hop,Xm,Cz,Op.operands,Dx,B6u]
  cases hc:Ajn (Hv V s type c)with
  |none=>cases q<;>rfl
  |some l=>
   cases q<;>first|rfl|skip
   cases l<;>first|rfl|skip
   rename_i d b
   rw[Ob hc]
   simp only[Afb]
   cases d<;>rfl
 case load t x=>
  simp only[Aoh,hop,Xm,Cz,Op.operands,Dx,B7n]
  cases hc:Ajn (Hv V s type x)with
  |none=>rfl
  |some l=>
   rw[Ob hc]
   simp only[Afb]
   cases V.ti t with
   |none=>rfl
   |some i=>exact By8 i l
 case store t a v=>
  simp only[Aoh,hop,Xm,Cz,Op.operands,Dx,B3w]
  cases hc:Ajn (Hv V s t a)with
  |none=>rfl
  |some l=>
   cases l<;>first|rfl|skip
   rename_i id off
   rw[Ob hc]
   cases hv:Hv V s t v with
   |none=>rfl
   |some v=>
    cases v with
    |tup _=>rfl
    |cv c=>
     simp only[Afb]
     cases V.ti t with
     |none=>rfl
     |some i=>
      simp only[Bw6,As0]
      congr 1
      funext b
      unfold Bxn
      split
      ·rename_i ls
       simp only[Cch]
       split
       ·rename_i h;rw[if_pos h];rfl
       ·rename_i h;rw[if_neg (by simp[h])]
      ·rename_i hne
       cases b with
       |none=>rfl
       |some b=>cases b<;>first|rfl|exact(hne _ rfl).elim
 case binOp op t x y u=>
  simp only[Aoh,hop,Xm,Cz,Op.operands,Dx,Ca4]
  cases ha:Ajn (Hv V s t x)with
  |none=>rfl
  |some l=>
   cases l<;>first|rfl|skip
   ·cases hb:Ajn (Hv V s u y)with
    |none=>rfl
    |some m=>
     cases m<;>first|rfl|skip
     rw[Ob ha,Ob hb]
     simp only[Afb]
     rename_i k n k' m
     cases op<;>simp only[Cb9,A8k]<;>(split<;>rename_i h<;>simp at h<;>simp[h])
   ·cases hb:Ajn (Hv V s u y)with
    |none=>rfl
    |some m=>
     cases m<;>first|rfl|skip
     rw[Ob ha,Ob hb]
     simp only[Afb]
     cases op<;>rfl
 case fieldAddr t x f=>
  simp only[Aoh,hop,Xm,Cz,Op.operands,Dx,Bdl]
  cases hc:Ajn (Hv V s type x)with
  |none=>rfl
  |some l=>
   rw[Ob hc]
   simp only[Afb]
   cases V.ti t with
   |none=>rfl
   |some i=>
    obtain⟨k,a,b,c,e⟩:=i
    cases k<;>first|rfl|skip
    rename_i fs
    simp only
    cases fieldPlace V fs f with
    |none=>rfl
    |some p=>
     obtain⟨off,size⟩:=p
     simp only[Bwf]
     cases h:Nat.beq size 0 with
     |true=>simp
     |false=>simp[Btm]
 case indexAddr t x i=>
  simp only[Aoh,hop,Xm,Cz,Op.operands,Dx,Bv4]
  cases hc:Ajn (Hv V s type x)with
  |none=>rfl
  |some l=>
   cases hi:Ajn (Hv V s type i)with
   |none=>rfl
   |some m=>
    rw[Ob hc,Ob hi]
    cases he:Afx V t with
    |none=>rfl
    |some j=>simp only[Afb,hop,he]
 case extract x n=>
  simp only[Aoh,hop,Xm,Cz,Op.operands,Dx,Bqh]
  cases Hv V s type x with
  |none=>rfl
  |some v=>cases v<;>rfl
 case call c=>
  simp only[Aoh,B8e,hop]
  split
  ·rename_i hcl
   split
   ·rename_i x t hx ht
    cases ho:Hv V s t x with
    |none=>simp only[Can]
    |some a=>
     simp only[Can,Xm,Afb,Cz,hcl,Op.operands,Call.operands,ht]
     have:(#[]++c.args).toList=[x]:=by simp[hx]
     rw[this]
     simp only[Dx,ho,Apc]
     cases V.ti t<;>rfl
   ·rfl
  ·rfl
 all_goals rfl
end
end Go.Ab
