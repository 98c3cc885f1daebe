/- The abstract values, states and evaluator of the own layer: what a piece of the model's code computes, told on plain data. How the abstract values of the own layer lie in memory, and what keeps them. Conditions: none beyond those that each theorem names. -/
import Derived.Orders
import Derived.KernelRfl
import Derived.Below
import Derived.Laws.Sem
import Derived.Laws.AppendOwn
import Derived.Laws.MakeOwn
import Derived.Laws.Entries
namespace Go.Ab
open Go
inductive Ty where
 | int (k : IntKind) | bool | str | sl (t : Ty) | nm (n : Nat)
 deriving DecidableEq
@[reducible] def Ty.den (E : Nat -> Type) : Ty -> Type
 | .int _ => Int
 | .bool => Bool
 | .str => List UInt8
 | .sl t => List (t.den E)
 | .nm n => E n
inductive A7 (E : Nat -> Type) : Type where
 | int (k : IntKind) (n : Int)
 | bool (b : Bool)
 | str (s : List UInt8)
 | sl (t : Ty) (st : Bool) (xs : List (t.den E))       -- a slice that nobody writes; st: nil just if empty
 | ar (id ver : Nat)                                    -- the slice that the box id holds
 | row (id ver rv : Nat) (i : Int)                      -- a row of the box id of rows
 | ptr (id off : Nat)                                   -- into the box id of cells
 | ep (id ver : Nat) (i : Int) (off : Nat)              -- an element of the box id of an array
 | rp (id ver rv : Nat) (i k : Int) (off : Nat)         -- an element of a row
 | cp (t : Ty) (x : t.den E) (off : Nat)                -- into memory that nobody writes, where x lies
 | bs (ls : List (A7 E))                              -- a slice just made of one element each
 | clo (f : FuncId) (caps : List (A7 E))
 | win (id ver : Nat) (i n : Int)                       -- a piece of the array that the box id holds
 | mp (id : Nat)                                        -- the map that the box id holds
 | nptr | nfn | nmp
inductive AV where
 | int (k : IntKind) (n : Int) | bool (b : Bool) | str (s : List UInt8)
 | sl (esz : Nat) (st : Bool) (xs : List AV) | ag (xs : List AV)
structure Tab where
 E : Nat -> Type
 sz : Nat -> Nat
 df : (n : Nat) -> E n
 toL : (n : Nat) -> E n -> List (A7 E)
 ofL : (n : Nat) -> List (A7 E) -> Option (E n)
 av : (n : Nat) -> E n -> List AV
def Ty.sz (T : Tab) : Ty -> Nat
 | .nm n => T.sz n
 | _ => 1
def Ty.df (T : Tab) : (t : Ty) -> t.den T.E
 | .int _ => (0 : Int)
 | .bool => false
 | .str => ([] : List UInt8)
 | .sl _ => []
 | .nm n => T.df n
def Ty.av (T : Tab) : (t : Ty) -> t.den T.E -> AV
 | .int k, n => .int k n
 | .bool, b => .bool b
 | .str, s => .str s
 | .sl t, xs => .sl (t.sz T) false (xs.map (Ty.av T t))
 | .nm n, x => .ag (T.av n x)
def A7.av (T : Tab) : A7 T.E -> Option AV
 | .int k n => some (.int k n)
 | .bool b => some (.bool b)
 | .str s => some (.str s)
 | .sl t st xs => some (.sl (t.sz T) st (xs.map (t.av T)))
 | _ => none
def Ty.toL (T : Tab) : (t : Ty) -> t.den T.E -> List (A7 T.E)
 | .int k, n => [.int k n]
 | .bool, b => [.bool b]
 | .str, s => [.str s]
 | .sl t, xs => [.sl t false xs]
 | .nm n, x => T.toL n x
def Mg {E : Nat -> Type} {t u : Ty} (h : t = u) (xs : List (t.den E)) : List (u.den E) := h ▸ xs
def Ty.ofL (T : Tab) : (t : Ty) -> List (A7 T.E) -> Option (t.den T.E)
 | .int k, ls => match ls with
   | [.int k' n] => if k' = k then some n else none
   | _ => none
 | .bool, ls => match ls with
   | [.bool b] => some b
   | _ => none
 | .str, ls => match ls with
   | [.str s] => some s
   | _ => none
 | .sl t, ls => match ls with
   | [.sl t' _ xs] => if h : t' = t then some (Mg h xs) else none
   | _ => none
 | .nm n, ls => T.ofL n ls
def A65 {E : Nat -> Type} (a b : A7 E) : Prop :=
 a = b \/ ∃ t st st' xs, a = .sl t st xs /\ b = .sl t st' xs /\ (st' = true -> st = true \/ xs ≠ [])
inductive Coe {E : Nat -> Type} : List (A7 E) -> List (A7 E) -> Prop where
 | nil : Coe [] []
 | cons {a b l m} : A65 a b -> Coe l m -> Coe (a :: l) (b :: m)
structure Tab.Ok (T : Tab) : Prop where
 av : ∀ n x, (T.toL n x).map (A7.av T) = (T.av n x).map some
 len : ∀ n x, (T.toL n x).length = T.sz n
 ofL : ∀ n ls x, T.ofL n ls = some x -> Coe ls (T.toL n x)
inductive CV (E : Nat -> Type) where
 | one (l : A7 E)
 | ag (ls : List (A7 E))
inductive SV (E : Nat -> Type) where
 | cv (c : CV E)
 | tup (cs : List (CV E))
def CV.leaves {E : Nat -> Type} : CV E -> List (A7 E)
 | .one l => [l]
 | .ag ls => ls
inductive RS where
 | opn | shut | mix (i j : Int)
inductive Box (E : Nat -> Type) where
 | cells (ls : List (A7 E))
 | arr (e : TypeId) (t : Ty) (xs : List (t.den E)) (ver : Nat) (fz : Bool)
 | rows (e e2 : TypeId) (t : Ty) (xss : List (List (t.den E))) (ver rv : Nat) (fz : RS)
 | map (k t : Ty) (l : List (k.den E × t.den E))
 | gone
def A6 {α : Type} (k : Nat) : List (Nat × α) -> Option α
 | [] => none
 | (j, x) :: r => if Nat.beq j k then some x else A6 k r
def put {α : Type} (k : Nat) (x : α) : List (Nat × α) -> List (Nat × α)
 | [] => [(k, x)]
 | (j, y) :: r => if Nat.beq j k then (k, x) :: r else if Nat.blt k j then (k, x) :: (j, y) :: r else (j, y) :: put k x r
structure St (E : Nat -> Type) where
 n : Nat
 slots : List (Nat × Option (SV E))
 boxes : List (Nat × Box E)
inductive TK where
 | int (k : IntKind) | bool | str
 | slice (elem : TypeId)
 | struct (fs : List (Nat × TypeId))
 | array (len : Nat) (elem : TypeId)
 | ptr (elem : TypeId)
 | map (key elem : TypeId)
 | func
 | other
 deriving DecidableEq
structure TI (E : Nat -> Type) where
 kind : TK
 size : Nat
 bytes : Nat
 zero : List (A7 E)
 ty : Ty
def TK.agg : TK -> Bool
 | .struct _ | .array .. => true
 | _ => false
def HL (E : Nat -> Type) : List Ty -> Type
 | [] => Unit
 | t :: ts => t.den E × HL E ts
structure FS (E : Nat -> Type) where
 args : List Ty
 res : List Ty
 argOwn : List TypeId
 resOwn : List (List (TypeId × TypeId))
 f : HL E args -> Option (HL E res)
structure FW (E : Nat -> Type) where
 e : TypeId
 t : Ty
 args : List Ty
 res : List Ty
 f : List (t.den E) -> Int -> Int -> HL E args -> Option (List (t.den E) × HL E res)
structure FC (E : Nat -> Type) where
 c : Ty
 args : List Ty
 res : List Ty
 f : c.den E -> HL E args -> Option (HL E res)
def Acd : Ty -> Bool
 | .int _ | .bool | .str => true
 | _ => false
def CV.isAg {E : Nat -> Type} : CV E -> Bool
 | .ag _ => true
 | .one _ => false
def Kg : Ty -> Bool
 | .nm _ => true
 | _ => false
def kqI (a b : Int) : Bool := decide (a = b)
def kqB (a b : Bool) : Bool := a == b
def kqS (a b : List UInt8) : Bool := decide (a = b)
def K4 {E : Nat -> Type} : (k : Ty) -> k.den E -> k.den E -> Bool
 | .int _ => kqI
 | .bool => kqB
 | .str => kqS
 | _ => λ _ _ => false
def Qb {α β : Type} (eq : α -> α -> Bool) (x : α) : List (α × β) -> Option β
 | [] => none
 | (y, v) :: r => if eq x y then some v else Qb eq x r
def T6 {α β : Type} (eq : α -> α -> Bool) (x : α) (v : β) : List (α × β) -> List (α × β)
 | [] => [(x, v)]
 | (y, w) :: r => if eq x y then (x, v) :: r else (y, w) :: T6 eq x v r
def Ux {α : Type} : List α -> Option (List α × α)
 | [] => none
 | [a] => some ([], a)
 | a :: b :: r => match Ux (b :: r) with
   | some (i, l) => some (a :: i, l)
   | none => none
structure Dyn (E : Nat -> Type) where
 ts : List Ty
 x : HL E ts
structure Env where
 T : Tab
 ti : TypeId -> Option (TI T.E)
 eqs : TypeId -> Bool
 fs : FuncId -> Option (FS T.E)
 ws : FuncId -> Option (FW T.E)
 cs : FuncId -> Option (FC T.E)
 t0 : Bool      -- nothing writes the first slot
abbrev Env.E (V : Env) := V.T.E
inductive Orc (E : Nat -> Type) where
 | none
 | bit (b : Bool)
 | res (d : Dyn E)
 | own
 | lit
inductive Er (E : Nat -> Type) where
 | fail
 | ret (v : Option (SV E)) (c : List Prop)
 | read (id : Nat) (k : Option (Box E) -> Er E)
 | write (id : Nat) (b : Box E) (k : Er E)
def Er.one {E : Nat -> Type} (l : A7 E) (c : List Prop := []) : Er E := .ret (some (.cv (.one l))) c
def Er.cv {E : Nat -> Type} (a : CV E) (c : List Prop := []) : Er E := .ret (some (.cv a)) c
def B2 {E : Nat -> Type} (agg : Bool) (ls : List (A7 E)) : Option (CV E) :=
 match agg, ls with
 | true, ls => some (.ag ls)
 | false, [l] => some (.one l)
 | _, _ => none
def tcv {E : Nat -> Type} (c : Option (CV E)) (p : List Prop := []) : Er E :=
 match c with
 | some c => .cv c p
 | none => .fail
def Ma {α : Type} : List α -> Nat -> List α -> Option (List α)
 | l, _, [] => some l
 | _ :: l, 0, x :: xs => (Ma l 0 xs).map (x :: ·)
 | y :: l, n + 1, x :: xs => (Ma l n (x :: xs)).map (y :: ·)
 | [], _, _ :: _ => none
def Ap : Nat := 140737488355328   -- 2^47
section
variable (V : Env)
def Ado (t : TypeId) : Value -> Option (SV V.E)
 | .int k n => some (.cv (.one (.int k n)))
 | .bool b => some (.cv (.one (.bool b)))
 | .string s => some (.cv (.one (.str s.data.toList)))
 | .slice none 0 0 =>
   match V.ti t with
   | some ⟨.slice e, _, _, _, _⟩ =>
     match V.ti e with
     | some i => some (.cv (.one (.sl i.ty true [])))
     | none => none
   | _ => none
 | .pointer none => some (.cv (.one .nptr))
 | .nilFunc => some (.cv (.one .nfn))
 | _ => none
def slot (s : St V.E) (k : Nat) : Option (SV V.E) :=
 match A6 k s.slots with
 | some x => x
 | none => none
def Aha (s : St V.E) (t : TypeId) : Operand -> Option (SV V.E)
 | .tmp k => slot V s k
 | .const v => Ado V t v
 | .func f => some (.cv (.one (.clo f [])))
 | .global _ => none
def Ya (fs : List (Nat × TypeId)) : List (Nat × Operand) -> List TypeId
 | [] => []
 | (i, _) :: r => ((fs[i]?).map (·.2)).getD 0 :: Ya fs r
def M7 (o : Oper) : List TypeId :=
 match o.op with
 | .binOp _ t _ _ u => [t, u]
 | .store t _ _ => [t, t]
 | .box t _ => [t]
 | .mapUpdate t _ _ _ => match V.ti t with
   | some ⟨.map k e, _, _, _, _⟩ => [0, k, e]
   | _ => []
 | .makeSlice _ _ _ => [0, 0]
 | .build t ps => match V.ti t with
   | some ⟨.struct fs, _, _, _, _⟩ => Ya fs ps.toList
   | some ⟨.array _ e, _, _, _, _⟩ => ps.toList.map λ _ => e
   | _ => []
 | .buildSlice t _ ps => match V.ti t with
   | some ⟨.slice e, _, _, _, _⟩ => ps.toList.map λ _ => e
   | _ => []
 | .call c => match c.callee with
   | .builtin _ => c.argTypes.toList
   | _ => 0 :: c.argTypes.toList
 | _ => [o.type, o.type, o.type]
def Og (s : St V.E) : List TypeId -> List Operand -> List (Option (SV V.E))
 | t :: ts, x :: xs => Aha V s t x :: Og s ts xs
 | [], x :: xs => Aha V s 0 x :: Og s [] xs
 | _, [] => []
def fieldPlace (fs : List (Nat × TypeId)) (i : Nat) : Option (Nat × Nat) :=
 match fs[i]? with
 | some (off, t) => match V.ti t with
   | some j => some (off, j.size)
   | none => none
 | none => none
def R6 {E : Nat -> Type} (place : Nat -> Option (Nat × Nat)) : List (A7 E) -> List (Nat × Option (SV E)) -> Option (List (A7 E))
 | cells, [] => some cells
 | cells, (i, some (.cv v)) :: r =>
   match place i with
   | some (off, size) =>
     if Nat.beq v.leaves.length size then
       match Ma cells off v.leaves with
       | some c => R6 place c r
       | none => none
     else none
   | none => none
 | _, _ => none
def Ox (t : TypeId) : Option (TI V.E) :=
 match V.ti t with
 | some ⟨.slice e, _, _, _, _⟩ => V.ti e
 | _ => none
def Yp (t : TypeId) : Option (TypeId × TI V.E) :=
 match V.ti t with
 | some ⟨.slice e, _, _, _, _⟩ => match V.ti e with
   | some i => some (e, i)
   | none => none
 | _ => none
def Ahk (op : BinOp) (k : IntKind) (a b : Int) : Er V.E :=
 match op with
 | .add => .one (.int k (k.wrap (a + b)))
 | .sub => .one (.int k (k.wrap (a - b)))
 | .mul => .one (.int k (k.wrap (a * b)))
 | .quo => .one (.int k (k.wrap (a.tdiv b))) [b ≠ 0]
 | .rem => .one (.int k (a.tmod b)) [b ≠ 0]
 | .and => .one (.int k (k.wrap (BitVec.ofInt k.bits a &&& BitVec.ofInt k.bits b).toNat))
 | .or => .one (.int k (k.wrap (BitVec.ofInt k.bits a ||| BitVec.ofInt k.bits b).toNat))
 | .xor => .one (.int k (k.wrap (BitVec.ofInt k.bits a ^^^ BitVec.ofInt k.bits b).toNat))
 | .eql => .one (.bool (decide (a = b)))
 | .neq => .one (.bool (!decide (a = b)))
 | .lss => .one (.bool (decide (a < b)))
 | .leq => .one (.bool (decide (a <= b)))
 | .gtr => .one (.bool (decide (b < a)))
 | .geq => .one (.bool (decide (b <= a)))
 | _ => .fail
def Ah7 (op : BinOp) (a b : List UInt8) : Er V.E :=
 match op with
 | .add => .one (.str (a ++ b)) [a.length + b.length <= Ap]
 | .eql => .one (.bool (decide (a = b)))
 | .neq => .one (.bool (!decide (a = b)))
 | .lss => .one (.bool (Op.bytesLess a b))
 | .leq => .one (.bool (Op.bytesLess a b || decide (a = b)))
 | .gtr => .one (.bool !(Op.bytesLess a b || decide (a = b)))
 | .geq => .one (.bool !(Op.bytesLess a b))
 | _ => .fail
def eqL : List (A7 V.E) -> List (A7 V.E) -> Option Bool
 | [], [] => some true
 | .int k a :: l, .int k' b :: m => if k = k' then (eqL l m).map (decide (a = b) && ·) else none
 | .bool a :: l, .bool b :: m => (eqL l m).map ((a == b) && ·)
 | .str a :: l, .str b :: m => (eqL l m).map (decide (a = b) && ·)
 | _, _ => none
def Iw {E : Nat -> Type} : List (A7 E) -> List (A7 E) -> Bool
 | [], [] => true
 | .int k _ :: z, .int k' _ :: l => decide (k = k') && Iw z l
 | .bool _ :: z, .bool _ :: l => Iw z l
 | .str _ :: z, .str _ :: l => Iw z l
 | _, _ => false
def Ach (op : BinOp) (t : TypeId) (a b : SV V.E) : Er V.E :=
 match op, a, b with
 | .shl, .cv (.one (.int k x)), .cv (.one (.int _ y)) => .one (.int k (k.wrap (x * 2 ^ min y.toNat k.bits))) [0 <= y]
 | .shr, .cv (.one (.int k x)), .cv (.one (.int _ y)) => .one (.int k (x.fdiv (2 ^ min y.toNat k.bits))) [0 <= y]
 | op, .cv (.one (.int k x)), .cv (.one (.int k' y)) => if k = k' then Ahk V op k x y else .fail
 | op, .cv (.one (.str x)), .cv (.one (.str y)) => Ah7 V op x y
 | .eql, .cv (.one (.bool x)), .cv (.one (.bool y)) => match V.ti t with
   | some ⟨.bool, _, _, _, _⟩ => .one (.bool (x == y))
   | _ => .fail
 | .neq, .cv (.one (.bool x)), .cv (.one (.bool y)) => match V.ti t with
   | some ⟨.bool, _, _, _, _⟩ => .one (.bool !(x == y))
   | _ => .fail
 | .eql, .cv (.one (.sl _ true xs)), .cv (.one (.sl _ true [])) => match V.ti t with
   | some ⟨.slice _, _, _, _, _⟩ => .one (.bool xs.isEmpty)
   | _ => .fail
 | .neq, .cv (.one (.sl _ true xs)), .cv (.one (.sl _ true [])) => match V.ti t with
   | some ⟨.slice _, _, _, _, _⟩ => .one (.bool !xs.isEmpty)
   | _ => .fail
 | .eql, .cv (.ag l), .cv (.ag m) => match eqL V l m, V.eqs t, V.ti t with
   | some b, true, some i => if Iw i.zero l then .one (.bool b) else .fail
   | _, _, _ => .fail
 | .neq, .cv (.ag l), .cv (.ag m) => match eqL V l m, V.eqs t, V.ti t with
   | some b, true, some i => if Iw i.zero l then .one (.bool (!b)) else .fail
   | _, _, _ => .fail
 | _, _, _ => .fail
def Aht (op : UnOp) (a : SV V.E) : Er V.E :=
 match op, a with
 | .neg, .cv (.one (.int k x)) => .one (.int k (k.wrap (0 - x)))
 | .not, .cv (.one (.bool x)) => .one (.bool !x)
 | _, _ => .fail
def Xt (src dst : Option (TI V.E)) (a : SV V.E) : Er V.E :=
 match src, dst, a with
 | some ⟨.int _, _, _, _, _⟩, some ⟨.int k, _, _, _, _⟩, .cv (.one (.int _ n)) => .one (.int k (k.wrap n))
 | some ⟨.str, _, _, _, _⟩, some ⟨.str, _, _, _, _⟩, .cv (.one (.str s)) => .one (.str s)
 | _, _, _ => .fail
def part (agg : Bool) (size : Nat) (off : Nat) (ls : List (A7 V.E)) : Er V.E :=
 if Nat.ble (off + size) ls.length then tcv (B2 agg ((ls.drop off).take size)) else .fail
def Xq (i : TI V.E) (a : SV V.E) : Er V.E :=
 match a with
 | .cv (.one (.ptr id off)) => .read id fun
   | some (.cells ls) => part V i.kind.agg i.size off ls
   | _ => .fail
 | .cv (.one (.cp t x off)) => if Nat.ble (off + i.size) (t.sz V.T) then tcv (B2 i.kind.agg (((t.toL V.T x).drop off).take i.size)) else .fail
 | .cv (.one (.ep id ver j off)) => .read id fun
   | some (.arr _ t xs v _) =>
     if Nat.beq ver v && Nat.ble (off + i.size) (t.sz V.T) then tcv (B2 i.kind.agg (((t.toL V.T (xs.getD j.toNat (t.df V.T))).drop off).take i.size)) else .fail
   | some (.rows _ _ t xss v rv fz) => if Nat.beq ver v && Nat.beq off 0 && !i.kind.agg then (match fz with | .shut => .one (.sl t false (xss.getD j.toNat [])) | .opn => .one (.row id ver rv j) | .mix .. => .fail) else .fail
   | _ => .fail
 | .cv (.one (.rp id ver rv j k off)) => .read id fun
   | some (.rows _ _ t xss v rv' .opn) =>
     if Nat.beq ver v && Nat.beq rv rv' && Nat.ble (off + i.size) (t.sz V.T) then
       tcv (B2 i.kind.agg (((t.toL V.T ((xss.getD j.toNat []).getD k.toNat (t.df V.T))).drop off).take i.size)) else .fail
   | _ => .fail
 | _ => .fail
def done : Er V.E := .ret none []
def Va (i : TI V.E) (a v : SV V.E) : Er V.E :=
 match a, v with
 | .cv (.one (.ptr id off)), .cv c => .read id fun
   | some (.cells ls) =>
     if Nat.beq c.leaves.length i.size then
       match Ma ls off c.leaves with
       | some ls' => .write id (.cells ls') (done V)
       | none => .fail
     else .fail
   | _ => .fail
 | .cv (.one (.ep id ver j off)), .cv c => .read id fun
   | some (.arr e t xs v false) =>
     if Nat.beq ver v && Nat.beq c.leaves.length i.size then
       match Ma (t.toL V.T (xs.getD j.toNat (t.df V.T))) off c.leaves with
       | some ls => match t.ofL V.T ls with
         | some y => .write id (.arr e t (xs.set j.toNat y) v false) (done V)
         | none => .fail
       | none => .fail
     else .fail
   | some (.rows e e2 t xss v rv .opn) =>
     match c with
     | .one (.ar id2 ver2) => .read id2 fun
       | some (.arr e3 t2 ys v2 false) =>
         if Nat.beq ver v && Nat.beq ver2 v2 && Nat.beq off 0 && !(Nat.beq id id2) && Nat.beq e3 e2 && Nat.beq i.size 1 then
           if h : t2 = t then .write id2 .gone (.write id (.rows e e2 t (xss.set j.toNat (Mg h ys)) v (rv + 1) .opn) (done V)) else .fail
         else .fail
       | _ => .fail
     | .one (.row id2 ver2 rv2 k) =>
       if Nat.beq ver v && Nat.beq off 0 && Nat.beq i.size 1 then
         if Nat.beq id id2 then
           if Nat.beq ver2 v && Nat.beq rv2 rv then .write id (.rows e e2 t xss v rv (.mix j k)) (done V) else .fail
         else .read id2 fun
         | some (.rows _ e4 t2 yss v2 rv' .opn) =>
           if Nat.beq ver2 v2 && Nat.beq rv2 rv' && Nat.beq e4 e2 then
             if h : t2 = t then .write id2 .gone (.write id (.rows e e2 t (xss.set j.toNat (Mg h (yss.getD k.toNat []))) v (rv + 1) .opn) (done V)) else .fail
           else .fail
         | _ => .fail
       else .fail
     | _ => .fail
   | some (.rows e e2 t xss v rv (.mix a b)) =>
     match c with
     | .one (.row id2 ver2 rv2 k) =>
       if Nat.beq ver v && Nat.beq ver2 v && Nat.beq off 0 && Nat.beq id id2 && Nat.beq rv2 rv && Nat.beq i.size 1 then
         .write id (.rows e e2 t ((xss.set a.toNat (xss.getD b.toNat [])).set b.toNat (xss.getD a.toNat [])) v (rv + 1) .opn) (.ret none [j = b, k = a]) else .fail
     | _ => .fail
   | _ => .fail
 | .cv (.one (.rp id ver rv j k off)), .cv c => .read id fun
   | some (.rows e e2 t xss v rv' .opn) =>
     if Nat.beq ver v && Nat.beq rv rv' && Nat.beq c.leaves.length i.size then
       match Ma (t.toL V.T ((xss.getD j.toNat []).getD k.toNat (t.df V.T))) off c.leaves with
       | some ls => match t.ofL V.T ls with
         | some y => .write id (.rows e e2 t (xss.set j.toNat ((xss.getD j.toNat []).set k.toNat y)) v rv .opn) (done V)
         | none => .fail
       | none => .fail
     else .fail
   | _ => .fail
 | _, _ => .fail
def Af (i : Int) (n : Nat) : Prop := 0 <= i /\ i < n
def No (et : Ty) (a ix : SV V.E) : Er V.E :=
 match a, ix with
 | .cv (.one (.sl t _ xs)), .cv (.one (.int _ i)) => if t = et then .one (.cp t (xs.getD i.toNat (t.df V.T)) 0) [Af i xs.length] else .fail
 | .cv (.one (.ar id ver)), .cv (.one (.int _ i)) => .read id fun
   | some (.arr _ t xs v _) => if Nat.beq ver v && decide (t = et) then .one (.ep id ver i 0) [Af i xs.length] else .fail
   | some (.rows _ _ _ xss v _ _) => if Nat.beq ver v && Nat.beq (et.sz V.T) 1 then .one (.ep id ver i 0) [Af i xss.length] else .fail
   | _ => .fail
 | .cv (.one (.win id ver o n)), .cv (.one (.int _ i)) => .read id fun
   | some (.arr _ t _ v _) => if Nat.beq ver v && decide (t = et) then .one (.ep id ver (o + i) 0) [0 <= i, i < n] else .fail
   | _ => .fail
 | .cv (.one (.row id ver rv j)), .cv (.one (.int _ i)) => .read id fun
   | some (.rows _ _ t xss v rv' .opn) => if Nat.beq ver v && Nat.beq rv rv' && decide (t = et) then .one (.rp id ver rv j i 0) [Af i (xss.getD j.toNat []).length] else .fail
   | _ => .fail
 | _, _ => .fail
def Nr (off : Nat) (a : SV V.E) : Er V.E :=
 match a with
 | .cv (.one (.ptr id o)) => .read id fun
   | some (.cells _) => .one (.ptr id (o + off))
   | _ => .fail
 | .cv (.one (.cp t x o)) => .one (.cp t x (o + off))
 | .cv (.one (.ep id ver i o)) => .read id fun
   | some (.arr _ _ _ v _) => if Nat.beq ver v then .one (.ep id ver i (o + off)) else .fail
   | _ => .fail
 | .cv (.one (.rp id ver rv i k o)) => .read id fun
   | some (.rows _ _ _ _ v rv' _) => if Nat.beq ver v && Nat.beq rv rv' then .one (.rp id ver rv i k (o + off)) else .fail
   | _ => .fail
 | _ => .fail
def Abv (k : TK) (a : SV V.E) : Er V.E :=
 match k, a with
 | .str, .cv (.one (.str s)) => .one (.int .i64 s.length)
 | .slice _, .cv (.one (.sl _ _ xs)) => .one (.int .i64 xs.length)
 | .slice _, .cv (.one (.ar id ver)) => .read id fun
   | some (.arr _ _ xs v _) => if Nat.beq ver v then .one (.int .i64 xs.length) else .fail
   | some (.rows _ _ _ xss v _ _) => if Nat.beq ver v then .one (.int .i64 xss.length) else .fail
   | _ => .fail
 | .slice _, .cv (.one (.win id ver _ n)) => .read id fun
   | some (.arr _ _ _ v _) => if Nat.beq ver v then .one (.int .i64 n) else .fail
   | _ => .fail
 | .slice _, .cv (.one (.row id ver rv j)) => .read id fun
   | some (.rows _ _ _ xss v rv' .opn) => if Nat.beq ver v && Nat.beq rv rv' then .one (.int .i64 (xss.getD j.toNat []).length) else .fail
   | _ => .fail
 | _, _ => .fail
def frz : List (A7 V.E) -> (List (A7 V.E) -> Er V.E) -> Er V.E
 | [], k => k []
 | .ar id ver :: r, k => .read id fun
   | some (.arr e t xs v fz) => if Nat.beq ver v then
       (if fz then frz r λ ls => k (.sl t false xs :: ls) else .write id (.arr e t xs v true) (frz r λ ls => k (.sl t false xs :: ls))) else .fail
   | some (.rows e e2 t xss v rv fz) => if Nat.beq ver v then
       (match fz with | .shut => frz r λ ls => k (.sl (.sl t) false xss :: ls) | .opn => .write id (.rows e e2 t xss v rv .shut) (frz r λ ls => k (.sl (.sl t) false xss :: ls)) | .mix .. => .fail) else .fail
   | _ => .fail
 | l :: r, k => frz r λ ls => k (l :: ls)
def Jb : TK -> Ty -> Bool
 | .int k, .int k' => decide (k = k')
 | .bool, .bool => true
 | .str, .str => true
 | _, _ => false
def Aej (t : TypeId) : Option (TI V.E × TI V.E) :=
 match V.ti t with
 | some ⟨.map k e, _, _, _, _⟩ => match V.ti k, V.ti e with
   | some i, some j => if Jb i.kind i.ty && (Kg j.ty == j.kind.agg) then some (i, j) else none
   | _, _ => none
 | _ => none
def S6 (i j : TI V.E) (a x : SV V.E) (ok : Bool) : Er V.E :=
 match a, x with
 | .cv (.one (.mp id)), .cv (.one key) => .read id fun
   | some (.map k t l) => if decide (k = i.ty) && decide (t = j.ty) then
       match k.ofL V.T [key], t.ofL V.T j.zero with
       | some kx, some z => match B2 j.kind.agg (t.toL V.T ((Qb (K4 k) kx l).getD z)) with
         | some c => if ok then .ret (some (.tup [c, .one (.bool (Qb (K4 k) kx l).isSome)])) [] else .cv c
         | none => .fail
       | _, _ => .fail
     else .fail
   | _ => .fail
 | _, _ => .fail
def Sy (i j : TI V.E) (a x v : SV V.E) : Er V.E :=
 match a, x, v with
 | .cv (.one (.mp id)), .cv (.one key), .cv c => frz V c.leaves λ ls => .read id fun
   | some (.map k t l) => if decide (k = i.ty) && decide (t = j.ty) && (c.isAg == j.kind.agg) then
       match k.ofL V.T [key], t.ofL V.T ls with
       | some kx, some y => .write id (.map k t (T6 (K4 k) kx y l)) (done V)
       | _, _ => .fail
     else .fail
   | _ => .fail
 | _, _, _ => .fail
def Jh (id : Nat) (b : Box V.E) (k : Er V.E) : Er V.E := .read id fun
 | none => .write id b k
 | some _ => .fail
def Sh (t : Ty) (sz : Nat) : Nat -> List (A7 V.E) -> Option (List (t.den V.E))
 | 0, [] => some []
 | n + 1, ls =>
   match t.ofL V.T (ls.take sz) with
   | some x => match Sh t sz n (ls.drop sz) with
     | some r => some (x :: r)
     | none => none
   | none => none
 | _, _ => none
def Q6 {α : Type} (l : List α) : Nat -> List α
 | 0 => []
 | n + 1 => l ++ Q6 l n
def Sj (dst : Nat) (e : TypeId) (i : TI V.E) (a b : SV V.E) : Er V.E :=
 match a, b with
 | .cv (.one (.sl t true [])), .cv (.one (.sl t' _ ys)) =>
   if h : t' = t then if t = i.ty then Jh V dst (.arr e t (Mg h ys) 0 false) (.one (.ar dst 0) [ys.length * i.bytes <= Ap]) else .fail else .fail
 | .cv (.one (.ar id ver)), .cv (.one (.sl t' _ ys)) => .read id fun
   | some (.arr e' t xs v false) =>
     if Nat.beq ver v && Nat.beq e' e && decide (t = i.ty) then
       if h : t' = t then .write id (.arr e t (xs ++ Mg h ys) (v + 1) false) (.one (.ar id (v + 1)) [(xs.length + ys.length) * i.bytes <= Ap]) else .fail
     else .fail
   | _ => .fail
 | .cv (.one (.ar id ver)), .cv (.one (.bs [.ar id2 ver2])) => .read id fun
   | some (.rows e' e2 t xss v rv .opn) => .read id2 fun
     | some (.arr e3 t2 ys v2 false) =>
       if Nat.beq ver v && Nat.beq ver2 v2 && !(Nat.beq id id2) && Nat.beq e' e && Nat.beq e3 e2 && Nat.beq i.size 1 then
         if h : t2 = t then .write id2 .gone (.write id (.rows e e2 t (xss ++ [Mg h ys]) (v + 1) rv .opn) (.one (.ar id (v + 1)) [(xss.length + 1) * i.bytes <= Ap])) else .fail
       else .fail
     | _ => .fail
   | _ => .fail
 | _, _ => .fail
def Ln (k : TK) (et : Option Ty) (a : SV V.E) (lo hi : Option Int) : Er V.E :=
 match k, et, a with
 | .str, _, .cv (.one (.str s)) =>
   .one (.str ((s.drop (lo.getD 0).toNat).take ((hi.getD s.length).toNat - (lo.getD 0).toNat))) [0 <= lo.getD 0, lo.getD 0 <= hi.getD s.length, hi.getD s.length <= s.length]
 | .slice _, some et, .cv (.one (.sl t _ xs)) => if t = et then
   .one (.sl t false ((xs.drop (lo.getD 0).toNat).take ((hi.getD xs.length).toNat - (lo.getD 0).toNat))) [0 <= lo.getD 0, lo.getD 0 <= hi.getD xs.length, hi.getD xs.length <= xs.length] else .fail
 | .slice _, some et, .cv (.one (.ar id ver)) => .read id fun
   | some (.arr e t xs v false) => if Nat.beq ver v && decide (t = et) then
       match lo with
       | none => .write id (.arr e t (xs.take (hi.getD xs.length).toNat) (v + 1) false) (.one (.ar id (v + 1)) [0 <= hi.getD xs.length, hi.getD xs.length <= xs.length])
       | some l => .one (.win id ver l (hi.getD xs.length - l)) [0 <= l, l < hi.getD xs.length, hi.getD xs.length <= xs.length]
     else .fail
   | _ => .fail
 | _, _, _ => .fail
def L7 (T : Tab) : (ts : List Ty) -> List (Bool × List (A7 T.E)) -> Option (HL T.E ts)
 | [], [] => some ()
 | t :: ts, (a, l) :: ls =>
   if a == Kg t then
     match t.ofL T l with
     | some x => match L7 T ts ls with
       | some r => some (x, r)
       | none => none
     | none => none
   else none
 | _, _ => none
def Ew (id : Nat) : List (TypeId × TypeId) -> List (A7 V.E) -> (List (A7 V.E) -> Er V.E) -> Er V.E
 | _, [], k => k []
 | (0, _) :: os, l :: r, k => Ew (id + 1000) os r λ ls => k (l :: ls)
 | (e, 0) :: os, .sl t _ xs :: r, k => Jh V id (.arr e t xs 0 false) (Ew (id + 1000) os r λ ls => k (.ar id 0 :: ls))
 | (e, e2) :: os, .sl (.sl t) _ xss :: r, k => Jh V id (.rows e e2 t xss 0 0 .opn) (Ew (id + 1000) os r λ ls => k (.ar id 0 :: ls))
 | [], l :: r, k => Ew (id + 1000) [] r λ ls => k (l :: ls)
 | _, _, _ => .fail
def Pp (id : Nat) (own : List (List (TypeId × TypeId))) : (ts : List Ty) -> HL V.E ts -> (List (CV V.E) -> Er V.E) -> Er V.E
 | [], _, k => k []
 | t :: ts, (x, r), k =>
   let go (ls : List (A7 V.E)) : Er V.E := match B2 (Kg t) ls with
     | some c => Pp (id + 10000) (own.drop 1) ts r λ cs => k (c :: cs)
     | none => .fail
   Ew V id (own.headD []) (t.toL V.T x) go
def J8 : List TypeId -> List (CV V.E) -> (List (Bool × List (A7 V.E)) -> Er V.E) -> Er V.E
 | _, [], k => k []
 | 0 :: os, c :: r, k => frz V c.leaves λ l => J8 os r λ r' => k ((c.isAg, l) :: r')
 | (e + 1) :: os, .one (.ar id ver) :: r, k => .read id fun
   | some (.arr e' t xs v false) => if Nat.beq ver v && Nat.beq e' (e + 1) then .write id .gone (J8 os r λ r' => k ((false, [.sl t false xs]) :: r')) else .fail
   | _ => .fail
 | [], c :: r, k => frz V c.leaves λ l => J8 [] r λ r' => k ((c.isAg, l) :: r')
 | _, _, _ => .fail
def Asq (E : Nat -> Type) (ts : List Ty) (d : Dyn E) : Option (HL E ts) :=
 if h : d.ts = ts then some (h ▸ d.x) else none
def Ag1 : List (Option (SV V.E)) -> Option (List (CV V.E))
 | [] => some []
 | some (.cv c) :: r => match Ag1 r with
   | some ls => some (c :: ls)
   | none => none
 | _ => none
def Pm : List (Option (SV V.E)) -> Option (List (A7 V.E))
 | [] => some []
 | some (.cv (.one l)) :: r => match Pm r with
   | some ls => some (l :: ls)
   | none => none
 | _ => none
def Pr (p : List Prop) : List (CV V.E) -> Er V.E
 | [c] => .cv c p
 | cs => .ret (some (.tup cs)) p
def U5 (dst : Nat) (S : Option (FW V.E)) (args : List (CV V.E)) (d : Dyn V.E) : Er V.E :=
 match S, args with
 | some S, .one (.win id ver i n) :: rest =>
   J8 V [] rest λ ls => .read id fun
     | some (.arr e t xs v false) =>
       if Nat.beq ver v && Nat.beq e S.e then
         if h : t = S.t then
           match L7 V.T S.args ls, Asq V.E (.sl S.t :: S.res) d with
           | some x, some y => Pp V dst [] S.res y.2 λ cs => .write id (.arr e S.t y.1 v false) (Pr V [S.f (Mg h xs) i n x = some (y.1, y.2), y.1.length = xs.length] cs)
           | _, _ => .fail
         else .fail
       else .fail
     | _ => .fail
 | _, _ => .fail
def Rf (dst : Nat) (S : Option (FC V.E)) (args : List (CV V.E)) (d : Dyn V.E) : Er V.E :=
 match S, Ux args with
 | some S, some (rest, .one (.ptr id off)) =>
   J8 V [] rest λ ls => .read id fun
     | some (.cells cl) => match L7 V.T S.args ls, Asq V.E S.res d, S.c.ofL V.T ((cl.drop off).take (S.c.sz V.T)) with
       | some x, some y, some c => if S.res.all Acd then Pp V dst [] S.res y (Pr V [S.f c x = some y]) else .fail
       | _, _, _ => .fail
     | _ => .fail
 | _, _ => .fail
def Yc (dst : Nat) (f : FuncId) (args : List (CV V.E)) (o : Orc V.E) : Er V.E :=
 match V.fs f, o with
 | some S, .res d =>
   J8 V S.argOwn args λ ls =>
     match L7 V.T S.args ls, Asq V.E S.res d with
     | some x, some y => Pp V dst S.resOwn S.res y (Pr V [S.f x = some y])
     | _, _ => .fail
 | none, .res d => match V.ws f with
   | some S => U5 V dst (some S) args d
   | none => Rf V dst (V.cs f) args d
 | _, _ => .fail
def V0 (dst : Nat) (b : Builtin) (ats : List TypeId) (args : List (Option (SV V.E))) : Er V.E :=
 match b, args with
 | .len, [some a] => match ats with
   | t :: _ => match V.ti t with
     | some i => Abv V i.kind a
     | none => .fail
   | [] => .fail
 | .append, [some a, some x] => match ats with
   | [t, u] => match V.ti t, V.ti u with
     | some ⟨.slice e, _, _, _, _⟩, some ⟨.slice _, _, _, _, _⟩ => match V.ti e with
       | some i => Sj V dst e i a x
       | none => .fail
     | _, _ => .fail
   | _ => .fail
 | .min, [some (.cv (.one (.int k a))), some (.cv (.one (.int k' b)))] => if k = k' then .one (.int k (if b < a then b else a)) else .fail
 | .max, [some (.cv (.one (.int k a))), some (.cv (.one (.int k' b)))] => if k = k' then .one (.int k (if a < b then b else a)) else .fail
 | _, _ => .fail
def X3 (dst : Nat) (e : TypeId) (i : TI V.E) (own : Bool) (l c : Int) : Er V.E :=
 match i.ty.ofL V.T i.zero with
 | some z =>
   match i.kind, i.ty, z, own with
   | .slice e2, .sl t, z, true => Jh V dst (.rows e e2 t (List.replicate l.toNat z) 0 0 .opn) (.one (.ar dst 0) [0 <= l, l <= c, c * i.bytes <= Ap])
   | _, _, _, _ => Jh V dst (.arr e i.ty (List.replicate l.toNat z) 0 false) (.one (.ar dst 0) [0 <= l, l <= c, c * i.bytes <= Ap])
 | none => .fail
def K9 : List (Nat × Operand) -> List (Option (SV V.E)) -> List (Nat × Option (SV V.E))
 | (i, _) :: r, v :: vs => (i, v) :: K9 r vs
 | _, _ => []
def U9 (dst : Nat) (e : TypeId) (i : TI V.E) (n : Nat) (q : Orc V.E) (ls : List (A7 V.E)) : Er V.E :=
 match q, ls with
 | .own, [l] => .one (.bs [l])
 | .lit, ls => match Sh V i.ty i.size n ls with
   | some xs => Jh V dst (.arr e i.ty xs 0 false) (.one (.ar dst 0))
   | none => .fail
 | _, _ => frz V ls λ ls => match Sh V i.ty i.size n ls with
   | some xs => .one (.sl i.ty false xs)
   | none => .fail
def A2k (dst : Nat) (o : Oper) (vs : List (Option (SV V.E))) (q : Orc V.E) : Er V.E :=
 match o.op, vs with
 | .move _, [some v] => .ret (some v) []
 | .assign _, [some v] => .ret (some v) []
 | .pick .., [some (.cv (.one (.bool b))), x, y] =>
   match q with
   | .bit d => match if d then x else y with
     | some v => .ret (some v) [b = d]
     | none => .fail
   | _ => match x, y with
     | some (.cv (.one (.bool x))), some (.cv (.one (.bool y))) => .one (.bool (if b then x else y))
     | _, _ => .fail
 | .alloc t, [] => match V.ti t with
   | some i => Jh V dst (.cells i.zero) (.one (.ptr dst 0))
   | none => .fail
 | .box t _, [some (.cv c)] => match V.ti t with
   | some _ => Jh V dst (.cells c.leaves) (.one (.ptr dst 0))
   | none => .fail
 | .build t ps, vs => match V.ti t with
   | some ⟨.struct fs, _, _, z, _⟩ => if fs.all (λ x => (V.ti x.2).isSome) then match R6 (fieldPlace V fs) z (K9 V ps.toList vs) with
     | some ls => .cv (.ag ls)
     | none => .fail
     else .fail
   | _ => .fail
 | .buildSlice t n ps, vs => match Yp V t with
   | some (e, i) => if Nat.ble (n * i.size) 16777216 then
     match R6 (λ k => some (k * i.size, i.size)) (Q6 i.zero n) (K9 V ps.toList vs) with
     | some ls =>
       U9 V dst e i n q ls
     | none => .fail
     else .fail
   | none => .fail
 | .load t _, [some a] => match V.ti t with
   | some i => Xq V i a
   | none => .fail
 | .store t _ _, [some a, some v] => match V.ti t with
   | some i => Va V i a v
   | none => .fail
 | .nilCheck _, [some (.cv (.one (.ptr id off)))] => .read id fun
   | some (.cells _) => .one (.ptr id off)
   | _ => .fail
 | .binOp op t _ _ _, [some a, some b] => Ach V op t a b
 | .unOp op _ _, [some a] => Aht V op a
 | .convert u d _, [some a] => Xt V (V.ti u) (V.ti d) a
 | .makeFunc (.func f) fi _, vs => if fi.isEmpty then match Pm V vs with
     | some ls => .one (.clo f ls)
     | none => .fail
   else .fail
 | .makeSlice t _ _, [some (.cv (.one (.int _ l))), some (.cv (.one (.int _ c)))] => match V.ti t with
   | some ⟨.slice e, _, _, _, _⟩ => match V.ti e with
     | some i => X3 V dst e i (match q with | .own => true | _ => false) l c
     | none => .fail
   | _ => .fail
 | .slice t _ none none none, [some a] => match V.ti t with
   | some i => Ln V i.kind ((Ox V t).map (·.ty)) a none none
   | none => .fail
 | .slice t _ (some _) none none, [some a, some (.cv (.one (.int _ l)))] => match V.ti t with
   | some i => Ln V i.kind ((Ox V t).map (·.ty)) a (some l) none
   | none => .fail
 | .slice t _ none (some _) none, [some a, some (.cv (.one (.int _ h)))] => match V.ti t with
   | some i => Ln V i.kind ((Ox V t).map (·.ty)) a none (some h)
   | none => .fail
 | .slice t _ (some _) (some _) none, [some a, some (.cv (.one (.int _ l))), some (.cv (.one (.int _ h)))] => match V.ti t with
   | some i => Ln V i.kind ((Ox V t).map (·.ty)) a (some l) (some h)
   | none => .fail
 | .fieldAddr s _ f, [some a] => match V.ti s with
   | some ⟨.struct fs, _, _, _, _⟩ => match fieldPlace V fs f with
     | some (off, size) => if Nat.beq size 0 then .fail else Nr V off a
     | none => .fail
   | _ => .fail
 | .field s _ f, [some (.cv (.ag ls))] => match V.ti s with
   | some ⟨.struct fs, _, _, _, _⟩ => match fs[f]? with
     | some (off, t) => match V.ti t with
       | some i => part V i.kind.agg i.size off ls
       | none => .fail
     | none => .fail
   | _ => .fail
 | .indexAddr t _ _, [some a, some i] => match Ox V t with
   | some j => No V j.ty a i
   | none => .fail
 | .index t _ _, [some (.cv (.one (.str s))), some (.cv (.one (.int _ i)))] => match V.ti t with
   | some ⟨.str, _, _, _, _⟩ => .one (.int .u8 (s.getD i.toNat 0).toNat) [Af i s.length]
   | _ => .fail
 | .makeMap t none, [] => match Aej V t with
   | some (i, j) => Jh V dst (.map i.ty j.ty []) (.one (.mp dst))
   | none => .fail
 | .lookup t _ _ ok, [some a, some x] => match Aej V t with
   | some (i, j) => S6 V i j a x ok
   | none => .fail
 | .mapUpdate t _ _ _, [some a, some x, some v] => match Aej V t with
   | some (i, j) => Sy V i j a x v
   | none => .fail
 | .extract _ n, [some (.tup cs)] => tcv cs[n]?
 | .call c, vs => match c.callee, vs with
   | .builtin b, vs => V0 V dst b c.argTypes.toList vs
   | .value _, some (.cv (.one (.clo f caps))) :: vs => match Ag1 V vs with
     | some ls => Yc V dst f (ls ++ caps.map .one) q
     | none => .fail
   | _, _ => .fail
 | _, _ => .fail
structure Acc where
 reads : List Nat
 writes : List Nat
def Aj (bs : List (Nat × Box V.E)) : Er V.E -> List Nat -> List Nat -> Option (Option (SV V.E) × List Prop × List (Nat × Box V.E) × Acc)
 | .fail, _, _ => none
 | .ret v c, rs, ws => some (v, c, bs, ⟨rs, ws⟩)
 | .read id k, rs, ws => Aj bs (k (A6 id bs)) (id :: rs) ws
 | .write id b k, rs, ws => Aj (put id b bs) k rs (id :: ws)
abbrev Ut := List (Nat × Orc V.E)
def A4c (q : List (Nat × Orc V.E)) (i : Nat) : Orc V.E :=
 match A6 i q with
 | some x => x
 | none => .none
def Abh (ops : List Oper) (s : St V.E) (q : List (Nat × Orc V.E)) (o : Oper) : Option (Bool × List Prop) :=
 match o.guard with
 | none => some (true, [])
 | some (j, want) =>
   match (ops[j]?).bind (·.dst) with
   | some d => match slot V s d, A4c V q j with
     | some (.cv (.one (.bool b))), .bit x => some (x == want, [b = x])
     | some (.tup []), _ => some (false, [])
     | _, _ => none
   | none => none
def A3l (n : Nat) : Option Tmp -> Bool
 | some d => Nat.blt d n && (!V.t0 || Nat.blt 0 d)
 | none => true
def Mc (d : Option Tmp) (v : Option (SV V.E)) (slots : List (Nat × Option (SV V.E))) : List (Nat × Option (SV V.E)) :=
 match d with
 | some d => put d v slots
 | none => slots
def Ail (ops : List Oper) (i : Nat) (o : Oper) (q : List (Nat × Orc V.E)) (s : St V.E) : Option (St V.E × List Prop × Acc) :=
 match A3l V s.n o.dst with
 | true => match Abh V ops s q o with
   | none => none
   | some (false, c) => some (⟨s.n, Mc V o.dst (some (.tup [])) s.slots, s.boxes⟩, c, ⟨[], []⟩)
   | some (true, c) =>
     match Aj V s.boxes (A2k V (o.dst.getD 0) o (Og V s (M7 V o) o.op.operands.toList) (A4c V q i)) [] [] with
     | some (v, c', bs, a) => some (⟨s.n, Mc V o.dst v s.slots, bs⟩, c ++ c', a)
     | none => none
 | false => none
def Tv (ops : List Oper) (q : List (Nat × Orc V.E)) : Nat -> List Oper -> St V.E -> Option (St V.E × List Prop × List Acc)
 | _, [], s => some (s, [], [])
 | i, o :: os, s =>
   match Ail V ops i o q s with
   | some (s', c, a) => match Tv ops q (i + 1) os s' with
     | some (s'', c', as) => some (s'', c ++ c', a :: as)
     | none => none
   | none => none
end
def Mem (ok : Nat -> Prop) (w : World) (blk off : Nat) (cs : List Value) : Prop :=
 ok blk /\ ∀ j v, cs[j]? = some v -> w.cell? ⟨blk, off + j, none⟩ = some v
mutual
def Br (ok : Nat -> Prop) (w : World) : AV -> List Value -> Prop
 | .int k n, cs => cs = [.int k n]
 | .bool b, cs => cs = [.bool b]
 | .str s, cs => cs = [.string ⟨s.toArray⟩]
 | .sl esz st xs, cs => ∃ a cap, cs = [.slice a xs.length cap] /\ xs.length <= cap /\ (a = none -> cap = 0) /\ (st = true -> xs = [] -> a = none) /\
     ∀ ad, a = some ad -> (xs ≠ [] -> ad.spot = none) /\ Fr ok w esz xs ad.block ad.off
 | .ag xs, cs => H9 ok w xs cs
def Fr (ok : Nat -> Prop) (w : World) (esz : Nat) : List AV -> Nat -> Nat -> Prop
 | [], _, _ => True
 | x :: xs, blk, off => (∃ cs, Br ok w x cs /\ cs.length = esz /\ Mem ok w blk off cs) /\ Fr ok w esz xs blk (off + esz)
def H9 (ok : Nat -> Prop) (w : World) : List AV -> List Value -> Prop
 | [], cs => cs = []
 | x :: xs, cs => ∃ c1 c2, cs = c1 ++ c2 /\ Br ok w x c1 /\ H9 ok w xs c2
end
structure Fb (ok : Nat -> Prop) (w : World) (ok' : Nat -> Prop) (w' : World) : Prop where
 may : ∀ b, ok b -> ok' b
 heap : ∀ b, ok b -> w'.heap[b]? = w.heap[b]?
theorem Fb.refl (ok : Nat -> Prop) (w : World) : Fb ok w ok w := ⟨λ _ h => h, λ _ _ => rfl⟩
theorem Fb.trans {o1 o2 o3 : Nat -> Prop} {w1 w2 w3 : World} (h : Fb o1 w1 o2 w2) (k : Fb o2 w2 o3 w3) : Fb o1 w1 o3 w3 :=
 ⟨λ b hb => k.may b (h.may b hb), λ b hb => (k.heap b (h.may b hb)).trans (h.heap b hb)⟩
theorem Acm {w w' : World} {b : Nat} (h : w'.heap[b]? = w.heap[b]?) (o : Nat) : w'.cell? ⟨b, o, none⟩ = w.cell? ⟨b, o, none⟩ := by
 unfold World.cell?; simp only [h]
section
variable {ok ok' : Nat -> Prop} {w w' : World}
theorem Mem.later (L : Fb ok w ok' w') {blk off : Nat} {cs : List Value} (h : Mem ok w blk off cs) : Mem ok' w' blk off cs :=
 ⟨L.may _ h.1, λ j v hv => by rw [Acm (L.heap _ h.1)]; exact h.2 j v hv⟩
mutual
theorem Br.later (L : Fb ok w ok' w') : ∀ (x : AV) (cs : List Value), Br ok w x cs -> Br ok' w' x cs
 | .int _ _, _, h => h
 | .bool _, _, h => h
 | .str _, _, h => h
 | .sl esz st xs, cs, h => by
   obtain ⟨a, cap, h1, h2, h3, h4, h5⟩ := h
   exact ⟨a, cap, h1, h2, h3, h4, λ ad had => ⟨(h5 ad had).1, Fr.later L esz xs _ _ (h5 ad had).2⟩⟩
 | .ag xs, cs, h => H9.later L xs cs h
theorem Fr.later (L : Fb ok w ok' w') (esz : Nat) : ∀ (xs : List AV) (blk off : Nat), Fr ok w esz xs blk off -> Fr ok' w' esz xs blk off
 | [], _, _, _ => trivial
 | x :: xs, blk, off, h => by
   obtain ⟨⟨cs, h1, h2, h3⟩, h4⟩ := h
   exact ⟨⟨cs, Br.later L x cs h1, h2, h3.later L⟩, Fr.later L esz xs blk _ h4⟩
theorem H9.later (L : Fb ok w ok' w') : ∀ (xs : List AV) (cs : List Value), H9 ok w xs cs -> H9 ok' w' xs cs
 | [], _, h => h
 | x :: xs, cs, h => by
   obtain ⟨c1, c2, h1, h2, h3⟩ := h
   exact ⟨c1, c2, h1, Br.later L x c1 h2, H9.later L xs c2 h3⟩
end
theorem Fr.get {esz : Nat} : ∀ (xs : List AV) (blk off : Nat), Fr ok w esz xs blk off -> ∀ i x, xs[i]? = some x ->
   ∃ cs, Br ok w x cs /\ cs.length = esz /\ Mem ok w blk (off + i * esz) cs
 | [], _, _, _, i, x, h => by simp at h
 | y :: ys, blk, off, h, 0, x, hx => by
   simp at hx; subst hx
   obtain ⟨cs, h1, h2, h3⟩ := h.1
   exact ⟨cs, h1, h2, by simpa using h3⟩
 | y :: ys, blk, off, h, i + 1, x, hx => by
   obtain ⟨cs, h1, h2, h3⟩ := Fr.get ys blk (off + esz) h.2 i x (by simpa using hx)
   refine ⟨cs, h1, h2, ?_⟩
   have : off + (i + 1) * esz = off + esz + i * esz := by rw [Nat.add_mul]; omega
   rw [this]; exact h3
theorem Fr.mk {esz : Nat} : ∀ (xs : List AV) (blk off : Nat), (∀ i x, xs[i]? = some x -> ∃ cs, Br ok w x cs /\ cs.length = esz /\ Mem ok w blk (off + i * esz) cs) ->
   Fr ok w esz xs blk off
 | [], _, _, _ => trivial
 | y :: ys, blk, off, h => by
   refine ⟨?_, Fr.mk ys blk (off + esz) λ i x hx => ?_⟩
   · obtain ⟨cs, h1, h2, h3⟩ := h 0 y (by simp)
     exact ⟨cs, h1, h2, by simpa using h3⟩
   · obtain ⟨cs, h1, h2, h3⟩ := h (i + 1) x (by simpa using hx)
     refine ⟨cs, h1, h2, ?_⟩
     have : off + (i + 1) * esz = off + esz + i * esz := by rw [Nat.add_mul]; omega
     rw [<- this]; exact h3
inductive Bk {α β : Type} (R : α -> β -> Prop) : List α -> List β -> Prop where
 | nil : Bk R [] []
 | cons {a b l m} : R a b -> Bk R l m -> Bk R (a :: l) (b :: m)
namespace Bk
variable {α β : Type} {R S : α -> β -> Prop}
theorem length : ∀ {l : List α} {m : List β}, Bk R l m -> l.length = m.length
 | _, _, .nil => rfl
 | _, _, .cons _ h => by simp [h.length]
theorem imp (f : ∀ a b, R a b -> S a b) : ∀ {l : List α} {m : List β}, Bk R l m -> Bk S l m
 | _, _, .nil => .nil
 | _, _, .cons h t => .cons (f _ _ h) (t.imp f)
theorem imp_mem : ∀ {l : List α} {m : List β}, (∀ a b, a ∈ l -> R a b -> S a b) -> Bk R l m -> Bk S l m
 | _, _, _, .nil => .nil
 | _, _, f, .cons h t => .cons (f _ _ (by simp) h) (t.imp_mem λ a b ha => f a b (by simp [ha]))
theorem imp_mem' : ∀ {l : List α} {m : List β}, (∀ a b, b ∈ m -> R a b -> S a b) -> Bk R l m -> Bk S l m
 | _, _, _, .nil => .nil
 | _, _, f, .cons h t => .cons (f _ _ (by simp) h) (t.imp_mem' λ a b ha => f a b (by simp [ha]))
theorem append : ∀ {l l' : List α} {m m' : List β}, Bk R l m -> Bk R l' m' -> Bk R (l ++ l') (m ++ m')
 | _, _, _, _, .nil, k => k
 | _, _, _, _, .cons h t, k => .cons h (t.append k)
theorem take : ∀ {l : List α} {m : List β} (n : Nat), Bk R l m -> Bk R (l.take n) (m.take n)
 | _, _, 0, _ => by simp; exact .nil
 | _, _, n + 1, .nil => by simp; exact .nil
 | _, _, n + 1, .cons h t => by simpa using .cons h (t.take n)
theorem drop : ∀ {l : List α} {m : List β} (n : Nat), Bk R l m -> Bk R (l.drop n) (m.drop n)
 | _, _, 0, h => by simpa using h
 | _, _, n + 1, .nil => by simp; exact .nil
 | _, _, n + 1, .cons h t => by simpa using t.drop n
theorem get : ∀ {l : List α} {m : List β}, Bk R l m -> ∀ (i : Nat) a, l[i]? = some a -> ∃ b, m[i]? = some b /\ R a b
 | _, _, .nil, i, a, h => by simp at h
 | _, _, .cons h t, 0, a, e => by simp at e; subst e; exact ⟨_, by simp, h⟩
 | _, _, .cons h t, i + 1, a, e => by
   obtain ⟨b, hb, r⟩ := t.get i a (by simpa using e)
   exact ⟨b, by simpa using hb, r⟩
theorem get' : ∀ {l : List α} {m : List β}, Bk R l m -> ∀ (i : Nat) b, m[i]? = some b -> ∃ a, l[i]? = some a /\ R a b
 | _, _, .nil, i, a, h => by simp at h
 | _, _, .cons h t, 0, a, e => by simp at e; subst e; exact ⟨_, by simp, h⟩
 | _, _, .cons h t, i + 1, a, e => by
   obtain ⟨b, hb, r⟩ := t.get' i a (by simpa using e)
   exact ⟨b, by simpa using hb, r⟩
theorem split : ∀ {l l' : List α} {m : List β}, Bk R (l ++ l') m -> ∃ m1 m2, m = m1 ++ m2 /\ Bk R l m1 /\ Bk R l' m2
 | [], l', m, h => ⟨[], m, rfl, .nil, h⟩
 | a :: l, l', _, .cons h t => by
   obtain ⟨m1, m2, rfl, h1, h2⟩ := t.split
   exact ⟨_ :: m1, m2, rfl, .cons h h1, h2⟩
end Bk
theorem H9.iff : ∀ (xs : List AV) (cs : List Value), H9 ok w xs cs ↔ ∃ css : List (List Value), cs = css.flatten /\ Bk (Br ok w) xs css
 | [], cs => by
   constructor
   · intro h; exact ⟨[], by simpa [H9] using h, .nil⟩
   · rintro ⟨css, rfl, h⟩; cases h; simp [H9]
 | x :: xs, cs => by
   constructor
   · rintro ⟨c1, c2, rfl, h1, h2⟩
     obtain ⟨css, rfl, h3⟩ := (H9.iff xs c2).1 h2
     exact ⟨c1 :: css, by simp, .cons h1 h3⟩
   · rintro ⟨css, rfl, h⟩
     cases h with
     | cons h1 h2 => exact ⟨_, _, by simp, h1, (H9.iff xs _).2 ⟨_, rfl, h2⟩⟩
end
structure BI where
 blk : Nat
 hdr : Value
 own : List Nat
 rows : List Value
section
variable (T : Tab)
def R2 (ok : Nat -> Prop) (w : World) (t : Ty) (st : Bool) (xs : List (t.den T.E)) (v : Value) : Prop :=
 Br ok w (.sl (t.sz T) st (xs.map (t.av T))) [v]
mutual
def Ak (bx : List (Nat × Box T.E)) (β : Nat -> BI) (ok : Nat -> Prop) (w : World) : A7 T.E -> Value -> Prop
 | .int k n, v => v = .int k n
 | .bool b, v => v = .bool b
 | .str s, v => v = .string ⟨s.toArray⟩
 | .sl t st xs, v => R2 T ok w t st xs v
 | .ar id ver, v => v.oneCell' = true /\ match A6 id bx with
   | some (.arr _ _ _ ver' _) => ver <= ver' /\ (ver = ver' -> v = (β id).hdr)
   | some (.rows _ _ _ _ ver' _ _) => ver <= ver' /\ (ver = ver' -> v = (β id).hdr)
   | some _ => True
   | none => False
 | .row id ver rv i, v => v.oneCell' = true /\ match A6 id bx with
   | some (.rows _ _ _ xss ver' rv' _) => ver <= ver' /\ (ver = ver' -> rv <= rv' /\ (rv = rv' -> 0 <= i /\ i < xss.length /\ (β id).rows[i.toNat]? = some v))
   | some _ => True
   | none => False
 | .ptr id off, v => v.oneCell' = true /\ match A6 id bx with
   | some (.cells _) => v = .pointer (some ⟨(β id).blk, off, none⟩)
   | some _ => True
   | none => False
 | .ep id ver i off, v => v.oneCell' = true /\ match A6 id bx with
   | some (.arr _ t xs ver' _) => ver <= ver' /\ (ver = ver' -> 0 <= i /\ i < xs.length /\ ∃ b n cap, (β id).hdr = .slice (some ⟨b, 0, none⟩) n cap /\ v = .pointer (some ⟨b, i.toNat * t.sz T + off, none⟩))
   | some (.rows _ _ _ xss ver' _ _) => ver <= ver' /\ (ver = ver' -> 0 <= i /\ i < xss.length /\ ∃ b n cap, (β id).hdr = .slice (some ⟨b, 0, none⟩) n cap /\ v = .pointer (some ⟨b, i.toNat + off, none⟩))
   | some _ => True
   | none => False
 | .rp id ver rv i k off, v => v.oneCell' = true /\ match A6 id bx with
   | some (.rows _ _ t xss ver' rv' _) => ver <= ver' /\ (ver = ver' -> rv <= rv' /\ (rv = rv' -> 0 <= i /\ i < xss.length /\ 0 <= k /\ k < (xss.getD i.toNat []).length /\
       ∃ b n cap, (β id).rows[i.toNat]? = some (.slice (some ⟨b, 0, none⟩) n cap) /\ v = .pointer (some ⟨b, k.toNat * t.sz T + off, none⟩)))
   | some _ => True
   | none => False
 | .win id ver i n, v => v.oneCell' = true /\ match A6 id bx with
   | some (.arr _ t xs ver' _) => ver <= ver' /\ (ver = ver' -> 0 <= i /\ 0 <= n /\ i + n <= xs.length /\ ∃ b cap, (β id).hdr = .slice (some ⟨b, 0, none⟩) xs.length cap /\ i.toNat <= cap /\ v = .slice (some ⟨b, i.toNat * t.sz T, none⟩) n.toNat (cap - i.toNat))
   | some _ => True
   | none => False
 | .cp t x off, v => ∃ b o cs, v = .pointer (some ⟨b, o + off, none⟩) /\ Br ok w (t.av T x) cs /\ Mem ok w b o cs
 | .bs ls, v => ∃ b vs c e, v = .slice (some ⟨b, 0, none⟩) ls.length ls.length /\ ok b /\ w.heap[b]? = some (.cells c e (0, 0)) /\ c.toList = vs /\ Bx bx β ok w ls vs
 | .clo f caps, v => ∃ vs, v = .func (.func f) #[] vs /\ Bx bx β ok w caps vs.toList
 | .mp id, v => v.oneCell' = true /\ match A6 id bx with
   | some (.map ..) => v = .map (some (β id).blk)
   | some _ => True
   | none => False
 | .nptr, v => v = .pointer none
 | .nfn, v => v = .nilFunc
 | .nmp, v => v = .map none
def Bx (bx : List (Nat × Box T.E)) (β : Nat -> BI) (ok : Nat -> Prop) (w : World) : List (A7 T.E) -> List Value -> Prop
 | [], vs => vs = []
 | l :: ls, vs => ∃ v r, vs = v :: r /\ Ak bx β ok w l v /\ Bx bx β ok w ls r
end
theorem Bx.iff {bx : List (Nat × Box T.E)} {β : Nat -> BI} {ok : Nat -> Prop} {w : World} :
   ∀ (ls : List (A7 T.E)) (vs : List Value), Bx T bx β ok w ls vs ↔ Bk (Ak T bx β ok w) ls vs
 | [], vs => by
   constructor
   · intro h; simp only [Bx] at h; subst h; exact .nil
   · intro h; cases h; simp [Bx]
 | l :: ls, vs => by
   constructor
   · intro h
     simp only [Bx] at h
     obtain ⟨v, r, rfl, h1, h2⟩ := h
     exact .cons h1 ((Bx.iff ls r).1 h2)
   · intro h
     cases h with
     | cons h1 h2 => simp only [Bx]; exact ⟨_, _, rfl, h1, (Bx.iff ls _).2 h2⟩
variable {T}
theorem T8 {bx : List (Nat × Box T.E)} {β : Nat -> BI} {ok : Nat -> Prop} {w : World} {l : A7 T.E} {x : AV} (h : A7.av T l = some x) (v : Value) :
   Ak T bx β ok w l v ↔ Br ok w x [v] := by
 cases l <;> simp [A7.av] at h
 all_goals subst h
 all_goals simp [Ak, Br, R2]
theorem U7 {bx : List (Nat × Box T.E)} {β : Nat -> BI} {ok : Nat -> Prop} {w : World} : ∀ {ls : List (A7 T.E)} {xs : List AV}, ls.map (A7.av T) = xs.map some ->
   ∀ cs : List Value, Bk (Ak T bx β ok w) ls cs ↔ H9 ok w xs cs
 | [], [], _, cs => by
   constructor
   · intro h; cases h; simp [H9]
   · intro h; simp only [H9] at h; subst h; exact .nil
 | [], x :: xs, h, _ => by simp at h
 | l :: ls, [], h, _ => by simp at h
 | l :: ls, x :: xs, h, cs => by
   simp only [List.map_cons, List.cons.injEq] at h
   have hx := λ v => T8 (bx := bx) (β := β) (ok := ok) (w := w) h.1 v
   have one : ∀ c, Br ok w x c -> ∃ v, c = [v] := by
     intro c hc
     cases l <;> simp [A7.av] at h
     all_goals obtain ⟨rfl, _⟩ := h
     all_goals simp only [Br] at hc
     · exact ⟨_, hc⟩
     · exact ⟨_, hc⟩
     · exact ⟨_, hc⟩
     · obtain ⟨a, cap, hc, _⟩ := hc; exact ⟨_, hc⟩
   constructor
   · intro k
     cases k with
     | cons k1 k2 =>
       exact ⟨[_], _, rfl, (hx _).1 k1, (U7 h.2 _).1 k2⟩
   · rintro ⟨c1, c2, rfl, k1, k2⟩
     obtain ⟨v, rfl⟩ := one c1 k1
     exact .cons ((hx v).2 k1) ((U7 h.2 _).2 k2)
theorem Ka (HT : T.Ok) {bx : List (Nat × Box T.E)} {β : Nat -> BI} {ok : Nat -> Prop} {w : World} (t : Ty) (x : t.den T.E) (cs : List Value) :
   Bk (Ak T bx β ok w) (t.toL T x) cs ↔ Br ok w (t.av T x) cs := by
 have one : ∀ (l : A7 T.E) (y : AV), A7.av T l = some y -> (∀ c, Br ok w y c -> ∃ v, c = [v]) -> (Bk (Ak T bx β ok w) [l] cs ↔ Br ok w y cs) := by
   intro l y hl h1
   constructor
   · intro k
     cases k with
     | cons k1 k2 => cases k2; exact (T8 hl _).1 k1
   · intro k
     obtain ⟨v, rfl⟩ := h1 _ k
     exact .cons ((T8 hl v).2 k) .nil
 cases t with
 | int k => exact one _ _ rfl (λ c hc => ⟨_, hc⟩)
 | bool => exact one _ _ rfl (λ c hc => ⟨_, hc⟩)
 | str => exact one _ _ rfl (λ c hc => ⟨_, hc⟩)
 | sl t =>
   refine one _ (.sl (t.sz T) false (x.map (t.av T))) rfl ?_
   intro c hc
   obtain ⟨a, cap, hc, _⟩ := hc
   exact ⟨_, hc⟩
 | nm n => exact U7 (HT.av n x) cs
theorem Ou (HT : T.Ok) (t : Ty) (x : t.den T.E) : (t.toL T x).length = t.sz T := by
 cases t with
 | nm n => exact HT.len _ _
 | _ => rfl
theorem Wf {bx : List (Nat × Box T.E)} {β : Nat -> BI} {ok : Nat -> Prop} {w : World} {a b : A7 T.E} (h : A65 a b) {v : Value} (k : Ak T bx β ok w a v) : Ak T bx β ok w b v := by
 rcases h with rfl | ⟨t, st, st', xs, rfl, rfl, h⟩
 · exact k
 · simp only [Ak, R2, Br] at k ⊢
   obtain ⟨a, cap, h1, h2, h3, h4, h5⟩ := k
   refine ⟨a, cap, h1, h2, h3, λ hs hx => ?_, h5⟩
   rcases h hs with h | h
   · exact h4 h hx
   · exact absurd (List.map_eq_nil_iff.1 hx) h
theorem L9 {bx : List (Nat × Box T.E)} {β : Nat -> BI} {ok : Nat -> Prop} {w : World} : ∀ {l m : List (A7 T.E)}, Coe l m -> ∀ {vs : List Value}, Bk (Ak T bx β ok w) l vs -> Bk (Ak T bx β ok w) m vs
 | _, _, .nil, _, k => k
 | _, _, .cons h t, _, .cons k1 k2 => .cons (Wf h k1) (L9 t k2)
theorem Oi (HT : T.Ok) {t : Ty} {ls : List (A7 T.E)} {x : t.den T.E} (h : t.ofL T ls = some x) : Coe ls (t.toL T x) := by
 cases t with
 | nm n => exact HT.ofL n ls x h
 | int k =>
   simp only [Ty.ofL] at h
   split at h
   · split at h
     · rename_i e; subst e; cases h; exact .cons (.inl rfl) .nil
     · cases h
   · cases h
 | bool =>
   simp only [Ty.ofL] at h
   split at h
   · cases h; exact .cons (.inl rfl) .nil
   · cases h
 | str =>
   simp only [Ty.ofL] at h
   split at h
   · cases h; exact .cons (.inl rfl) .nil
   · cases h
 | sl t =>
   simp only [Ty.ofL] at h
   split at h
   · split at h
     · rename_i e; subst e; cases h; exact .cons (.inr ⟨_, _, _, _, rfl, rfl, λ h => by cases h⟩) .nil
     · cases h
   · cases h
end
end Go.Ab
