/- The abstract values, states and evaluator of the own layer: what a piece of the model's code computes, told on plain data. Conditions: none beyond those that each theorem names. -/
import Derived.Orders
import Derived.KernelRfl
namespace Go.Ab
open Go
inductive Ty where
  | int (k : IntKind) | bool | str | sl (t : Ty) | nm (n : Nat)
  deriving DecidableEq
@[reducible] def Ty.den (E : Nat → Type) : Ty → Type
  | .int _ => Int
  | .bool => Bool
  | .str => List UInt8
  | .sl t => List (t.den E)
  | .nm n => E n
inductive Leaf (E : Nat → Type) : Type where
  | int (k : IntKind) (n : Int)
  | bool (b : Bool)
  | str (s : List UInt8)
  | sl (t : Ty) (st : Bool) (xs : List (t.den E))       -- a slice that nobody writes; st: nil just if empty
  | ar (id ver : Nat)                                    -- the slice that the box id holds
  | row (id ver rv : Nat) (i : Int)                      -- a row of the box id of rows
  | ptr (id off : Nat)                                   -- into the box id of cells
  | ep (id ver : Nat) (i : Int) (off : Nat)              -- an element of the box id of an array
  | rp (id ver rv : Nat) (i k : Int) (off : Nat)         -- an element of a row
  | cp (t : Ty) (x : t.den E) (off : Nat)                -- into memory that nobody writes, where x lies
  | bs (ls : List (Leaf E))                              -- a slice just made of one element each
  | clo (f : FuncId) (caps : List (Leaf E))
  | win (id ver : Nat) (i n : Int)                       -- a piece of the array that the box id holds
  | mp (id : Nat)                                        -- the map that the box id holds
  | nptr | nfn | nmp
inductive AV where
  | int (k : IntKind) (n : Int) | bool (b : Bool) | str (s : List UInt8)
  | sl (esz : Nat) (st : Bool) (xs : List AV) | ag (xs : List AV)
structure Tab where
  E : Nat → Type
  sz : Nat → Nat
  df : (n : Nat) → E n
  toL : (n : Nat) → E n → List (Leaf E)
  ofL : (n : Nat) → List (Leaf E) → Option (E n)
  av : (n : Nat) → E n → List AV
def Ty.sz (T : Tab) : Ty → Nat
  | .nm n => T.sz n
  | _ => 1
def Ty.df (T : Tab) : (t : Ty) → t.den T.E
  | .int _ => (0 : Int)
  | .bool => false
  | .str => ([] : List UInt8)
  | .sl _ => []
  | .nm n => T.df n
def Ty.av (T : Tab) : (t : Ty) → t.den T.E → AV
  | .int k, n => .int k n
  | .bool, b => .bool b
  | .str, s => .str s
  | .sl t, xs => .sl (t.sz T) false (xs.map (Ty.av T t))
  | .nm n, x => .ag (T.av n x)
def Leaf.av (T : Tab) : Leaf T.E → Option AV
  | .int k n => some (.int k n)
  | .bool b => some (.bool b)
  | .str s => some (.str s)
  | .sl t st xs => some (.sl (t.sz T) st (xs.map (t.av T)))
  | _ => none
def Ty.toL (T : Tab) : (t : Ty) → t.den T.E → List (Leaf T.E)
  | .int k, n => [.int k n]
  | .bool, b => [.bool b]
  | .str, s => [.str s]
  | .sl t, xs => [.sl t false xs]
  | .nm n, x => T.toL n x
def castT {E : Nat → Type} {t u : Ty} (h : t = u) (xs : List (t.den E)) : List (u.den E) := h ▸ xs
def Ty.ofL (T : Tab) : (t : Ty) → List (Leaf T.E) → Option (t.den T.E)
  | .int k, ls => match ls with
    | [.int k' n] => if k' = k then some n else none
    | _ => none
  | .bool, ls => match ls with
    | [.bool b] => some b
    | _ => none
  | .str, ls => match ls with
    | [.str s] => some s
    | _ => none
  | .sl t, ls => match ls with
    | [.sl t' _ xs] => if h : t' = t then some (castT h xs) else none
    | _ => none
  | .nm n, ls => T.ofL n ls
def coe1 {E : Nat → Type} (a b : Leaf E) : Prop :=
  a = b ∨ ∃ t st st' xs, a = .sl t st xs ∧ b = .sl t st' xs ∧ (st' = true → st = true ∨ xs ≠ [])
inductive Coe {E : Nat → Type} : List (Leaf E) → List (Leaf E) → Prop where
  | nil : Coe [] []
  | cons {a b l m} : coe1 a b → Coe l m → Coe (a :: l) (b :: m)
structure Tab.Ok (T : Tab) : Prop where
  av : ∀ n x, (T.toL n x).map (Leaf.av T) = (T.av n x).map some
  len : ∀ n x, (T.toL n x).length = T.sz n
  ofL : ∀ n ls x, T.ofL n ls = some x → Coe ls (T.toL n x)
inductive CV (E : Nat → Type) where
  | one (l : Leaf E)
  | ag (ls : List (Leaf E))
inductive SV (E : Nat → Type) where
  | cv (c : CV E)
  | tup (cs : List (CV E))
def CV.leaves {E : Nat → Type} : CV E → List (Leaf E)
  | .one l => [l]
  | .ag ls => ls
inductive RS where
  | opn | shut | mix (i j : Int)
inductive Box (E : Nat → Type) where
  | cells (ls : List (Leaf E))
  | arr (e : TypeId) (t : Ty) (xs : List (t.den E)) (ver : Nat) (fz : Bool)
  | rows (e e2 : TypeId) (t : Ty) (xss : List (List (t.den E))) (ver rv : Nat) (fz : RS)
  | map (k t : Ty) (l : List (k.den E × t.den E))
  | gone
def look.{u} {α : Type u} (k : Nat) : List (Nat × α) → Option α
  | [] => none
  | (j, x) :: r => if Nat.beq j k then some x else look k r
def put {α : Type} (k : Nat) (x : α) : List (Nat × α) → List (Nat × α)
  | [] => [(k, x)]
  | (j, y) :: r => if Nat.beq j k then (k, x) :: r else if Nat.blt k j then (k, x) :: (j, y) :: r else (j, y) :: put k x r
structure St (E : Nat → Type) where
  n : Nat
  slots : List (Nat × Option (SV E))
  boxes : List (Nat × Box E)
inductive TK where
  | int (k : IntKind) | bool | str
  | slice (elem : TypeId)
  | struct (fs : List (Nat × TypeId))
  | array (len : Nat) (elem : TypeId)
  | ptr (elem : TypeId)
  | map (key elem : TypeId)
  | func
  | other
  deriving DecidableEq
structure TI (E : Nat → Type) where
  kind : TK
  size : Nat
  bytes : Nat
  zero : List (Leaf E)
  ty : Ty
def TK.agg : TK → Bool
  | .struct _ | .array .. => true
  | _ => false
def HL (E : Nat → Type) : List Ty → Type
  | [] => Unit
  | t :: ts => t.den E × HL E ts
structure FS (E : Nat → Type) where
  args : List Ty
  res : List Ty
  argOwn : List TypeId
  resOwn : List (List (TypeId × TypeId))
  ρ : Type
  g : HL E args → Option ρ
  out : ρ → HL E res
def FS.f {E : Nat → Type} (S : FS E) (x : HL E S.args) : Option (HL E S.res) := (S.g x).map S.out
structure FW (E : Nat → Type) where
  e : TypeId
  t : Ty
  args : List Ty
  res : List Ty
  f : List (t.den E) → Int → Int → HL E args → Option (List (t.den E) × HL E res)
inductive Via where
  | ptr | clo (h : FuncId) | fn (h : FuncId)
def Via.val : Via → Value → Value
  | .ptr, v => v
  | .clo h, v => .func (.func h) #[] #[v]
  | .fn h, _ => .func (.func h) #[] #[]
def Via.isFn : Via → Bool
  | .fn _ => true
  | _ => false
def Via.leaf {E : Nat → Type} : Via → Leaf E → Leaf E
  | .ptr, l => l
  | .clo h, l => .clo h [l]
  | .fn h, _ => .clo h []
def Via.at {E : Nat → Type} : Via → Leaf E → Option (Leaf E)
  | .ptr, l => some l
  | .clo h, .clo h' [l] => if Nat.beq h h' then some l else none
  | .fn h, .clo h' [] => if Nat.beq h h' then some .nptr else none
  | _, _ => none
def castD {E : Nat → Type} {t u : Ty} (h : t = u) (x : t.den E) : u.den E := h ▸ x
structure FC (E : Nat → Type) where
  c : Ty
  args : List Ty
  res : List Ty
  ρ : Type
  g : c.den E → HL E args → Option ρ
  out : ρ → HL E res
  via : Via
def FC.f {E : Nat → Type} (S : FC E) (c : S.c.den E) (x : HL E S.args) : Option (HL E S.res) := (S.g c x).map S.out
def isFlat : Ty → Bool
  | .int _ | .bool | .str => true
  | _ => false
def CV.isAg {E : Nat → Type} : CV E → Bool
  | .ag _ => true
  | .one _ => false
def isNm : Ty → Bool
  | .nm _ => true
  | _ => false
def kqI (a b : Int) : Bool := decide (a = b)
def kqB (a b : Bool) : Bool := a == b
def kqS (a b : List UInt8) : Bool := decide (a = b)
def keyEq {E : Nat → Type} : (k : Ty) → k.den E → k.den E → Bool
  | .int _ => kqI
  | .bool => kqB
  | .str => kqS
  | _ => fun _ _ => false
def mget {α β : Type} (eq : α → α → Bool) (x : α) : List (α × β) → Option β
  | [] => none
  | (y, v) :: r => if eq x y then some v else mget eq x r
def mput {α β : Type} (eq : α → α → Bool) (x : α) (v : β) : List (α × β) → List (α × β)
  | [] => [(x, v)]
  | (y, w) :: r => if eq x y then (x, v) :: r else (y, w) :: mput eq x v r
def lastOf {α : Type} : List α → Option (List α × α)
  | [] => none
  | [a] => some ([], a)
  | a :: b :: r => match lastOf (b :: r) with
    | some (i, l) => some (a :: i, l)
    | none => none
structure Dyn (E : Nat → Type) where
  ts : List Ty
  x : HL E ts
structure FL (E : Nat → Type) where
  g : Nat → List (CV E) → List (Nat × Box E) → Option (List (CV E) × List (Nat × Box E))
structure Env where
  T : Tab
  ti : TypeId → Option (TI T.E)
  eqs : TypeId → Bool
  fs : FuncId → Option (FS T.E)
  ws : FuncId → Option (FW T.E)
  cs : FuncId → Option (FC T.E)
  ps : FuncId → Option (FL T.E)
  t0 : Bool      -- nothing writes the first slot
  base : Nat     -- where the numbers of the boxes that are made begin
abbrev Env.E (V : Env) := V.T.E
inductive Orc (E : Nat → Type) where
  | none
  | bit (b : Bool)
  | res (d : Dyn E)
  | own
  | lit
  | go      -- a call: what its telling reckons
structure Cd where
  p : Prop
  b : Bool
  h : b = true → p
@[reducible] def cd (p : Prop) [d : Decidable p] : Cd := ⟨p, decide p, of_decide_eq_true⟩
@[reducible] def cc (p : Prop) : Cd := ⟨p, false, fun h => Bool.noConfusion h⟩
inductive Todo (E : Nat → Type) where
  | fail
  | ret (v : Option (SV E)) (c : List Cd)
  | read (id : Nat) (k : Option (Box E) → Todo E)
  | write (id : Nat) (b : Box E) (k : Todo E)
def Todo.one {E : Nat → Type} (l : Leaf E) (c : List Cd := []) : Todo E := .ret (some (.cv (.one l))) c
def Todo.cv {E : Nat → Type} (a : CV E) (c : List Cd := []) : Todo E := .ret (some (.cv a)) c
def ofLeaves {E : Nat → Type} (agg : Bool) (ls : List (Leaf E)) : Option (CV E) :=
  match agg, ls with
  | true, ls => some (.ag ls)
  | false, [l] => some (.one l)
  | _, _ => none
def tcv {E : Nat → Type} (c : Option (CV E)) (p : List Cd := []) : Todo E :=
  match c with
  | some c => .cv c p
  | none => .fail
def setAt {α : Type} : List α → Nat → List α → Option (List α)
  | l, _, [] => some l
  | _ :: l, 0, x :: xs => (setAt l 0 xs).map (x :: ·)
  | y :: l, n + 1, x :: xs => (setAt l n (x :: xs)).map (y :: ·)
  | [], _, _ :: _ => none
def maxBytes : Nat := 140737488355328   -- 2^47
section
variable (V : Env)
def constSV (t : TypeId) : Value → Option (SV V.E)
  | .int k n => some (.cv (.one (.int k n)))
  | .bool b => some (.cv (.one (.bool b)))
  | .string s => some (.cv (.one (.str s.data.toList)))
  | .slice none 0 0 =>
    match V.ti t with
    | some ⟨.slice e, _, _, _, _⟩ =>
      match V.ti e with
      | some i => some (.cv (.one (.sl i.ty true [])))
      | none => none
    | _ => none
  | .pointer none => some (.cv (.one .nptr))
  | .nilFunc => some (.cv (.one .nfn))
  | _ => none
def slot (s : St V.E) (k : Nat) : Option (SV V.E) :=
  match look k s.slots with
  | some x => x
  | none => none
def slotT (s : St V.E) (k : Nat) : Option (SV V.E) :=
  match Nat.blt k 1000000 with
  | true => slot V s k
  | false => none
def opnd (s : St V.E) (t : TypeId) : Operand → Option (SV V.E)
  | .tmp k => slotT V s k
  | .const v => constSV V t v
  | .func f => some (.cv (.one (.clo f [])))
  | .global _ => none
def buildTypes (fs : List (Nat × TypeId)) : List (Nat × Operand) → List TypeId
  | [] => []
  | (i, _) :: r => ((fs[i]?).map (·.2)).getD 0 :: buildTypes fs r
def opTypes (o : Oper) : List TypeId :=
  match o.op with
  | .binOp _ t _ _ u => [t, u]
  | .store t _ _ => [t, t]
  | .box t _ => [t]
  | .mapUpdate t _ _ _ => match V.ti t with
    | some ⟨.map k e, _, _, _, _⟩ => [0, k, e]
    | _ => []
  | .insert t _ _ _ => match V.ti t with
    | some ⟨.map k e, _, _, _, _⟩ => [0, k, e]
    | _ => []
  | .makeSlice _ _ _ => [0, 0]
  | .build t ps => match V.ti t with
    | some ⟨.struct fs, _, _, _, _⟩ => buildTypes fs ps.toList
    | some ⟨.array _ e, _, _, _, _⟩ => ps.toList.map fun _ => e
    | _ => []
  | .buildSlice t _ ps => match V.ti t with
    | some ⟨.slice e, _, _, _, _⟩ => ps.toList.map fun _ => e
    | _ => []
  | .call c => match c.callee with
    | .builtin _ => c.argTypes.toList
    | _ => 0 :: c.argTypes.toList
  | _ => [o.type, o.type, o.type]
def opnds (s : St V.E) : List TypeId → List Operand → List (Option (SV V.E))
  | t :: ts, x :: xs => opnd V s t x :: opnds s ts xs
  | [], x :: xs => opnd V s 0 x :: opnds s [] xs
  | _, [] => []
def fieldPlace (fs : List (Nat × TypeId)) (i : Nat) : Option (Nat × Nat) :=
  match fs[i]? with
  | some (off, t) => match V.ti t with
    | some j => some (off, j.size)
    | none => none
  | none => none
def fillL {E : Nat → Type} (place : Nat → Option (Nat × Nat)) : List (Leaf E) → List (Nat × Option (SV E)) → Option (List (Leaf E))
  | cells, [] => some cells
  | cells, (i, some (.cv v)) :: r =>
    match place i with
    | some (off, size) =>
      if Nat.beq v.leaves.length size then
        match setAt cells off v.leaves with
        | some c => fillL place c r
        | none => none
      else none
    | none => none
  | _, _ => none
def elemOf (t : TypeId) : Option (TI V.E) :=
  match V.ti t with
  | some ⟨.slice e, _, _, _, _⟩ => V.ti e
  | _ => none
def elemIdOf (t : TypeId) : Option (TypeId × TI V.E) :=
  match V.ti t with
  | some ⟨.slice e, _, _, _, _⟩ => match V.ti e with
    | some i => some (e, i)
    | none => none
  | _ => none
def intBin (op : BinOp) (k : IntKind) (a b : Int) : Todo V.E :=
  match op with
  | .add => .one (.int k (k.wrap (a + b)))
  | .sub => .one (.int k (k.wrap (a - b)))
  | .mul => .one (.int k (k.wrap (a * b)))
  | .quo => .one (.int k (k.wrap (a.tdiv b))) [cd (b ≠ 0)]
  | .rem => .one (.int k (a.tmod b)) [cd (b ≠ 0)]
  | .and => .one (.int k (k.wrap (BitVec.ofInt k.bits a &&& BitVec.ofInt k.bits b).toNat))
  | .or => .one (.int k (k.wrap (BitVec.ofInt k.bits a ||| BitVec.ofInt k.bits b).toNat))
  | .xor => .one (.int k (k.wrap (BitVec.ofInt k.bits a ^^^ BitVec.ofInt k.bits b).toNat))
  | .eql => .one (.bool (decide (a = b)))
  | .neq => .one (.bool (!decide (a = b)))
  | .lss => .one (.bool (decide (a < b)))
  | .leq => .one (.bool (decide (a ≤ b)))
  | .gtr => .one (.bool (decide (b < a)))
  | .geq => .one (.bool (decide (b ≤ a)))
  | _ => .fail
def strBin (op : BinOp) (a b : List UInt8) : Todo V.E :=
  match op with
  | .add => .one (.str (a ++ b)) [cd (a.length + b.length ≤ maxBytes)]
  | .eql => .one (.bool (decide (a = b)))
  | .neq => .one (.bool (!decide (a = b)))
  | .lss => .one (.bool (Op.bytesLess a b))
  | .leq => .one (.bool (Op.bytesLess a b || decide (a = b)))
  | .gtr => .one (.bool !(Op.bytesLess a b || decide (a = b)))
  | .geq => .one (.bool !(Op.bytesLess a b))
  | _ => .fail
def eqL : List (Leaf V.E) → List (Leaf V.E) → Option Bool
  | [], [] => some true
  | .int k a :: l, .int k' b :: m => if k = k' then (eqL l m).map (decide (a = b) && ·) else none
  | .bool a :: l, .bool b :: m => (eqL l m).map ((a == b) && ·)
  | .str a :: l, .str b :: m => (eqL l m).map (decide (a = b) && ·)
  | _, _ => none
def likeB {E : Nat → Type} : List (Leaf E) → List (Leaf E) → Bool
  | [], [] => true
  | .int k _ :: z, .int k' _ :: l => decide (k = k') && likeB z l
  | .bool _ :: z, .bool _ :: l => likeB z l
  | .str _ :: z, .str _ :: l => likeB z l
  | _, _ => false
def nilCd {α : Type} (st : Bool) (xs : List α) : List Cd :=
  match st with
  | true => []
  | false => [cd (xs.isEmpty = false)]
def binTodo (op : BinOp) (t : TypeId) (a b : SV V.E) : Todo V.E :=
  match op, a, b with
  | .shl, .cv (.one (.int k x)), .cv (.one (.int _ y)) => .one (.int k (k.wrap (x * 2 ^ min y.toNat k.bits))) [cd (0 ≤ y)]
  | .shr, .cv (.one (.int k x)), .cv (.one (.int _ y)) => .one (.int k (x.fdiv (2 ^ min y.toNat k.bits))) [cd (0 ≤ y)]
  | op, .cv (.one (.int k x)), .cv (.one (.int k' y)) => if k = k' then intBin V op k x y else .fail
  | op, .cv (.one (.str x)), .cv (.one (.str y)) => strBin V op x y
  | .eql, .cv (.one (.bool x)), .cv (.one (.bool y)) => match V.ti t with
    | some ⟨.bool, _, _, _, _⟩ => .one (.bool (x == y))
    | _ => .fail
  | .neq, .cv (.one (.bool x)), .cv (.one (.bool y)) => match V.ti t with
    | some ⟨.bool, _, _, _, _⟩ => .one (.bool !(x == y))
    | _ => .fail
  | .eql, .cv (.one (.sl _ st xs)), .cv (.one (.sl _ true [])) => match V.ti t with
    | some ⟨.slice _, _, _, _, _⟩ => .one (.bool xs.isEmpty) (nilCd st xs)
    | _ => .fail
  | .neq, .cv (.one (.sl _ st xs)), .cv (.one (.sl _ true [])) => match V.ti t with
    | some ⟨.slice _, _, _, _, _⟩ => .one (.bool !xs.isEmpty) (nilCd st xs)
    | _ => .fail
  | .eql, .cv (.one (.ar id ver)), .cv (.one (.sl _ true [])) => match V.ti t with
    | some ⟨.slice _, _, _, _, _⟩ => .read id fun
      | some (.arr _ _ xs v _) => if Nat.beq ver v then .one (.bool false) [cd (xs.isEmpty = false)] else .fail
      | _ => .fail
    | _ => .fail
  | .eql, .cv (.ag l), .cv (.ag m) => match eqL V l m, V.eqs t, V.ti t with
    | some b, true, some i => if likeB i.zero l then .one (.bool b) else .fail
    | _, _, _ => .fail
  | .neq, .cv (.ag l), .cv (.ag m) => match eqL V l m, V.eqs t, V.ti t with
    | some b, true, some i => if likeB i.zero l then .one (.bool (!b)) else .fail
    | _, _, _ => .fail
  | _, _, _ => .fail
def unTodo (op : UnOp) (a : SV V.E) : Todo V.E :=
  match op, a with
  | .neg, .cv (.one (.int k x)) => .one (.int k (k.wrap (0 - x)))
  | .not, .cv (.one (.bool x)) => .one (.bool !x)
  | _, _ => .fail
def convTodo (src dst : Option (TI V.E)) (a : SV V.E) : Todo V.E :=
  match src, dst, a with
  | some ⟨.int _, _, _, _, _⟩, some ⟨.int k, _, _, _, _⟩, .cv (.one (.int _ n)) => .one (.int k (k.wrap n))
  | some ⟨.str, _, _, _, _⟩, some ⟨.str, _, _, _, _⟩, .cv (.one (.str s)) => .one (.str s)
  | _, _, _ => .fail
def part (agg : Bool) (size : Nat) (off : Nat) (ls : List (Leaf V.E)) : Todo V.E :=
  if Nat.ble (off + size) ls.length then tcv (ofLeaves agg ((ls.drop off).take size)) else .fail
def loadTodo (i : TI V.E) (a : SV V.E) : Todo V.E :=
  match a with
  | .cv (.one (.ptr id off)) => .read id fun
    | some (.cells ls) => part V i.kind.agg i.size off ls
    | _ => .fail
  | .cv (.one (.cp t x off)) => if Nat.ble (off + i.size) (t.sz V.T) then tcv (ofLeaves i.kind.agg (((t.toL V.T x).drop off).take i.size)) else .fail
  | .cv (.one (.ep id ver j off)) => .read id fun
    | some (.arr _ t xs v _) =>
      if Nat.beq ver v && Nat.ble (off + i.size) (t.sz V.T) then tcv (ofLeaves i.kind.agg (((t.toL V.T (xs.getD j.toNat (t.df V.T))).drop off).take i.size)) else .fail
    | some (.rows _ _ t xss v rv fz) => if Nat.beq ver v && Nat.beq off 0 && !i.kind.agg then (match fz with | .shut => .one (.sl t false (xss.getD j.toNat [])) | .opn => .one (.row id ver rv j) | .mix .. => .fail) else .fail
    | _ => .fail
  | .cv (.one (.rp id ver rv j k off)) => .read id fun
    | some (.rows _ _ t xss v rv' .opn) =>
      if Nat.beq ver v && Nat.beq rv rv' && Nat.ble (off + i.size) (t.sz V.T) then
        tcv (ofLeaves i.kind.agg (((t.toL V.T ((xss.getD j.toNat []).getD k.toNat (t.df V.T))).drop off).take i.size)) else .fail
    | _ => .fail
  | _ => .fail
def done : Todo V.E := .ret none []
def storeTodo (i : TI V.E) (a v : SV V.E) : Todo V.E :=
  match a, v with
  | .cv (.one (.ptr id off)), .cv c => .read id fun
    | some (.cells ls) =>
      if Nat.beq c.leaves.length i.size then
        match setAt ls off c.leaves with
        | some ls' => .write id (.cells ls') (done V)
        | none => .fail
      else .fail
    | _ => .fail
  | .cv (.one (.ep id ver j off)), .cv c => .read id fun
    | some (.arr e t xs v false) =>
      if Nat.beq ver v && Nat.beq c.leaves.length i.size then
        match setAt (t.toL V.T (xs.getD j.toNat (t.df V.T))) off c.leaves with
        | some ls => match t.ofL V.T ls with
          | some y => .write id (.arr e t (xs.set j.toNat y) v false) (done V)
          | none => .fail
        | none => .fail
      else .fail
    | some (.rows e e2 t xss v rv .opn) =>
      match c with
      | .one (.ar id2 ver2) => .read id2 fun
        | some (.arr e3 t2 ys v2 false) =>
          if Nat.beq ver v && Nat.beq ver2 v2 && Nat.beq off 0 && !(Nat.beq id id2) && Nat.beq e3 e2 && Nat.beq i.size 1 then
            if h : t2 = t then .write id2 .gone (.write id (.rows e e2 t (xss.set j.toNat (castT h ys)) v (rv + 1) .opn) (done V)) else .fail
          else .fail
        | _ => .fail
      | .one (.row id2 ver2 rv2 k) =>
        if Nat.beq ver v && Nat.beq off 0 && Nat.beq i.size 1 then
          if Nat.beq id id2 then
            if Nat.beq ver2 v && Nat.beq rv2 rv then .write id (.rows e e2 t xss v rv (.mix j k)) (done V) else .fail
          else .read id2 fun
          | some (.rows _ e4 t2 yss v2 rv' .opn) =>
            if Nat.beq ver2 v2 && Nat.beq rv2 rv' && Nat.beq e4 e2 then
              if h : t2 = t then .write id2 .gone (.write id (.rows e e2 t (xss.set j.toNat (castT h (yss.getD k.toNat []))) v (rv + 1) .opn) (done V)) else .fail
            else .fail
          | _ => .fail
        else .fail
      | _ => .fail
    | some (.rows e e2 t xss v rv (.mix a b)) =>
      match c with
      | .one (.row id2 ver2 rv2 k) =>
        if Nat.beq ver v && Nat.beq ver2 v && Nat.beq off 0 && Nat.beq id id2 && Nat.beq rv2 rv && Nat.beq i.size 1 then
          .write id (.rows e e2 t ((xss.set a.toNat (xss.getD b.toNat [])).set b.toNat (xss.getD a.toNat [])) v (rv + 1) .opn) (.ret none [cd (j = b), cd (k = a)]) else .fail
      | _ => .fail
    | _ => .fail
  | .cv (.one (.rp id ver rv j k off)), .cv c => .read id fun
    | some (.rows e e2 t xss v rv' .opn) =>
      if Nat.beq ver v && Nat.beq rv rv' && Nat.beq c.leaves.length i.size then
        match setAt (t.toL V.T ((xss.getD j.toNat []).getD k.toNat (t.df V.T))) off c.leaves with
        | some ls => match t.ofL V.T ls with
          | some y => .write id (.rows e e2 t (xss.set j.toNat ((xss.getD j.toNat []).set k.toNat y)) v rv .opn) (done V)
          | none => .fail
        | none => .fail
      else .fail
    | _ => .fail
  | _, _ => .fail
def inRange (i : Int) (n : Nat) : Prop := 0 ≤ i ∧ i < n
instance (i : Int) (n : Nat) : Decidable (inRange i n) := inferInstanceAs (Decidable (0 ≤ i ∧ i < n))
def indexAddrTodo (et : Ty) (a ix : SV V.E) : Todo V.E :=
  match a, ix with
  | .cv (.one (.sl t _ xs)), .cv (.one (.int _ i)) => if t = et then .one (.cp t (xs.getD i.toNat (t.df V.T)) 0) [cd (inRange i xs.length)] else .fail
  | .cv (.one (.ar id ver)), .cv (.one (.int _ i)) => .read id fun
    | some (.arr _ t xs v _) => if Nat.beq ver v && decide (t = et) then .one (.ep id ver i 0) [cd (inRange i xs.length)] else .fail
    | some (.rows _ _ _ xss v _ _) => if Nat.beq ver v && Nat.beq (et.sz V.T) 1 then .one (.ep id ver i 0) [cd (inRange i xss.length)] else .fail
    | _ => .fail
  | .cv (.one (.win id ver o n)), .cv (.one (.int _ i)) => .read id fun
    | some (.arr _ t _ v _) => if Nat.beq ver v && decide (t = et) then .one (.ep id ver (o + i) 0) [cd (0 ≤ i), cd (i < n)] else .fail
    | _ => .fail
  | .cv (.one (.row id ver rv j)), .cv (.one (.int _ i)) => .read id fun
    | some (.rows _ _ t xss v rv' .opn) => if Nat.beq ver v && Nat.beq rv rv' && decide (t = et) then .one (.rp id ver rv j i 0) [cd (inRange i (xss.getD j.toNat []).length)] else .fail
    | _ => .fail
  | _, _ => .fail
def fieldAddrTodo (off : Nat) (a : SV V.E) : Todo V.E :=
  match a with
  | .cv (.one (.ptr id o)) => .read id fun
    | some (.cells _) => .one (.ptr id (o + off))
    | _ => .fail
  | .cv (.one (.cp t x o)) => .one (.cp t x (o + off))
  | .cv (.one (.ep id ver i o)) => .read id fun
    | some (.arr _ _ _ v _) => if Nat.beq ver v then .one (.ep id ver i (o + off)) else .fail
    | _ => .fail
  | .cv (.one (.rp id ver rv i k o)) => .read id fun
    | some (.rows _ _ _ _ v rv' _) => if Nat.beq ver v && Nat.beq rv rv' then .one (.rp id ver rv i k (o + off)) else .fail
    | _ => .fail
  | _ => .fail
def lenTodo (k : TK) (a : SV V.E) : Todo V.E :=
  match k, a with
  | .str, .cv (.one (.str s)) => .one (.int .i64 s.length)
  | .slice _, .cv (.one (.sl _ _ xs)) => .one (.int .i64 xs.length)
  | .slice _, .cv (.one (.ar id ver)) => .read id fun
    | some (.arr _ _ xs v _) => if Nat.beq ver v then .one (.int .i64 xs.length) else .fail
    | some (.rows _ _ _ xss v _ _) => if Nat.beq ver v then .one (.int .i64 xss.length) else .fail
    | _ => .fail
  | .slice _, .cv (.one (.win id ver _ n)) => .read id fun
    | some (.arr _ _ _ v _) => if Nat.beq ver v then .one (.int .i64 n) else .fail
    | _ => .fail
  | .slice _, .cv (.one (.row id ver rv j)) => .read id fun
    | some (.rows _ _ _ xss v rv' .opn) => if Nat.beq ver v && Nat.beq rv rv' then .one (.int .i64 (xss.getD j.toNat []).length) else .fail
    | _ => .fail
  | _, _ => .fail
def frz : List (Leaf V.E) → (List (Leaf V.E) → Todo V.E) → Todo V.E
  | [], k => k []
  | .ar id ver :: r, k => .read id fun
    | some (.arr e t xs v fz) => if Nat.beq ver v then
        (if fz then frz r fun ls => k (.sl t false xs :: ls) else .write id (.arr e t xs v true) (frz r fun ls => k (.sl t false xs :: ls))) else .fail
    | some (.rows e e2 t xss v rv fz) => if Nat.beq ver v then
        (match fz with | .shut => frz r fun ls => k (.sl (.sl t) false xss :: ls) | .opn => .write id (.rows e e2 t xss v rv .shut) (frz r fun ls => k (.sl (.sl t) false xss :: ls)) | .mix .. => .fail) else .fail
    | _ => .fail
  | l :: r, k => frz r fun ls => k (l :: ls)
def keyKind : TK → Ty → Bool
  | .int k, .int k' => decide (k = k')
  | .bool, .bool => true
  | .str, .str => true
  | _, _ => false
def mapOf (t : TypeId) : Option (TI V.E × TI V.E) :=
  match V.ti t with
  | some ⟨.map k e, _, _, _, _⟩ => match V.ti k, V.ti e with
    | some i, some j => if keyKind i.kind i.ty && (isNm j.ty == j.kind.agg) then some (i, j) else none
    | _, _ => none
  | _ => none
def lookupTodo (i j : TI V.E) (a x : SV V.E) (ok : Bool) : Todo V.E :=
  match a, x with
  | .cv (.one (.mp id)), .cv (.one key) => .read id fun
    | some (.map k t l) => if decide (k = i.ty) && decide (t = j.ty) then
        match k.ofL V.T [key], t.ofL V.T j.zero with
        | some kx, some z => match ofLeaves j.kind.agg (t.toL V.T ((mget (keyEq k) kx l).getD z)) with
          | some c => if ok then .ret (some (.tup [c, .one (.bool (mget (keyEq k) kx l).isSome)])) [] else .cv c
          | none => .fail
        | _, _ => .fail
      else .fail
    | _ => .fail
  | _, _ => .fail
def updateTodo (i j : TI V.E) (a x v : SV V.E) : Todo V.E :=
  match a, x, v with
  | .cv (.one (.mp id)), .cv (.one key), .cv c => frz V c.leaves fun ls => .read id fun
    | some (.map k t l) => if decide (k = i.ty) && decide (t = j.ty) && (c.isAg == j.kind.agg) then
        match k.ofL V.T [key], t.ofL V.T ls with
        | some kx, some y => .write id (.map k t (mput (keyEq k) kx y l)) (done V)
        | _, _ => .fail
      else .fail
    | _ => .fail
  | _, _, _ => .fail
def newBox (id : Nat) (b : Box V.E) (k : Todo V.E) : Todo V.E := .read id fun
  | none => .write id b k
  | some _ => .fail
def chunks (t : Ty) (sz : Nat) : Nat → List (Leaf V.E) → Option (List (t.den V.E))
  | 0, [] => some []
  | n + 1, ls =>
    match t.ofL V.T (ls.take sz) with
    | some x => match chunks t sz n (ls.drop sz) with
      | some r => some (x :: r)
      | none => none
    | none => none
  | _, _ => none
def repeatL {α : Type} (l : List α) : Nat → List α
  | 0 => []
  | n + 1 => l ++ repeatL l n
def appendTodo (dst : Nat) (e : TypeId) (i : TI V.E) (a b : SV V.E) : Todo V.E :=
  match a, b with
  | .cv (.one (.sl t true [])), .cv (.one (.sl t' _ ys)) =>
    if h : t' = t then if t = i.ty then newBox V dst (.arr e t (castT h ys) 0 false) (.one (.ar dst 0) [cd (ys.length * i.bytes ≤ maxBytes)]) else .fail else .fail
  | .cv (.one (.ar id ver)), .cv (.one (.sl t' _ ys)) => .read id fun
    | some (.arr e' t xs v false) =>
      if Nat.beq ver v && Nat.beq e' e && decide (t = i.ty) then
        if h : t' = t then .write id (.arr e t (xs ++ castT h ys) (v + 1) false) (.one (.ar id (v + 1)) [cd ((xs.length + ys.length) * i.bytes ≤ maxBytes)]) else .fail
      else .fail
    | _ => .fail
  | .cv (.one (.ar id ver)), .cv (.one (.bs [.ar id2 ver2])) => .read id fun
    | some (.rows e' e2 t xss v rv .opn) => .read id2 fun
      | some (.arr e3 t2 ys v2 false) =>
        if Nat.beq ver v && Nat.beq ver2 v2 && !(Nat.beq id id2) && Nat.beq e' e && Nat.beq e3 e2 && Nat.beq i.size 1 then
          if h : t2 = t then .write id2 .gone (.write id (.rows e e2 t (xss ++ [castT h ys]) (v + 1) rv .opn) (.one (.ar id (v + 1)) [cd ((xss.length + 1) * i.bytes ≤ maxBytes)])) else .fail
        else .fail
      | _ => .fail
    | _ => .fail
  | _, _ => .fail
def appendF (dst : Nat) (e : TypeId) (i : TI V.E) (a x : SV V.E) : Todo V.E :=
  match x with
  | .cv (.one (.ar id ver)) => frz V [.ar id ver] fun
    | [l] => appendTodo V dst e i a (.cv (.one l))
    | _ => .fail
  | x => appendTodo V dst e i a x
def sliceTodo (k : TK) (et : Option Ty) (a : SV V.E) (lo hi : Option Int) : Todo V.E :=
  match k, et, a with
  | .str, _, .cv (.one (.str s)) =>
    .one (.str ((s.drop (lo.getD 0).toNat).take ((hi.getD s.length).toNat - (lo.getD 0).toNat))) [cd (0 ≤ lo.getD 0), cd (lo.getD 0 ≤ hi.getD s.length), cd (hi.getD s.length ≤ s.length)]
  | .slice _, some et, .cv (.one (.sl t _ xs)) => if t = et then
    .one (.sl t false ((xs.drop (lo.getD 0).toNat).take ((hi.getD xs.length).toNat - (lo.getD 0).toNat))) [cd (0 ≤ lo.getD 0), cd (lo.getD 0 ≤ hi.getD xs.length), cd (hi.getD xs.length ≤ xs.length)] else .fail
  | .slice _, some et, .cv (.one (.ar id ver)) => .read id fun
    | some (.arr e t xs v false) => if Nat.beq ver v && decide (t = et) then
        match lo with
        | none => .write id (.arr e t (xs.take (hi.getD xs.length).toNat) (v + 1) false) (.one (.ar id (v + 1)) [cd (0 ≤ hi.getD xs.length), cd (hi.getD xs.length ≤ xs.length)])
        | some l => .one (.win id ver l (hi.getD xs.length - l)) [cd (0 ≤ l), cd (l < hi.getD xs.length), cd (hi.getD xs.length ≤ xs.length)]
      else .fail
    | _ => .fail
  | _, _, _ => .fail
def argsOf (T : Tab) : (ts : List Ty) → List (Bool × List (Leaf T.E)) → Option (HL T.E ts)
  | [], [] => some ()
  | t :: ts, (a, l) :: ls =>
    if a == isNm t then
      match t.ofL T l with
      | some x => match argsOf T ts ls with
        | some r => some (x, r)
        | none => none
      | none => none
    else none
  | _, _ => none
def ownLeaves (id : Nat) : List (TypeId × TypeId) → List (Leaf V.E) → (List (Leaf V.E) → Todo V.E) → Todo V.E
  | _, [], k => k []
  | (0, _) :: os, l :: r, k => ownLeaves (id + 1000) os r fun ls => k (l :: ls)
  | (e, 0) :: os, .sl t _ xs :: r, k => newBox V id (.arr e t xs 0 false) (ownLeaves (id + 1000) os r fun ls => k (.ar id 0 :: ls))
  | (e, e2) :: os, .sl (.sl t) _ xss :: r, k => newBox V id (.rows e e2 t xss 0 0 .opn) (ownLeaves (id + 1000) os r fun ls => k (.ar id 0 :: ls))
  | [], l :: r, k => ownLeaves (id + 1000) [] r fun ls => k (l :: ls)
  | _, _, _ => .fail
def resCV (id : Nat) (own : List (List (TypeId × TypeId))) : (ts : List Ty) → HL V.E ts → (List (CV V.E) → Todo V.E) → Todo V.E
  | [], _, k => k []
  | t :: ts, (x, r), k =>
    let go (ls : List (Leaf V.E)) : Todo V.E := match ofLeaves (isNm t) ls with
      | some c => resCV (id + 10000) (own.drop 1) ts r fun cs => k (c :: cs)
      | none => .fail
    ownLeaves V id (own.headD []) (t.toL V.T x) go
def giveAll : List TypeId → List (CV V.E) → (List (Bool × List (Leaf V.E)) → Todo V.E) → Todo V.E
  | _, [], k => k []
  | 0 :: os, c :: r, k => frz V c.leaves fun l => giveAll os r fun r' => k ((c.isAg, l) :: r')
  | (e + 1) :: os, .one (.ar id ver) :: r, k => .read id fun
    | some (.arr e' t xs v false) => if Nat.beq ver v && Nat.beq e' (e + 1) then .write id .gone (giveAll os r fun r' => k ((false, [.sl t false xs]) :: r')) else .fail
    | _ => .fail
  | [], c :: r, k => frz V c.leaves fun l => giveAll [] r fun r' => k ((c.isAg, l) :: r')
  | _, _, _ => .fail
def dynIs (E : Nat → Type) (ts : List Ty) (d : Dyn E) : Option (HL E ts) :=
  if h : d.ts = ts then some (h ▸ d.x) else none
def cvsOf : List (Option (SV V.E)) → Option (List (CV V.E))
  | [] => some []
  | some (.cv c) :: r => match cvsOf r with
    | some ls => some (c :: ls)
    | none => none
  | _ => none
def onesOf : List (Option (SV V.E)) → Option (List (Leaf V.E))
  | [] => some []
  | some (.cv (.one l)) :: r => match onesOf r with
    | some ls => some (l :: ls)
    | none => none
  | _ => none
def retCV (p : List Cd) : List (CV V.E) → Todo V.E
  | [c] => .cv c p
  | cs => .ret (some (.tup cs)) p
def callwTodo (dst : Nat) (S : Option (FW V.E)) (args : List (CV V.E)) (d : Dyn V.E) : Todo V.E :=
  match S, args with
  | some S, .one (.win id ver i n) :: rest =>
    giveAll V [] rest fun ls => .read id fun
      | some (.arr e t xs v false) =>
        if Nat.beq ver v && Nat.beq e S.e then
          if h : t = S.t then
            match argsOf V.T S.args ls, dynIs V.E (.sl S.t :: S.res) d with
            | some x, some y => resCV V dst [] S.res y.2 fun cs => .write id (.arr e S.t y.1 v false) (retCV V [cc (S.f (castT h xs) i n x = some (y.1, y.2)), cd (y.1.length = xs.length)] cs)
            | _, _ => .fail
          else .fail
        else .fail
      | _ => .fail
  | _, _ => .fail
def callcTodo (dst : Nat) (S : Option (FC V.E)) (args : List (CV V.E)) (d : Dyn V.E) : Todo V.E :=
  match S, lastOf args with
  | some S, some (rest, .one l) =>
    giveAll V [] rest fun ls => match argsOf V.T S.args ls, dynIs V.E S.res d, S.via.at l with
      | some x, some y, some (.ptr id off) => .read id fun
        | some (.cells cl) => match S.c.ofL V.T ((cl.drop off).take (S.c.sz V.T)) with
          | some c => if S.res.all isFlat then resCV V dst [] S.res y (retCV V [cc (S.f c x = some y)]) else .fail
          | none => .fail
        | _ => .fail
      | some x, some y, some (.cp t z 0) => if h : t = S.c then resCV V dst [] S.res y (retCV V [cc (S.f (castD h z) x = some y)]) else .fail
      | some x, some y, some .nptr => if S.via.isFn then resCV V dst [] S.res y (retCV V [cc (S.f (S.c.df V.T) x = some y)]) else .fail
      | _, _, _ => .fail
  | _, _ => .fail
mutual
def noId {E : Nat → Type} : Leaf E → Bool
  | .int _ _ | .bool _ | .str _ | .sl _ _ _ | .cp _ _ _ | .nptr | .nfn | .nmp => true
  | .clo _ ls => noIds ls
  | _ => false
def noIds {E : Nat → Type} : List (Leaf E) → Bool
  | [] => true
  | l :: ls => noId l && noIds ls
end
def noIdCs {E : Nat → Type} : List (CV E) → Bool
  | [] => true
  | c :: cs => noIds c.leaves && noIdCs cs
def CV.turn {E : Nat → Type} : CV E → List (Leaf E) → CV E
  | .one _, [l] => .one l
  | _, ls => .ag ls
def frzCs : List (CV V.E) → (List (CV V.E) → Todo V.E) → Todo V.E
  | [], k => k []
  | c :: r, k => frz V c.leaves fun ls => frzCs r fun cs => k (c.turn ls :: cs)
def newAll : List (Nat × Box V.E) → Todo V.E → Todo V.E
  | [], k => k
  | (id, b) :: r, k => newBox V id b (newAll r k)
def callpTodo (dst : Nat) (S : Option (FL V.E)) (args : List (CV V.E)) : Todo V.E :=
  match S with
  | some S => frzCs V args fun as => match noIdCs as, S.g ((dst + 1) * 4096) as [] with
    | true, some (res, bx) => newAll V bx (retCV V [] res)
    | _, _ => .fail
  | none => .fail
def toldRes (S : FS V.E) (o : Orc V.E) (x : HL V.E S.args) : Option (HL V.E S.res × List Cd) :=
  match o with
  | .res d => match dynIs V.E S.res d with
    | some y => some (y, [cc (S.f x = some y)])
    | none => none
  | .go => match S.g x with
    | some z => some (S.out z, [])
    | none => none
  | _ => none
def callTodo (dst : Nat) (f : FuncId) (args : List (CV V.E)) (o : Orc V.E) : Todo V.E :=
  match V.fs f with
  | some S =>
    giveAll V S.argOwn args fun ls =>
      match argsOf V.T S.args ls with
      | some x => match toldRes V S o x with
        | some (y, c) => resCV V dst S.resOwn S.res y (retCV V c)
        | none => .fail
      | none => .fail
  | none => match o with
    | .res d => match V.ws f with
      | some S => callwTodo V dst (some S) args d
      | none => callcTodo V dst (V.cs f) args d
    | .go => callpTodo V dst (V.ps f) args
    | _ => .fail
def copyTodo (i : TI V.E) (a b : SV V.E) : Todo V.E :=
  match a, b with
  | .cv (.one (.ar id ver)), .cv (.one l) => frz V [l] fun
    | [.sl t' _ ys] => .read id fun
      | some (.arr e t xs v false) => if Nat.beq ver v && decide (t = i.ty) then
          if h : t' = t then .write id (.arr e t (castT h ys) v false) (.one (.int .i64 ys.length) [cd (ys.length = xs.length)]) else .fail
        else .fail
      | _ => .fail
    | _ => .fail
  | _, _ => .fail
def builtinTodo (dst : Nat) (b : Builtin) (ats : List TypeId) (args : List (Option (SV V.E))) : Todo V.E :=
  match b, args with
  | .len, [some a] => match ats with
    | t :: _ => match V.ti t with
      | some i => lenTodo V i.kind a
      | none => .fail
    | [] => .fail
  | .append, [some a, some x] => match ats with
    | [t, u] => match V.ti t, V.ti u with
      | some ⟨.slice e, _, _, _, _⟩, some ⟨.slice _, _, _, _, _⟩ => match V.ti e with
        | some i => appendF V dst e i a x
        | none => .fail
      | _, _ => .fail
    | _ => .fail
  | .copy, [some a, some x] => match ats with
    | [t, u] => match V.ti t, V.ti u with
      | some ⟨.slice e, _, _, _, _⟩, some ⟨.slice _, _, _, _, _⟩ => match V.ti e with
        | some i => copyTodo V i a x
        | none => .fail
      | _, _ => .fail
    | _ => .fail
  | .min, [some (.cv (.one (.int k a))), some (.cv (.one (.int k' b)))] => if k = k' then .one (.int k (if b < a then b else a)) else .fail
  | .max, [some (.cv (.one (.int k a))), some (.cv (.one (.int k' b)))] => if k = k' then .one (.int k (if a < b then b else a)) else .fail
  | _, _ => .fail
def makeTodo (dst : Nat) (e : TypeId) (i : TI V.E) (own : Bool) (l c : Int) : Todo V.E :=
  match i.ty.ofL V.T i.zero with
  | some z =>
    match i.kind, i.ty, z, own with
    | .slice e2, .sl t, z, true => newBox V dst (.rows e e2 t (List.replicate l.toNat z) 0 0 .opn) (.one (.ar dst 0) [cd (0 ≤ l), cd (l ≤ c), cd (c * i.bytes ≤ maxBytes)])
    | _, _, _, _ => newBox V dst (.arr e i.ty (List.replicate l.toNat z) 0 false) (.one (.ar dst 0) [cd (0 ≤ l), cd (l ≤ c), cd (c * i.bytes ≤ maxBytes)])
  | none => .fail
def zipParts : List (Nat × Operand) → List (Option (SV V.E)) → List (Nat × Option (SV V.E))
  | (i, _) :: r, v :: vs => (i, v) :: zipParts r vs
  | _, _ => []
def builtTodo (dst : Nat) (e : TypeId) (i : TI V.E) (n : Nat) (q : Orc V.E) (ls : List (Leaf V.E)) : Todo V.E :=
  match q, ls with
  | .own, [l] => .one (.bs [l])
  | .lit, ls => frz V ls fun ls => match chunks V i.ty i.size n ls with
    | some xs => newBox V dst (.arr e i.ty xs 0 false) (.one (.ar dst 0))
    | none => .fail
  | _, _ => frz V ls fun ls => match chunks V i.ty i.size n ls with
    | some xs => .one (.sl i.ty false xs)
    | none => .fail
def core (dst : Nat) (o : Oper) (vs : List (Option (SV V.E))) (q : Orc V.E) : Todo V.E :=
  match o.op, vs with
  | .move _, [some v] => .ret (some v) []
  | .assign _, [some v] => .ret (some v) []
  | .pick .., [some (.cv (.one (.bool b))), x, y] =>
    match q with
    | .bit d => match if d then x else y with
      | some v => .ret (some v) [cd (b = d)]
      | none => .fail
    | _ => match x, y with
      | some (.cv (.one (.bool x))), some (.cv (.one (.bool y))) => .one (.bool (if b then x else y))
      | _, _ => .fail
  | .alloc t, [] => match V.ti t with
    | some i => newBox V dst (.cells i.zero) (.one (.ptr dst 0))
    | none => .fail
  | .box t _, [some (.cv c)] => match V.ti t with
    | some _ => newBox V dst (.cells c.leaves) (.one (.ptr dst 0))
    | none => .fail
  | .build t ps, vs => match V.ti t with
    | some ⟨.struct fs, _, _, z, _⟩ => if fs.all (fun x => (V.ti x.2).isSome) then match fillL (fieldPlace V fs) z (zipParts V ps.toList vs) with
      | some ls => .cv (.ag ls)
      | none => .fail
      else .fail
    | _ => .fail
  | .buildSlice t n ps, vs => match elemIdOf V t with
    | some (e, i) => if Nat.ble (n * i.size) 16777216 then
      match fillL (fun k => some (k * i.size, i.size)) (repeatL i.zero n) (zipParts V ps.toList vs) with
      | some ls =>
        builtTodo V dst e i n q ls
      | none => .fail
      else .fail
    | none => .fail
  | .load t _, [some a] => match V.ti t with
    | some i => loadTodo V i a
    | none => .fail
  | .store t _ _, [some a, some v] => match V.ti t with
    | some i => storeTodo V i a v
    | none => .fail
  | .nilCheck _, [some (.cv (.one (.ptr id off)))] => .read id fun
    | some (.cells _) => .one (.ptr id off)
    | _ => .fail
  | .binOp op t _ _ _, [some a, some b] => binTodo V op t a b
  | .unOp op _ _, [some a] => unTodo V op a
  | .convert u d _, [some a] => convTodo V (V.ti u) (V.ti d) a
  | .makeFunc (.func f) fi _, vs => if fi.isEmpty then match onesOf V vs with
      | some ls => .one (.clo f ls)
      | none => .fail
    else .fail
  | .makeSlice t _ _, [some (.cv (.one (.int _ l))), some (.cv (.one (.int _ c)))] => match V.ti t with
    | some ⟨.slice e, _, _, _, _⟩ => match V.ti e with
      | some i => makeTodo V dst e i (match q with | .own => true | _ => false) l c
      | none => .fail
    | _ => .fail
  | .slice t _ none none none, [some a] => match V.ti t with
    | some i => sliceTodo V i.kind ((elemOf V t).map (·.ty)) a none none
    | none => .fail
  | .slice t _ (some _) none none, [some a, some (.cv (.one (.int _ l)))] => match V.ti t with
    | some i => sliceTodo V i.kind ((elemOf V t).map (·.ty)) a (some l) none
    | none => .fail
  | .slice t _ none (some _) none, [some a, some (.cv (.one (.int _ h)))] => match V.ti t with
    | some i => sliceTodo V i.kind ((elemOf V t).map (·.ty)) a none (some h)
    | none => .fail
  | .slice t _ (some _) (some _) none, [some a, some (.cv (.one (.int _ l))), some (.cv (.one (.int _ h)))] => match V.ti t with
    | some i => sliceTodo V i.kind ((elemOf V t).map (·.ty)) a (some l) (some h)
    | none => .fail
  | .fieldAddr s _ f, [some a] => match V.ti s with
    | some ⟨.struct fs, _, _, _, _⟩ => match fieldPlace V fs f with
      | some (off, size) => if Nat.beq size 0 then .fail else fieldAddrTodo V off a
      | none => .fail
    | _ => .fail
  | .field s _ f, [some (.cv (.ag ls))] => match V.ti s with
    | some ⟨.struct fs, _, _, _, _⟩ => match fs[f]? with
      | some (off, t) => match V.ti t with
        | some i => part V i.kind.agg i.size off ls
        | none => .fail
      | none => .fail
    | _ => .fail
  | .indexAddr t _ _, [some a, some i] => match elemOf V t with
    | some j => indexAddrTodo V j.ty a i
    | none => .fail
  | .index t _ _, [some (.cv (.one (.str s))), some (.cv (.one (.int _ i)))] => match V.ti t with
    | some ⟨.str, _, _, _, _⟩ => .one (.int .u8 (s.getD i.toNat 0).toNat) [cd (inRange i s.length)]
    | _ => .fail
  | .makeMap t none, [] => match mapOf V t with
    | some (i, j) => newBox V dst (.map i.ty j.ty []) (.one (.mp dst))
    | none => .fail
  | .lookup t _ _ ok, [some a, some x] => match mapOf V t with
    | some (i, j) => lookupTodo V i j a x ok
    | none => .fail
  | .mapUpdate t _ _ _, [some a, some x, some v] => match mapOf V t with
    | some (i, j) => updateTodo V i j a x v
    | none => .fail
  | .insert t _ _ _, [some a, some x, some v] => match mapOf V t with
    | some (i, j) => updateTodo V i j a x v
    | none => .fail
  | .extract _ n, [some (.tup cs)] => tcv cs[n]?
  | .call c, vs => match c.callee, vs with
    | .builtin b, vs => builtinTodo V dst b c.argTypes.toList vs
    | .value _, some (.cv (.one (.clo f caps))) :: vs => match cvsOf V vs with
      | some ls => callTodo V dst f (ls ++ caps.map .one) q
      | none => .fail
    | _, _ => .fail
  | _, _ => .fail
structure Acc where
  reads : List Nat
  writes : List Nat
def interp (bs : List (Nat × Box V.E)) : Todo V.E → List Nat → List Nat → Option (Option (SV V.E) × List Cd × List (Nat × Box V.E) × Acc)
  | .fail, _, _ => none
  | .ret v c, rs, ws => some (v, c, bs, ⟨rs, ws⟩)
  | .read id k, rs, ws => interp bs (k (look id bs)) (id :: rs) ws
  | .write id b k, rs, ws => interp (put id b bs) k rs (id :: ws)
abbrev Orcs := List (Nat × Orc V.E)
def orcOf (q : List (Nat × Orc V.E)) (i : Nat) : Orc V.E :=
  match look i q with
  | some x => x
  | none => .none
def wants (ops : List Oper) (s : St V.E) (q : List (Nat × Orc V.E)) (o : Oper) : Option (Bool × List Cd) :=
  match o.guard with
  | none => some (true, [])
  | some (j, want) =>
    match (ops[j]?).bind (·.dst) with
    | some d => match slotT V s d, orcOf V q j with
      | some (.cv (.one (.bool b))), .bit x => some (x == want, [cd (b = x)])
      | some (.tup []), _ => some (false, [])
      | _, _ => none
    | none => none
def dstOk (n : Nat) : Option Tmp → Bool
  | some d => Nat.blt d n && (Nat.blt d 1000000 && (!V.t0 || Nat.blt 0 d))
  | none => true
def putDst (d : Option Tmp) (v : Option (SV V.E)) (slots : List (Nat × Option (SV V.E))) : List (Nat × Option (SV V.E)) :=
  match d with
  | some d => put d v slots
  | none => slots
def evOp (ops : List Oper) (i : Nat) (o : Oper) (q : List (Nat × Orc V.E)) (s : St V.E) : Option (St V.E × List Cd × Acc) :=
  match dstOk V s.n o.dst with
  | true => match wants V ops s q o with
    | none => none
    | some (false, c) => some (⟨s.n, putDst V o.dst (some (.tup [])) s.slots, s.boxes⟩, c, ⟨[], []⟩)
    | some (true, c) =>
      match interp V s.boxes (core V (V.base + o.dst.getD 0) o (opnds V s (opTypes V o) o.op.operands.toList) (orcOf V q i)) [] [] with
      | some (v, c', bs, a) => some (⟨s.n, putDst V o.dst v s.slots, bs⟩, c ++ c', a)
      | none => none
  | false => none
def evOps (ops : List Oper) (q : List (Nat × Orc V.E)) : Nat → List Oper → St V.E → Option (St V.E × List Cd × List Acc)
  | _, [], s => some (s, [], [])
  | i, o :: os, s =>
    match evOp V ops i o q s with
    | some (s', c, a) => match evOps ops q (i + 1) os s' with
      | some (s'', c', as) => some (s'', c ++ c', a :: as)
      | none => none
    | none => none
end
end Go.Ab
