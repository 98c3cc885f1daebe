/- One operation, told by small steps that are quickly reckoned; and that they tell what `core` tells. Conditions: none beyond those that each theorem names. -/
import Derived.Test.YtgngflkahbpecaaGreatDoorU11
namespace Go.Ab
open Go
section
variable (V : Env)
def ones {E : Nat → Type} : Option (SV E) → Option (Leaf E)
  | some (.cv (.one l)) => some l
  | _ => none
def qPart (k : TK) (size off : Nat) (ls : List (Leaf V.E)) : Todo V.E :=
  match Nat.ble (off + size) ls.length with
  | true => tcv (ofLeaves k.agg ((ls.drop off).take size))
  | false => .fail
def qCells (i : TI V.E) (off : Nat) : Option (Box V.E) → Todo V.E
  | some (.cells ls) => qPart V i.kind i.size off ls
  | _ => .fail
def qLoadL (i : TI V.E) : Leaf V.E → Todo V.E
  | .ptr id off => .read id (qCells V i off)
  | .cp t x off => match Nat.ble (off + i.size) (t.sz V.T) with
    | true => tcv (ofLeaves i.kind.agg (((t.toL V.T x).drop off).take i.size))
    | false => .fail
  | l => loadTodo V i (.cv (.one l))
def qLoadA (a : Leaf V.E) : Option (TI V.E) → Todo V.E
  | some i => qLoadL V i a
  | none => .fail
def qLoad (t : TypeId) (a : Option (SV V.E)) (old : Todo V.E) : Todo V.E :=
  match ones a with
  | some l => qLoadA V l (V.ti t)
  | none => old
def qPut (id : Nat) (i : TI V.E) (off : Nat) (ls new : List (Leaf V.E)) : Todo V.E :=
  match Nat.beq new.length i.size with
  | true => match setAt ls off new with
    | some ls' => .write id (.cells ls') (done V)
    | none => .fail
  | false => .fail
def qStoreP (i : TI V.E) (id off : Nat) (c : CV V.E) : Option (Box V.E) → Todo V.E
  | some (.cells ls) => qPut V id i off ls c.leaves
  | _ => .fail
def qStoreI (id off : Nat) (c : CV V.E) : Option (TI V.E) → Todo V.E
  | some i => .read id (qStoreP V i id off c)
  | none => .fail
def qStore (t : TypeId) (a v : Option (SV V.E)) (old : Todo V.E) : Todo V.E :=
  match ones a with
  | some (.ptr id off) => match v with
    | some (.cv c) => qStoreI V id off c (V.ti t)
    | _ => old
  | _ => old
def qInt (op : BinOp) (k : IntKind) (x : Int) (k' : IntKind) (y : Int) (old : Todo V.E) : Todo V.E :=
  match op with
  | .shl | .shr => old
  | op => match decide (k = k') with
    | true => intBin V op k x y
    | false => .fail
def qStr (op : BinOp) (x y : List UInt8) (old : Todo V.E) : Todo V.E :=
  match op with
  | .shl | .shr => old
  | op => strBin V op x y
def qBin (op : BinOp) (a b : Option (SV V.E)) (old : Todo V.E) : Todo V.E :=
  match ones a with
  | some (.int k x) => match ones b with
    | some (.int k' y) => qInt V op k x k' y old
    | _ => old
  | some (.str x) => match ones b with
    | some (.str y) => qStr V op x y old
    | _ => old
  | _ => old
def qMove (a : Option (SV V.E)) : Todo V.E :=
  match a with
  | some v => .ret (some v) []
  | none => .fail
def qPick (q : Orc V.E) (c x y : Option (SV V.E)) (old : Todo V.E) : Todo V.E :=
  match q, ones c with
  | .bit d, some (.bool b) => match (match d with | true => x | false => y) with
    | some v => .ret (some v) [cd (b = d)]
    | none => .fail
  | _, _ => old
def qFieldOff (off : Nat) (id o : Nat) : Option (Box V.E) → Todo V.E
  | some (.cells _) => .one (.ptr id (o + off))
  | _ => .fail
def qFieldA (off : Nat) : Leaf V.E → Todo V.E
  | .ptr id o => .read id (qFieldOff V off id o)
  | .cp t x o => .one (.cp t x (o + off))
  | l => fieldAddrTodo V off (.cv (.one l))
def qFieldP (l : Leaf V.E) : Option (Nat × Nat) → Todo V.E
  | some (off, size) => match Nat.beq size 0 with
    | true => .fail
    | false => qFieldA V off l
  | none => .fail
def qFieldAddr (s : TypeId) (f : Nat) (a : Option (SV V.E)) (old : Todo V.E) : Todo V.E :=
  match ones a with
  | some l => match V.ti s with
    | some ⟨.struct fs, _, _, _, _⟩ => qFieldP V l (fieldPlace V fs f)
    | _ => .fail
  | none => old
def qIndexA (t : TypeId) (a i : Option (SV V.E)) (old : Todo V.E) : Todo V.E :=
  match ones a, ones i with
  | some x, some y => match elemOf V t with
    | some j => indexAddrTodo V j.ty (.cv (.one x)) (.cv (.one y))
    | none => .fail
  | _, _ => old
def qExtract (n : Nat) (a : Option (SV V.E)) : Todo V.E :=
  match a with
  | some (.tup cs) => tcv cs[n]?
  | _ => .fail
def qLen (t : TypeId) (a : Option (SV V.E)) (old : Todo V.E) : Todo V.E :=
  match a with
  | some a => match V.ti t with
    | some i => lenTodo V i.kind a
    | none => .fail
  | none => old
noncomputable def qCall (sl : Sl V) (c : Call) (old : Todo V.E) : Todo V.E :=
  match c.callee with
  | .builtin .len => match c.args.toList, c.argTypes.toList with
    | [x], [t] => qLen V t (opndQ V sl t x) old
    | _, _ => old
  | _ => old
noncomputable def qCore (sl : Sl V) (o : Oper) (q : Orc V.E) (old : Todo V.E) : Todo V.E :=
  match o.op with
  | .move x => qMove V (opndQ V sl o.type x)
  | .assign x => qMove V (opndQ V sl o.type x)
  | .pick c x y => qPick V q (opndQ V sl o.type c) (opndQ V sl o.type x) (opndQ V sl o.type y) old
  | .load t x => qLoad V t (opndQ V sl o.type x) old
  | .store t a v => qStore V t (opndQ V sl t a) (opndQ V sl t v) old
  | .binOp op t x y u => qBin V op (opndQ V sl t x) (opndQ V sl u y) old
  | .fieldAddr t x f => qFieldAddr V t f (opndQ V sl o.type x) old
  | .indexAddr t x i => qIndexA V t (opndQ V sl o.type x) (opndQ V sl o.type i) old
  | .extract x n => qExtract V n (opndQ V sl o.type x)
  | .call c => qCall V sl c old
  | _ => old
def coreAt (dst : Nat) (s : St V.E) (o : Oper) (q : Orc V.E) : Todo V.E := core V dst o (opnds V s (opTypes V o) o.op.operands.toList) q
theorem ones_some {E : Nat → Type} {a : Option (SV E)} {l : Leaf E} (h : ones a = some l) : a = some (.cv (.one l)) := by
  unfold ones at h
  split at h
  · cases h; rfl
  · cases h
variable {V}
theorem qPart_eq (k : TK) (size off : Nat) (ls : List (Leaf V.E)) : qPart V k size off ls = part V k.agg size off ls := by
  unfold qPart part
  split
  · rename_i h; rw [if_pos h]
  · rename_i h; rw [if_neg (by simp [h])]
theorem qLoadL_eq (i : TI V.E) (l : Leaf V.E) : qLoadL V i l = loadTodo V i (.cv (.one l)) := by
  cases l <;> first | rfl | skip
  · simp only [qLoadL, loadTodo]
    congr 1
    funext b
    cases b with
    | none => rfl
    | some b => cases b <;> first | rfl | exact qPart_eq _ _ _ _
  simp only [qLoadL, loadTodo]
  split
  · rename_i h; rw [if_pos h]
  · rename_i h; rw [if_neg (by simp [h])]
theorem qFieldA_eq (off : Nat) (l : Leaf V.E) : qFieldA V off l = fieldAddrTodo V off (.cv (.one l)) := by
  cases l <;> first | rfl | skip
theorem qCore_eq (dst : Nat) (s : St V.E) (o : Oper) (q : Orc V.E) : qCore V s.slots o q (coreAt V dst s o q) = coreAt V dst s o q := by
  obtain ⟨d, op, type, pos, after, guard⟩ := o
  have hop : ∀ t x, opndQ V s.slots t x = opnd V s t x := fun t x => opndQ_eq V s.n s.slots s.boxes t x
  cases op
  case move x =>
    simp only [qCore, hop, coreAt, core, opTypes, Op.operands, opnds, qMove]
    cases opnd V s type x <;> rfl
  case assign x =>
    simp only [qCore, hop, coreAt, core, opTypes, Op.operands, opnds, qMove]
    cases opnd V s type x <;> rfl
  case pick c x y =>
    simp only [qCore, hop, coreAt, opTypes, Op.operands, opnds, qPick]
    cases hc : ones (opnd V s type c) with
    | none => cases q <;> rfl
    | some l =>
      cases q <;> first | rfl | skip
      cases l <;> first | rfl | skip
      rename_i d b
      rw [ones_some hc]
      simp only [core]
      cases d <;> rfl
  case load t x =>
    simp only [qCore, hop, coreAt, opTypes, Op.operands, opnds, qLoad]
    cases hc : ones (opnd V s type x) with
    | none => rfl
    | some l =>
      rw [ones_some hc]
      simp only [core]
      cases V.ti t with
      | none => rfl
      | some i => exact qLoadL_eq i l
  case store t a v =>
    simp only [qCore, hop, coreAt, opTypes, Op.operands, opnds, qStore]
    cases hc : ones (opnd V s t a) with
    | none => rfl
    | some l =>
      cases l <;> first | rfl | skip
      rename_i id off
      rw [ones_some hc]
      cases hv : opnd V s t v with
      | none => rfl
      | some v =>
        cases v with
        | tup _ => rfl
        | cv c =>
          simp only [core]
          cases V.ti t with
          | none => rfl
          | some i =>
            simp only [qStoreI, storeTodo]
            congr 1
            funext b
            unfold qStoreP
            split
            · rename_i ls
              simp only [qPut]
              split
              · rename_i h; rw [if_pos h]; rfl
              · rename_i h; rw [if_neg (by simp [h])]
            · rename_i hne
              cases b with
              | none => rfl
              | some b => cases b <;> first | rfl | exact (hne _ rfl).elim
  case binOp op t x y u =>
    simp only [qCore, hop, coreAt, opTypes, Op.operands, opnds, qBin]
    cases ha : ones (opnd V s t x) with
    | none => rfl
    | some l =>
      cases l <;> first | rfl | skip
      · cases hb : ones (opnd V s u y) with
        | none => rfl
        | some m =>
          cases m <;> first | rfl | skip
          rw [ones_some ha, ones_some hb]
          simp only [core]
          rename_i k n k' m
          cases op <;> simp only [qInt, binTodo] <;> (split <;> rename_i h <;> simp at h <;> simp [h])
      · cases hb : ones (opnd V s u y) with
        | none => rfl
        | some m =>
          cases m <;> first | rfl | skip
          rw [ones_some ha, ones_some hb]
          simp only [core]
          cases op <;> rfl
  case fieldAddr t x f =>
    simp only [qCore, hop, coreAt, opTypes, Op.operands, opnds, qFieldAddr]
    cases hc : ones (opnd V s type x) with
    | none => rfl
    | some l =>
      rw [ones_some hc]
      simp only [core]
      cases V.ti t with
      | none => rfl
      | some i =>
        obtain ⟨k, a, b, c, e⟩ := i
        cases k <;> first | rfl | skip
        rename_i fs
        simp only
        cases fieldPlace V fs f with
        | none => rfl
        | some p =>
          obtain ⟨off, size⟩ := p
          simp only [qFieldP]
          cases h : Nat.beq size 0 with
          | true => simp
          | false => simp [qFieldA_eq]
  case indexAddr t x i =>
    simp only [qCore, hop, coreAt, opTypes, Op.operands, opnds, qIndexA]
    cases hc : ones (opnd V s type x) with
    | none => rfl
    | some l =>
      cases hi : ones (opnd V s type i) with
      | none => rfl
      | some m =>
        rw [ones_some hc, ones_some hi]
        rfl
  case extract x n =>
    simp only [qCore, hop, coreAt, opTypes, Op.operands, opnds, qExtract]
    cases opnd V s type x with
    | none => rfl
    | some v => cases v <;> rfl
  case call c =>
    simp only [qCore, qCall, hop]
    split
    · rename_i hcl
      split
      · rename_i x t hx ht
        cases ho : opnd V s t x with
        | none => simp only [qLen]
        | some a =>
          simp only [qLen, coreAt, core, opTypes, hcl, Op.operands, Call.operands, ht]
          have : (#[] ++ c.args).toList = [x] := by simp [hx]
          rw [this]
          simp only [opnds, ho, builtinTodo]
          cases V.ti t <;> rfl
      · rfl
    · rfl
  all_goals rfl
end
end Go.Ab
