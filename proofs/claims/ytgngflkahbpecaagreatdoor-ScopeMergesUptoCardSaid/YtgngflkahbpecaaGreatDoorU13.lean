/- What is reckoned of a function with no telling of it: its code is run on what the leaves and boxes are; and that this is so. Levels of calls. A run of a function's code does what the code does. A run of a function's code does what the code does: regions, calls, loops. Conditions: none beyond those that each theorem names. -/
import Derived.Test.YtgngflkahbpecaaGreatDoorU12
import Derived.Test.YtgngflkahbpecaaGreatDoorU10
namespace Go.Ab
open Go
section
variable {V : Env} {C : Ctx}
theorem mem_keep {p : Nat → Bool} {bx bx' : List (Nat × Box V.E)} {β : Nat → BI} {w : World} (M : MemOk V.T C bx β w) (hl : ∀ id, look id bx' = if p id = true then look id bx else none)
    (hc : ∀ id ls, p id = true → look id bx = some (.cells ls) → ∀ i ∈ leavesIds ls, p i = true) :
    ∃ β', MemOk V.T C bx' β' w ∧ Later (okOf C β w) w (okOf C β' w) w ∧ ∀ id, p id = true → look id bx' = look id bx ∧ β' id = β id := by
  let β' : Nat → BI := fun j => if p j = true then β j else { β j with own := [] }
  have hβ : ∀ j, p j = true → β' j = β j := fun j hj => by show (if _ then _ else _) = _; rw [if_pos hj]
  have hβ' : ∀ j, p j ≠ true → (β' j).own = [] := fun j hj => by show (if _ then _ else _ : BI).own = _; rw [if_neg hj]
  have hsub : ∀ j x, x ∈ (β' j).own → p j = true ∧ x ∈ (β j).own := by
    intro j x hx
    by_cases hj : p j = true
    · rw [hβ j hj] at hx; exact ⟨hj, hx⟩
    · rw [hβ' j hj] at hx; simp at hx
  have hlook : ∀ j, p j = true → look j bx' = look j bx := fun j hj => by rw [hl, if_pos hj]
  have L : Later (okOf C β w) w (okOf C β' w) w := ⟨fun b hb => ⟨hb.1, hb.2.1, fun j hj => hb.2.2 j (hsub j b hj).2⟩, fun _ _ => rfl⟩
  refine ⟨β', ⟨fun id b hid => ?_, fun id hid => ?_, fun id => ?_, fun id id' x hx hx' => M.apart id id' x (hsub id x hx).2 (hsub id' x hx').2, fun id x hx => M.mine id x (hsub id x hx).2, M.kept⟩, L, fun id hp => ⟨hlook id hp, hβ id hp⟩⟩
  · have hid' := hid
    rw [hl] at hid'
    split at hid'
    · rename_i hm
      refine BoxRep.agree L (hβ id hm) (fun ls e i hi => ?_) (M.boxes id b hid')
      subst e
      have := hc id ls hm hid' i hi
      exact ⟨.inl (hlook i this), hβ i this⟩
    · cases hid'
  · by_cases hm : p id = true
    · rw [hβ id hm]; exact M.nones id (by rw [← hlook id hm]; exact hid)
    · exact hβ' id hm
  · by_cases hm : p id = true
    · rw [hβ id hm]; exact M.nodup id
    · rw [hβ' id hm]; exact List.nodup_nil
end
def oneSV {E : Nat → Type} : List (CV E) → SV E
  | [c] => .cv c
  | cs => .tup cs
theorem oneSV_rep {T : Tab} {bx : List (Nat × Box T.E)} {β : Nat → BI} {ok : Nat → Prop} {w : World} {cs : List (CV T.E)} {vs : List Value} (h : All2 (CVRep T bx β ok w) cs vs) : SVRep T bx β ok w (oneSV cs) (oneOr vs) := by
  have hl := h.length
  match cs, vs, h, hl with
  | [], [], h, _ => exact ⟨#[], rfl, .nil⟩
  | [c], [v], .cons h _, _ => exact h
  | c :: c' :: cs, v :: v' :: vs, h, _ => exact ⟨(v :: v' :: vs).toArray, rfl, by simpa using h⟩
section
variable (V : Env)
def addedTo (d : Tmp) : List Oper → Bool
  | [] => false
  | o :: os => match o.op with
    | .call c => match c.callee, c.args.toList with
      | .builtin .append, .tmp e :: _ => match Nat.beq e d with
        | true => true
        | false => addedTo d os
      | _, _ => addedTo d os
    | _ => addedTo d os
noncomputable def selfOrc (ops : List Oper) (sl : Sl V) (o : Oper) : Orc V.E :=
  match o.op with
  | .pick c _ _ => match opndQ V sl 0 c with
    | some (.cv (.one (.bool b))) => .bit b
    | _ => .none
  | .buildSlice _ _ _ => match o.dst with
    | some d => match addedTo d ops with
      | true => .lit
      | false => .none
    | none => .none
  | .call c => match c.callee with
    | .value _ => .go
    | _ => .none
  | _ => .none
noncomputable def wantQ (ops : List Oper) (i : Nat) (sl : Sl V) (o : Oper) : Option Bool :=
  match o.guard with
  | none => some true
  | some (j, want) => match Nat.beq i j with
    | true => none
    | false => match (ops[j]?).bind (·.dst) with
      | some d => match slotQ V sl d with
        | some (.cv (.one (.bool b))) => some (b == want)
        | some (.tup []) => some false
        | _ => none
      | none => none
noncomputable def dstQ (n : Nat) : Option Tmp → Bool
  | none => true
  | some d => match Nat.blt d n with
    | true => Nat.blt d 1000000
    | false => false
noncomputable def putDQ (d : Option Tmp) (v : Option (SV V.E)) (sl : Sl V) : Sl V :=
  match d with
  | some d => putQ d v sl
  | none => sl
noncomputable def doneQ (n : Nat) (sl : Sl V) (o : Oper) : Option (Option (SV V.E) × List Cd × List (Nat × Box V.E) × Acc) → Option (St V.E × List Cd × Acc)
  | some (v, c, bs, a) => some (⟨n, putDQ V o.dst v sl, bs⟩, c, a)
  | none => none
noncomputable def runCl (ops : List Oper) (n : Nat) (sl : Sl V) (bx : Bx V) (o : Oper) : Option (St V.E × List Cd × Acc) :=
  doneQ V n sl o (interpQ V (qCore V sl o (selfOrc V ops sl o) (coreAt V (V.base + o.dst.getD 0) ⟨n, sl, bx⟩ o (selfOrc V ops sl o))) bx [] [])
noncomputable def evOpA (ops : List Oper) (i : Nat) (o : Oper) : St V.E → Option (St V.E × List Cd × Acc)
  | ⟨n, sl, bx⟩ => match dstQ n o.dst with
    | true => match wantQ V ops i sl o with
      | some true => runCl V ops n sl bx o
      | some false => some (⟨n, putDQ V o.dst (some (.tup [])) sl, bx⟩, [], ⟨[], []⟩)
      | none => none
    | false => none
def okCs : List Cd → Bool
  | [] => true
  | c :: cs => match c.b with
    | true => okCs cs
    | false => false
noncomputable def evOpsA (ops : List Oper) : Nat → List Oper → St V.E → Option (St V.E × List Acc)
  | _, [], s => some (s, [])
  | i, o :: os, s => match evOpA V ops i o s with
    | some (s', c, a) => match okCs c with
      | true => match evOpsA ops (i + 1) os s' with
        | some (s'', as) => some (s'', a :: as)
        | none => none
      | false => none
    | none => none
noncomputable def callG (L : FuncId → Option (FL V.E)) (o : Oper) (n : Nat) (sl : Sl V) (bx : Bx V) (f : FuncId) (caps : List (Leaf V.E)) (vs : List (Option (SV V.E))) : Option (St V.E) :=
  match L f, cvsOf V vs with
  | some S, some ls => match S.g (V.base + 4096) (ls ++ caps.map .one) bx with
    | some (res, bx) => some ⟨n, putDQ V o.dst (some (oneSV res)) sl, bx⟩
    | none => none
  | _, _ => none
noncomputable def callF (L : FuncId → Option (FL V.E)) (o : Oper) (n : Nat) (sl : Sl V) (bx : Bx V) (vs : List (Option (SV V.E))) : Option (SV V.E) → Option (St V.E)
  | some (.cv (.one (.clo f caps))) => callG V L o n sl bx f caps vs
  | _ => none
noncomputable def opndsQ (sl : Sl V) : List TypeId → List Operand → List (Option (SV V.E))
  | t :: ts, x :: xs => opndQ V sl t x :: opndsQ sl ts xs
  | [], x :: xs => opndQ V sl 0 x :: opndsQ sl [] xs
  | _, [] => []
noncomputable def callL (L : FuncId → Option (FL V.E)) (o : Oper) : St V.E → Option (St V.E)
  | ⟨n, sl, bx⟩ => match dstQ n o.dst with
    | true => match o.op with
      | .call cl => match cl.callee with
        | .value fv => callF V L o n sl bx (opndsQ V sl cl.argTypes.toList cl.args.toList) (opndQ V sl 0 fv)
        | _ => none
      | _ => none
    | false => none
noncomputable def skipL (o : Oper) : St V.E → Option (St V.E)
  | ⟨n, sl, bx⟩ => match dstQ n o.dst with
    | true => some ⟨n, putDQ V o.dst (some (.tup [])) sl, bx⟩
    | false => none
noncomputable def okStep : Option (St V.E × List Cd × Acc) → Option (St V.E)
  | some (s, c, _) => match okCs c with
    | true => some s
    | false => none
  | none => none
noncomputable def evOpL (L : FuncId → Option (FL V.E)) (ops : List Oper) (i : Nat) (o : Oper) (s : St V.E) : Option (St V.E) :=
  match isCall o with
  | true => match wantQ V ops i s.slots o with
    | some true => callL V L o s
    | some false => skipL V o s
    | none => none
  | false => okStep V (evOpA V ops i o s)
noncomputable def evOpsL (L : FuncId → Option (FL V.E)) (ops : List Oper) (os : List Oper) : Nat → St V.E → Option (St V.E) :=
  List.rec (motive := fun _ => Nat → St V.E → Option (St V.E)) (fun _ s => some s) (fun o _ ih i s => Option.rec (motive := fun _ => Option (St V.E)) none (ih (i + 1)) (evOpL V L ops i o s)) os
def cellIds {E : Nat → Type} : Option (Box E) → List Nat
  | some (.cells ls) => leavesIds ls
  | _ => []
def reachIds {E : Nat → Type} (base : Nat) (bx : List (Nat × Box E)) : Nat → List Nat → List Nat → List Nat
  | 0, _, acc => acc
  | _, [], acc => acc
  | n + 1, i :: is, acc => match Nat.blt i base || memB i acc with
    | true => reachIds base bx n is acc
    | false => reachIds base bx n (cellIds (look i bx) ++ is) (i :: acc)
def lowIds {E : Nat → Type} (base : Nat) : List (Nat × Box E) → List Nat
  | [] => []
  | (k, b) :: r => match Nat.blt k base with
    | true => cellIds (some b) ++ lowIds base r
    | false => lowIds base r
def keptB (base : Nat) (ids : List Nat) (i : Nat) : Bool := Nat.blt i base || memB i ids
def keepB {E : Nat → Type} (base : Nat) (ids : List Nat) : List (Nat × Box E) → List (Nat × Box E)
  | [] => []
  | (k, b) :: r => match keptB base ids k with
    | true => (k, b) :: keepB base ids r
    | false => keepB base ids r
def allKept (base : Nat) (ids : List Nat) : List Nat → Bool
  | [] => true
  | i :: is => match keptB base ids i with
    | true => allKept base ids is
    | false => false
def cellsKept {E : Nat → Type} (base : Nat) (ids : List Nat) : List (Nat × Box E) → Bool
  | [] => true
  | (_, .cells ls) :: r => match allKept base ids (leavesIds ls) with
    | true => cellsKept base ids r
    | false => false
  | _ :: r => cellsKept base ids r
def letGo {E : Nat → Type} (base : Nat) (roots : List Nat) (bx : List (Nat × Box E)) : Option (List (Nat × Box E)) :=
  let ids := reachIds base bx 100000 (roots ++ lowIds base bx) []
  let bx' := keepB base ids bx
  match allKept base ids roots && cellsKept base ids bx' with
  | true => some bx'
  | false => none
def slotIds {E : Nat → Type} : List (Nat × Option (SV E)) → List Nat
  | [] => []
  | (_, some v) :: r => v.ids ++ slotIds r
  | (_, none) :: r => slotIds r
def letGoSt (ks : List Nat) (s : St V.E) : Option (St V.E) :=
  let sl := keepL ks s.slots
  match letGo V.base (slotIds sl) s.boxes with
  | some bx => some ⟨s.n, sl, bx⟩
  | none => none
def firstReg : Code → Nat
  | .region id _ _ => id
  | .seq a _ => firstReg a
  | .block _ c => firstReg c
  | .loop c => firstReg c
  | .scope c => firstReg c
  | _ => 0
def atLoop (lv : Nat → Option (List Nat)) (c : Code) (s : St V.E) : Option (St V.E) :=
  match lv (firstReg c) with
  | some ks => letGoSt V ks s
  | none => some s
inductive Nx (E : Nat → Type) where
  | fail
  | done (s : St E)
  | next (k : List Item) (s : St E)
def toNx {E : Nat → Type} (k : List Item) : Option (St E) → Nx E
  | some s => .next k s
  | none => .fail
def stepD (k : List Item) (ops : Array Oper) : Option (St V.E × List Acc) → Nx V.E
  | some (s', acs) => match anyB ops acs with
    | true => .next k s'
    | false => .fail
  | none => .fail
def stepI (x y : Code) (k : List Item) (s : St V.E) : Option (SV V.E) → Nx V.E
  | some (.cv (.one (.bool b))) => match b with
    | true => .next (.code x :: k) s
    | false => .next (.code y :: k) s
  | _ => .fail
noncomputable def stepC (L : FuncId → Option (FL V.E)) (lv : Nat → Option (List Nat)) (k : List Item) (s : St V.E) : Code → Nx V.E
  | .skip => .next k s
  | .label _ => .next k s
  | .seq x y => .next (.code x :: .code y :: k) s
  | .block id c => .next (.code c :: .inBlock id :: k) s
  | .exit id => match exitTo id k with
    | some k' => .next k' s
    | none => .fail
  | .ret => .done s
  | .region _ ops draw => match draw with
    | true => stepD V k ops (evOpsA V ops.toList 0 ops.toList s)
    | false => toNx k (evOpsL V L ops.toList ops.toList 0 s)
  | .cond c x y => stepI V x y k s (opndQ V s.slots 0 c)
  | .loop c => toNx (.code c :: .inLoop c :: k) (atLoop V lv c s)
  | _ => .fail
noncomputable def stepX (L : FuncId → Option (FL V.E)) (lv : Nat → Option (List Nat)) (s : St V.E) : List Item → Nx V.E
  | [] => .done s
  | i :: k => match i with
    | .code c => stepC V L lv k s c
    | .inBlock _ => .next k s
    | .inLoop c => toNx (.code c :: .inLoop c :: k) (atLoop V lv c s)
    | _ => .fail
noncomputable def goX (L : FuncId → Option (FL V.E)) (lv : Nat → Option (List Nat)) (fuel : Nat) : List Item → St V.E → Option (St V.E) :=
  Nat.rec (fun _ _ => none) (fun _ ih k s => match stepX V L lv s k with
    | .fail => none
    | .done s => some s
    | .next k s => ih k s) fuel
def resAll (s : St V.E) : List ResultVar → Option (List (CV V.E))
  | [] => some []
  | r :: rs => match resOf V s r with
    | some c => match resAll s rs with
      | some cs => some (c :: cs)
      | none => none
    | none => none
def argSlots {E : Nat → Type} : Nat → List (CV E) → List (Nat × Option (SV E))
  | _, [] => []
  | i, c :: cs => (i, some (.cv c)) :: argSlots (i + 1) cs
def topA {α : Type} : Nat → List (Nat × α) → Nat
  | t, [] => t
  | t, (k, _) :: r => match Nat.blt t k with
    | true => topA k r
    | false => topA t r
def baseOf {α : Type} (lo : Nat) (bx : List (Nat × α)) : Nat := (topA lo bx / 4096 + 1) * 4096
noncomputable def runX (L : FuncId → Option (FL V.E)) (lv : Nat → Option (List Nat)) (fn : Func) (args : List (CV V.E)) (bx : List (Nat × Box V.E)) : Option (List (CV V.E) × List (Nat × Box V.E)) :=
  match Nat.ble args.length fn.ntmps && Nat.ble args.length 1000000, fn.body with
  | true, some c => match goX V L lv 18446744073709551616 [.code c] ⟨fn.ntmps, argSlots 0 args, bx⟩ with
    | some s => match resAll V s fn.results.toList with
      | some res => match letGo V.base (res.flatMap fun c => leavesIds c.leaves) s.boxes with
        | some bx' => some (res, bx')
        | none => none
      | none => none
    | none => none
  | _, _ => none
end
end Go.Ab
namespace Go.Ab
open Go
noncomputable def envX (T : Tab) (ti : TypeId → Option (TI T.E)) (eqs : TypeId → Bool) (L : FuncId → Option (FL T.E)) (base : Nat) : Env :=
  ⟨T, ti, eqs, fun _ => none, fun _ => none, fun _ => none, L, false, base⟩
noncomputable def lvl (P : Program) (T : Tab) (ti : TypeId → Option (TI T.E)) (eqs : TypeId → Bool) (lv : FuncId → Nat → Option (List Nat)) (nat : FuncId → Option (FL T.E)) (n : Nat) : FuncId → Option (FL T.E) :=
  Nat.rec (fun _ => none) (fun _ L f => match nat f with
    | some S => some S
    | none => match P.funcs.toList[f]? with
      | some fn => match fn.body.isNone || fn.name == "runtime.NumGoroutine" with
        | true => none
        | false => some ⟨fun lo args bx => runX (envX T ti eqs L (baseOf lo bx)) L (lv f) fn args bx⟩
      | none => none) n
end Go.Ab
namespace Go.Ab
open Go
section
variable {V : Env} {P : Program} {C : Ctx}
def plus (m : Sl V) (s : St V.E) : St V.E := ⟨s.n, s.slots ++ m, s.boxes⟩
def High (m : Sl V) : Prop := ∀ k, k < 1000000 → look k m = none
def Low (s : St V.E) : Prop := ∀ k, 1000000 ≤ k → look k s.slots = none
theorem look_append {α : Type} (k : Nat) (m : List (Nat × α)) : ∀ l : List (Nat × α), look k (l ++ m) = match look k l with | some x => some x | none => look k m
  | [] => rfl
  | (j, x) :: r => by
    show (if Nat.beq j k = true then some x else look k (r ++ m)) = match (if Nat.beq j k = true then some x else look k r) with | some x => some x | none => look k m
    split
    · rfl
    · exact look_append k m r
theorem slotT_plus {m : Sl V} (hm : High m) (s : St V.E) (k : Nat) : slotT V (plus m s) k = slotT V s k := by
  unfold slotT
  split
  · rename_i hk
    unfold slot plus
    simp only [look_append]
    have := hm k (Nat.blt_eq.mp hk)
    cases look k s.slots with
    | none => rw [this]
    | some x => rfl
  · rfl
theorem opnd_plus {m : Sl V} (hm : High m) (s : St V.E) (t : TypeId) (x : Operand) : opnd V (plus m s) t x = opnd V s t x := by
  cases x with
  | tmp k => exact slotT_plus hm s k
  | _ => rfl
theorem opnds_plus {m : Sl V} (hm : High m) (s : St V.E) : ∀ (xs : List Operand) (ts : List TypeId), opnds V (plus m s) ts xs = opnds V s ts xs
  | [], ts => by cases ts <;> rfl
  | x :: xs, [] => by simp only [opnds, opnd_plus hm, opnds_plus hm s xs]
  | x :: xs, t :: ts => by simp only [opnds, opnd_plus hm, opnds_plus hm s xs]
theorem okCs_all : ∀ {c : List Cd}, okCs c = true → AllP c
  | [], _ => trivial
  | c :: cs, h => by
    unfold okCs at h
    split at h
    · rename_i hb; exact ⟨c.h hb, okCs_all h⟩
    · cases h
theorem dstQ_ok (h0 : V.t0 = false) {n : Nat} {d : Option Tmp} (h : dstQ n d = true) : dstOk V n d = true := by
  cases d with
  | none => rfl
  | some d =>
    unfold dstQ at h
    simp only at h
    split at h
    · rename_i h1
      simp only [dstOk, h0, h1, h]
      rfl
    · cases h
theorem dstQ_low {n : Nat} {d : Option Tmp} (h : dstQ n d = true) : ∀ k, d = some k → k < n ∧ Nat.blt k 1000000 = true := by
  rintro k rfl
  unfold dstQ at h
  simp only at h
  split at h
  · rename_i h1; exact ⟨Nat.blt_eq.mp h1, h⟩
  · cases h
theorem look_putDQ (d : Option Tmp) (v : Option (SV V.E)) (sl : Sl V) (k : Nat) : look k (putDQ V d v sl) = if d = some k then some v else look k sl := by
  cases d with
  | none => rw [if_neg (by simp)]; rfl
  | some d =>
    show look k (putQ d v sl) = _
    rw [look_putQ]
    by_cases h : k = d
    · subst h; simp
    · rw [if_neg h, if_neg (by simpa using Ne.symm h)]
theorem look_putDst2 (d : Option Tmp) (v : Option (SV V.E)) (sl : Sl V) (k : Nat) : look k (putDst V d v sl) = if d = some k then some v else look k sl := by
  cases d with
  | none => rw [if_neg (by simp)]; rfl
  | some d =>
    by_cases h : k = d
    · subst h; rw [if_pos rfl]; exact look_put_same _ _ _
    · rw [if_neg (by simpa using Ne.symm h)]; exact look_put_other h _ _
theorem same_plus (d : Option Tmp) (v : Option (SV V.E)) (sl m : Sl V) : Same (putDst V d v (sl ++ m)) (putDQ V d v sl ++ m) := by
  intro k
  rw [look_putDst2, look_append, look_append, look_putDQ]
  split <;> rfl
theorem low_put {s : St V.E} (h : Low s) {d : Option Tmp} (hd : ∀ k, d = some k → k < s.n ∧ Nat.blt k 1000000 = true) (v : Option (SV V.E)) (bx : Bx V) : Low (⟨s.n, putDQ V d v s.slots, bx⟩ : St V.E) := by
  intro k hk
  show look k (putDQ V d v s.slots) = none
  rw [look_putDQ, if_neg]
  · exact h k hk
  · intro e
    have := Nat.blt_eq.mp (hd k e).2
    omega
theorem wantQ_ok {m : Sl V} (hm : High m) {ops : List Oper} {i : Nat} {s : St V.E} {o : Oper} {b : Bool} (h : wantQ V ops i s.slots o = some b) (so : Orc V.E) :
    ∃ q c, wants V ops (plus m s) q o = some (b, c) ∧ AllP c ∧ orcOf V q i = so := by
  unfold wantQ at h
  split at h
  · rename_i hg
    cases h
    exact ⟨[(i, so)], [], by unfold wants; rw [hg], trivial, by simp [orcOf, look]⟩
  · rename_i j want hg
    split at h
    · cases h
    · rename_i hij
      split at h
      · rename_i d hd
        have hs : ∀ k, slotQ V s.slots k = slotT V (plus m s) k := fun k => by rw [slotT_plus hm, slotQ_eq V s.n s.slots s.boxes]
        rw [hs] at h
        have ho : orcOf V [(j, Orc.bit true), (i, so)] i = so := by
          have : Nat.beq j i = false := by
            cases hb : Nat.beq j i with
            | false => rfl
            | true => have := eq_of_beq' hb; subst this; simp at hij
          simp [orcOf, look, this]
        split at h
        · rename_i x hx
          cases h
          refine ⟨[(j, .bit x), (i, so)], [cd (x = x)], ?_, ⟨rfl, trivial⟩, ?_⟩
          · unfold wants
            rw [hg]
            dsimp only
            rw [hd]
            dsimp only
            rw [hx, show orcOf V [(j, Orc.bit x), (i, so)] j = .bit x by simp [orcOf, look]]
          · have : Nat.beq j i = false := by
              cases hb : Nat.beq j i with
              | false => rfl
              | true => have := eq_of_beq' hb; subst this; simp at hij
            simp [orcOf, look, this]
        · rename_i hx
          cases h
          refine ⟨[(j, .bit true), (i, so)], [], ?_, trivial, ho⟩
          unfold wants
          rw [hg]
          simp only [hd, hx]
        · cases h
      · cases h
theorem evOpA_ok (h0 : V.t0 = false) {m : Sl V} (hm : High m) {ops : List Oper} {i : Nat} {o : Oper} {s s' : St V.E} {c : List Cd} {a : Acc} (h : evOpA V ops i o s = some (s', c, a)) (hc : okCs c = true) (hl : Low s) :
    Low s' ∧ ∃ q s2 c2, evOp V ops i o q (plus m s) = some (s2, c2, a) ∧ AllP c2 ∧ StEq s2 (plus m s') := by
  obtain ⟨n, sl, bx⟩ := s
  unfold evOpA at h
  simp only at h
  split at h
  · rename_i hd
    have hlow := dstQ_low hd
    split at h
    · rename_i hw
      unfold runCl at h
      obtain ⟨q, c1, hq, hc1, ho⟩ := wantQ_ok (s := ⟨n, sl, bx⟩) hm hw (selfOrc V ops sl o)
      unfold doneQ at h
      split at h
      · rename_i v c' bs a' hi
        cases h
        have e1 := qCore_eq (V.base + o.dst.getD 0) (⟨n, sl, bx⟩ : St V.E) o (selfOrc V ops sl o)
        simp only at e1
        rw [e1] at hi
        obtain ⟨b1, hi', hsame⟩ := interpQ_ok V _ bx bx [] [] (fun _ => rfl) hi
        refine ⟨low_put hl hlow _ _, q, ⟨n, putDst V o.dst v (sl ++ m), b1⟩, c1 ++ c, ?_, ?_, ⟨rfl, same_plus _ _ _ _, fun k => (hsame k).symm⟩⟩
        · unfold evOp
          rw [show (plus m (⟨n, sl, bx⟩ : St V.E)).n = n from rfl, dstQ_ok h0 hd, hq]
          simp only [ho, opnds_plus hm]
          have hi2 : interp V (plus m (⟨n, sl, bx⟩ : St V.E)).boxes (core V (V.base + o.dst.getD 0) o (opnds V (⟨n, sl, bx⟩ : St V.E) (opTypes V o) o.op.operands.toList) (selfOrc V ops sl o)) [] [] = some (v, c, b1, a) := hi'
          rw [hi2]
          rfl
        · have key : ∀ {c1 c' : List Cd}, AllP c1 → AllP c' → AllP (c1 ++ c') := by
            intro c1
            induction c1 with
            | nil => intro c' _ h; exact h
            | cons x xs ih => intro c' h1 h2; exact ⟨h1.1, ih h1.2 h2⟩
          exact key hc1 (okCs_all hc)
      · cases h
    · rename_i hw
      cases h
      obtain ⟨q, c1, hq, hc1, ho⟩ := wantQ_ok (s := ⟨n, sl, bx⟩) hm hw (.none)
      refine ⟨low_put hl hlow _ _, q, ⟨n, putDst V o.dst (some (.tup [])) (sl ++ m), bx⟩, c1, ?_, hc1, ⟨rfl, same_plus _ _ _ _, fun _ => rfl⟩⟩
      unfold evOp
      rw [show (plus m (⟨n, sl, bx⟩ : St V.E)).n = n from rfl, dstQ_ok h0 hd, hq]
      rfl
    · cases h
  · cases h
end
end Go.Ab
namespace Go.Ab
open Go
section
variable {V : Env} {P : Program} {C : Ctx}
theorem runs_A (h0 : V.t0 = false) {m : Sl V} (hm : High m) {ops : Array Oper} {allA : List Acc} : ∀ (os : List Oper) (i : Nat) (s s' : St V.E) (acs : List Acc), ops.toList.drop i = os → allA.drop i = acs → evOpsA V ops.toList i os s = some (s', acs) → Low s →
    Low s' ∧ ∃ s2, Runs V ops (acAt allA) ((List.range ops.size).drop i) (plus m s) s2 ∧ StEq s2 (plus m s')
  | [], i, s, s', acs, hi, ha, h, hl => by
    simp only [evOpsA, Option.some.injEq, Prod.mk.injEq] at h
    obtain ⟨rfl, _⟩ := h
    have : ops.size ≤ i := by simpa using hi
    have hn : (List.range ops.size).drop i = [] := by simpa using this
    rw [hn]
    exact ⟨hl, _, .nil, .refl _⟩
  | o :: os, i, s, s', acs, hi, ha, h, hl => by
    have hlt : i < ops.size := by
      rcases Nat.lt_or_ge i ops.size with h | h
      · exact h
      · have : ops.toList.drop i = [] := by simpa using h
        rw [this] at hi; cases hi
    have hn : (List.range ops.size).drop i = i :: (List.range ops.size).drop (i + 1) := by
      rw [List.drop_eq_getElem_cons (by simpa using hlt)]; simp
    have ho : ops[i]? = some o := by
      have := congrArg (·[0]?) hi
      simpa using this
    have hi' : ops.toList.drop (i + 1) = os := by
      have := congrArg List.tail hi
      simpa using this
    rw [hn]
    simp only [evOpsA] at h
    split at h
    · rename_i s1 c1 a1 h1
      split at h
      · rename_i hc1
        split at h
        · rename_i s2 as h2
          cases h
          obtain ⟨hl1, q, t1, c2, e1, e2, e3⟩ := evOpA_ok h0 hm h1 hc1 hl
          have ha1 : acAt allA i = a1 := by
            have := congrArg (·[0]?) ha
            unfold acAt
            rw [List.getD_eq_getElem?_getD]
            simp at this
            rw [this]; rfl
          have ha' : allA.drop (i + 1) = as := by
            have := congrArg List.tail ha
            simpa using this
          obtain ⟨hl2, t2, r, e4⟩ := runs_A h0 hm os (i + 1) s1 _ as hi' ha' h2 hl1
          obtain ⟨t3, r', e5⟩ := runs_congr r e3.symm
          exact ⟨hl2, t3, .cons ho (by rw [ha1]; exact e1) e2 r', e5.symm.trans e4⟩
        · cases h
      · cases h
    · cases h
theorem region_A (G : Good V P) (h0 : V.t0 = false) {m : Sl V} (hm : High m) {id : Nat} {ops : Array Oper} {Q : Exit → Act → World → Prop} {s s' : St V.E} {acs : List Acc} {a : Act} {w : World} (S : Sim V C (plus m s) a w)
    (h : evOpsA V ops.toList 0 ops.toList s = some (s', acs)) (hd : anyB ops acs = true) (hl : Low s) (hQ : ∀ a' w', Sim V C (plus m s') a' w' → Q .normal a' w') :
    (Code.region id ops true).wp P Q a w := by
  obtain ⟨_, s2, r, e⟩ := runs_A (allA := acs) h0 hm ops.toList 0 s s' acs rfl rfl h hl
  have hrem : rem ops.size (Array.replicate ops.size false) = List.range ops.size := by
    unfold rem
    rw [List.filter_eq_self]
    intro i hi
    simp only [List.mem_range] at hi
    simp [Array.getD_eq_getD_getElem?, hi]
  refine wp_region_any G.mixed (any_ok G hd hQ ops.size _ a _ (plus m s) s2 (by simp) (by rw [hrem]; simp) ?_ S.drew (by rw [hrem]; simpa using r) e)
  intro i o ho hl
  simp only [Array.getD_eq_getD_getElem?, Array.getElem?_replicate] at hl
  split at hl <;> simp at hl
def kpX (V : Env) (s : St V.E) (ks : List Nat) : List (SV V.E) := ks.filterMap fun k => slot V s k
def kpV (V : Env) (C : Ctx) (s : St V.E) (a : Act) (ks : List Nat) : List Value := ks.filterMap fun k => (slot V s k).map fun _ => getV C a.tmps k
theorem kp_all {R : SV V.E → Value → Prop} {s : St V.E} {a : Act} : ∀ (ks : List Nat), (∀ k x, slot V s k = some x → R x (getV C a.tmps k)) → All2 R (kpX V s ks) (kpV V C s a ks)
  | [], _ => .nil
  | k :: ks, h => by
    unfold kpX kpV
    cases hk : slot V s k with
    | none => simp only [List.filterMap_cons, hk, Option.map_none]; exact kp_all ks h
    | some x => simp only [List.filterMap_cons, hk, Option.map_some]; exact .cons (h k x hk) (kp_all ks h)
theorem kp_get {R : SV V.E → Value → Prop} {s : St V.E} {a : Act} : ∀ (ks : List Nat), All2 R (kpX V s ks) (kpV V C s a ks) → ∀ k ∈ ks, ∀ x, slot V s k = some x → R x (getV C a.tmps k)
  | [], _, k, hk, _, _ => by simp at hk
  | j :: ks, h, k, hk, x, hx => by
    unfold kpX kpV at h
    cases hj : slot V s j with
    | none =>
      simp only [List.filterMap_cons, hj, Option.map_none] at h
      rcases List.mem_cons.1 hk with rfl | hk
      · rw [hj] at hx; cases hx
      · exact kp_get ks h k hk x hx
    | some y =>
      simp only [List.filterMap_cons, hj, Option.map_some] at h
      cases h with
      | cons h1 h2 =>
        rcases List.mem_cons.1 hk with rfl | hk
        · rw [hj] at hx; cases hx; exact h1
        · exact kp_get ks h2 k hk x hx
theorem slot_key {s : St V.E} {k : Nat} {x : SV V.E} (h : slot V s k = some x) : k ∈ s.slots.map (·.1) := by
  unfold slot at h
  split at h
  · rename_i y hy; exact List.mem_map.2 ⟨_, look_mem hy, rfl⟩
  · cases h
theorem simB_new {n : Nat} {sl sl' : Sl V} {a : Act} {bx' : Bx V} {β' : Nat → BI} {w' : World} (hsz : a.tmps.size = n) (hdf : a.defers = []) (h0 : V.t0 = false) (M : MemOk V.T C bx' β' w')
    (hs : ∀ k x, look k sl = some (some x) → SVRep V.T bx' β' (okOf C β' w') w' x (getV C a.tmps k)) {dst : Option Tmp} (hd : ∀ d, dst = some d → d < n ∧ Nat.blt d 1000000 = true) {x : SV V.E} {v : Value}
    (hx : SVRep V.T bx' β' (okOf C β' w') w' x v) (hsl : Same sl' (putDst V dst (some x) sl)) : SimB V C ⟨n, sl', bx'⟩ β' (a.put dst v) w' := by
  have hslot : ∀ k y, slot V (⟨n, sl', bx'⟩ : St V.E) k = some y → look k (putDst V dst (some x) sl) = some (some y) := by
    intro k y h
    unfold slot at h
    split at h
    · rename_i z hz; subst h; rw [← hsl k]; exact hz
    · cases h
  cases dst with
  | none => exact ⟨hsz, ⟨hdf, fun h => by rw [h0] at h; cases h⟩, fun k y hk => hs k y (hslot k y hk), M⟩
  | some d =>
    obtain ⟨hlt, hb⟩ := hd d rfl
    refine ⟨by simpa [Act.put] using hsz, ⟨by simpa [Act.put] using hdf, fun h => by rw [h0] at h; cases h⟩, fun k y hk => ?_, M⟩
    have hk := hslot k y hk
    by_cases hkd : k = d
    · subst hkd
      rw [show putDst V (some k) (some x) sl = put k (some x) sl from rfl, look_put_same] at hk
      cases hk
      have : getV C (a.put (some k) v).tmps k = v := by
        unfold getV
        rw [hb]
        simp [Act.put, Array.getD_eq_getD_getElem?, hsz, hlt]
      rw [this]; exact hx
    · rw [show putDst V (some d) (some x) sl = put d (some x) sl from rfl, look_put_other hkd] at hk
      have : getV C (a.put (some d) v).tmps k = getV C a.tmps k := by
        unfold getV
        split
        · simp [Act.put, Array.getD_eq_getD_getElem?, Array.getElem?_setIfInBounds_ne (Ne.symm hkd)]
        · rfl
      rw [this]; exact hs k y hk
theorem opndsQ_eq (n : Nat) (sl : Sl V) (bx : Bx V) : ∀ (xs : List Operand) (ts : List TypeId), opndsQ V sl ts xs = opnds V ⟨n, sl, bx⟩ ts xs
  | [], ts => by cases ts <;> rfl
  | x :: xs, [] => by simp only [opndsQ, opnds, opndQ_eq V n sl bx, opndsQ_eq n sl bx xs]
  | x :: xs, t :: ts => by simp only [opndsQ, opnds, opndQ_eq V n sl bx, opndsQ_eq n sl bx xs]
theorem callL_ok (h0 : V.t0 = false) {L : FuncId → Option (FL V.E)} (HL : ∀ f S, L f = some S → MeetsL V.T P f S) {m : Sl V} (hm : High m) {ops : Array Oper} {i : Nat} {o : Oper} (ho : ops[i]? = some o) {s s' : St V.E} {a : Act} {w : World}
    (S : Sim V C (plus m s) a w) (hw : wantQ V ops.toList i s.slots o = some true) (h : callL V L o s = some s') (hl : Low s) {K : Act → World → Prop} {Q : Exit → Act → World → Prop} (hK : Low s' → ∀ a' w', Sim V C (plus m s') a' w' → K a' w') : wpOp P ops Q i K a w := by
  obtain ⟨β, S⟩ := S
  obtain ⟨q, c, hq, hc, _⟩ := wantQ_ok hm hw .none
  have hwant := wants_ok S hq hc
  unfold wpOp
  rw [ho]
  simp only
  rw [hwant]
  simp only [if_true]
  refine .inl ?_
  obtain ⟨n, sl, bx⟩ := s
  unfold callL at h
  simp only at h
  split at h
  · rename_i hd
    have hlow := dstQ_low hd
    split at h
    · rename_i cl hop
      split at h
      · rename_i fv hcv
        unfold callF at h
        split at h
        · rename_i f caps hfv
          unfold callG at h
          split at h
          · rename_i S0 ls hS0 hls
            split at h
            · rename_i res bx1 hg
              cases h
              rw [opndQ_eq V n sl bx, ← opnd_plus hm] at hfv
              rw [opndsQ_eq n sl bx, ← opnds_plus hm] at hls
              have hf := opnd_ok S 0 fv _ hfv
              simp only [SR, SVRep, CVRep, LeafRep] at hf
              obtain ⟨capv, hfv, hcap⟩ := hf
              have hv := opnds_ok S cl.args.toList cl.argTypes.toList
              have hargs := (vals_cvs hv hls).append (caps_rep hcap)
              obtain ⟨⟨fn, hfn, hbd, hnm⟩, hM⟩ := HL f S0 hS0
              let ks := (plus m (⟨n, sl, bx⟩ : St V.E)).slots.map (·.1)
              have hkp := kp_all (C := C) (a := a) (s := plus m (⟨n, sl, bx⟩ : St V.E)) (R := SVRep V.T bx β (okOf C β w) w) ks (fun k x hx => S.slots k x hx)
              have hcalls := hM _ _ _ _ _ hg C β w _ _ _ S.mem hargs hkp
              unfold Oper.wp
              have hexec : (execOp a.eval o).run P w = .ok (.enter f (cl.args.map a.eval ++ capv)) w := by
                simp only [execOp, hop, resolve, hcv, hfv, Deferred.ofValue, Sem.run_bind, Sem.run_pure, Result.andThen_ok, invoke]
                rw [run_callFunc hfn hbd hnm]
                simp
              rw [hexec, Oper.upon_enter]
              have harr : (cl.args.toList.map a.eval ++ capv.toList).toArray = cl.args.map a.eval ++ capv := by
                apply Array.ext'; simp
              rw [harr] at hcalls
              refine hcalls.mono ?_
              rintro e w' ⟨β', rs, rfl, M', hres, hkp'⟩
              refine hK (low_put hl hlow _ _) _ _ ⟨β', ?_⟩
              refine simB_new (sl := sl ++ m) (by simpa [plus] using S.size) S.defers.1 h0 M' (fun k x hx => ?_) hlow (oneSV_rep hres) (fun k => (same_plus _ _ _ _ k).symm)
              have hsl : slot V (plus m (⟨n, sl, bx⟩ : St V.E)) k = some x := by
                unfold slot
                rw [show look k (plus m (⟨n, sl, bx⟩ : St V.E)).slots = some (some x) from hx]
              exact kp_get ks hkp' k (slot_key hsl) x hsl
            · cases h
          · cases h
        · cases h
      · cases h
    · cases h
  · cases h
theorem opL_ok (G : Good V P) (h0 : V.t0 = false) {L : FuncId → Option (FL V.E)} (HL : ∀ f S, L f = some S → MeetsL V.T P f S) {m : Sl V} (hm : High m) {ops : Array Oper} {i : Nat} {o : Oper} (ho : ops[i]? = some o) {s s' : St V.E} {a : Act} {w : World}
    (S : Sim V C (plus m s) a w) (h : evOpL V L ops.toList i o s = some s') (hl : Low s) {K : Act → World → Prop} {Q : Exit → Act → World → Prop} (hK : Low s' → ∀ a' w', Sim V C (plus m s') a' w' → K a' w') : wpOp P ops Q i K a w := by
  unfold evOpL at h
  split at h
  · split at h
    · rename_i hw
      exact callL_ok h0 HL hm ho S hw h hl hK
    · rename_i hw
      obtain ⟨n, sl, bx⟩ := s
      unfold skipL at h
      simp only at h
      split at h
      · rename_i hd
        cases h
        have hlow := dstQ_low hd
        obtain ⟨q, c, hq, hc, _⟩ := wantQ_ok (s := ⟨n, sl, bx⟩) hm hw .none
        have hev : evOp V ops.toList i o q (plus m (⟨n, sl, bx⟩ : St V.E)) = some (⟨n, putDst V o.dst (some (.tup [])) (sl ++ m), bx⟩, c, ⟨[], []⟩) := by
          unfold evOp
          rw [show (plus m (⟨n, sl, bx⟩ : St V.E)).n = n from rfl, dstQ_ok h0 hd, hq]
          rfl
        exact step_ok G ho S hev hc fun a' w' S' => hK (low_put hl hlow _ _) a' w' (S'.same ⟨rfl, same_plus _ _ _ _, fun _ => rfl⟩)
      · cases h
    · cases h
  · unfold okStep at h
    split at h
    · rename_i s1 c1 a1 h1
      split at h
      · rename_i hc
        cases h
        obtain ⟨hl1, q, t1, c2, e1, e2, e3⟩ := evOpA_ok h0 hm h1 hc hl
        exact step_ok G ho S e1 e2 fun a' w' S' => hK hl1 a' w' (S'.same e3)
      · cases h
    · cases h
theorem evOpsL_cons (L : FuncId → Option (FL V.E)) (ops : List Oper) (o : Oper) (os : List Oper) (i : Nat) (s : St V.E) : evOpsL V L ops (o :: os) i s = (match evOpL V L ops i o s with | some s' => evOpsL V L ops os (i + 1) s' | none => none) := by
  show Option.rec (motive := fun _ => Option (St V.E)) none (evOpsL V L ops os (i + 1)) (evOpL V L ops i o s) = _
  cases evOpL V L ops i o s <;> rfl
theorem opsL_ok (G : Good V P) (h0 : V.t0 = false) {L : FuncId → Option (FL V.E)} (HL : ∀ f S, L f = some S → MeetsL V.T P f S) {m : Sl V} (hm : High m) {ops : Array Oper} {Q : Exit → Act → World → Prop} :
    ∀ (os : List Oper) (i : Nat) (_ : ops.toList.drop i = os) (s s' : St V.E) (a : Act) (w : World), Sim V C (plus m s) a w → evOpsL V L ops.toList os i s = some s' → Low s → (Low s' → ∀ a' w', Sim V C (plus m s') a' w' → Q .normal a' w') →
      wpOps P ops Q ((List.range ops.size).drop i) a w
  | [], i, hi, s, s', a, w, S, h, hl, hQ => by
    have h : some s = some s' := h
    cases h
    have : ops.size ≤ i := by simpa using hi
    have hn : (List.range ops.size).drop i = [] := by simpa using this
    rw [hn]
    exact hQ hl _ _ S
  | o :: os, i, hi, s, s', a, w, S, h, hl, hQ => by
    have hlt : i < ops.size := by
      rcases Nat.lt_or_ge i ops.size with h | h
      · exact h
      · have : ops.toList.drop i = [] := by simpa using h
        rw [this] at hi; cases hi
    have hn : (List.range ops.size).drop i = i :: (List.range ops.size).drop (i + 1) := by
      rw [List.drop_eq_getElem_cons (by simpa using hlt)]; simp
    have ho : ops[i]? = some o := by
      have := congrArg (·[0]?) hi
      simpa using this
    have hi' : ops.toList.drop (i + 1) = os := by
      have := congrArg List.tail hi
      simpa using this
    rw [hn, wpOps_cons]
    rw [evOpsL_cons] at h
    split at h
    · rename_i s1 h1
      exact opL_ok G h0 HL hm ho S h1 hl fun hl1 a' w' S' => opsL_ok G h0 HL hm os (i + 1) hi' s1 s' a' w' S' h hl1 hQ
    · cases h
end
end Go.Ab
