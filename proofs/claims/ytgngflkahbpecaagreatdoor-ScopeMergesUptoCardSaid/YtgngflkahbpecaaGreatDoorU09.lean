/- Boxes told by other numbers; and all the small steps in one. A function's code, walked on abstract states from one place to the next. A function of the program meets what is told of it, where its code's walk comes to its end. Conditions: none beyond those that each theorem names. -/
import Derived.Test.YtgngflkahbpecaaGreatDoorU08
namespace Go.Ab
open Go
section
variable {V : Env} {C : Ctx}
theorem otherL_ids {E : Nat → Type} {id id' : Nat} {l l' : Leaf E} (h : otherL id id' l = some l') : l' = l ∧ ∀ i ∈ leafIds l, i ≠ id ∧ i ≠ id' := by
  unfold otherL at h
  split at h
  · rename_i hn
    cases h
    refine ⟨rfl, fun i hi => ?_⟩
    have := noneIn_of hn i hi
    simpa using this
  · cases h
theorem re_ok {id id' nv : Nat} {s s' : St V.E} (h : reSt id id' nv s = some s') {a : Act} {w : World} (S : Sim V C s a w) : Sim V C s' a w := by
  obtain ⟨β, S⟩ := S
  unfold reSt at h
  split at h
  · rename_i b hb
    split at h
    · rename_i b' cur crv hre
      split at h
      · rename_i hid
        split at h
        · rename_i hsort
          split at h
          · rename_i bx hbx
            cases h
            have M := S.mem
            let β' : Nat → BI := fun j => if j = id' then β id else if j = id then { β j with own := [] } else β j
            have hβ1 : β' id' = β id := by show (if _ then _ else _) = _; rw [if_pos rfl]
            have hβ2 : id ≠ id' → (β' id).own = [] := fun hne => by
              show (if _ then _ else _ : BI).own = _
              rw [if_neg hne, if_pos rfl]
            have hβ3 : ∀ j, j ≠ id → j ≠ id' → β' j = β j := fun j h1 h2 => by show (if _ then _ else _) = _; rw [if_neg h2, if_neg h1]
            have hfree : id ≠ id' → look id' s.boxes = none := by
              intro hne
              simp only [Bool.or_eq_true] at hid
              rcases hid with hid | hid
              · exact (hne (eq_of_beq' hid)).elim
              · simpa using hid
            -- the owned blocks are the same ones
            have hown : ∀ j x, x ∈ (β' j).own → ∃ k, x ∈ (β k).own ∧ (j = id' ∧ k = id ∨ j ≠ id' ∧ k = j ∧ j ≠ id) := by
              intro j x hx
              by_cases h1 : j = id'
              · subst h1; rw [hβ1] at hx; exact ⟨id, hx, .inl ⟨rfl, rfl⟩⟩
              · by_cases h2 : j = id
                · subst h2; rw [hβ2 h1] at hx; simp at hx
                · rw [hβ3 j h2 h1] at hx; exact ⟨j, hx, .inr ⟨h1, rfl, h2⟩⟩
            have L : Later (okOf C β w) w (okOf C β' w) w := ⟨fun b hb => ⟨hb.1, hb.2.1, fun j hj => by obtain ⟨k, hk, _⟩ := hown j b hj; exact hb.2.2 k hk⟩, fun _ _ => rfl⟩
            have hput : ∀ j, look j (put id' b' (delL id s.boxes)) = if j = id' then some b' else if j = id then none else look j s.boxes := by
              intro j
              by_cases h1 : j = id'
              · subst h1; rw [look_put_same, if_pos rfl]
              · rw [look_put_other h1, look_del, if_neg h1]
            have hlook := mapBoxes_look hbx
            have halike : ∀ j, j ≠ id → j ≠ id' → Alike (look j s.boxes) (look j bx) := by
              intro j h1 h2
              have e := hput j
              rw [if_neg h2, if_neg h1] at e
              rcases hlook j with ⟨p1, p2⟩ | ⟨ls, ls', p1, p2, _⟩ | ⟨b0, p1, p2, _⟩
              · exact .inl (by rw [p2, ← e, p1])
              · exact .inr ⟨ls, ls', by rw [← e, p1], p2⟩
              · exact .inl (by rw [p2, ← e, p1])
            have hnew : ∃ bn, look id' bx = some bn ∧ Alike (some b') (some bn) := by
              have e := hput id'
              rw [if_pos rfl] at e
              rcases hlook id' with ⟨p1, p2⟩ | ⟨ls, ls', p1, p2, _⟩ | ⟨b0, p1, p2, _⟩
              · rw [e] at p1; cases p1
              · rw [e] at p1; cases p1; exact ⟨_, p2, .inr ⟨ls, ls', rfl, rfl⟩⟩
              · rw [e] at p1; cases p1; exact ⟨_, p2, .inl rfl⟩
            obtain ⟨bn, hbn, hal⟩ := hnew
            have hm : ∀ l l' v, reL id cur crv id' nv l = some l' → LeafRep V.T s.boxes β (okOf C β w) w l v → LeafRep V.T bx β' (okOf C β' w) w l' v := by
              intro l l' v hl hr
              have other : otherL id id' l = some l' → LeafRep V.T bx β' (okOf C β' w) w l' v := by
                intro ho
                obtain ⟨rfl, hids⟩ := otherL_ids ho
                exact LeafRep.agree L _ v (fun i hi => ⟨halike i (hids i hi).1 (hids i hi).2, hβ3 i (hids i hi).1 (hids i hi).2⟩) hr
              cases l with
              | ar i ver =>
                simp only [reL] at hl
                split at hl
                · rename_i hc
                  cases hl
                  simp only [Bool.and_eq_true] at hc
                  have e1 := eq_of_beq' hc.1; have e2 := eq_of_beq' hc.2
                  subst e1; subst e2
                  simp only [LeafRep, hb, hbn] at hr ⊢
                  refine ⟨hr.1, ?_⟩
                  cases b with
                  | cells ls => simp only [reBox, Option.some.injEq, Prod.mk.injEq] at hre; obtain ⟨rfl, _, _⟩ := hre; rcases hal with hal | ⟨_, _, _, hal⟩ <;> (cases hal; trivial)
                  | arr e t xs v0 fz =>
                    simp only [reBox, Option.some.injEq, Prod.mk.injEq] at hre; obtain ⟨rfl, rfl, rfl⟩ := hre
                    rcases hal with hal | ⟨_, _, hal, _⟩ <;> cases hal
                    exact ⟨Nat.le_refl _, fun _ => by rw [hβ1]; exact hr.2.2 rfl⟩
                  | rows e e2 t xss v0 rv fz =>
                    simp only [reBox, Option.some.injEq, Prod.mk.injEq] at hre; obtain ⟨rfl, rfl, rfl⟩ := hre
                    rcases hal with hal | ⟨_, _, hal, _⟩ <;> cases hal
                    exact ⟨Nat.le_refl _, fun _ => by rw [hβ1]; exact hr.2.2 rfl⟩
                  | map k0 t0 l0 => simp [reBox] at hre
                  | gone => simp [reBox] at hre
                · exact other hl
              | row i ver rv j =>
                simp only [reL] at hl
                split at hl
                · rename_i hc
                  cases hl
                  simp only [Bool.and_eq_true] at hc
                  have e1 := eq_of_beq' hc.1.1; have e2 := eq_of_beq' hc.1.2; have e3 := eq_of_beq' hc.2
                  subst e1; subst e2; subst e3
                  simp only [LeafRep, hb, hbn] at hr ⊢
                  refine ⟨hr.1, ?_⟩
                  cases b with
                  | cells ls => simp only [reBox, Option.some.injEq, Prod.mk.injEq] at hre; obtain ⟨rfl, _, _⟩ := hre; rcases hal with hal | ⟨_, _, _, hal⟩ <;> (cases hal; trivial)
                  | arr e t xs v0 fz =>
                    simp only [reBox, Option.some.injEq, Prod.mk.injEq] at hre; obtain ⟨rfl, rfl, rfl⟩ := hre
                    rcases hal with hal | ⟨_, _, hal, _⟩ <;> cases hal
                    trivial
                  | rows e e2 t xss v0 rv0 fz =>
                    simp only [reBox, Option.some.injEq, Prod.mk.injEq] at hre; obtain ⟨rfl, rfl, rfl⟩ := hre
                    rcases hal with hal | ⟨_, _, hal, _⟩ <;> cases hal
                    refine ⟨Nat.le_refl _, fun _ => ⟨Nat.zero_le _, fun _ => ?_⟩⟩
                    rw [hβ1]
                    exact (hr.2.2 rfl).2 rfl
                  | map k0 t0 l0 => simp [reBox] at hre
                  | gone => simp [reBox] at hre
                · exact other hl
              | ptr i off =>
                simp only [reL] at hl
                split at hl
                · rename_i hc
                  cases hl
                  have e1 := eq_of_beq' hc
                  subst e1
                  simp only [LeafRep, hb, hbn] at hr ⊢
                  refine ⟨hr.1, ?_⟩
                  cases b with
                  | cells ls => simp only [reBox, Option.some.injEq, Prod.mk.injEq] at hre; obtain ⟨rfl, _, _⟩ := hre; rcases hal with hal | ⟨_, _, _, hal⟩ <;> (cases hal; rw [hβ1]; exact hr.2)
                  | arr e t xs v0 fz =>
                    simp only [reBox, Option.some.injEq, Prod.mk.injEq] at hre; obtain ⟨rfl, rfl, rfl⟩ := hre
                    rcases hal with hal | ⟨_, _, hal, _⟩ <;> cases hal
                    trivial
                  | rows e e2 t xss v0 rv0 fz =>
                    simp only [reBox, Option.some.injEq, Prod.mk.injEq] at hre; obtain ⟨rfl, rfl, rfl⟩ := hre
                    rcases hal with hal | ⟨_, _, hal, _⟩ <;> cases hal
                    trivial
                  | map k0 t0 l0 => simp [reBox] at hre
                  | gone => simp [reBox] at hre
                · exact other hl
              | _ => exact other (by simpa [reL] using hl)
            refine ⟨β', S.size, S.defers, fun k x hk => ?_, ?_⟩
            · have hk' : look k (mapSlots (reL id cur crv id' nv) s.slots) = some (some x) := by
                unfold slot at hk; simp only at hk
                split at hk
                · rename_i y hy; rw [hy, hk]
                · cases hk
              obtain ⟨x0, h1, h2⟩ := mapSlots_look hsort hk'
              have : slot V s k = some x0 := by unfold slot; rw [h1]
              exact mapSV_rep hm h2 (S.slots k x0 this)
            · refine ⟨fun j bj hj => ?_, fun j hj => ?_, fun j => ?_, fun j j' x hx hx' => ?_, fun j x hx => ?_, M.kept⟩
              · by_cases h1 : j = id'
                · subst h1
                  rw [hbn] at hj; cases hj
                  have hB := M.boxes id b hb
                  have e := hput j
                  rw [if_pos rfl] at e
                  cases b with
                  | cells ls =>
                    simp only [reBox, Option.some.injEq, Prod.mk.injEq] at hre; obtain ⟨rfl, rfl, rfl⟩ := hre
                    rcases hlook j with ⟨p1, p2⟩ | ⟨ls1, ls', p1, p2, p3⟩ | ⟨b0, p1, p2, p3⟩
                    · rw [e] at p1; cases p1
                    · rw [e] at p1; cases p1
                      rw [hbn] at p2; cases p2
                      obtain ⟨c, et, q1, q2, q3⟩ := hB
                      exact ⟨c, et, by rw [hβ1]; exact q1, by rw [hβ1]; exact q2, mapLs_rep hm p3 q3⟩
                    · rw [e] at p1; cases p1; exact (p3 _ rfl).elim
                  | arr et t xs v0 fz =>
                    simp only [reBox, Option.some.injEq, Prod.mk.injEq] at hre; obtain ⟨rfl, rfl, rfl⟩ := hre
                    rcases hal with hal | ⟨_, _, hal, _⟩ <;> cases hal
                    have hB' : BoxRep V.T bx β' (okOf C β' w) w j (.arr et t xs v0 fz) := BoxRep.agree L hβ1 (fun ls e => by cases e) hB
                    cases fz <;> exact hB'
                  | rows et e2 t xss v0 rv0 fz =>
                    simp only [reBox, Option.some.injEq, Prod.mk.injEq] at hre; obtain ⟨rfl, rfl, rfl⟩ := hre
                    rcases hal with hal | ⟨_, _, hal, _⟩ <;> cases hal
                    have hB' : BoxRep V.T bx β' (okOf C β' w) w j (.rows et e2 t xss v0 rv0 fz) := BoxRep.agree L hβ1 (fun ls e => by cases e) hB
                    cases fz <;> exact hB'
                  | map k0 t0 l0 => simp [reBox] at hre
                  | gone => simp [reBox] at hre
                · have e := hput j
                  rw [if_neg h1] at e
                  by_cases h2 : j = id
                  · rw [if_pos h2] at e
                    rcases hlook j with ⟨p1, p2⟩ | ⟨ls1, ls', p1, p2, p3⟩ | ⟨b0, p1, p2, p3⟩
                    · rw [p2] at hj; cases hj
                    · rw [e] at p1; cases p1
                    · rw [e] at p1; cases p1
                  · rw [if_neg h2] at e
                    rcases hlook j with ⟨p1, p2⟩ | ⟨ls1, ls', p1, p2, p3⟩ | ⟨b0, p1, p2, p3⟩
                    · rw [p2] at hj; cases hj
                    · rw [p2] at hj; cases hj
                      rw [e] at p1
                      obtain ⟨c, et, q1, q2, q3⟩ := M.boxes j _ p1
                      exact ⟨c, et, by rw [hβ3 j h2 h1]; exact q1, by rw [hβ3 j h2 h1]; exact q2, mapLs_rep hm p3 q3⟩
                    · rw [p2] at hj; cases hj
                      rw [e] at p1
                      exact BoxRep.agree L (hβ3 j h2 h1) (fun ls e => (p3 ls e).elim) (M.boxes j _ p1)
              · by_cases h1 : j = id'
                · subst h1; rw [hbn] at hj; cases hj
                · by_cases h2 : j = id
                  · subst h2; exact hβ2 h1
                  · rw [hβ3 j h2 h1]
                    refine M.nones j ?_
                    have e := hput j
                    rw [if_neg h1, if_neg h2] at e
                    rcases hlook j with ⟨p1, p2⟩ | ⟨ls1, ls', p1, p2, p3⟩ | ⟨b0, p1, p2, p3⟩
                    · rw [← e, p1]
                    · rw [p2] at hj; cases hj
                    · rw [p2] at hj; cases hj
              · by_cases h1 : j = id'
                · subst h1; rw [hβ1]; exact M.nodup id
                · by_cases h2 : j = id
                  · subst h2; rw [hβ2 h1]; exact List.nodup_nil
                  · rw [hβ3 j h2 h1]; exact M.nodup j
              · obtain ⟨k, hk, ck⟩ := hown j x hx
                obtain ⟨k', hk', ck'⟩ := hown j' x hx'
                have e := M.apart k k' x hk hk'
                subst e
                rcases ck with ⟨c1, c2⟩ | ⟨c1, c2, c3⟩ <;> rcases ck' with ⟨d1, d2⟩ | ⟨d1, d2, d3⟩
                · rw [c1, d1]
                · exact (d3 (d2.symm.trans c2)).elim
                · exact (c3 (c2.symm.trans d2)).elim
                · rw [← c2, ← d2]
              · obtain ⟨k, hk, _⟩ := hown j x hx
                exact M.mine k x hk
          · cases h
        · cases h
      · cases h
    · cases h
  · cases h
inductive WOp where
  | keep (ks ids : List Nat)
  | fix (p : Pl)
  | own (p : Pl) (j id e e2 : Nat)
  | st (p : Pl)
  | ne (p : Pl) (j : Nat)
  | re (id id' nv : Nat)
def noConds (o : Option (St V.E)) : Option (St V.E × List Cd) :=
  match o with
  | some s => some (s, [])
  | none => none
def weak1 : WOp → St V.E → Option (St V.E × List Cd)
  | .keep ks ids, s => noConds (keepSt ks ids s)
  | .fix p, s => noConds (fixSt p s)
  | .own p j id e e2, s => noConds (ownSt p j id e e2 s)
  | .st p, s => noConds (stSt p s)
  | .ne p j, s => neSt p j s
  | .re id id' nv, s => noConds (reSt id id' nv s)
def weak : List WOp → St V.E → Option (St V.E × List Cd)
  | [], s => some (s, [])
  | o :: os, s => match weak1 o s with
    | some (s', p) => match weak os s' with
      | some (s'', q) => some (s'', p ++ q)
      | none => none
    | none => none
theorem noConds_some {o : Option (St V.E)} {s : St V.E} {p : List Cd} (h : noConds o = some (s, p)) : o = some s := by
  unfold noConds at h
  split at h
  · cases h; rfl
  · cases h
theorem weak_ok : ∀ {os : List WOp} {s s' : St V.E} {cs : List Cd}, weak os s = some (s', cs) → AllP cs → ∀ {a : Act} {w : World}, Sim V C s a w → Sim V C s' a w
  | [], s, s', cs, h, hc, a, w, S => by simp only [weak, Option.some.injEq, Prod.mk.injEq] at h; obtain ⟨rfl, _⟩ := h; exact S
  | o :: os, s, s', cs, h, hc, a, w, S => by
    unfold weak at h
    split at h
    · rename_i s1 p h1
      split at h
      · rename_i s2 q h2
        cases h
        obtain ⟨hc1, hc2⟩ := AllP.append hc
        refine weak_ok h2 hc2 ?_
        cases o with
        | keep ks ids => exact keep_ok (noConds_some h1) S
        | fix k => exact fix_ok (noConds_some h1) S
        | own k j id e e2 => exact own_st_ok (noConds_some h1) S
        | st k => exact st_ok (noConds_some h1) S
        | ne k j => exact ne_ok h1 hc1 S
        | re id id' nv => exact re_ok (noConds_some h1) S
      · cases h
    · cases h
end
end Go.Ab
namespace Go.Ab
open Go
def auto : Nat → List Item → List Item
  | 0, k => k
  | n + 1, .code .skip :: k => auto n k
  | n + 1, .code (.label _) :: k => auto n k
  | n + 1, .code (.seq x y) :: k => auto n (.code x :: .code y :: k)
  | n + 1, .code (.block id c) :: k => auto n (.code c :: .inBlock id :: k)
  | n + 1, .inBlock _ :: k => auto n k
  | n + 1, .code (.exit id) :: k => match exitTo id k with
    | some k' => auto n k'
    | none => .code (.exit id) :: k
  | _ + 1, k => k
inductive Way where
  | auto | reg | br (b : Bool) | enter
def ctl1 (c : Way) (k : List Item) : List Item :=
  match c, auto 200 k with
  | .auto, k => k
  | .reg, .code (.region ..) :: k => k
  | .br b, .code (.cond _ x y) :: k => .code (if b then x else y) :: k
  | .enter, .code (.loop c) :: k => .code c :: .inLoop c :: k
  | .enter, .inLoop c :: k => .code c :: .inLoop c :: k
  | _, _ => []
def ctl : List Way → List Item → List Item
  | [], k => k
  | c :: cs, k => ctl cs (ctl1 c k)
section
variable (V : Env)
inductive Cmd where
  | auto
  | reg (q : Orcs V)
  | br (b : Bool)
  | enter
  | weak (os : List WOp)
def run1 (c : Cmd V) (k : List Item) (s : St V.E) : Option (List Item × St V.E × List Cd) :=
  match c with
  | .weak os => match weak os s with
    | some (s', cs) => some (k, s', cs)
    | none => none
  | .auto => some (auto 200 k, s, [])
  | .reg q => match auto 200 k with
    | .code (.region _ ops drawn) :: k' => match evOps V ops.toList q 0 ops.toList s with
      | some (s', cs, acs) => if drawn then (if anyB ops acs then some (k', s', cs) else none) else some (k', s', cs)
      | none => none
    | _ => none
  | .br b => match auto 200 k with
    | .code (.cond c x y) :: k' => match opnd V s 0 c with
      | some (.cv (.one (.bool x'))) => some (.code (if b then x else y) :: k', s, [cd (x' = b)])
      | _ => none
    | _ => none
  | .enter => match auto 200 k with
    | .code (.loop c) :: k' => some (.code c :: .inLoop c :: k', s, [])
    | .inLoop c :: k' => some (.code c :: .inLoop c :: k', s, [])
    | _ => none
def run : List (Cmd V) → List Item → St V.E → Option (List Item × St V.E × List Cd)
  | [], k, s => some (k, s, [])
  | c :: cs, k, s => match run1 V c k s with
    | some (k', s', p) => match run cs k' s' with
      | some (k'', s'', p') => some (k'', s'', p ++ p')
      | none => none
    | none => none
end
section
variable {V : Env} {P : Program} {C : Ctx}
def Goes (V : Env) (P : Program) (C : Ctx) (F : Act → World → Prop) (k : List Item) (s : St V.E) : Prop :=
  ∀ a w, Sim V C s a w → ∀ (b : Frame) (cs : List Frame), ∃ a' w' todo, F a' w' ∧ Steps P (lone (b.at a k) cs w) (lone { b.at a' todo with mode := .returning } cs w')
variable {F : Act → World → Prop}
theorem auto_steps (b : Frame) (a : Act) (cs : List Frame) (w : World) : ∀ (n : Nat) (k : List Item), Steps P (lone (b.at a k) cs w) (lone (b.at a (auto n k)) cs w)
  | 0, k => .refl _ _
  | n + 1, k => by
    unfold auto
    split
    · rename_i heq; cases heq
    · rename_i heq; cases heq; exact .head step_skip (auto_steps b a cs w n _)
    · rename_i heq; cases heq; exact .head step_label (auto_steps b a cs w n _)
    · rename_i heq; cases heq; exact .head step_seq (auto_steps b a cs w n _)
    · rename_i heq; cases heq; exact .head step_block (auto_steps b a cs w n _)
    · rename_i heq; cases heq; exact .head step_inBlock (auto_steps b a cs w n _)
    · rename_i heq; cases heq
      split
      · rename_i k' hk; exact .head (step_exit hk) (auto_steps b a cs w n _)
      · exact .refl _ _
    · exact .refl _ _
theorem Goes.of_steps {k k' : List Item} {s s' : St V.E} (h : ∀ a w, Sim V C s a w → ∀ (b : Frame) (cs : List Frame), ∃ a' w', Sim V C s' a' w' ∧ Steps P (lone (b.at a k) cs w) (lone (b.at a' k') cs w')) (g : Goes V P C F k' s') : Goes V P C F k s := by
  intro a w S b cs
  obtain ⟨a1, w1, S1, h1⟩ := h a w S b cs
  obtain ⟨a2, w2, todo, hF, h2⟩ := g a1 w1 S1 b cs
  exact ⟨a2, w2, todo, hF, h1.trans h2⟩
theorem run1_ok (G : Good V P) {c : Cmd V} {k k' : List Item} {s s' : St V.E} {cs : List Cd} (h : run1 V c k s = some (k', s', cs)) (hc : AllP cs) : Goes V P C F k' s' → Goes V P C F k s := by
  intro g
  have A := fun (b : Frame) (a : Act) (cs : List Frame) (w : World) => auto_steps (P := P) b a cs w 200 k
  unfold run1 at h
  split at h
  · split at h
    · rename_i s1 c1 hw
      cases h
      intro a w S
      exact g a w (weak_ok hw hc S)
    · cases h
  · cases h
    exact .of_steps (fun a w S b cs => ⟨a, w, S, A b a cs w⟩) g
  · split at h
    · rename_i id ops drawn k1 hk
      split at h
      · rename_i s1 c1 acs hev
        have key : ∀ (hd : drawn = true → anyB ops acs = true), AllP c1 → Goes V P C F k1 s1 → Goes V P C F k s := by
          intro hd hc g
          refine .of_steps (fun a w S b cs => ?_) g
          have hwp := region_ok G (id := id) (drawn := drawn) (Q := fun e a' w' => e = .normal ∧ Sim V C s1 a' w') S hev hc hd (fun a' w' S' => ⟨rfl, S'⟩)
          obtain ⟨e, a', w', ⟨rfl, S'⟩, harr⟩ := hwp b k1 cs
          refine ⟨a', w', S', ?_⟩
          have := A b a cs w
          rw [hk] at this
          exact this.trans harr
        split at h
        · split at h
          · rename_i hany
            cases h
            exact key (fun _ => hany) hc g
          · cases h
        · rename_i hd
          cases h
          exact key (fun e => (hd e).elim) hc g
      · cases h
    · cases h
  · split at h
    · rename_i o x y k1 hk
      split at h
      · rename_i x' ho
        cases h
        refine .of_steps (fun a w S b cs => ⟨a, w, S, ?_⟩) g
        obtain ⟨β, S⟩ := S
        have hr := opnd_ok S 0 o _ ho
        simp only [SR, SVRep, CVRep, LeafRep] at hr
        have := A b a cs w
        rw [hk] at this
        refine this.trans (.one ?_)
        rw [step_cond hr, hc.1]
      · cases h
    · cases h
  · split at h
    · rename_i c k1 hk
      cases h
      refine .of_steps (fun a w S b cs => ⟨a, w, S, ?_⟩) g
      have := A b a cs w
      rw [hk] at this
      exact this.trans (.one step_loop)
    · rename_i c k1 hk
      cases h
      refine .of_steps (fun a w S b cs => ⟨a, w, S, ?_⟩) g
      have := A b a cs w
      rw [hk] at this
      exact this.trans (.one step_inLoop)
    · cases h
theorem seg (G : Good V P) : ∀ {c : List (Cmd V)} {k k' : List Item} {s s' : St V.E} {cs : List Cd}, run V c k s = some (k', s', cs) → AllP cs → Goes V P C F k' s' → Goes V P C F k s
  | [], k, k', s, s', cs, h, hc, g => by
    simp only [run, Option.some.injEq, Prod.mk.injEq] at h
    obtain ⟨rfl, rfl, _⟩ := h
    exact g
  | c :: c', k, k', s, s', cs, h, hc, g => by
    unfold run at h
    split at h
    · rename_i k1 s1 p1 h1
      split at h
      · rename_i k2 s2 p2 h2
        cases h
        obtain ⟨hc1, hc2⟩ := AllP.append hc
        exact run1_ok G h1 hc1 (seg G h2 hc2 g)
      · cases h
    · cases h
end
def need {α : Type} (c : Prop) [Decidable c] (r : Option α) : Option α := cond (decide c) r none
theorem need_some {α : Type} {c : Prop} [Decidable c] {r : Option α} {y : α} (h : need c r = some y) : c ∧ r = some y := by
  unfold need at h
  by_cases hc : c
  · rw [decide_eq_true hc] at h; exact ⟨hc, h⟩
  · rw [decide_eq_false hc] at h; cases h
theorem need_of {α : Type} {c : Prop} [Decidable c] {r : Option α} (h : c) : need c r = r := by unfold need; rw [decide_eq_true h]; rfl
theorem bind_some {α β : Type} {x : Option α} {f : α → Option β} {y : β} (h : x.bind f = some y) : ∃ z, x = some z ∧ f z = some y := Option.bind_eq_some_iff.1 h
theorem ite_some {α : Type} {b : Bool} {x y : Option α} {r : α} (h : (if b = true then x else y) = some r) : (b = true ∧ x = some r) ∨ (b = false ∧ y = some r) := by
  cases b
  · exact .inr ⟨rfl, by simpa using h⟩
  · exact .inl ⟨rfl, by simpa using h⟩
def iterN {σ ρ : Type} (f : σ → Option (σ ⊕ ρ)) : Nat → σ → Option ρ
  | 0, _ => none
  | n + 1, s => (f s).bind fun
    | .inl s' => iterN f n s'
    | .inr r => some r
open Classical in
noncomputable def iter {σ ρ : Type} (f : σ → Option (σ ⊕ ρ)) (s : σ) : Option ρ :=
  match iterN f 18446744073709551616 s with
  | some r => some r
  | none => if h : ∃ n r, iterN f n s = some r then some h.choose_spec.choose else none
theorem iterN_det {σ ρ : Type} {f : σ → Option (σ ⊕ ρ)} : ∀ {n m : Nat} {s : σ} {r r' : ρ}, iterN f n s = some r → iterN f m s = some r' → r = r'
  | 0, _, _, _, _, h, _ => by simp [iterN] at h
  | _ + 1, 0, _, _, _, _, h => by simp [iterN] at h
  | n + 1, m + 1, s, r, r', h, h' => by
    simp only [iterN] at h h'
    cases hf : f s with
    | none => rw [hf] at h; cases h
    | some x =>
      rw [hf] at h h'
      cases x with
      | inl s' => exact iterN_det (n := n) (m := m) h h'
      | inr q => simp at h h'; rw [← h, h']
theorem iter_iff {σ ρ : Type} {f : σ → Option (σ ⊕ ρ)} {s : σ} {r : ρ} : iter f s = some r ↔ ∃ n, iterN f n s = some r := by
  unfold iter
  generalize 18446744073709551616 = N
  split
  · rename_i r' hr
    constructor
    · intro h; cases h; exact ⟨N, hr⟩
    · rintro ⟨n, h⟩; exact congrArg some (iterN_det hr h)
  constructor
  · intro h
    split at h
    · rename_i hx
      cases h
      exact ⟨hx.choose, hx.choose_spec.choose_spec⟩
    · cases h
  · rintro ⟨n, h⟩
    have hx : ∃ n r, iterN f n s = some r := ⟨n, r, h⟩
    rw [dif_pos hx]
    exact congrArg some (iterN_det hx.choose_spec.choose_spec h)
theorem iter_eq {σ ρ : Type} (f : σ → Option (σ ⊕ ρ)) (s : σ) : iter f s = (f s).bind fun
    | .inl s' => iter f s'
    | .inr r => some r := by
  apply Option.ext
  intro r
  rw [iter_iff]
  constructor
  · rintro ⟨n, h⟩
    cases n with
    | zero => simp [iterN] at h
    | succ n =>
      simp only [iterN] at h
      cases hf : f s with
      | none => rw [hf] at h; cases h
      | some x =>
        rw [hf] at h
        cases x with
        | inl s' => exact iter_iff.2 ⟨n, h⟩
        | inr q => exact h
  · intro h
    cases hf : f s with
    | none => rw [hf] at h; cases h
    | some x =>
      rw [hf] at h
      cases x with
      | inl s' =>
        obtain ⟨n, hn⟩ := iter_iff.1 (show iter f s' = some r from h)
        exact ⟨n + 1, by simp only [iterN, hf]; exact hn⟩
      | inr q => exact ⟨1, by simp only [iterN, hf]; exact h⟩
theorem iter_spec {σ ρ : Type} {f : σ → Option (σ ⊕ ρ)} (I : σ → Prop) (μ : σ → Nat) (Post : ρ → Prop)
    (h : ∀ s, I s → (∃ s', f s = some (.inl s') ∧ I s' ∧ μ s' < μ s) ∨ (∃ r, f s = some (.inr r) ∧ Post r)) : ∀ s, I s → ∃ r, iter f s = some r ∧ Post r := by
  intro s
  induction hn : μ s using Nat.strongRecOn generalizing s with
  | _ n ih =>
    intro hI
    rcases h s hI with ⟨s', h1, h2, h3⟩ | ⟨r, h1, h2⟩
    · obtain ⟨r, hr, hp⟩ := ih (μ s') (by omega) s' rfl h2
      exact ⟨r, by rw [iter_eq, h1]; exact hr, hp⟩
    · exact ⟨r, by rw [iter_eq, h1]; rfl, h2⟩
section
variable {V : Env} {P : Program} {C : Ctx} {F : Act → World → Prop}
theorem loop_goes {σ ρ : Type} {f : σ → Option (σ ⊕ ρ)} {k : List Item} {S : σ → St V.E} {r : ρ}
    (h : ∀ v o, f v = some o → (∀ v', o = .inl v' → Goes V P C F k (S v')) → (∀ r', o = .inr r' → r' = r) → Goes V P C F k (S v)) : ∀ v, iter f v = some r → Goes V P C F k (S v) := by
  intro v hv
  obtain ⟨n, hn⟩ := iter_iff.1 hv
  clear hv
  induction n generalizing v with
  | zero => simp [iterN] at hn
  | succ n ih =>
    simp only [iterN] at hn
    obtain ⟨o, ho, hn⟩ := bind_some hn
    refine h v o ho (fun v' e => ?_) (fun r' e => ?_)
    · subst e; exact ih v' hn
    · subst e; exact Option.some.inj hn
end
end Go.Ab
namespace Go.Ab
open Go
section
variable (V : Env)
def ownId (i : Nat) : Nat := 1000000 + i
def entrySlots : Nat → List TypeId → (ts : List Ty) → HL V.E ts → List (Nat × Option (SV V.E))
  | _, _, [], _ => []
  | i, 0 :: os, t :: ts, (x, r) => (i, (ofLeaves (isNm t) (t.toL V.T x)).map SV.cv) :: entrySlots (i + 1) os ts r
  | i, (_ + 1) :: os, _ :: ts, (_, r) => (i, some (.cv (.one (.ar (ownId i) 0)))) :: entrySlots (i + 1) os ts r
  | i, [], t :: ts, (x, r) => (i, (ofLeaves (isNm t) (t.toL V.T x)).map SV.cv) :: entrySlots (i + 1) [] ts r
def entryBoxes : Nat → List TypeId → (ts : List Ty) → HL V.E ts → List (Nat × Box V.E)
  | _, _, [], _ => []
  | i, 0 :: os, _ :: ts, (_, r) => entryBoxes (i + 1) os ts r
  | i, (e + 1) :: os, .sl t :: ts, (xs, r) => (ownId i, .arr (e + 1) t xs 0 false) :: entryBoxes (i + 1) os ts r
  | i, (_ + 1) :: os, _ :: ts, (_, r) => entryBoxes (i + 1) os ts r
  | i, [], _ :: ts, (_, r) => entryBoxes (i + 1) [] ts r
def entrySt (n : Nat) (S : FS V.E) (x : HL V.E S.args) : St V.E := ⟨n, entrySlots V 0 S.argOwn S.args x, entryBoxes V 0 S.argOwn S.args x⟩
def finLeaves (bx : List (Nat × Box V.E)) : List (TypeId × TypeId) → List (Leaf V.E) → Option (List (Leaf V.E) × List Nat)
  | _, [] => some ([], [])
  | (0, _) :: os, l :: r => match Leaf.av V.T l, finLeaves bx os r with
    | some _, some (ls, ids) => some (l :: ls, ids)
    | _, _ => none
  | [], l :: r => match Leaf.av V.T l, finLeaves bx [] r with
    | some _, some (ls, ids) => some (l :: ls, ids)
    | _, _ => none
  | (e + 1, 0) :: os, .ar id ver :: r => match look id bx, finLeaves bx os r with
    | some (.arr e' t xs v false), some (ls, ids) => if Nat.beq ver v && Nat.beq e' (e + 1) then some (.sl t false xs :: ls, id :: ids) else none
    | _, _ => none
  | (e + 1, e2 + 1) :: os, .ar id ver :: r => match look id bx, finLeaves bx os r with
    | some (.rows e' e2' t xss v _ .opn), some (ls, ids) => if Nat.beq ver v && Nat.beq e' (e + 1) && Nat.beq e2' (e2 + 1) then some (.sl (.sl t) false xss :: ls, id :: ids) else none
    | _, _ => none
  | _, _ => none
def resOf (s : St V.E) : ResultVar → Option (CV V.E)
  | .tmp k => match slotT V s k with
    | some (.cv c) => some c
    | _ => none
  | .cell k t => match slotT V s k, V.ti t with
    | some (.cv (.one (.ptr id off))), some i => match look id s.boxes with
      | some (.cells ls) => if Nat.ble (off + i.size) ls.length then ofLeaves i.kind.agg ((ls.drop off).take i.size) else none
      | _ => none
    | _, _ => none
def finAll (s : St V.E) : List (List (TypeId × TypeId)) → (ts : List Ty) → List ResultVar → Option (HL V.E ts × List Nat)
  | _, [], [] => some ((), [])
  | os, t :: ts, r :: rs => match resOf V s r with
    | some c => if c.isAg == isNm t then match finLeaves V s.boxes (os.headD []) c.leaves with
        | some (ls, ids) => match t.ofL V.T ls with
          | some y => match finAll s os.tail ts rs with
            | some (q, ids') => some ((y, q), ids ++ ids')
            | none => none
          | none => none
        | none => none
      else none
    | none => none
  | _, _, _ => none
def distinct : List Nat → Bool
  | [] => true
  | x :: xs => !(memB x xs) && distinct xs
end
section
variable {V : Env} {P : Program} {C : Ctx}
theorem distinct_of : ∀ {l : List Nat}, distinct l = true → l.Nodup
  | [], _ => List.nodup_nil
  | x :: xs, h => by
    simp only [distinct, Bool.and_eq_true, Bool.not_eq_true'] at h
    refine List.nodup_cons.2 ⟨fun hm => ?_, distinct_of h.2⟩
    rw [memB_of hm] at h; exact Bool.noConfusion h.1
theorem leaf_any {bx bx' : List (Nat × Box V.E)} {β β' : Nat → BI} {ok : Nat → Prop} {w : World} {l : Leaf V.E} {x : AV} (h : Leaf.av V.T l = some x) {v : Value} (k : LeafRep V.T bx β ok w l v) : LeafRep V.T bx' β' ok w l v :=
  (leaf_av h v).2 ((leaf_av h v).1 k)
theorem finLeaves_ok {s : St V.E} {β : Nat → BI} {w : World} (M : MemOk V.T C s.boxes β w) {ok' : Nat → Prop} (L : Later (okOf C β w) w ok' w) : ∀ (ls : List (Leaf V.E)) (os : List (TypeId × TypeId)) (vs : List Value) (ls' : List (Leaf V.E)) (ids : List Nat) (ms : List (Leaf V.E)),
    All2 (LeafRep V.T s.boxes β (okOf C β w) w) ls vs → finLeaves V s.boxes os ls = some (ls', ids) → Coe ls' ms → OwnLeaves V.T ok' w os ms vs (ids.flatMap fun id => (β id).own)
  | [], os, _, ls', ids, ms, .nil, h, hc => by
    have h : (([] : List (Leaf V.E)), ([] : List Nat)) = (ls', ids) := by
      cases os with
      | nil => simpa [finLeaves] using h
      | cons o os => obtain ⟨e, e2⟩ := o; simpa [finLeaves] using h
    cases h
    cases hc
    exact .nil
  | l :: ls, os, _, ls', ids, ms, .cons (b := v) (m := vs) h1 h2, h, hc => by
    have data : ∀ {x : AV} {m : Leaf V.E}, Leaf.av V.T l = some x → coe1 l m → ∀ bx β', LeafRep V.T bx β' ok' w m v := by
      intro x m hx hm bx β'
      have := leaf_any (bx' := bx) (β' := β') hx h1
      have k := coe_rep hm this
      refine LeafRep.agree L m v (fun id hid => ?_) k
      exfalso
      rcases hm with rfl | ⟨t, st, st', xs, rfl, rfl, _⟩
      · cases l <;> simp [Leaf.av] at hx <;> simp [leafIds] at hid
      · simp [leafIds] at hid
    unfold finLeaves at h
    split at h
    · rename_i heq; cases heq
    · rename_i heq; cases heq
      split at h
      · rename_i x r ids' hx hr
        cases h
        cases hc with
        | cons c1 c2 => exact .data (data hx c1) (finLeaves_ok M L ls _ vs _ _ _ h2 hr c2)
      · cases h
    · rename_i heq; cases heq
      split at h
      · rename_i x r ids' hx hr
        cases h
        cases hc with
        | cons c1 c2 => exact .more (data hx c1) (finLeaves_ok M L ls _ vs _ _ _ h2 hr c2)
      · cases h
    · rename_i heq; cases heq
      split at h
      · rename_i e' t xs v0 r ids' hb hr
        split at h
        · rename_i hv
          cases h
          simp only [Bool.and_eq_true] at hv
          simp only [LeafRep, hb] at h1
          have hvv := h1.2.2 (eq_of_beq' hv.1)
          have he := eq_of_beq' hv.2
          subst he
          obtain ⟨q1, q2⟩ := M.boxes _ _ hb
          cases hc with
          | cons c1 c2 =>
            rw [List.flatMap_cons, q1, ← hvv]
            rcases c1 with rfl | ⟨t', st, st', xs', e1, e2, _⟩
            · exact .arr (Nat.succ_ne_zero _) (by rw [hvv]; exact q2.later L fun _ _ => rfl) (finLeaves_ok M L ls _ vs _ _ _ h2 hr c2)
            · cases e1; subst e2
              exact .arr (Nat.succ_ne_zero _) (by rw [hvv]; exact q2.later L fun _ _ => rfl) (finLeaves_ok M L ls _ vs _ _ _ h2 hr c2)
        · cases h
      · cases h
    · rename_i heq; cases heq
      split at h
      · rename_i e' e2' t xs v0 rv r ids' hb hr
        split at h
        · rename_i hv
          cases h
          simp only [Bool.and_eq_true] at hv
          simp only [LeafRep, hb] at h1
          have hvv := h1.2.2 (eq_of_beq' hv.1.1)
          have he := eq_of_beq' hv.1.2
          have he2 := eq_of_beq' hv.2
          subst he; subst he2
          have hB := M.boxes _ _ hb
          simp only [BoxRep] at hB
          cases hc with
          | cons c1 c2 =>
            rw [List.flatMap_cons]
            have hR : ∀ id e e2, v = (β id).hdr → RowsOwn V.T (okOf C β w) w e e2 t xs (β id) → RowsOwn V.T ok' w e e2 t xs ⟨0, v, (β id).own, (β id).rows⟩ := by
              intro id e e2 hv hB
              obtain ⟨q1, q2, q3⟩ := hB
              rw [hv]
              exact ⟨q1, q2, q3.imp fun _ _ k => k.later L fun _ _ => rfl⟩
            rcases c1 with rfl | ⟨t', st, st', xs', e1, e2, _⟩
            · exact .rows (Nat.succ_ne_zero _) (Nat.succ_ne_zero _) (hR _ _ _ hvv hB) (finLeaves_ok M L ls _ vs _ _ _ h2 hr c2)
            · cases e1; subst e2
              exact .rows (Nat.succ_ne_zero _) (Nat.succ_ne_zero _) (hR _ _ _ hvv hB) (finLeaves_ok M L ls _ vs _ _ _ h2 hr c2)
        · cases h
      · cases h
    · cases h
def resRun (a : Act) : ResultVar → Sem Value
  | .tmp t => pure (a.tmps.getD t undef)
  | .cell k t => do loadVar t (← asAddr (a.tmps.getD k undef))
theorem resOf_ok (G : EnvOk V P) {s : St V.E} {β : Nat → BI} {a : Act} {w : World} (S : SimB V C s β a w) {r : ResultVar} {c : CV V.E} (h : resOf V s r = some c) :
    ∃ v, (resRun a r).run P w = .ok v w ∧ CVRep V.T s.boxes β (okOf C β w) w c v := by
  unfold resOf at h
  split at h
  · rename_i k
    split at h
    · rename_i c' hk
      cases h
      exact ⟨a.tmps.getD k undef, by simp only [resRun, Sem.run_pure], S.slotT hk⟩
    · cases h
  · rename_i k t
    split at h
    · rename_i id off i hk hi
      split at h
      · rename_i ls hb
        split at h
        · rename_i hle
          have hle := Nat.le_of_ble_eq_true hle
          obtain ⟨info, d, z, I⟩ := G t i hi
          have hr : SVRep V.T s.boxes β (okOf C β w) w (.cv (.one (.ptr id off))) (a.tmps.getD k undef) := S.slotT hk
          simp only [SVRep, CVRep, LeafRep, hb] at hr
          obtain ⟨_, hv⟩ := hr
          obtain ⟨cs, e, hown, hheap, hall⟩ := S.mem.boxes id _ hb
          have hall' := (hall.drop off).take i.size
          obtain ⟨h1, h2⟩ := run_loadVar_at (w := w) I (β id).blk off ((cs.toList.drop off).take i.size) (by rw [← hall'.length]; simp; omega) (fun j v hv => by
            rw [cell_of_heap_cells hheap]
            rw [List.getElem?_take] at hv
            split at hv
            · rw [List.getElem?_drop] at hv; simpa using hv
            · cases hv)
          simp only [resRun, hv, asAddr, Sem.run_bind, Sem.run_pure, Result.andThen_ok]
          rcases ofLeaves_rep h hall' with ⟨ha, rfl, k⟩ | ⟨ha, l, v, _, rfl, h4, k⟩
          · exact ⟨_, h1 ha, k⟩
          · exact ⟨_, h2 ha v h4, k⟩
        · cases h
      · cases h
    · cases h
theorem finAll_ok (HT : V.T.Ok) (G : EnvOk V P) {s : St V.E} {β : Nat → BI} {a : Act} {w : World} (S : SimB V C s β a w) {ok' : Nat → Prop} (L : Later (okOf C β w) w ok' w) : ∀ (ts : List Ty) (os : List (List (TypeId × TypeId))) (rs : List ResultVar) (y : HL V.E ts) (ids : List Nat), finAll V s os ts rs = some (y, ids) →
    ∃ vs, (rs.mapM (resRun a)).run P w = .ok vs w ∧ ResRep V.T ok' w os ts y vs (ids.flatMap fun id => (β id).own)
  | [], os, rs, y, ids, h => by
    cases rs with
    | nil =>
      have h : (((), []) : HL V.E [] × List Nat) = (y, ids) := by cases os <;> simpa [finAll] using h
      cases h
      exact ⟨[], by simp, rfl, rfl⟩
    | cons r rs => cases os <;> simp [finAll] at h
  | t :: ts, os, [], y, ids, h => by cases os <;> simp [finAll] at h
  | t :: ts, os, r :: rs, y, ids, h => by
    have h' : (match resOf V s r with
      | some c => if c.isAg == isNm t then match finLeaves V s.boxes (os.headD []) c.leaves with
        | some (ls, ids) => match t.ofL V.T ls with
          | some y => match finAll V s os.tail ts rs with
            | some (q, ids') => some ((y, q), ids ++ ids')
            | none => none
          | none => none
        | none => none
        else none
      | none => none) = some (y, ids) := by
      rw [← h]; simp only [finAll]
    split at h'
    · rename_i c hk
      split at h'
      · rename_i hag
        split at h'
        · rename_i ls ids1 hf
          split at h'
          · rename_i y1 hy
            split at h'
            · rename_i q ids2 hr
              cases h'
              obtain ⟨vs, h1, h2⟩ := finAll_ok HT G S L ts os.tail rs q ids2 hr
              obtain ⟨v, hv, hrep⟩ := resOf_ok G S hk
              have hO := finLeaves_ok S.mem L _ _ _ _ _ _ (CVRep.cells hrep) hf (ofL_coe HT hy)
              refine ⟨v :: vs, ?_, _, _, _, _, rfl, by rw [List.flatMap_append], ⟨_, hO, ?_⟩, h2⟩
              · rw [List.mapM_cons]
                simp only [Sem.run_bind, Sem.run_pure, hv, h1, Result.andThen_ok]
              · have hci := CVRep.isAg hrep
                have hag : c.isAg = isNm t := by simpa using hag
                split
                · rename_i hn
                  rw [hn] at hag
                  obtain ⟨cs, hcs⟩ := hci.1 hag
                  rw [hcs]; rfl
                · rename_i hn
                  simp only [Bool.not_eq_true] at hn
                  rw [hn] at hag
                  rw [hci.2 hag]
            · cases h'
          · cases h'
        · cases h'
      · cases h'
    · cases h'
end
end Go.Ab
