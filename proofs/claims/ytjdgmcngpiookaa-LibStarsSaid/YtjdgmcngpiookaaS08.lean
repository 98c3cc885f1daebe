/- Boxes told by other numbers; and all the small steps in one. A function's code, walked on abstract states from one place to the next. A function of the program meets what is told of it, where its code's walk comes to its end. Conditions: none beyond those that each theorem names. -/
import Derived.Test.YtjdgmcngpiookaaS07
namespace Go.Ab
open Go
section
variable {V : Env} {C : Ctx}
theorem Agl {E : Nat -> Type} {id id' : Nat} {l l' : A5 E} (h : Qs id id' l = some l') : l' = l /\ ∀ i ∈ Gj l, i ≠ id /\ i ≠ id' := by
 unfold Qs at h
 split at h
 · rename_i hn
   cases h
   refine ⟨rfl, λ i hi => ?_⟩
   have := Mn hn i hi
   simpa using this
 · cases h
theorem A5d {id id' nv : Nat} {s s' : St V.E} (h : A4f id id' nv s = some s') {a : Act} {w : World} (S : Sim V C s a w) : Sim V C s' a w := by
 obtain ⟨β, S⟩ := S
 unfold A4f at h
 split at h
 · rename_i b hb
   split at h
   · rename_i b' cur crv hre
     split at h
     · rename_i hid
       split at h
       · rename_i hsort
         split at h
         · rename_i bx hbx
           cases h
           have M := S.mem
           let β' : Nat -> BI := λ j => if j = id' then β id else if j = id then { β j with own := [] } else β j
           have hβ1 : β' id' = β id := by show (if _ then _ else _) = _; rw [if_pos rfl]
           have hβ2 : id ≠ id' -> (β' id).own = [] := λ hne => by
             show (if _ then _ else _ : BI).own = _
             rw [if_neg hne, if_pos rfl]
           have hβ3 : ∀ j, j ≠ id -> j ≠ id' -> β' j = β j := λ j h1 h2 => by show (if _ then _ else _) = _; rw [if_neg h2, if_neg h1]
           have hfree : id ≠ id' -> A3 id' s.boxes = none := by
             intro hne
             simp only [Bool.or_eq_true] at hid
             rcases hid with hid | hid
             · exact (hne (Ap hid)).elim
             · simpa using hid
           -- the owned blocks are the same ones
           have hown : ∀ j x, x ∈ (β' j).own -> ∃ k, x ∈ (β k).own /\ (j = id' /\ k = id \/ j ≠ id' /\ k = j /\ j ≠ id) := by
             intro j x hx
             by_cases h1 : j = id'
             · subst h1; rw [hβ1] at hx; exact ⟨id, hx, .inl ⟨rfl, rfl⟩⟩
             · by_cases h2 : j = id
               · subst h2; rw [hβ2 h1] at hx; simp at hx
               · rw [hβ3 j h2 h1] at hx; exact ⟨j, hx, .inr ⟨h1, rfl, h2⟩⟩
           have L : D8 (Bb C β w) w (Bb C β' w) w := ⟨λ b hb => ⟨hb.1, hb.2.1, λ j hj => by obtain ⟨k, hk, _⟩ := hown j b hj; exact hb.2.2 k hk⟩, λ _ _ => rfl⟩
           have hput : ∀ j, A3 j (put id' b' (Agf id s.boxes)) = if j = id' then some b' else if j = id then none else A3 j s.boxes := by
             intro j
             by_cases h1 : j = id'
             · subst h1; rw [A1, if_pos rfl]
             · rw [A4 h1, Wr, if_neg h1]
           have hlook := Lw hbx
           have halike : ∀ j, j ≠ id -> j ≠ id' -> Wy (A3 j s.boxes) (A3 j bx) := by
             intro j h1 h2
             have e := hput j
             rw [if_neg h2, if_neg h1] at e
             rcases hlook j with ⟨p1, p2⟩ | ⟨ls, ls', p1, p2, _⟩ | ⟨b0, p1, p2, _⟩
             · exact .inl (by rw [p2, <- e, p1])
             · exact .inr ⟨ls, ls', by rw [<- e, p1], p2⟩
             · exact .inl (by rw [p2, <- e, p1])
           have hnew : ∃ bn, A3 id' bx = some bn /\ Wy (some b') (some bn) := by
             have e := hput id'
             rw [if_pos rfl] at e
             rcases hlook id' with ⟨p1, p2⟩ | ⟨ls, ls', p1, p2, _⟩ | ⟨b0, p1, p2, _⟩
             · rw [e] at p1; cases p1
             · rw [e] at p1; cases p1; exact ⟨_, p2, .inr ⟨ls, ls', rfl, rfl⟩⟩
             · rw [e] at p1; cases p1; exact ⟨_, p2, .inl rfl⟩
           obtain ⟨bn, hbn, hal⟩ := hnew
           have hm : ∀ l l' v, reL id cur crv id' nv l = some l' -> Ak V.T s.boxes β (Bb C β w) w l v -> Ak V.T bx β' (Bb C β' w) w l' v := by
             intro l l' v hl hr
             have other : Qs id id' l = some l' -> Ak V.T bx β' (Bb C β' w) w l' v := by
               intro ho
               obtain ⟨rfl, hids⟩ := Agl ho
               exact Ak.agree L _ v (λ i hi => ⟨halike i (hids i hi).1 (hids i hi).2, hβ3 i (hids i hi).1 (hids i hi).2⟩) hr
             cases l with
             | ar i ver =>
               simp only [reL] at hl
               split at hl
               · rename_i hc
                 cases hl
                 simp only [Bool.and_eq_true] at hc
                 have e1 := Ap hc.1; have e2 := Ap hc.2
                 subst e1; subst e2
                 simp only [Ak, hb, hbn] at hr ⊢
                 refine ⟨hr.1, ?_⟩
                 cases b with
                 | cells ls => simp only [I9, Option.some.injEq, Prod.mk.injEq] at hre; obtain ⟨rfl, _, _⟩ := hre; rcases hal with hal | ⟨_, _, _, hal⟩ <;> (cases hal; trivial)
                 | arr e t xs v0 fz =>
                   simp only [I9, Option.some.injEq, Prod.mk.injEq] at hre; obtain ⟨rfl, rfl, rfl⟩ := hre
                   rcases hal with hal | ⟨_, _, hal, _⟩ <;> cases hal
                   exact ⟨Nat.le_refl _, λ _ => by rw [hβ1]; exact hr.2.2 rfl⟩
                 | rows e e2 t xss v0 rv fz =>
                   simp only [I9, Option.some.injEq, Prod.mk.injEq] at hre; obtain ⟨rfl, rfl, rfl⟩ := hre
                   rcases hal with hal | ⟨_, _, hal, _⟩ <;> cases hal
                   exact ⟨Nat.le_refl _, λ _ => by rw [hβ1]; exact hr.2.2 rfl⟩
                 | gone => simp [I9] at hre
               · exact other hl
             | row i ver rv j =>
               simp only [reL] at hl
               split at hl
               · rename_i hc
                 cases hl
                 simp only [Bool.and_eq_true] at hc
                 have e1 := Ap hc.1.1; have e2 := Ap hc.1.2; have e3 := Ap hc.2
                 subst e1; subst e2; subst e3
                 simp only [Ak, hb, hbn] at hr ⊢
                 refine ⟨hr.1, ?_⟩
                 cases b with
                 | cells ls => simp only [I9, Option.some.injEq, Prod.mk.injEq] at hre; obtain ⟨rfl, _, _⟩ := hre; rcases hal with hal | ⟨_, _, _, hal⟩ <;> (cases hal; trivial)
                 | arr e t xs v0 fz =>
                   simp only [I9, Option.some.injEq, Prod.mk.injEq] at hre; obtain ⟨rfl, rfl, rfl⟩ := hre
                   rcases hal with hal | ⟨_, _, hal, _⟩ <;> cases hal
                   trivial
                 | rows e e2 t xss v0 rv0 fz =>
                   simp only [I9, Option.some.injEq, Prod.mk.injEq] at hre; obtain ⟨rfl, rfl, rfl⟩ := hre
                   rcases hal with hal | ⟨_, _, hal, _⟩ <;> cases hal
                   refine ⟨Nat.le_refl _, λ _ => ⟨Nat.zero_le _, λ _ => ?_⟩⟩
                   rw [hβ1]
                   exact (hr.2.2 rfl).2 rfl
                 | gone => simp [I9] at hre
               · exact other hl
             | ptr i off =>
               simp only [reL] at hl
               split at hl
               · rename_i hc
                 cases hl
                 have e1 := Ap hc
                 subst e1
                 simp only [Ak, hb, hbn] at hr ⊢
                 refine ⟨hr.1, ?_⟩
                 cases b with
                 | cells ls => simp only [I9, Option.some.injEq, Prod.mk.injEq] at hre; obtain ⟨rfl, _, _⟩ := hre; rcases hal with hal | ⟨_, _, _, hal⟩ <;> (cases hal; rw [hβ1]; exact hr.2)
                 | arr e t xs v0 fz =>
                   simp only [I9, Option.some.injEq, Prod.mk.injEq] at hre; obtain ⟨rfl, rfl, rfl⟩ := hre
                   rcases hal with hal | ⟨_, _, hal, _⟩ <;> cases hal
                   trivial
                 | rows e e2 t xss v0 rv0 fz =>
                   simp only [I9, Option.some.injEq, Prod.mk.injEq] at hre; obtain ⟨rfl, rfl, rfl⟩ := hre
                   rcases hal with hal | ⟨_, _, hal, _⟩ <;> cases hal
                   trivial
                 | gone => simp [I9] at hre
               · exact other hl
             | _ => exact other (by simpa [reL] using hl)
           refine ⟨β', S.size, S.defers, λ k x hk => ?_, ?_⟩
           · have hk' : A3 k (Hb (reL id cur crv id' nv) s.slots) = some (some x) := by
               unfold slot at hk; simp only at hk
               split at hk
               · rename_i y hy; rw [hy, hk]
               · cases hk
             obtain ⟨x0, h1, h2⟩ := Lx hsort hk'
             have : slot V s k = some x0 := by unfold slot; rw [h1]
             exact Anh hm h2 (S.slots k x0 this)
           · refine ⟨λ j bj hj => ?_, λ j hj => ?_, λ j => ?_, λ j j' x hx hx' => ?_, λ j x hx => ?_, M.kept⟩
             · by_cases h1 : j = id'
               · subst h1
                 rw [hbn] at hj; cases hj
                 have hB := M.boxes id b hb
                 have e := hput j
                 rw [if_pos rfl] at e
                 cases b with
                 | cells ls =>
                   simp only [I9, Option.some.injEq, Prod.mk.injEq] at hre; obtain ⟨rfl, rfl, rfl⟩ := hre
                   rcases hlook j with ⟨p1, p2⟩ | ⟨ls1, ls', p1, p2, p3⟩ | ⟨b0, p1, p2, p3⟩
                   · rw [e] at p1; cases p1
                   · rw [e] at p1; cases p1
                     rw [hbn] at p2; cases p2
                     obtain ⟨c, et, q1, q2, q3⟩ := hB
                     exact ⟨c, et, by rw [hβ1]; exact q1, by rw [hβ1]; exact q2, Pd hm p3 q3⟩
                   · rw [e] at p1; cases p1; exact (p3 _ rfl).elim
                 | arr et t xs v0 fz =>
                   simp only [I9, Option.some.injEq, Prod.mk.injEq] at hre; obtain ⟨rfl, rfl, rfl⟩ := hre
                   rcases hal with hal | ⟨_, _, hal, _⟩ <;> cases hal
                   have hB' : Cu V.T bx β' (Bb C β' w) w j (.arr et t xs v0 fz) := Cu.agree L hβ1 (λ ls e => by cases e) hB
                   cases fz <;> exact hB'
                 | rows et e2 t xss v0 rv0 fz =>
                   simp only [I9, Option.some.injEq, Prod.mk.injEq] at hre; obtain ⟨rfl, rfl, rfl⟩ := hre
                   rcases hal with hal | ⟨_, _, hal, _⟩ <;> cases hal
                   have hB' : Cu V.T bx β' (Bb C β' w) w j (.rows et e2 t xss v0 rv0 fz) := Cu.agree L hβ1 (λ ls e => by cases e) hB
                   cases fz <;> exact hB'
                 | gone => simp [I9] at hre
               · have e := hput j
                 rw [if_neg h1] at e
                 by_cases h2 : j = id
                 · rw [if_pos h2] at e
                   rcases hlook j with ⟨p1, p2⟩ | ⟨ls1, ls', p1, p2, p3⟩ | ⟨b0, p1, p2, p3⟩
                   · rw [p2] at hj; cases hj
                   · rw [e] at p1; cases p1
                   · rw [e] at p1; cases p1
                 · rw [if_neg h2] at e
                   rcases hlook j with ⟨p1, p2⟩ | ⟨ls1, ls', p1, p2, p3⟩ | ⟨b0, p1, p2, p3⟩
                   · rw [p2] at hj; cases hj
                   · rw [p2] at hj; cases hj
                     rw [e] at p1
                     obtain ⟨c, et, q1, q2, q3⟩ := M.boxes j _ p1
                     exact ⟨c, et, by rw [hβ3 j h2 h1]; exact q1, by rw [hβ3 j h2 h1]; exact q2, Pd hm p3 q3⟩
                   · rw [p2] at hj; cases hj
                     rw [e] at p1
                     exact Cu.agree L (hβ3 j h2 h1) (λ ls e => (p3 ls e).elim) (M.boxes j _ p1)
             · by_cases h1 : j = id'
               · subst h1; rw [hbn] at hj; cases hj
               · by_cases h2 : j = id
                 · subst h2; exact hβ2 h1
                 · rw [hβ3 j h2 h1]
                   refine M.nones j ?_
                   have e := hput j
                   rw [if_neg h1, if_neg h2] at e
                   rcases hlook j with ⟨p1, p2⟩ | ⟨ls1, ls', p1, p2, p3⟩ | ⟨b0, p1, p2, p3⟩
                   · rw [<- e, p1]
                   · rw [p2] at hj; cases hj
                   · rw [p2] at hj; cases hj
             · by_cases h1 : j = id'
               · subst h1; rw [hβ1]; exact M.nodup id
               · by_cases h2 : j = id
                 · subst h2; rw [hβ2 h1]; exact List.nodup_nil
                 · rw [hβ3 j h2 h1]; exact M.nodup j
             · obtain ⟨k, hk, ck⟩ := hown j x hx
               obtain ⟨k', hk', ck'⟩ := hown j' x hx'
               have e := M.apart k k' x hk hk'
               subst e
               rcases ck with ⟨c1, c2⟩ | ⟨c1, c2, c3⟩ <;> rcases ck' with ⟨d1, d2⟩ | ⟨d1, d2, d3⟩
               · rw [c1, d1]
               · exact (d3 (d2.symm.trans c2)).elim
               · exact (c3 (c2.symm.trans d2)).elim
               · rw [<- c2, <- d2]
             · obtain ⟨k, hk, _⟩ := hown j x hx
               exact M.mine k x hk
         · cases h
       · cases h
     · cases h
   · cases h
 · cases h
inductive WOp where
 | keep (ks ids : List Nat)
 | fix (p : Pl)
 | own (p : Pl) (j id e e2 : Nat)
 | st (p : Pl)
 | ne (p : Pl) (j : Nat)
 | re (id id' nv : Nat)
def Nf (o : Option (St V.E)) : Option (St V.E × List Prop) :=
 match o with
 | some s => some (s, [])
 | none => none
def A5a : WOp -> St V.E -> Option (St V.E × List Prop)
 | .keep ks ids, s => Nf (Afx ks ids s)
 | .fix p, s => Nf (Aps p s)
 | .own p j id e e2, s => Nf (Aqv p j id e e2 s)
 | .st p, s => Nf (A3d p s)
 | .ne p j, s => A1e p j s
 | .re id id' nv, s => Nf (A4f id id' nv s)
def weak : List WOp -> St V.E -> Option (St V.E × List Prop)
 | [], s => some (s, [])
 | o :: os, s => match A5a o s with
   | some (s', p) => match weak os s' with
     | some (s'', q) => some (s'', p ++ q)
     | none => none
   | none => none
theorem Ia {o : Option (St V.E)} {s : St V.E} {p : List Prop} (h : Nf o = some (s, p)) : o = some s := by
 unfold Nf at h
 split at h
 · cases h; rfl
 · cases h
theorem Akc : ∀ {os : List WOp} {s s' : St V.E} {cs : List Prop}, weak os s = some (s', cs) -> Ff cs -> ∀ {a : Act} {w : World}, Sim V C s a w -> Sim V C s' a w
 | [], s, s', cs, h, hc, a, w, S => by simp only [weak, Option.some.injEq, Prod.mk.injEq] at h; obtain ⟨rfl, _⟩ := h; exact S
 | o :: os, s, s', cs, h, hc, a, w, S => by
   unfold weak at h
   split at h
   · rename_i s1 p h1
     split at h
     · rename_i s2 q h2
       cases h
       obtain ⟨hc1, hc2⟩ := Ff.append hc
       refine Akc h2 hc2 ?_
       cases o with
       | keep ks ids => exact Auu (Ia h1) S
       | fix k => exact A15 (Ia h1) S
       | own k j id e e2 => exact Am1 (Ia h1) S
       | st k => exact A5l (Ia h1) S
       | ne k j => exact Bbr h1 hc1 S
       | re id id' nv => exact A5d (Ia h1) S
     · cases h
   · cases h
end
def auto : Nat -> List Item -> List Item
 | 0, k => k
 | n + 1, .code .skip :: k => auto n k
 | n + 1, .code (.label _) :: k => auto n k
 | n + 1, .code (.seq x y) :: k => auto n (.code x :: .code y :: k)
 | n + 1, .code (.block id c) :: k => auto n (.code c :: .inBlock id :: k)
 | n + 1, .inBlock _ :: k => auto n k
 | n + 1, .code (.exit id) :: k => match exitTo id k with
   | some k' => auto n k'
   | none => .code (.exit id) :: k
 | _ + 1, k => k
inductive Way where
 | auto | reg | br (b : Bool) | enter
def Bd3 (c : Way) (k : List Item) : List Item :=
 match c, auto 200 k with
 | .auto, k => k
 | .reg, .code (.region ..) :: k => k
 | .br b, .code (.cond _ x y) :: k => .code (if b then x else y) :: k
 | .enter, .code (.loop c) :: k => .code c :: .inLoop c :: k
 | .enter, .inLoop c :: k => .code c :: .inLoop c :: k
 | _, _ => []
def ctl : List Way -> List Item -> List Item
 | [], k => k
 | c :: cs, k => ctl cs (Bd3 c k)
section
variable (V : Env)
inductive Cmd where
 | auto
 | reg (q : Su V)
 | br (b : Bool)
 | enter
 | weak (os : List WOp)
def A2n (c : Cmd V) (k : List Item) (s : St V.E) : Option (List Item × St V.E × List Prop) :=
 match c with
 | .weak os => match weak os s with
   | some (s', cs) => some (k, s', cs)
   | none => none
 | .auto => some (auto 200 k, s, [])
 | .reg q => match auto 200 k with
   | .code (.region _ ops drawn) :: k' => match Rb V ops.toList q 0 ops.toList s with
     | some (s', cs, acs) => if drawn then (if Anp ops acs then some (k', s', cs) else none) else some (k', s', cs)
     | none => none
   | _ => none
 | .br b => match auto 200 k with
   | .code (.cond c x y) :: k' => match Acr V s 0 c with
     | some (.cv (.one (.bool x'))) => some (.code (if b then x else y) :: k', s, [x' = b])
     | _ => none
   | _ => none
 | .enter => match auto 200 k with
   | .code (.loop c) :: k' => some (.code c :: .inLoop c :: k', s, [])
   | .inLoop c :: k' => some (.code c :: .inLoop c :: k', s, [])
   | _ => none
def run : List (Cmd V) -> List Item -> St V.E -> Option (List Item × St V.E × List Prop)
 | [], k, s => some (k, s, [])
 | c :: cs, k, s => match A2n V c k s with
   | some (k', s', p) => match run cs k' s' with
     | some (k'', s'', p') => some (k'', s'', p ++ p')
     | none => none
   | none => none
end
section
variable {V : Env} {P : Program} {C : Ctx}
def Am (V : Env) (P : Program) (C : Ctx) (F : Act -> World -> Prop) (k : List Item) (s : St V.E) : Prop :=
 ∀ a w, Sim V C s a w -> ∀ (b : Frame) (cs : List Frame), ∃ a' w' todo, F a' w' /\ Steps P (lone (b.at a k) cs w) (lone { b.at a' todo with mode := .returning } cs w')
variable {F : Act -> World -> Prop}
theorem F0 (b : Frame) (a : Act) (cs : List Frame) (w : World) : ∀ (n : Nat) (k : List Item), Steps P (lone (b.at a k) cs w) (lone (b.at a (auto n k)) cs w)
 | 0, k => .refl _ _
 | n + 1, k => by
   unfold auto
   split
   · rename_i heq; cases heq
   · rename_i heq; cases heq; exact .head step_skip (F0 b a cs w n _)
   · rename_i heq; cases heq; exact .head step_label (F0 b a cs w n _)
   · rename_i heq; cases heq; exact .head step_seq (F0 b a cs w n _)
   · rename_i heq; cases heq; exact .head step_block (F0 b a cs w n _)
   · rename_i heq; cases heq; exact .head step_inBlock (F0 b a cs w n _)
   · rename_i heq; cases heq
     split
     · rename_i k' hk; exact .head (step_exit hk) (F0 b a cs w n _)
     · exact .refl _ _
   · exact .refl _ _
theorem Am.of_steps {k k' : List Item} {s s' : St V.E} (h : ∀ a w, Sim V C s a w -> ∀ (b : Frame) (cs : List Frame), ∃ a' w', Sim V C s' a' w' /\ Steps P (lone (b.at a k) cs w) (lone (b.at a' k') cs w')) (g : Am V P C F k' s') : Am V P C F k s := by
 intro a w S b cs
 obtain ⟨a1, w1, S1, h1⟩ := h a w S b cs
 obtain ⟨a2, w2, todo, hF, h2⟩ := g a1 w1 S1 b cs
 exact ⟨a2, w2, todo, hF, h1.trans h2⟩
theorem Aug (G : Ay V P) {c : Cmd V} {k k' : List Item} {s s' : St V.E} {cs : List Prop} (h : A2n V c k s = some (k', s', cs)) (hc : Ff cs) : Am V P C F k' s' -> Am V P C F k s := by
 intro g
 have A := λ (b : Frame) (a : Act) (cs : List Frame) (w : World) => F0 (P := P) b a cs w 200 k
 unfold A2n at h
 split at h
 · split at h
   · rename_i s1 c1 hw
     cases h
     intro a w S
     exact g a w (Akc hw hc S)
   · cases h
 · cases h
   exact .of_steps (λ a w S b cs => ⟨a, w, S, A b a cs w⟩) g
 · split at h
   · rename_i id ops drawn k1 hk
     split at h
     · rename_i s1 c1 acs hev
       have key : ∀ (hd : drawn = true -> Anp ops acs = true), Ff c1 -> Am V P C F k1 s1 -> Am V P C F k s := by
         intro hd hc g
         refine .of_steps (λ a w S b cs => ?_) g
         have hwp := Am8 G (id := id) (drawn := drawn) (Q := λ e a' w' => e = .normal /\ Sim V C s1 a' w') S hev hc hd (λ a' w' S' => ⟨rfl, S'⟩)
         obtain ⟨e, a', w', ⟨rfl, S'⟩, harr⟩ := hwp b k1 cs
         refine ⟨a', w', S', ?_⟩
         have := A b a cs w
         rw [hk] at this
         exact this.trans harr
       split at h
       · split at h
         · rename_i hany
           cases h
           exact key (λ _ => hany) hc g
         · cases h
       · rename_i hd
         cases h
         exact key (λ e => (hd e).elim) hc g
     · cases h
   · cases h
 · split at h
   · rename_i o x y k1 hk
     split at h
     · rename_i x' ho
       cases h
       refine .of_steps (λ a w S b cs => ⟨a, w, S, ?_⟩) g
       obtain ⟨β, S⟩ := S
       have hr := Z0 S 0 o _ ho
       simp only [SR, A8, A2, Ak] at hr
       have := A b a cs w
       rw [hk] at this
       refine this.trans (.one ?_)
       rw [step_cond hr, hc.1]
     · cases h
   · cases h
 · split at h
   · rename_i c k1 hk
     cases h
     refine .of_steps (λ a w S b cs => ⟨a, w, S, ?_⟩) g
     have := A b a cs w
     rw [hk] at this
     exact this.trans (.one step_loop)
   · rename_i c k1 hk
     cases h
     refine .of_steps (λ a w S b cs => ⟨a, w, S, ?_⟩) g
     have := A b a cs w
     rw [hk] at this
     exact this.trans (.one step_inLoop)
   · cases h
theorem seg (G : Ay V P) : ∀ {c : List (Cmd V)} {k k' : List Item} {s s' : St V.E} {cs : List Prop}, run V c k s = some (k', s', cs) -> Ff cs -> Am V P C F k' s' -> Am V P C F k s
 | [], k, k', s, s', cs, h, hc, g => by
   simp only [run, Option.some.injEq, Prod.mk.injEq] at h
   obtain ⟨rfl, rfl, _⟩ := h
   exact g
 | c :: c', k, k', s, s', cs, h, hc, g => by
   unfold run at h
   split at h
   · rename_i k1 s1 p1 h1
     split at h
     · rename_i k2 s2 p2 h2
       cases h
       obtain ⟨hc1, hc2⟩ := Ff.append hc
       exact Aug G h1 hc1 (seg G h2 hc2 g)
     · cases h
   · cases h
end
noncomputable def need {α : Type} (c : Prop) (r : Option α) : Option α := @ite _ c (Classical.propDecidable c) r none
theorem Ao {α : Type} {c : Prop} {r : Option α} {y : α} (h : need c r = some y) : c /\ r = some y := by
 unfold need at h
 by_cases hc : c
 · rw [if_pos hc] at h; exact ⟨hc, h⟩
 · rw [if_neg hc] at h; cases h
theorem Aw0 {α : Type} {c : Prop} {r : Option α} (h : c) : need c r = r := if_pos h
theorem bind_some {α β : Type} {x : Option α} {f : α -> Option β} {y : β} (h : x.bind f = some y) : ∃ z, x = some z /\ f z = some y := Option.bind_eq_some_iff.1 h
theorem Ad {α : Type} {b : Bool} {x y : Option α} {r : α} (h : (if b = true then x else y) = some r) : (b = true /\ x = some r) \/ (b = false /\ y = some r) := by
 cases b
 · exact .inr ⟨rfl, by simpa using h⟩
 · exact .inl ⟨rfl, by simpa using h⟩
def Kp {σ ρ : Type} (f : σ -> Option (σ ⊕ ρ)) : Nat -> σ -> Option ρ
 | 0, _ => none
 | n + 1, s => (f s).bind fun
   | .inl s' => Kp f n s'
   | .inr r => some r
open Classical in
noncomputable def Br {σ ρ : Type} (f : σ -> Option (σ ⊕ ρ)) (s : σ) : Option ρ :=
 if h : ∃ n r, Kp f n s = some r then some h.choose_spec.choose else none
theorem Yh {σ ρ : Type} {f : σ -> Option (σ ⊕ ρ)} : ∀ {n m : Nat} {s : σ} {r r' : ρ}, Kp f n s = some r -> Kp f m s = some r' -> r = r'
 | 0, _, _, _, _, h, _ => by simp [Kp] at h
 | _ + 1, 0, _, _, _, _, h => by simp [Kp] at h
 | n + 1, m + 1, s, r, r', h, h' => by
   simp only [Kp] at h h'
   cases hf : f s with
   | none => rw [hf] at h; cases h
   | some x =>
     rw [hf] at h h'
     cases x with
     | inl s' => exact Yh (n := n) (m := m) h h'
     | inr q => simp at h h'; rw [<- h, h']
theorem Q9 {σ ρ : Type} {f : σ -> Option (σ ⊕ ρ)} {s : σ} {r : ρ} : Br f s = some r ↔ ∃ n, Kp f n s = some r := by
 unfold Br
 constructor
 · intro h
   split at h
   · rename_i hx
     cases h
     exact ⟨hx.choose, hx.choose_spec.choose_spec⟩
   · cases h
 · rintro ⟨n, h⟩
   have hx : ∃ n r, Kp f n s = some r := ⟨n, r, h⟩
   rw [dif_pos hx]
   exact congrArg some (Yh hx.choose_spec.choose_spec h)
theorem Aaf {σ ρ : Type} (f : σ -> Option (σ ⊕ ρ)) (s : σ) : Br f s = (f s).bind fun
   | .inl s' => Br f s'
   | .inr r => some r := by
 apply Option.ext
 intro r
 rw [Q9]
 constructor
 · rintro ⟨n, h⟩
   cases n with
   | zero => simp [Kp] at h
   | succ n =>
     simp only [Kp] at h
     cases hf : f s with
     | none => rw [hf] at h; cases h
     | some x =>
       rw [hf] at h
       cases x with
       | inl s' => exact Q9.2 ⟨n, h⟩
       | inr q => exact h
 · intro h
   cases hf : f s with
   | none => rw [hf] at h; cases h
   | some x =>
     rw [hf] at h
     cases x with
     | inl s' =>
       obtain ⟨n, hn⟩ := Q9.1 (show Br f s' = some r from h)
       exact ⟨n + 1, by simp only [Kp, hf]; exact hn⟩
     | inr q => exact ⟨1, by simp only [Kp, hf]; exact h⟩
theorem Amn {σ ρ : Type} {f : σ -> Option (σ ⊕ ρ)} (I : σ -> Prop) (μ : σ -> Nat) (Post : ρ -> Prop)
   (h : ∀ s, I s -> (∃ s', f s = some (.inl s') /\ I s' /\ μ s' < μ s) \/ (∃ r, f s = some (.inr r) /\ Post r)) : ∀ s, I s -> ∃ r, Br f s = some r /\ Post r := by
 intro s
 induction hn : μ s using Nat.strongRecOn generalizing s with
 | _ n ih =>
   intro hI
   rcases h s hI with ⟨s', h1, h2, h3⟩ | ⟨r, h1, h2⟩
   · obtain ⟨r, hr, hp⟩ := ih (μ s') (by omega) s' rfl h2
     exact ⟨r, by rw [Aaf, h1]; exact hr, hp⟩
   · exact ⟨r, by rw [Aaf, h1]; rfl, h2⟩
section
variable {V : Env} {P : Program} {C : Ctx} {F : Act -> World -> Prop}
theorem Az {σ ρ : Type} {f : σ -> Option (σ ⊕ ρ)} {k : List Item} {S : σ -> St V.E} {r : ρ}
   (h : ∀ v o, f v = some o -> (∀ v', o = .inl v' -> Am V P C F k (S v')) -> (∀ r', o = .inr r' -> r' = r) -> Am V P C F k (S v)) : ∀ v, Br f v = some r -> Am V P C F k (S v) := by
 intro v hv
 obtain ⟨n, hn⟩ := Q9.1 hv
 clear hv
 induction n generalizing v with
 | zero => simp [Kp] at hn
 | succ n ih =>
   simp only [Kp] at hn
   obtain ⟨o, ho, hn⟩ := bind_some hn
   refine h v o ho (λ v' e => ?_) (λ r' e => ?_)
   · subst e; exact ih v' hn
   · subst e; exact Option.some.inj hn
end
section
variable (V : Env)
def Cb (i : Nat) : Nat := 1000000 + i
def Dd : Nat -> List TypeId -> (ts : List Ty) -> HL V.E ts -> List (Nat × Option (SV V.E))
 | _, _, [], _ => []
 | i, 0 :: os, t :: ts, (x, r) => (i, (B5 (Mh t) (t.toL V.T x)).map SV.cv) :: Dd (i + 1) os ts r
 | i, (_ + 1) :: os, _ :: ts, (_, r) => (i, some (.cv (.one (.ar (Cb i) 0)))) :: Dd (i + 1) os ts r
 | i, [], t :: ts, (x, r) => (i, (B5 (Mh t) (t.toL V.T x)).map SV.cv) :: Dd (i + 1) [] ts r
def Bn : Nat -> List TypeId -> (ts : List Ty) -> HL V.E ts -> List (Nat × Box V.E)
 | _, _, [], _ => []
 | i, 0 :: os, _ :: ts, (_, r) => Bn (i + 1) os ts r
 | i, (e + 1) :: os, .sl t :: ts, (xs, r) => (Cb i, .arr (e + 1) t xs 0 false) :: Bn (i + 1) os ts r
 | i, (_ + 1) :: os, _ :: ts, (_, r) => Bn (i + 1) os ts r
 | i, [], _ :: ts, (_, r) => Bn (i + 1) [] ts r
def Ue (n : Nat) (S : FS V.E) (x : HL V.E S.args) : St V.E := ⟨n, Dd V 0 S.argOwn S.args x, Bn V 0 S.argOwn S.args x⟩
def F6 (bx : List (Nat × Box V.E)) : List (TypeId × TypeId) -> List (A5 V.E) -> Option (List (A5 V.E) × List Nat)
 | _, [] => some ([], [])
 | (0, _) :: os, l :: r => match A5.av V.T l, F6 bx os r with
   | some _, some (ls, ids) => some (l :: ls, ids)
   | _, _ => none
 | [], l :: r => match A5.av V.T l, F6 bx [] r with
   | some _, some (ls, ids) => some (l :: ls, ids)
   | _, _ => none
 | (e + 1, 0) :: os, .ar id ver :: r => match A3 id bx, F6 bx os r with
   | some (.arr e' t xs v false), some (ls, ids) => if Nat.beq ver v && Nat.beq e' (e + 1) then some (.sl t false xs :: ls, id :: ids) else none
   | _, _ => none
 | (e + 1, e2 + 1) :: os, .ar id ver :: r => match A3 id bx, F6 bx os r with
   | some (.rows e' e2' t xss v _ .opn), some (ls, ids) => if Nat.beq ver v && Nat.beq e' (e + 1) && Nat.beq e2' (e2 + 1) then some (.sl (.sl t) false xss :: ls, id :: ids) else none
   | _, _ => none
 | _, _ => none
def Akj (s : St V.E) : ResultVar -> Option (CV V.E)
 | .tmp k => match slot V s k with
   | some (.cv c) => some c
   | _ => none
 | .cell k t => match slot V s k, V.ti t with
   | some (.cv (.one (.ptr id off))), some i => match A3 id s.boxes with
     | some (.cells ls) => if Nat.ble (off + i.size) ls.length then B5 i.kind.agg ((ls.drop off).take i.size) else none
     | _ => none
   | _, _ => none
def Km (s : St V.E) : List (List (TypeId × TypeId)) -> (ts : List Ty) -> List ResultVar -> Option (HL V.E ts × List Nat)
 | _, [], [] => some ((), [])
 | os, t :: ts, r :: rs => match Akj V s r with
   | some c => if c.isAg == Mh t then match F6 V s.boxes (os.headD []) c.leaves with
       | some (ls, ids) => match t.ofL V.T ls with
         | some y => match Km s os.tail ts rs with
           | some (q, ids') => some ((y, q), ids ++ ids')
           | none => none
         | none => none
       | none => none
     else none
   | none => none
 | _, _, _ => none
def N9 : List Nat -> Bool
 | [] => true
 | x :: xs => !(Lr x xs) && N9 xs
end
section
variable {V : Env} {P : Program} {C : Ctx}
theorem Tl : ∀ {l : List Nat}, N9 l = true -> l.Nodup
 | [], _ => List.nodup_nil
 | x :: xs, h => by
   simp only [N9, Bool.and_eq_true, Bool.not_eq_true'] at h
   refine List.nodup_cons.2 ⟨λ hm => ?_, Tl h.2⟩
   rw [Zz hm] at h; exact Bool.noConfusion h.1
theorem Aqb {bx bx' : List (Nat × Box V.E)} {β β' : Nat -> BI} {ok : Nat -> Prop} {w : World} {l : A5 V.E} {x : AV} (h : A5.av V.T l = some x) {v : Value} (k : Ak V.T bx β ok w l v) : Ak V.T bx' β' ok w l v :=
 (Rh h v).2 ((Rh h v).1 k)
theorem Fw {s : St V.E} {β : Nat -> BI} {w : World} (M : Bo V.T C s.boxes β w) {ok' : Nat -> Prop} (L : D8 (Bb C β w) w ok' w) : ∀ (ls : List (A5 V.E)) (os : List (TypeId × TypeId)) (vs : List Value) (ls' : List (A5 V.E)) (ids : List Nat) (ms : List (A5 V.E)),
   Bj (Ak V.T s.boxes β (Bb C β w) w) ls vs -> F6 V s.boxes os ls = some (ls', ids) -> Coe ls' ms -> Cy V.T ok' w os ms vs (ids.flatMap λ id => (β id).own)
 | [], os, _, ls', ids, ms, .nil, h, hc => by
   have h : (([] : List (A5 V.E)), ([] : List Nat)) = (ls', ids) := by
     cases os with
     | nil => simpa [F6] using h
     | cons o os => obtain ⟨e, e2⟩ := o; simpa [F6] using h
   cases h
   cases hc
   exact .nil
 | l :: ls, os, _, ls', ids, ms, .cons (b := v) (m := vs) h1 h2, h, hc => by
   have data : ∀ {x : AV} {m : A5 V.E}, A5.av V.T l = some x -> A4b l m -> ∀ bx β', Ak V.T bx β' ok' w m v := by
     intro x m hx hm bx β'
     have := Aqb (bx' := bx) (β' := β') hx h1
     have k := Ug hm this
     refine Ak.agree L m v (λ id hid => ?_) k
     exfalso
     rcases hm with rfl | ⟨t, st, st', xs, rfl, rfl, _⟩
     · cases l <;> simp [A5.av] at hx <;> simp [Gj] at hid
     · simp [Gj] at hid
   unfold F6 at h
   split at h
   · rename_i heq; cases heq
   · rename_i heq; cases heq
     split at h
     · rename_i x r ids' hx hr
       cases h
       cases hc with
       | cons c1 c2 => exact .data (data hx c1) (Fw M L ls _ vs _ _ _ h2 hr c2)
     · cases h
   · rename_i heq; cases heq
     split at h
     · rename_i x r ids' hx hr
       cases h
       cases hc with
       | cons c1 c2 => exact .more (data hx c1) (Fw M L ls _ vs _ _ _ h2 hr c2)
     · cases h
   · rename_i heq; cases heq
     split at h
     · rename_i e' t xs v0 r ids' hb hr
       split at h
       · rename_i hv
         cases h
         simp only [Bool.and_eq_true] at hv
         simp only [Ak, hb] at h1
         have hvv := h1.2.2 (Ap hv.1)
         have he := Ap hv.2
         subst he
         obtain ⟨q1, q2⟩ := M.boxes _ _ hb
         cases hc with
         | cons c1 c2 =>
           rw [List.flatMap_cons, q1, <- hvv]
           rcases c1 with rfl | ⟨t', st, st', xs', e1, e2, _⟩
           · exact .arr (Nat.succ_ne_zero _) (by rw [hvv]; exact q2.later L λ _ _ => rfl) (Fw M L ls _ vs _ _ _ h2 hr c2)
           · cases e1; subst e2
             exact .arr (Nat.succ_ne_zero _) (by rw [hvv]; exact q2.later L λ _ _ => rfl) (Fw M L ls _ vs _ _ _ h2 hr c2)
       · cases h
     · cases h
   · rename_i heq; cases heq
     split at h
     · rename_i e' e2' t xs v0 rv r ids' hb hr
       split at h
       · rename_i hv
         cases h
         simp only [Bool.and_eq_true] at hv
         simp only [Ak, hb] at h1
         have hvv := h1.2.2 (Ap hv.1.1)
         have he := Ap hv.1.2
         have he2 := Ap hv.2
         subst he; subst he2
         have hB := M.boxes _ _ hb
         simp only [Cu] at hB
         cases hc with
         | cons c1 c2 =>
           rw [List.flatMap_cons]
           have hR : ∀ id e e2, v = (β id).hdr -> Ju V.T (Bb C β w) w e e2 t xs (β id) -> Ju V.T ok' w e e2 t xs ⟨0, v, (β id).own, (β id).rows⟩ := by
             intro id e e2 hv hB
             obtain ⟨q1, q2, q3⟩ := hB
             rw [hv]
             exact ⟨q1, q2, q3.imp λ _ _ k => k.later L λ _ _ => rfl⟩
           rcases c1 with rfl | ⟨t', st, st', xs', e1, e2, _⟩
           · exact .rows (Nat.succ_ne_zero _) (Nat.succ_ne_zero _) (hR _ _ _ hvv hB) (Fw M L ls _ vs _ _ _ h2 hr c2)
           · cases e1; subst e2
             exact .rows (Nat.succ_ne_zero _) (Nat.succ_ne_zero _) (hR _ _ _ hvv hB) (Fw M L ls _ vs _ _ _ h2 hr c2)
       · cases h
     · cases h
   · cases h
def Zq (a : Act) : ResultVar -> Sem Value
 | .tmp t => pure (a.tmps.getD t undef)
 | .cell k t => do loadVar t (<- asAddr (a.tmps.getD k undef))
theorem Aso (G : Sg V P) {s : St V.E} {β : Nat -> BI} {a : Act} {w : World} (S : Rv V C s β a w) {r : ResultVar} {c : CV V.E} (h : Akj V s r = some c) :
   ∃ v, (Zq a r).run P w = .ok v w /\ A2 V.T s.boxes β (Bb C β w) w c v := by
 unfold Akj at h
 split at h
 · rename_i k
   split at h
   · rename_i c' hk
     cases h
     exact ⟨a.tmps.getD k undef, by simp only [Zq, Sem.run_pure], S.slots k _ hk⟩
   · cases h
 · rename_i k t
   split at h
   · rename_i id off i hk hi
     split at h
     · rename_i ls hb
       split at h
       · rename_i hle
         have hle := Nat.le_of_ble_eq_true hle
         obtain ⟨info, d, z, I⟩ := G t i hi
         have hr : A8 V.T s.boxes β (Bb C β w) w (.cv (.one (.ptr id off))) (a.tmps.getD k undef) := S.slots k _ hk
         simp only [A8, A2, Ak, hb] at hr
         obtain ⟨_, hv⟩ := hr
         obtain ⟨cs, e, hown, hheap, hall⟩ := S.mem.boxes id _ hb
         have hall' := (hall.drop off).take i.size
         obtain ⟨h1, h2⟩ := N7 (w := w) I (β id).blk off ((cs.toList.drop off).take i.size) (by rw [<- hall'.length]; simp; omega) (λ j v hv => by
           rw [B9 hheap]
           rw [List.getElem?_take] at hv
           split at hv
           · rw [List.getElem?_drop] at hv; simpa using hv
           · cases hv)
         simp only [Zq, hv, asAddr, Sem.run_bind, Sem.run_pure, Result.andThen_ok]
         rcases M6 h hall' with ⟨ha, rfl, k⟩ | ⟨ha, l, v, _, rfl, h4, k⟩
         · exact ⟨_, h1 ha, k⟩
         · exact ⟨_, h2 ha v h4, k⟩
       · cases h
     · cases h
   · cases h
theorem Po (HT : V.T.Ok) (G : Sg V P) {s : St V.E} {β : Nat -> BI} {a : Act} {w : World} (S : Rv V C s β a w) {ok' : Nat -> Prop} (L : D8 (Bb C β w) w ok' w) : ∀ (ts : List Ty) (os : List (List (TypeId × TypeId))) (rs : List ResultVar) (y : HL V.E ts) (ids : List Nat), Km V s os ts rs = some (y, ids) ->
   ∃ vs, (rs.mapM (Zq a)).run P w = .ok vs w /\ Lz V.T ok' w os ts y vs (ids.flatMap λ id => (β id).own)
 | [], os, rs, y, ids, h => by
   cases rs with
   | nil =>
     have h : (((), []) : HL V.E [] × List Nat) = (y, ids) := by cases os <;> simpa [Km] using h
     cases h
     exact ⟨[], by simp, rfl, rfl⟩
   | cons r rs => cases os <;> simp [Km] at h
 | t :: ts, os, [], y, ids, h => by cases os <;> simp [Km] at h
 | t :: ts, os, r :: rs, y, ids, h => by
   have h' : (match Akj V s r with
     | some c => if c.isAg == Mh t then match F6 V s.boxes (os.headD []) c.leaves with
       | some (ls, ids) => match t.ofL V.T ls with
         | some y => match Km V s os.tail ts rs with
           | some (q, ids') => some ((y, q), ids ++ ids')
           | none => none
         | none => none
       | none => none
       else none
     | none => none) = some (y, ids) := by
     rw [<- h]; simp only [Km]
   split at h'
   · rename_i c hk
     split at h'
     · rename_i hag
       split at h'
       · rename_i ls ids1 hf
         split at h'
         · rename_i y1 hy
           split at h'
           · rename_i q ids2 hr
             cases h'
             obtain ⟨vs, h1, h2⟩ := Po HT G S L ts os.tail rs q ids2 hr
             obtain ⟨v, hv, hrep⟩ := Aso G S hk
             have hO := Fw S.mem L _ _ _ _ _ _ (A2.cells hrep) hf (O1 HT hy)
             refine ⟨v :: vs, ?_, _, _, _, _, rfl, by rw [List.flatMap_append], ⟨_, hO, ?_⟩, h2⟩
             · rw [List.mapM_cons]
               simp only [Sem.run_bind, Sem.run_pure, hv, h1, Result.andThen_ok]
             · have hci := A2.isAg hrep
               have hag : c.isAg = Mh t := by simpa using hag
               split
               · rename_i hn
                 rw [hn] at hag
                 obtain ⟨cs, hcs⟩ := hci.1 hag
                 rw [hcs]; rfl
               · rename_i hn
                 simp only [Bool.not_eq_true] at hn
                 rw [hn] at hag
                 rw [hci.2 hag]
           · cases h'
         · cases h'
       · cases h'
     · cases h'
   · cases h'
end
end Go.Ab
