/- What an abstract state may be told anew as, by small steps. Boxes told by other numbers; and all the small steps in one. A function's code, walked on abstract states from one place to the next. Conditions: none beyond those that each theorem names. -/
import Derived.Test.YtjdgmcngpiookaaGreatS07
namespace Go.Ab
open Go
section
variable {V : Env} {C : Ctx}
def T9 {α : Type} (ks : List Nat) : List (Nat × α) -> List (Nat × α)
 | [] => []
 | (k, x) :: r => if Nn k ks then (k, x) :: T9 ks r else T9 ks r
theorem Agq {k : Nat} : ∀ {l : List Nat}, Nn k l = true -> k ∈ l
 | x :: xs, h => by
   unfold Nn at h
   simp only [Bool.or_eq_true] at h
   rcases h with h | h
   · rw [Aq h]; simp
   · exact List.mem_cons_of_mem _ (Agq h)
theorem Lv {α : Type} (ks : List Nat) (k : Nat) : ∀ l : List (Nat × α), A6 k (T9 ks l) = if Nn k ks then A6 k l else none
 | [] => by simp [T9, A6]
 | (j, x) :: r => by
   unfold T9
   by_cases hj : Nat.beq j k = true
   · have := Aq hj; subst this
     split
     · simp [A6]
     · rename_i h; rw [Lv ks j r]; simp [h]
   · split
     · simp only [A6, hj, Bool.false_eq_true, if_false]; exact Lv ks k r
     · rw [Lv ks k r]; simp only [A6, hj, Bool.false_eq_true, if_false]
def Aay (keep ids : List Nat) : Bool := ids.all λ i => Nn i keep
def SV.ids {E : Nat -> Type} : SV E -> List Nat
 | .cv c => F3 c.leaves
 | .tup cs => cs.flatMap λ c => F3 c.leaves
def Rl {E : Nat -> Type} (keep : List Nat) : List (Nat × Option (SV E)) -> Bool
 | [] => true
 | (_, some v) :: r => Aay keep v.ids && Rl keep r
 | (_, none) :: r => Rl keep r
def T2 {E : Nat -> Type} (keep : List Nat) : List (Nat × Box E) -> Bool
 | [] => true
 | (_, .cells ls) :: r => Aay keep (F3 ls) && T2 keep r
 | _ :: r => T2 keep r
theorem Ae3 {keep ids : List Nat} (h : Aay keep ids = true) : ∀ i ∈ ids, Nn i keep = true := by
 unfold Aay at h; exact List.all_eq_true.1 h
theorem S3 {E : Nat -> Type} {keep : List Nat} : ∀ {l : List (Nat × Option (SV E))}, Rl keep l = true -> ∀ {k x}, A6 k l = some (some x) -> Aay keep x.ids = true
 | [], _, _, _, h => by simp [A6] at h
 | (j, none) :: r, h, k, x, hl => by
   simp only [Rl] at h
   unfold A6 at hl
   split at hl
   · cases hl
   · exact S3 h hl
 | (j, some v) :: r, h, k, x, hl => by
   simp only [Rl, Bool.and_eq_true] at h
   unfold A6 at hl
   split at hl
   · cases hl; exact h.1
   · exact S3 h.2 hl
theorem S7 {E : Nat -> Type} {keep : List Nat} : ∀ {l : List (Nat × Box E)}, T2 keep l = true -> ∀ {k ls}, A6 k l = some (.cells ls) -> Aay keep (F3 ls) = true
 | [], _, _, _, h => by simp [A6] at h
 | (j, b) :: r, h, k, x, hl => by
   unfold T2 at h
   split at h
   · rename_i heq; cases heq
   · rename_i heq; cases heq
     simp only [Bool.and_eq_true] at h
     unfold A6 at hl
     split at hl
     · cases hl; exact h.1
     · exact S7 h.2 hl
   · rename_i hne heq
     cases heq
     unfold A6 at hl
     split at hl
     · cases hl; exact (hne _ _ rfl).elim
     · exact S7 h hl
theorem A3.agree {bx bx' : List (Nat × Box V.E)} {β β' : Nat -> BI} {ok ok' : Nat -> Prop} {w w' : World} (L : Fb ok w ok' w') {c : CV V.E} {v : Value} (A : ∀ id ∈ F3 c.leaves, Y6 (A6 id bx) (A6 id bx') /\ β' id = β id) (h : A3 V.T bx β ok w c v) : A3 V.T bx' β' ok' w' c v := by
 cases c with
 | one l => exact Ak.agree L l v (λ id hid => A id (by simpa [CV.leaves, F3] using hid)) h
 | ag ls =>
   obtain ⟨cs, rfl, h⟩ := h
   exact ⟨cs, rfl, (Bx.iff V.T ls _).1 (Bx.agree L ls _ A ((Bx.iff V.T ls _).2 h))⟩
theorem Bb.agree {bx bx' : List (Nat × Box V.E)} {β β' : Nat -> BI} {ok ok' : Nat -> Prop} {w w' : World} (L : Fb ok w ok' w') {c : SV V.E} {v : Value} (A : ∀ id ∈ c.ids, Y6 (A6 id bx) (A6 id bx') /\ β' id = β id) (h : Bb V.T bx β ok w c v) : Bb V.T bx' β' ok' w' c v := by
 cases c with
 | cv c => exact A3.agree L A h
 | tup cs =>
   obtain ⟨vs, rfl, h⟩ := h
   exact ⟨vs, rfl, h.imp_mem λ c v hc k => A3.agree L (λ id hid => A id (List.mem_flatMap.2 ⟨c, hc, hid⟩)) k⟩
theorem C5.agree {bx bx' : List (Nat × Box V.E)} {β β' : Nat -> BI} {ok ok' : Nat -> Prop} {w : World} (L : Fb ok w ok' w) {id id' : Nat} (hβ : β' id' = β id) {b : Box V.E} (A : ∀ ls, b = .cells ls -> ∀ i ∈ F3 ls, Y6 (A6 i bx) (A6 i bx') /\ β' i = β i)
   (h : C5 V.T bx β ok w id b) : C5 V.T bx' β' ok' w id' b := by
 cases b with
 | cells ls =>
   obtain ⟨c, e, h1, h2, h3⟩ := h
   refine ⟨c, e, by rw [hβ]; exact h1, by rw [hβ]; exact h2, ?_⟩
   exact (Bx.iff V.T ls _).1 (Bx.agree L ls _ (A ls rfl) ((Bx.iff V.T ls _).2 h3))
 | arr e t xs v fz =>
   cases fz with
   | false => obtain ⟨h1, h2⟩ := h; refine ⟨by rw [hβ]; exact h1, ?_⟩; rw [hβ]; exact h2.later L λ _ _ => rfl
   | true => obtain ⟨h1, h2, h3⟩ := h; exact ⟨by rw [hβ]; exact h1, by rw [hβ]; exact Br.later L _ _ h2, by rw [hβ]; exact h3⟩
 | rows e e2 t xss v rv fz =>
   cases fz with
   | opn =>
     obtain ⟨h1, h2, h3⟩ := h
     simp only [C5, Ld]
     rw [hβ]
     exact ⟨h1, h2, h3.imp λ _ _ k => k.later L λ _ _ => rfl⟩
   | shut => obtain ⟨h1, h2, h3⟩ := h; exact ⟨by rw [hβ]; exact h1, by rw [hβ]; exact Br.later L _ _ h2, by rw [hβ]; exact h3⟩
   | mix p q =>
     obtain ⟨k1, k2, k3, k4, rb, k5, h1, h2, h3⟩ := h
     simp only [C5, Acu]
     rw [hβ]
     exact ⟨k1, k2, k3, k4, rb, k5, h1, h2, h3.imp λ _ _ k => k.later L λ _ _ => rfl⟩
 | map k t l => obtain ⟨h1, h2⟩ := h; exact ⟨by rw [hβ]; exact h1, by rw [hβ]; exact h2.later L rfl⟩
 | gone => trivial
def Ai5 (ks ids : List Nat) (s : St V.E) : Option (St V.E) :=
 let sl := T9 ks s.slots
 let bx := T9 ids s.boxes
 if Rl ids sl && T2 ids bx then some ⟨s.n, sl, bx⟩ else none
theorem Ayh {ks ids : List Nat} {s s' : St V.E} (h : Ai5 ks ids s = some s') {a : Act} {w : World} (S : Sim V C s a w) : Sim V C s' a w := by
 obtain ⟨β, S⟩ := S
 unfold Ai5 at h
 simp only at h
 split at h
 · rename_i hb
   cases h
   simp only [Bool.and_eq_true] at hb
   let β' : Nat -> BI := λ j => if Nn j ids then β j else { β j with own := [] }
   have hβ : ∀ j, Nn j ids = true -> β' j = β j := λ j hj => by show (if _ then _ else _) = _; rw [if_pos hj]
   have hβ' : ∀ j, Nn j ids ≠ true -> (β' j).own = [] := λ j hj => by show (if _ then _ else _ : BI).own = _; rw [if_neg hj]
   have hsub : ∀ j x, x ∈ (β' j).own -> Nn j ids = true /\ x ∈ (β j).own := by
     intro j x hx
     by_cases hj : Nn j ids = true
     · rw [hβ j hj] at hx; exact ⟨hj, hx⟩
     · rw [hβ' j hj] at hx; simp at hx
   have hlook : ∀ j, Nn j ids = true -> A6 j (T9 ids s.boxes) = A6 j s.boxes := λ j hj => by rw [Lv, if_pos hj]
   have L : Fb (Bc C β w) w (Bc C β' w) w := ⟨λ b hb => ⟨hb.1, hb.2.1, λ j hj => hb.2.2 j (hsub j b hj).2⟩, λ _ _ => rfl⟩
   refine ⟨β', S.size, S.defers, λ k x hk => ?_, ?_⟩
   · have hk' : A6 k (T9 ks s.slots) = some (some x) := by
       unfold slot at hk; simp only at hk
       split at hk
       · rename_i y hy; rw [hy, hk]
       · cases hk
     have hin := Ae3 (S3 hb.1 hk')
     rw [Lv] at hk'
     split at hk'
     · have : slot V s k = some x := by unfold slot; rw [hk']
       exact Bb.agree L (λ id hid => ⟨.inl (hlook id (hin id hid)), hβ id (hin id hid)⟩) (S.slots k x this)
     · cases hk'
   · refine ⟨λ id b hid => ?_, λ id hid => ?_, λ id => ?_, λ id id' x hx hx' => ?_, λ id x hx => S.mem.mine id x (hsub id x hx).2, S.mem.kept⟩
     · have hid' := hid
       rw [Lv] at hid'
       split at hid'
       · rename_i hm
         refine C5.agree L (hβ id hm) (λ ls e i hi => ?_) (S.mem.boxes id b hid')
         subst e
         have := Ae3 (S7 hb.2 hid) i hi
         exact ⟨.inl (hlook i this), hβ i this⟩
       · cases hid'
     · by_cases hm : Nn id ids = true
       · rw [hβ id hm]; exact S.mem.nones id (by rw [<- hlook id hm]; exact hid)
       · exact hβ' id hm
     · by_cases hm : Nn id ids = true
       · rw [hβ id hm]; exact S.mem.nodup id
       · rw [hβ' id hm]; exact List.nodup_nil
     · exact S.mem.apart id id' x (hsub id x hx).2 (hsub id' x hx').2
 · cases h
inductive Pl where
 | slot (k : Nat)
 | cell (id : Nat)
def Yu (s : St V.E) : Pl -> Option (Bool × List (A7 V.E))
 | .slot k => match slot V s k with
   | some (.cv c) => some (c.isAg, c.leaves)
   | _ => none
 | .cell id => match A6 id s.boxes with
   | some (.cells ls) => some (true, ls)
   | _ => none
def Uj (s : St V.E) (bx : List (Nat × Box V.E)) (p : Pl) (ag : Bool) (ls : List (A7 V.E)) : Option (St V.E) :=
 match p with
 | .slot k => match B2 ag ls with
   | some c => some ⟨s.n, put k (some (.cv c)) s.slots, bx⟩
   | none => none
 | .cell id => match A6 id bx with
   | some (.cells _) => some ⟨s.n, s.slots, put id (.cells ls) bx⟩
   | _ => none
theorem Tn.turn {s : St V.E} {β β' : Nat -> BI} {a : Act} {w : World} (S : Tn V C s β a w) {bx' : List (Nat × Box V.E)} (M : Bq V.T C bx' β' w) (X : Ext V.T s.boxes β (Bc C β w) w bx' β' (Bc C β' w) w) {k : Nat} {x : SV V.E}
   (h : Bb V.T bx' β' (Bc C β' w) w x (a.tmps.getD k undef)) : Tn V C ⟨s.n, Ab.put k (some x) s.slots, bx'⟩ β' a w := by
 refine ⟨S.size, S.defers, λ j y hj => ?_, M⟩
 simp only [slot] at hj
 by_cases hjk : j = k
 · subst hjk
   rw [A2] at hj
   cases hj
   exact h
 · rw [A4 hjk] at hj
   exact Bb.ext X (S.slots j y hj)
theorem Uc {s s' : St V.E} {β : Nat -> BI} {a : Act} {w : World} (S : Tn V C s β a w) {p : Pl} {ag : Bool} {ls : List (A7 V.E)} (h : Yu s p = some (ag, ls)) :
   ∃ vs : List Value, Bk (Ak V.T s.boxes β (Bc C β w) w) ls vs /\ ∀ (bx1 : List (Nat × Box V.E)) (β1 : Nat -> BI) (ls' : List (A7 V.E)), Bq V.T C bx1 β1 w -> Ext V.T s.boxes β (Bc C β w) w bx1 β1 (Bc C β1 w) w ->
     Bk (Ak V.T bx1 β1 (Bc C β1 w) w) ls' vs -> Uj s bx1 p ag ls' = some s' -> Sim V C s' a w := by
 cases p with
 | slot k =>
   simp only [Yu] at h
   split at h
   · rename_i c hk
     cases h
     have hr' : A3 V.T s.boxes β (Bc C β w) w c (a.tmps.getD k undef) := S.slots k _ hk
     refine ⟨_, A3.cells hr', λ bx1 β1 ls' M1 X1 R1 hs => ?_⟩
     simp only [Uj] at hs
     split at hs
     · rename_i c' hc'
       cases hs
       refine ⟨β1, S.turn M1 X1 ?_⟩
       have hci := A3.isAg hr'
       unfold B2 at hc'
       split at hc'
       · rename_i hag
         cases hc'
         obtain ⟨vs, hv⟩ := hci.1 hag
         rw [hv] at R1 ⊢
         exact ⟨vs, rfl, R1⟩
       · rename_i l hag
         cases hc'
         rw [hci.2 hag] at R1
         cases R1 with
         | cons q1 q2 => exact q1
       · cases hc'
     · cases hs
   · cases h
 | cell id =>
   simp only [Yu] at h
   split at h
   · rename_i ls0 hid
     cases h
     obtain ⟨c, e, h1, h2, h3⟩ := S.mem.boxes id _ hid
     refine ⟨_, h3, λ bx1 β1 ls' M1 X1 R1 hs => ?_⟩
     simp only [Uj] at hs
     split at hs
     · rename_i ls1 hid1
       cases hs
       obtain ⟨b', hb', hc⟩ := X1.box id _ hid
       rw [hid1] at hb'; cases hb'
       simp only [Fy] at hc
       obtain ⟨c', e', g1, g2, g3⟩ := M1.boxes id _ hid1
       rw [hc, h2] at g2
       cases g2
       obtain ⟨M2, X2⟩ := M1.set (w' := w) id (.cells ls') (β1 id) rfl rfl rfl (Nat.le_refl _) (λ _ _ _ => rfl) (λ x hx => .inl hx) (M1.nodup id)
         (λ b0 h0 => by rw [hid1] at h0; cases h0; simp only [Fy]) (λ X => ⟨c, e, by rw [Ba]; exact g1, by rw [Ba, hc]; exact h2, Bk.ext X R1⟩)
       exact ⟨_, S.size, S.defers, λ k x hk => Bb.ext X2 (Bb.ext X1 (S.slots k x hk)), M2⟩
     · cases hs
   · cases h
def Aud (p : Pl) (s : St V.E) : Option (St V.E) :=
 match Yu s p with
 | some (ag, ls) =>
   match Aj V s.boxes (frz V ls λ ls => .ret (some (.cv (.ag ls))) []) [] [] with
   | some (some (.cv (.ag ls)), _, bx, _) => Uj s bx p ag ls
   | _ => none
 | none => none
theorem A9t {p : Pl} {s s' : St V.E} (h : Aud p s = some s') {a : Act} {w : World} (S : Sim V C s a w) : Sim V C s' a w := by
 obtain ⟨β, S⟩ := S
 unfold Aud at h
 split at h
 · rename_i ag ls hp
   obtain ⟨vs, hr, hset⟩ := Uc (s' := s') S hp
   split at h
   · rename_i ls1 cs bx ac hi
     obtain ⟨bx1, β1, ls', rs', ws', M1, X1, R1, I1, _⟩ := O1 ls _ _ β S.mem hr _ _ _ hi
     obtain ⟨e1, _, e3⟩ := Az I1
     simp only [Option.some.injEq, SV.cv.injEq, CV.ag.injEq] at e1
     subst e1; subst e3
     exact hset _ _ _ M1 X1 R1 h
   · cases h
 · cases h
def Aqi (p : Pl) (j id e e2 : Nat) (s : St V.E) : Option (St V.E) :=
 match Yu s p, A6 id s.boxes with
 | some (ag, ls), none => match ls[j]? with
   | some (.sl t true []) =>
     match e2, t with
     | 0, t => Uj s (put id (.arr e t [] 0 false) s.boxes) p ag (ls.set j (.ar id 0))
     | e2, .sl t => Uj s (put id (.rows e e2 t [] 0 0 .opn) s.boxes) p ag (ls.set j (.ar id 0))
     | _, _ => none
   | _ => none
 | _, _ => none
theorem Bk.set {α β : Type} {R : α -> β -> Prop} {l : List α} {m : List β} (h : Bk R l m) : ∀ {i : Nat} {x : α}, (∀ y, m[i]? = some y -> R x y) -> Bk R (l.set i x) m := by
 induction h with
 | nil => intro i x _; exact .nil
 | cons h t ih =>
   intro i x hx
   cases i with
   | zero => exact .cons (hx _ (by simp)) t
   | succ i => exact .cons h (ih λ y hy => hx y (by simpa using hy))
theorem Aod {p : Pl} {j id e e2 : Nat} {s s' : St V.E} (h : Aqi p j id e e2 s = some s') {a : Act} {w : World} (S : Sim V C s a w) : Sim V C s' a w := by
 obtain ⟨β, S⟩ := S
 unfold Aqi at h
 split at h
 · rename_i ag ls hp hid
   obtain ⟨vs, hR, hset⟩ := Uc (s' := s') S hp
   split at h
   · rename_i t hj
     obtain ⟨v, hv, hr⟩ := hR.get j _ hj
     simp only [Ak, R2, Br] at hr
     obtain ⟨ad, cap, hvv, _, hcap, hst, _⟩ := hr
     have had : ad = none := hst trivial rfl
     subst had
     have hcap := hcap rfl
     subst hcap
     have hvv : v = .slice none 0 0 := by simpa using hvv
     have key : ∀ b : Box V.E, (∀ bx1 β1 ok1, β1 id = { β id with hdr := .slice none 0 0, own := [], rows := [] } -> C5 V.T bx1 β1 ok1 w id b) -> ((∃ e t, b = .arr e t [] 0 false) \/ (∃ e e2 t, b = .rows e e2 t [] 0 0 .opn)) ->
         Uj s (put id b s.boxes) p ag (ls.set j (.ar id 0)) = some s' -> Sim V C s' a w := by
       intro b hb hb' hs
       obtain ⟨M, X⟩ := S.mem.set (w' := w) id b { β id with hdr := .slice none 0 0, own := [], rows := [] } rfl rfl rfl (Nat.le_refl _) (λ _ _ _ => rfl) (λ x hx => by simp at hx) (by simp)
         (λ b0 h0 => by rw [hid] at h0; cases h0) (λ _ => hb _ _ _ (Ba _ _ _))
       refine hset _ _ _ M X ?_ hs
       refine (Bk.ext X hR).set λ y hy => ?_
       rw [hv] at hy; cases hy
       rw [hvv]
       simp only [Ak, A2, Ba]
       refine ⟨rfl, ?_⟩
       rcases hb' with ⟨e, t, rfl⟩ | ⟨e, e2, t, rfl⟩ <;> exact ⟨Nat.le_refl _, λ _ => by first | rfl | trivial⟩
     split at h
     · refine key _ (λ bx1 β1 ok1 hβ => ?_) (.inl ⟨_, _, rfl⟩) h
       simp only [C5, Hh]
       rw [hβ]
       exact ⟨rfl, [], ⟨by simp, .inl ⟨rfl, rfl⟩⟩, .nil⟩
     · refine key _ (λ bx1 β1 ok1 hβ => ?_) (.inr ⟨_, _, _, rfl⟩) h
       simp only [C5, Ld]
       rw [hβ]
       exact ⟨⟨by simp, .inl ⟨rfl, rfl⟩⟩, rfl, .nil⟩
     · cases h
   · cases h
 · cases h
def stL {E : Nat -> Type} : List (A7 E) -> List (A7 E)
 | [] => []
 | .sl t _ xs :: r => .sl t false xs :: stL r
 | l :: r => l :: stL r
def A8f (p : Pl) (s : St V.E) : Option (St V.E) :=
 match Yu s p with
 | some (ag, ls) => Uj s s.boxes p ag (stL ls)
 | none => none
theorem Abr {bx : List (Nat × Box V.E)} {β : Nat -> BI} {ok : Nat -> Prop} {w : World} : ∀ {ls : List (A7 V.E)} {vs : List Value}, Bk (Ak V.T bx β ok w) ls vs -> Bk (Ak V.T bx β ok w) (stL ls) vs
 | [], _, .nil => .nil
 | l :: ls, _, .cons h t => by
   unfold stL
   split
   · rename_i heq; cases heq
   · rename_i heq; cases heq
     exact .cons (Wf (.inr ⟨_, _, false, _, rfl, rfl, λ h => by cases h⟩) h) (Abr t)
   · rename_i heq; cases heq; exact .cons h (Abr t)
theorem Bft {p : Pl} {s s' : St V.E} (h : A8f p s = some s') {a : Act} {w : World} (S : Sim V C s a w) : Sim V C s' a w := by
 obtain ⟨β, S⟩ := S
 unfold A8f at h
 split at h
 · rename_i ag ls hp
   obtain ⟨vs, hR, hset⟩ := Uc (s' := s') S hp
   exact hset _ _ _ S.mem (Ext.refl _ _ _ _ _) (Abr hR) h
 · cases h
def A9l (p : Pl) (j : Nat) (s : St V.E) : Option (St V.E × List Prop) :=
 match Yu s p with
 | some (ag, ls) => match ls[j]? with
   | some (.sl t _ xs) => match Uj s s.boxes p ag (ls.set j (.sl t true xs)) with
     | some s' => some (s', [xs ≠ []])
     | none => none
   | _ => none
 | none => none
theorem Bb8 {p : Pl} {j : Nat} {s s' : St V.E} {cs : List Prop} (h : A9l p j s = some (s', cs)) (hc : Gw cs) {a : Act} {w : World} (S : Sim V C s a w) : Sim V C s' a w := by
 obtain ⟨β, S⟩ := S
 unfold A9l at h
 split at h
 · rename_i ag ls hp
   split at h
   · rename_i t st xs hj
     split at h
     · rename_i s1 hs
       cases h
       obtain ⟨vs, hR, hset⟩ := Uc (s' := s') S hp
       refine hset _ _ _ S.mem (Ext.refl _ _ _ _ _) (hR.set λ y hy => ?_) hs
       obtain ⟨v, hv, hr⟩ := hR.get j _ hj
       rw [hv] at hy; cases hy
       exact Wf (bx := s.boxes) (β := β) (.inr ⟨t, st, true, xs, rfl, rfl, λ _ => .inr hc.1⟩) hr
     · cases h
   · cases h
 · cases h
def Sb {E : Nat -> Type} (id id' : Nat) (l : A7 E) : Option (A7 E) := if Sv (Hj l) [id, id'] then some l else none
def reL {E : Nat -> Type} (id cur crv id' nv : Nat) : A7 E -> Option (A7 E)
 | .ar i ver => if Nat.beq i id && Nat.beq ver cur then some (.ar id' nv) else Sb id id' (.ar i ver)
 | .row i ver rv j => if Nat.beq i id && Nat.beq ver cur && Nat.beq rv crv then some (.row id' nv 0 j) else Sb id id' (.row i ver rv j)
 | .ptr i off => if Nat.beq i id then some (.ptr id' off) else Sb id id' (.ptr i off)
 | l => Sb id id' l
def Is {E : Nat -> Type} (nv : Nat) : Box E -> Option (Box E × Nat × Nat)
 | .cells ls => some (.cells ls, 0, 0)
 | .arr e t xs v fz => some (.arr e t xs nv fz, v, 0)
 | .rows e e2 t xss v rv fz => some (.rows e e2 t xss nv 0 fz, v, rv)
 | .map .. => none
 | .gone => none
def Ahh {α : Type} (k : Nat) : List (Nat × α) -> List (Nat × α)
 | [] => []
 | (j, x) :: r => if Nat.beq j k then Ahh k r else (j, x) :: Ahh k r
theorem Zg {α : Type} (k j : Nat) : ∀ l : List (Nat × α), A6 j (Ahh k l) = if j = k then none else A6 j l
 | [] => by simp [Ahh, A6]
 | (i, x) :: r => by
   unfold Ahh
   by_cases hi : Nat.beq i k = true
   · have := Aq hi; subst this
     simp only [hi, if_true]
     rw [Zg i j r]
     by_cases hj : j = i
     · simp [hj]
     · simp only [hj, if_false]
       show A6 j r = if Nat.beq i j then some x else A6 j r
       rw [Jx (Ne.symm hj)]
       rfl
   · simp only [hi, Bool.false_eq_true, if_false]
     unfold A6
     by_cases hij : Nat.beq i j = true
     · have := Aq hij; subst this
       have hne : i ≠ k := λ e => hi (by rw [e]; simp)
       simp [hne]
     · simp only [hij, Bool.false_eq_true, if_false]; exact Zg k j r
def A8n (id id' nv : Nat) (s : St V.E) : Option (St V.E) :=
 match A6 id s.boxes with
 | some b => match Is nv b with
   | some (b', cur, crv) =>
     if Nat.beq id id' || (A6 id' s.boxes).isNone then
       if M6 s.slots then
         match Nw (reL id cur crv id' nv) (put id' b' (Ahh id s.boxes)) with
         | some bx => some ⟨s.n, Ir (reL id cur crv id' nv) s.slots, bx⟩
         | none => none
       else none
     else none
   | none => none
 | none => none
end
section
variable {V : Env} {C : Ctx}
theorem Aic {E : Nat -> Type} {id id' : Nat} {l l' : A7 E} (h : Sb id id' l = some l') : l' = l /\ ∀ i ∈ Hj l, i ≠ id /\ i ≠ id' := by
 unfold Sb at h
 split at h
 · rename_i hn
   cases h
   refine ⟨rfl, λ i hi => ?_⟩
   have := Ns hn i hi
   simpa using this
 · cases h
theorem Bji {id id' nv : Nat} {s s' : St V.E} (h : A8n id id' nv s = some s') {a : Act} {w : World} (S : Sim V C s a w) : Sim V C s' a w := by
 obtain ⟨β, S⟩ := S
 unfold A8n at h
 split at h
 · rename_i b hb
   split at h
   · rename_i b' cur crv hre
     split at h
     · rename_i hid
       split at h
       · rename_i hsort
         split at h
         · rename_i bx hbx
           cases h
           have M := S.mem
           let β' : Nat -> BI := λ j => if j = id' then β id else if j = id then { β j with own := [] } else β j
           have hβ1 : β' id' = β id := by show (if _ then _ else _) = _; rw [if_pos rfl]
           have hβ2 : id ≠ id' -> (β' id).own = [] := λ hne => by
             show (if _ then _ else _ : BI).own = _
             rw [if_neg hne, if_pos rfl]
           have hβ3 : ∀ j, j ≠ id -> j ≠ id' -> β' j = β j := λ j h1 h2 => by show (if _ then _ else _) = _; rw [if_neg h2, if_neg h1]
           have hfree : id ≠ id' -> A6 id' s.boxes = none := by
             intro hne
             simp only [Bool.or_eq_true] at hid
             rcases hid with hid | hid
             · exact (hne (Aq hid)).elim
             · simpa using hid
           -- the owned blocks are the same ones
           have hown : ∀ j x, x ∈ (β' j).own -> ∃ k, x ∈ (β k).own /\ (j = id' /\ k = id \/ j ≠ id' /\ k = j /\ j ≠ id) := by
             intro j x hx
             by_cases h1 : j = id'
             · subst h1; rw [hβ1] at hx; exact ⟨id, hx, .inl ⟨rfl, rfl⟩⟩
             · by_cases h2 : j = id
               · subst h2; rw [hβ2 h1] at hx; simp at hx
               · rw [hβ3 j h2 h1] at hx; exact ⟨j, hx, .inr ⟨h1, rfl, h2⟩⟩
           have L : Fb (Bc C β w) w (Bc C β' w) w := ⟨λ b hb => ⟨hb.1, hb.2.1, λ j hj => by obtain ⟨k, hk, _⟩ := hown j b hj; exact hb.2.2 k hk⟩, λ _ _ => rfl⟩
           have hput : ∀ j, A6 j (put id' b' (Ahh id s.boxes)) = if j = id' then some b' else if j = id then none else A6 j s.boxes := by
             intro j
             by_cases h1 : j = id'
             · subst h1; rw [A2, if_pos rfl]
             · rw [A4 h1, Zg, if_neg h1]
           have hlook := Nl hbx
           have halike : ∀ j, j ≠ id -> j ≠ id' -> Y6 (A6 j s.boxes) (A6 j bx) := by
             intro j h1 h2
             have e := hput j
             rw [if_neg h2, if_neg h1] at e
             rcases hlook j with ⟨p1, p2⟩ | ⟨ls, ls', p1, p2, _⟩ | ⟨b0, p1, p2, _⟩
             · exact .inl (by rw [p2, <- e, p1])
             · exact .inr ⟨ls, ls', by rw [<- e, p1], p2⟩
             · exact .inl (by rw [p2, <- e, p1])
           have hnew : ∃ bn, A6 id' bx = some bn /\ Y6 (some b') (some bn) := by
             have e := hput id'
             rw [if_pos rfl] at e
             rcases hlook id' with ⟨p1, p2⟩ | ⟨ls, ls', p1, p2, _⟩ | ⟨b0, p1, p2, _⟩
             · rw [e] at p1; cases p1
             · rw [e] at p1; cases p1; exact ⟨_, p2, .inr ⟨ls, ls', rfl, rfl⟩⟩
             · rw [e] at p1; cases p1; exact ⟨_, p2, .inl rfl⟩
           obtain ⟨bn, hbn, hal⟩ := hnew
           have hm : ∀ l l' v, reL id cur crv id' nv l = some l' -> Ak V.T s.boxes β (Bc C β w) w l v -> Ak V.T bx β' (Bc C β' w) w l' v := by
             intro l l' v hl hr
             have other : Sb id id' l = some l' -> Ak V.T bx β' (Bc C β' w) w l' v := by
               intro ho
               obtain ⟨rfl, hids⟩ := Aic ho
               exact Ak.agree L _ v (λ i hi => ⟨halike i (hids i hi).1 (hids i hi).2, hβ3 i (hids i hi).1 (hids i hi).2⟩) hr
             cases l with
             | ar i ver =>
               simp only [reL] at hl
               split at hl
               · rename_i hc
                 cases hl
                 simp only [Bool.and_eq_true] at hc
                 have e1 := Aq hc.1; have e2 := Aq hc.2
                 subst e1; subst e2
                 simp only [Ak, hb, hbn] at hr ⊢
                 refine ⟨hr.1, ?_⟩
                 cases b with
                 | cells ls => simp only [Is, Option.some.injEq, Prod.mk.injEq] at hre; obtain ⟨rfl, _, _⟩ := hre; rcases hal with hal | ⟨_, _, _, hal⟩ <;> (cases hal; trivial)
                 | arr e t xs v0 fz =>
                   simp only [Is, Option.some.injEq, Prod.mk.injEq] at hre; obtain ⟨rfl, rfl, rfl⟩ := hre
                   rcases hal with hal | ⟨_, _, hal, _⟩ <;> cases hal
                   exact ⟨Nat.le_refl _, λ _ => by rw [hβ1]; exact hr.2.2 rfl⟩
                 | rows e e2 t xss v0 rv fz =>
                   simp only [Is, Option.some.injEq, Prod.mk.injEq] at hre; obtain ⟨rfl, rfl, rfl⟩ := hre
                   rcases hal with hal | ⟨_, _, hal, _⟩ <;> cases hal
                   exact ⟨Nat.le_refl _, λ _ => by rw [hβ1]; exact hr.2.2 rfl⟩
                 | map k0 t0 l0 => simp [Is] at hre
                 | gone => simp [Is] at hre
               · exact other hl
             | row i ver rv j =>
               simp only [reL] at hl
               split at hl
               · rename_i hc
                 cases hl
                 simp only [Bool.and_eq_true] at hc
                 have e1 := Aq hc.1.1; have e2 := Aq hc.1.2; have e3 := Aq hc.2
                 subst e1; subst e2; subst e3
                 simp only [Ak, hb, hbn] at hr ⊢
                 refine ⟨hr.1, ?_⟩
                 cases b with
                 | cells ls => simp only [Is, Option.some.injEq, Prod.mk.injEq] at hre; obtain ⟨rfl, _, _⟩ := hre; rcases hal with hal | ⟨_, _, _, hal⟩ <;> (cases hal; trivial)
                 | arr e t xs v0 fz =>
                   simp only [Is, Option.some.injEq, Prod.mk.injEq] at hre; obtain ⟨rfl, rfl, rfl⟩ := hre
                   rcases hal with hal | ⟨_, _, hal, _⟩ <;> cases hal
                   trivial
                 | rows e e2 t xss v0 rv0 fz =>
                   simp only [Is, Option.some.injEq, Prod.mk.injEq] at hre; obtain ⟨rfl, rfl, rfl⟩ := hre
                   rcases hal with hal | ⟨_, _, hal, _⟩ <;> cases hal
                   refine ⟨Nat.le_refl _, λ _ => ⟨Nat.zero_le _, λ _ => ?_⟩⟩
                   rw [hβ1]
                   exact (hr.2.2 rfl).2 rfl
                 | map k0 t0 l0 => simp [Is] at hre
                 | gone => simp [Is] at hre
               · exact other hl
             | ptr i off =>
               simp only [reL] at hl
               split at hl
               · rename_i hc
                 cases hl
                 have e1 := Aq hc
                 subst e1
                 simp only [Ak, hb, hbn] at hr ⊢
                 refine ⟨hr.1, ?_⟩
                 cases b with
                 | cells ls => simp only [Is, Option.some.injEq, Prod.mk.injEq] at hre; obtain ⟨rfl, _, _⟩ := hre; rcases hal with hal | ⟨_, _, _, hal⟩ <;> (cases hal; rw [hβ1]; exact hr.2)
                 | arr e t xs v0 fz =>
                   simp only [Is, Option.some.injEq, Prod.mk.injEq] at hre; obtain ⟨rfl, rfl, rfl⟩ := hre
                   rcases hal with hal | ⟨_, _, hal, _⟩ <;> cases hal
                   trivial
                 | rows e e2 t xss v0 rv0 fz =>
                   simp only [Is, Option.some.injEq, Prod.mk.injEq] at hre; obtain ⟨rfl, rfl, rfl⟩ := hre
                   rcases hal with hal | ⟨_, _, hal, _⟩ <;> cases hal
                   trivial
                 | map k0 t0 l0 => simp [Is] at hre
                 | gone => simp [Is] at hre
               · exact other hl
             | _ => exact other (by simpa [reL] using hl)
           refine ⟨β', S.size, S.defers, λ k x hk => ?_, ?_⟩
           · have hk' : A6 k (Ir (reL id cur crv id' nv) s.slots) = some (some x) := by
               unfold slot at hk; simp only at hk
               split at hk
               · rename_i y hy; rw [hy, hk]
               · cases hk
             obtain ⟨x0, h1, h2⟩ := Nq hsort hk'
             have : slot V s k = some x0 := by unfold slot; rw [h1]
             exact Aok hm h2 (S.slots k x0 this)
           · refine ⟨λ j bj hj => ?_, λ j hj => ?_, λ j => ?_, λ j j' x hx hx' => ?_, λ j x hx => ?_, M.kept⟩
             · by_cases h1 : j = id'
               · subst h1
                 rw [hbn] at hj; cases hj
                 have hB := M.boxes id b hb
                 have e := hput j
                 rw [if_pos rfl] at e
                 cases b with
                 | cells ls =>
                   simp only [Is, Option.some.injEq, Prod.mk.injEq] at hre; obtain ⟨rfl, rfl, rfl⟩ := hre
                   rcases hlook j with ⟨p1, p2⟩ | ⟨ls1, ls', p1, p2, p3⟩ | ⟨b0, p1, p2, p3⟩
                   · rw [e] at p1; cases p1
                   · rw [e] at p1; cases p1
                     rw [hbn] at p2; cases p2
                     obtain ⟨c, et, q1, q2, q3⟩ := hB
                     exact ⟨c, et, by rw [hβ1]; exact q1, by rw [hβ1]; exact q2, Ra hm p3 q3⟩
                   · rw [e] at p1; cases p1; exact (p3 _ rfl).elim
                 | arr et t xs v0 fz =>
                   simp only [Is, Option.some.injEq, Prod.mk.injEq] at hre; obtain ⟨rfl, rfl, rfl⟩ := hre
                   rcases hal with hal | ⟨_, _, hal, _⟩ <;> cases hal
                   have hB' : C5 V.T bx β' (Bc C β' w) w j (.arr et t xs v0 fz) := C5.agree L hβ1 (λ ls e => by cases e) hB
                   cases fz <;> exact hB'
                 | rows et e2 t xss v0 rv0 fz =>
                   simp only [Is, Option.some.injEq, Prod.mk.injEq] at hre; obtain ⟨rfl, rfl, rfl⟩ := hre
                   rcases hal with hal | ⟨_, _, hal, _⟩ <;> cases hal
                   have hB' : C5 V.T bx β' (Bc C β' w) w j (.rows et e2 t xss v0 rv0 fz) := C5.agree L hβ1 (λ ls e => by cases e) hB
                   cases fz <;> exact hB'
                 | map k0 t0 l0 => simp [Is] at hre
                 | gone => simp [Is] at hre
               · have e := hput j
                 rw [if_neg h1] at e
                 by_cases h2 : j = id
                 · rw [if_pos h2] at e
                   rcases hlook j with ⟨p1, p2⟩ | ⟨ls1, ls', p1, p2, p3⟩ | ⟨b0, p1, p2, p3⟩
                   · rw [p2] at hj; cases hj
                   · rw [e] at p1; cases p1
                   · rw [e] at p1; cases p1
                 · rw [if_neg h2] at e
                   rcases hlook j with ⟨p1, p2⟩ | ⟨ls1, ls', p1, p2, p3⟩ | ⟨b0, p1, p2, p3⟩
                   · rw [p2] at hj; cases hj
                   · rw [p2] at hj; cases hj
                     rw [e] at p1
                     obtain ⟨c, et, q1, q2, q3⟩ := M.boxes j _ p1
                     exact ⟨c, et, by rw [hβ3 j h2 h1]; exact q1, by rw [hβ3 j h2 h1]; exact q2, Ra hm p3 q3⟩
                   · rw [p2] at hj; cases hj
                     rw [e] at p1
                     exact C5.agree L (hβ3 j h2 h1) (λ ls e => (p3 ls e).elim) (M.boxes j _ p1)
             · by_cases h1 : j = id'
               · subst h1; rw [hbn] at hj; cases hj
               · by_cases h2 : j = id
                 · subst h2; exact hβ2 h1
                 · rw [hβ3 j h2 h1]
                   refine M.nones j ?_
                   have e := hput j
                   rw [if_neg h1, if_neg h2] at e
                   rcases hlook j with ⟨p1, p2⟩ | ⟨ls1, ls', p1, p2, p3⟩ | ⟨b0, p1, p2, p3⟩
                   · rw [<- e, p1]
                   · rw [p2] at hj; cases hj
                   · rw [p2] at hj; cases hj
             · by_cases h1 : j = id'
               · subst h1; rw [hβ1]; exact M.nodup id
               · by_cases h2 : j = id
                 · subst h2; rw [hβ2 h1]; exact List.nodup_nil
                 · rw [hβ3 j h2 h1]; exact M.nodup j
             · obtain ⟨k, hk, ck⟩ := hown j x hx
               obtain ⟨k', hk', ck'⟩ := hown j' x hx'
               have e := M.apart k k' x hk hk'
               subst e
               rcases ck with ⟨c1, c2⟩ | ⟨c1, c2, c3⟩ <;> rcases ck' with ⟨d1, d2⟩ | ⟨d1, d2, d3⟩
               · rw [c1, d1]
               · exact (d3 (d2.symm.trans c2)).elim
               · exact (c3 (c2.symm.trans d2)).elim
               · rw [<- c2, <- d2]
             · obtain ⟨k, hk, _⟩ := hown j x hx
               exact M.mine k x hk
         · cases h
       · cases h
     · cases h
   · cases h
 · cases h
inductive WOp where
 | keep (ks ids : List Nat)
 | fix (p : Pl)
 | own (p : Pl) (j id e e2 : Nat)
 | st (p : Pl)
 | ne (p : Pl) (j : Nat)
 | re (id id' nv : Nat)
def Pg (o : Option (St V.E)) : Option (St V.E × List Prop) :=
 match o with
 | some s => some (s, [])
 | none => none
def Baz : WOp -> St V.E -> Option (St V.E × List Prop)
 | .keep ks ids, s => Pg (Ai5 ks ids s)
 | .fix p, s => Pg (Aud p s)
 | .own p j id e e2, s => Pg (Aqi p j id e e2 s)
 | .st p, s => Pg (A8f p s)
 | .ne p j, s => A9l p j s
 | .re id id' nv, s => Pg (A8n id id' nv s)
def weak : List WOp -> St V.E -> Option (St V.E × List Prop)
 | [], s => some (s, [])
 | o :: os, s => match Baz o s with
   | some (s', p) => match weak os s' with
     | some (s'', q) => some (s'', p ++ q)
     | none => none
   | none => none
theorem Kb {o : Option (St V.E)} {s : St V.E} {p : List Prop} (h : Pg o = some (s, p)) : o = some s := by
 unfold Pg at h
 split at h
 · cases h; rfl
 · cases h
theorem Aky : ∀ {os : List WOp} {s s' : St V.E} {cs : List Prop}, weak os s = some (s', cs) -> Gw cs -> ∀ {a : Act} {w : World}, Sim V C s a w -> Sim V C s' a w
 | [], s, s', cs, h, hc, a, w, S => by simp only [weak, Option.some.injEq, Prod.mk.injEq] at h; obtain ⟨rfl, _⟩ := h; exact S
 | o :: os, s, s', cs, h, hc, a, w, S => by
   unfold weak at h
   split at h
   · rename_i s1 p h1
     split at h
     · rename_i s2 q h2
       cases h
       obtain ⟨hc1, hc2⟩ := Gw.append hc
       refine Aky h2 hc2 ?_
       cases o with
       | keep ks ids => exact Ayh (Kb h1) S
       | fix k => exact A9t (Kb h1) S
       | own k j id e e2 => exact Aod (Kb h1) S
       | st k => exact Bft (Kb h1) S
       | ne k j => exact Bb8 h1 hc1 S
       | re id id' nv => exact Bji (Kb h1) S
     · cases h
   · cases h
end
def auto : Nat -> List Item -> List Item
 | 0, k => k
 | n + 1, .code .skip :: k => auto n k
 | n + 1, .code (.label _) :: k => auto n k
 | n + 1, .code (.seq x y) :: k => auto n (.code x :: .code y :: k)
 | n + 1, .code (.block id c) :: k => auto n (.code c :: .inBlock id :: k)
 | n + 1, .inBlock _ :: k => auto n k
 | n + 1, .code (.exit id) :: k => match exitTo id k with
   | some k' => auto n k'
   | none => .code (.exit id) :: k
 | _ + 1, k => k
inductive Way where
 | auto | reg | br (b : Bool) | enter
def Bj0 (c : Way) (k : List Item) : List Item :=
 match c, auto 200 k with
 | .auto, k => k
 | .reg, .code (.region ..) :: k => k
 | .br b, .code (.cond _ x y) :: k => .code (if b then x else y) :: k
 | .enter, .code (.loop c) :: k => .code c :: .inLoop c :: k
 | .enter, .inLoop c :: k => .code c :: .inLoop c :: k
 | _, _ => []
def ctl : List Way -> List Item -> List Item
 | [], k => k
 | c :: cs, k => ctl cs (Bj0 c k)
section
variable (V : Env)
inductive Cmd where
 | auto
 | reg (q : Ut V)
 | br (b : Bool)
 | enter
 | weak (os : List WOp)
def A7f (c : Cmd V) (k : List Item) (s : St V.E) : Option (List Item × St V.E × List Prop) :=
 match c with
 | .weak os => match weak os s with
   | some (s', cs) => some (k, s', cs)
   | none => none
 | .auto => some (auto 200 k, s, [])
 | .reg q => match auto 200 k with
   | .code (.region _ ops drawn) :: k' => match Tv V ops.toList q 0 ops.toList s with
     | some (s', cs, acs) => if drawn then (if Am9 ops acs then some (k', s', cs) else none) else some (k', s', cs)
     | none => none
   | _ => none
 | .br b => match auto 200 k with
   | .code (.cond c x y) :: k' => match Aha V s 0 c with
     | some (.cv (.one (.bool x'))) => some (.code (if b then x else y) :: k', s, [x' = b])
     | _ => none
   | _ => none
 | .enter => match auto 200 k with
   | .code (.loop c) :: k' => some (.code c :: .inLoop c :: k', s, [])
   | .inLoop c :: k' => some (.code c :: .inLoop c :: k', s, [])
   | _ => none
def run : List (Cmd V) -> List Item -> St V.E -> Option (List Item × St V.E × List Prop)
 | [], k, s => some (k, s, [])
 | c :: cs, k, s => match A7f V c k s with
   | some (k', s', p) => match run cs k' s' with
     | some (k'', s'', p') => some (k'', s'', p ++ p')
     | none => none
   | none => none
end
section
variable {V : Env} {P : Program} {C : Ctx}
def Ax (V : Env) (P : Program) (C : Ctx) (F : Act -> World -> Prop) (k : List Item) (s : St V.E) : Prop :=
 ∀ a w, Sim V C s a w -> ∀ (b : Frame) (cs : List Frame), ∃ a' w' todo, F a' w' /\ Steps P (lone (b.at a k) cs w) (lone { b.at a' todo with mode := .returning } cs w')
variable {F : Act -> World -> Prop}
theorem He (b : Frame) (a : Act) (cs : List Frame) (w : World) : ∀ (n : Nat) (k : List Item), Steps P (lone (b.at a k) cs w) (lone (b.at a (auto n k)) cs w)
 | 0, k => .refl _ _
 | n + 1, k => by
   unfold auto
   split
   · rename_i heq; cases heq
   · rename_i heq; cases heq; exact .head step_skip (He b a cs w n _)
   · rename_i heq; cases heq; exact .head step_label (He b a cs w n _)
   · rename_i heq; cases heq; exact .head step_seq (He b a cs w n _)
   · rename_i heq; cases heq; exact .head step_block (He b a cs w n _)
   · rename_i heq; cases heq; exact .head step_inBlock (He b a cs w n _)
   · rename_i heq; cases heq
     split
     · rename_i k' hk; exact .head (step_exit hk) (He b a cs w n _)
     · exact .refl _ _
   · exact .refl _ _
theorem Ax.of_steps {k k' : List Item} {s s' : St V.E} (h : ∀ a w, Sim V C s a w -> ∀ (b : Frame) (cs : List Frame), ∃ a' w', Sim V C s' a' w' /\ Steps P (lone (b.at a k) cs w) (lone (b.at a' k') cs w')) (g : Ax V P C F k' s') : Ax V P C F k s := by
 intro a w S b cs
 obtain ⟨a1, w1, S1, h1⟩ := h a w S b cs
 obtain ⟨a2, w2, todo, hF, h2⟩ := g a1 w1 S1 b cs
 exact ⟨a2, w2, todo, hF, h1.trans h2⟩
theorem A1a (G : Ay V P) {c : Cmd V} {k k' : List Item} {s s' : St V.E} {cs : List Prop} (h : A7f V c k s = some (k', s', cs)) (hc : Gw cs) : Ax V P C F k' s' -> Ax V P C F k s := by
 intro g
 have A := λ (b : Frame) (a : Act) (cs : List Frame) (w : World) => He (P := P) b a cs w 200 k
 unfold A7f at h
 split at h
 · split at h
   · rename_i s1 c1 hw
     cases h
     intro a w S
     exact g a w (Aky hw hc S)
   · cases h
 · cases h
   exact .of_steps (λ a w S b cs => ⟨a, w, S, A b a cs w⟩) g
 · split at h
   · rename_i id ops drawn k1 hk
     split at h
     · rename_i s1 c1 acs hev
       have key : ∀ (hd : drawn = true -> Am9 ops acs = true), Gw c1 -> Ax V P C F k1 s1 -> Ax V P C F k s := by
         intro hd hc g
         refine .of_steps (λ a w S b cs => ?_) g
         have hwp := Aoc G (id := id) (drawn := drawn) (Q := λ e a' w' => e = .normal /\ Sim V C s1 a' w') S hev hc hd (λ a' w' S' => ⟨rfl, S'⟩)
         obtain ⟨e, a', w', ⟨rfl, S'⟩, harr⟩ := hwp b k1 cs
         refine ⟨a', w', S', ?_⟩
         have := A b a cs w
         rw [hk] at this
         exact this.trans harr
       split at h
       · split at h
         · rename_i hany
           cases h
           exact key (λ _ => hany) hc g
         · cases h
       · rename_i hd
         cases h
         exact key (λ e => (hd e).elim) hc g
     · cases h
   · cases h
 · split at h
   · rename_i o x y k1 hk
     split at h
     · rename_i x' ho
       cases h
       refine .of_steps (λ a w S b cs => ⟨a, w, S, ?_⟩) g
       obtain ⟨β, S⟩ := S
       have hr := Acj S 0 o _ ho
       simp only [SR, Bb, A3, Ak] at hr
       have := A b a cs w
       rw [hk] at this
       refine this.trans (.one ?_)
       rw [step_cond hr, hc.1]
     · cases h
   · cases h
 · split at h
   · rename_i c k1 hk
     cases h
     refine .of_steps (λ a w S b cs => ⟨a, w, S, ?_⟩) g
     have := A b a cs w
     rw [hk] at this
     exact this.trans (.one step_loop)
   · rename_i c k1 hk
     cases h
     refine .of_steps (λ a w S b cs => ⟨a, w, S, ?_⟩) g
     have := A b a cs w
     rw [hk] at this
     exact this.trans (.one step_inLoop)
   · cases h
theorem seg (G : Ay V P) : ∀ {c : List (Cmd V)} {k k' : List Item} {s s' : St V.E} {cs : List Prop}, run V c k s = some (k', s', cs) -> Gw cs -> Ax V P C F k' s' -> Ax V P C F k s
 | [], k, k', s, s', cs, h, hc, g => by
   simp only [run, Option.some.injEq, Prod.mk.injEq] at h
   obtain ⟨rfl, rfl, _⟩ := h
   exact g
 | c :: c', k, k', s, s', cs, h, hc, g => by
   unfold run at h
   split at h
   · rename_i k1 s1 p1 h1
     split at h
     · rename_i k2 s2 p2 h2
       cases h
       obtain ⟨hc1, hc2⟩ := Gw.append hc
       exact A1a G h1 hc1 (seg G h2 hc2 g)
     · cases h
   · cases h
end
noncomputable def need {α : Type} (c : Prop) (r : Option α) : Option α := @ite _ c (Classical.propDecidable c) r none
theorem Am {α : Type} {c : Prop} {r : Option α} {y : α} (h : need c r = some y) : c /\ r = some y := by
 unfold need at h
 by_cases hc : c
 · rw [if_pos hc] at h; exact ⟨hc, h⟩
 · rw [if_neg hc] at h; cases h
theorem Aw5 {α : Type} {c : Prop} {r : Option α} (h : c) : need c r = r := if_pos h
theorem bind_some {α β : Type} {x : Option α} {f : α -> Option β} {y : β} (h : x.bind f = some y) : ∃ z, x = some z /\ f z = some y := Option.bind_eq_some_iff.1 h
theorem Ag {α : Type} {b : Bool} {x y : Option α} {r : α} (h : (if b = true then x else y) = some r) : (b = true /\ x = some r) \/ (b = false /\ y = some r) := by
 cases b
 · exact .inr ⟨rfl, by simpa using h⟩
 · exact .inl ⟨rfl, by simpa using h⟩
def Mp {σ ρ : Type} (f : σ -> Option (σ ⊕ ρ)) : Nat -> σ -> Option ρ
 | 0, _ => none
 | n + 1, s => (f s).bind fun
   | .inl s' => Mp f n s'
   | .inr r => some r
open Classical in
noncomputable def Bj {σ ρ : Type} (f : σ -> Option (σ ⊕ ρ)) (s : σ) : Option ρ :=
 if h : ∃ n r, Mp f n s = some r then some h.choose_spec.choose else none
theorem Aaf {σ ρ : Type} {f : σ -> Option (σ ⊕ ρ)} : ∀ {n m : Nat} {s : σ} {r r' : ρ}, Mp f n s = some r -> Mp f m s = some r' -> r = r'
 | 0, _, _, _, _, h, _ => by simp [Mp] at h
 | _ + 1, 0, _, _, _, _, h => by simp [Mp] at h
 | n + 1, m + 1, s, r, r', h, h' => by
   simp only [Mp] at h h'
   cases hf : f s with
   | none => rw [hf] at h; cases h
   | some x =>
     rw [hf] at h h'
     cases x with
     | inl s' => exact Aaf (n := n) (m := m) h h'
     | inr q => simp at h h'; rw [<- h, h']
theorem Td {σ ρ : Type} {f : σ -> Option (σ ⊕ ρ)} {s : σ} {r : ρ} : Bj f s = some r ↔ ∃ n, Mp f n s = some r := by
 unfold Bj
 constructor
 · intro h
   split at h
   · rename_i hx
     cases h
     exact ⟨hx.choose, hx.choose_spec.choose_spec⟩
   · cases h
 · rintro ⟨n, h⟩
   have hx : ∃ n r, Mp f n s = some r := ⟨n, r, h⟩
   rw [dif_pos hx]
   exact congrArg some (Aaf hx.choose_spec.choose_spec h)
theorem Abq {σ ρ : Type} (f : σ -> Option (σ ⊕ ρ)) (s : σ) : Bj f s = (f s).bind fun
   | .inl s' => Bj f s'
   | .inr r => some r := by
 apply Option.ext
 intro r
 rw [Td]
 constructor
 · rintro ⟨n, h⟩
   cases n with
   | zero => simp [Mp] at h
   | succ n =>
     simp only [Mp] at h
     cases hf : f s with
     | none => rw [hf] at h; cases h
     | some x =>
       rw [hf] at h
       cases x with
       | inl s' => exact Td.2 ⟨n, h⟩
       | inr q => exact h
 · intro h
   cases hf : f s with
   | none => rw [hf] at h; cases h
   | some x =>
     rw [hf] at h
     cases x with
     | inl s' =>
       obtain ⟨n, hn⟩ := Td.1 (show Bj f s' = some r from h)
       exact ⟨n + 1, by simp only [Mp, hf]; exact hn⟩
     | inr q => exact ⟨1, by simp only [Mp, hf]; exact h⟩
theorem Am8 {σ ρ : Type} {f : σ -> Option (σ ⊕ ρ)} (I : σ -> Prop) (μ : σ -> Nat) (Post : ρ -> Prop)
   (h : ∀ s, I s -> (∃ s', f s = some (.inl s') /\ I s' /\ μ s' < μ s) \/ (∃ r, f s = some (.inr r) /\ Post r)) : ∀ s, I s -> ∃ r, Bj f s = some r /\ Post r := by
 intro s
 induction hn : μ s using Nat.strongRecOn generalizing s with
 | _ n ih =>
   intro hI
   rcases h s hI with ⟨s', h1, h2, h3⟩ | ⟨r, h1, h2⟩
   · obtain ⟨r, hr, hp⟩ := ih (μ s') (by omega) s' rfl h2
     exact ⟨r, by rw [Abq, h1]; exact hr, hp⟩
   · exact ⟨r, by rw [Abq, h1]; rfl, h2⟩
section
variable {V : Env} {P : Program} {C : Ctx} {F : Act -> World -> Prop}
theorem Ane {σ ρ : Type} {f : σ -> Option (σ ⊕ ρ)} {k : List Item} {S : σ -> St V.E} {r : ρ}
   (h : ∀ v o, f v = some o -> (∀ v', o = .inl v' -> Ax V P C F k (S v')) -> (∀ r', o = .inr r' -> r' = r) -> Ax V P C F k (S v)) : ∀ v, Bj f v = some r -> Ax V P C F k (S v) := by
 intro v hv
 obtain ⟨n, hn⟩ := Td.1 hv
 clear hv
 induction n generalizing v with
 | zero => simp [Mp] at hn
 | succ n ih =>
   simp only [Mp] at hn
   obtain ⟨o, ho, hn⟩ := bind_some hn
   refine h v o ho (λ v' e => ?_) (λ r' e => ?_)
   · subst e; exact ih v' hn
   · subst e; exact Option.some.inj hn
end
end Go.Ab
