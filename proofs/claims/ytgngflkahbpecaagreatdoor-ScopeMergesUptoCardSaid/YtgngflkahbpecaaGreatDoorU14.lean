/- A run of a function's code does what the code does: the whole. Conditions: none beyond those that each theorem names. -/
import Derived.Test.YtgngflkahbpecaaGreatDoorU13
namespace Go.Ab
open Go
section
variable {V : Env} {P : Program} {C : Ctx}
theorem look_keepB {E : Nat → Type} (base : Nat) (ids : List Nat) (id : Nat) : ∀ bx : List (Nat × Box E), look id (keepB base ids bx) = if keptB base ids id = true then look id bx else none
  | [] => by simp [keepB, look]
  | (j, b) :: r => by
    have ih := look_keepB base ids id r
    unfold keepB
    by_cases hj : Nat.beq j id = true
    · have := eq_of_beq' hj; subst this
      split
      · rename_i h; rw [if_pos h]; simp [look]
      · rename_i h
        rw [ih, if_neg (by simp [h]), if_neg (by simp [h])]
    · split
      · show (if Nat.beq j id = true then some b else look id (keepB base ids r)) = if keptB base ids id = true then (if Nat.beq j id = true then some b else look id r) else none
        rw [if_neg hj, if_neg hj]; exact ih
      · rw [ih]
        show _ = if keptB base ids id = true then (if Nat.beq j id = true then some b else look id r) else none
        rw [if_neg hj]
theorem allKept_of {base : Nat} {ids : List Nat} : ∀ {l : List Nat}, allKept base ids l = true → ∀ i ∈ l, keptB base ids i = true
  | x :: xs, h, i, hi => by
    unfold allKept at h
    split at h
    · rename_i hx
      rcases List.mem_cons.1 hi with rfl | hi
      · exact hx
      · exact allKept_of h i hi
    · cases h
theorem cellsKept_of {E : Nat → Type} {base : Nat} {ids : List Nat} : ∀ {bx : List (Nat × Box E)}, cellsKept base ids bx = true → ∀ {id ls}, look id bx = some (.cells ls) → ∀ i ∈ leavesIds ls, keptB base ids i = true
  | [], _, _, _, h => by simp [look] at h
  | (j, b) :: r, hk, id, ls, h => by
    unfold look at h
    unfold cellsKept at hk
    split at hk
    · rename_i heq; cases heq
    · rename_i heq; cases heq
      split at hk
      · rename_i ha
        split at h
        · cases h; exact allKept_of ha
        · exact cellsKept_of hk h
      · cases hk
    · rename_i hne heq; cases heq
      split at h
      · cases h; exact (hne _ _ rfl).elim
      · exact cellsKept_of hk h
theorem letGo_ok {E : Nat → Type} {base : Nat} {roots : List Nat} {bx bx' : List (Nat × Box E)} (h : letGo base roots bx = some bx') :
    ∃ p : Nat → Bool, (∀ id, look id bx' = if p id = true then look id bx else none) ∧ (∀ id, id < base → p id = true) ∧ (∀ id ∈ roots, p id = true) ∧
      ∀ id ls, p id = true → look id bx = some (.cells ls) → ∀ i ∈ leavesIds ls, p i = true := by
  unfold letGo at h
  simp only at h
  generalize reachIds base bx 100000 (roots ++ lowIds base bx) [] = ids at h
  split at h
  · rename_i hb
    cases h
    simp only [Bool.and_eq_true] at hb
    refine ⟨keptB base ids, fun id => look_keepB base ids id bx, fun id hid => ?_, fun id hid => allKept_of hb.1 id hid, fun id ls hp hl i hi => ?_⟩
    · unfold keptB; rw [Nat.blt_eq.mpr hid]; rfl
    · exact cellsKept_of hb.2 (show look id (keepB base ids bx) = some (.cells ls) by rw [look_keepB, if_pos hp]; exact hl) i hi
  · cases h
theorem slotIds_of {E : Nat → Type} : ∀ {l : List (Nat × Option (SV E))} {k : Nat} {x : SV E}, look k l = some (some x) → ∀ i ∈ x.ids, i ∈ slotIds l
  | [], _, _, h => by simp [look] at h
  | (j, v) :: r, k, x, h => by
    intro i hi
    unfold look at h
    split at h
    · cases h
      exact List.mem_append.2 (.inl hi)
    · have := slotIds_of h i hi
      cases v with
      | none => exact this
      | some v => exact List.mem_append.2 (.inr this)
def Under (base : Nat) (m : Sl V) : Prop := ∀ k x, look k m = some (some x) → ∀ i ∈ x.ids, i < base
theorem letGoSt_ok {m : Sl V} (hm : High m) (hu : Under V.base m) {ks : List Nat} {s s' : St V.E} (h : letGoSt V ks s = some s') (hl : Low s) : Low s' ∧ ∀ {a : Act} {w : World}, Sim V C (plus m s) a w → Sim V C (plus m s') a w := by
  unfold letGoSt at h
  simp only at h
  split at h
  · rename_i bx hb
    cases h
    refine ⟨fun k hk => ?_, ?_⟩
    · show look k (keepL ks s.slots) = none
      rw [look_keep]
      split
      · exact hl k hk
      · rfl
    rintro a w ⟨β, S⟩
    obtain ⟨p, p1, p2, p3, p4⟩ := letGo_ok hb
    obtain ⟨β', M', L, hag⟩ := mem_keep S.mem p1 p4
    refine ⟨β', S.size, S.defers, fun k x hk => ?_, M'⟩
    have hk' : look k (keepL ks s.slots ++ m) = some (some x) := by
      unfold slot at hk
      split at hk
      · rename_i y hy; subst hk; exact hy
      · cases hk
    rw [look_append] at hk'
    have fin : slot V (plus m s) k = some x → (∀ i ∈ x.ids, p i = true) → SR V C bx β' w x (getV C a.tmps k) := fun h1 h2 =>
      SVRep.agree L (fun id hid => ⟨.inl (hag id (h2 id hid)).1, (hag id (h2 id hid)).2⟩) (S.slots k x h1)
    split at hk'
    · rename_i y hy
      cases hk'
      refine fin ?_ (fun i hi => p3 i (slotIds_of hy i hi))
      rw [look_keep] at hy
      split at hy
      · unfold slot plus
        simp only [look_append, hy]
      · cases hy
    · rename_i hy
      refine fin ?_ (fun i hi => p2 i (hu k x hk' i hi))
      rw [look_keep] at hy
      unfold slot plus
      simp only [look_append]
      by_cases hkm : 1000000 ≤ k
      · rw [hl k hkm]; simp only [hk']
      · rw [hm k (by omega)] at hk'; cases hk'
  · cases h
theorem goX_succ (L : FuncId → Option (FL V.E)) (lv : Nat → Option (List Nat)) (n : Nat) (k : List Item) (s : St V.E) : goX V L lv (n + 1) k s = (match stepX V L lv s k with
    | .fail => none
    | .done s => some s
    | .next k s => goX V L lv n k s) := rfl
theorem goX_ok (G : Good V P) (h0 : V.t0 = false) {L : FuncId → Option (FL V.E)} (HL : ∀ f S, L f = some S → MeetsL V.T P f S) {lv : Nat → Option (List Nat)} {m : Sl V} (hm : High m) (hu : Under V.base m) {F : Act → World → Prop} {s1 : St V.E}
    (hF : Low s1 → ∀ a w, Sim V C (plus m s1) a w → F a w) : ∀ (fuel : Nat) (k : List Item) (s : St V.E), goX V L lv fuel k s = some s1 → Low s → Goes V P C F k (plus m s)
  | 0, k, s, h, _ => by cases h
  | fuel + 1, k, s, h, hl => by
    rw [goX_succ] at h
    have loop : ∀ (c : Code) (k' : List Item), atLoop V lv c s = none ∨ (∃ s2, atLoop V lv c s = some s2 ∧ Low s2 ∧ ∀ {a : Act} {w : World}, Sim V C (plus m s) a w → Sim V C (plus m s2) a w) := by
      intro c k'
      unfold atLoop
      split
      · rename_i ks _
        cases hg : letGoSt V ks s with
        | none => exact .inl rfl
        | some s2 =>
          obtain ⟨q1, q2⟩ := letGoSt_ok (C := C) hm hu hg hl
          exact .inr ⟨s2, rfl, q1, q2⟩
      · exact .inr ⟨s, rfl, hl, id⟩
    have one : ∀ (k' : List Item), (∀ (a : Act) (w : World) (b : Frame) (cs : List Frame), step P (lone (b.at a k) cs w) = .next (lone (b.at a k') cs w)) → goX V L lv fuel k' s = some s1 → Goes V P C F k (plus m s) :=
      fun k' hs h => .of_steps (fun a w S b cs => ⟨a, w, S, .one (hs a w b cs)⟩) (goX_ok G h0 HL hm hu hF fuel k' s h hl)
    have again : ∀ (c : Code) (k' : List Item), (∀ (a : Act) (w : World) (b : Frame) (cs : List Frame), step P (lone (b.at a k) cs w) = .next (lone (b.at a (.code c :: .inLoop c :: k')) cs w)) →
        (match toNx (.code c :: .inLoop c :: k') (atLoop V lv c s) with | .fail => none | .done s => some s | .next k s => goX V L lv fuel k s) = some s1 → Goes V P C F k (plus m s) := by
      intro c k' hs h
      rcases loop c k' with hn | ⟨s2, hn, hl2, hsim⟩
      · rw [hn] at h; cases h
      · rw [hn] at h
        exact .of_steps (fun a w S b cs => ⟨a, w, hsim S, .one (hs a w b cs)⟩) (goX_ok G h0 HL hm hu hF fuel _ s2 h hl2)
    match k, h, one, again with
    | [], h, _, _ =>
      have h : some s = some s1 := h
      cases h
      exact fun a w S b cs => ⟨a, w, [], hF hl a w S, .one step_end⟩
    | .inBlock _ :: k0, h, one, _ => exact one k0 (fun _ _ _ _ => step_inBlock) h
    | .inLoop c :: k0, h, _, again => exact again c k0 (fun _ _ _ _ => step_inLoop) h
    | .code .skip :: k0, h, one, _ => exact one k0 (fun _ _ _ _ => step_skip) h
    | .code (.label _) :: k0, h, one, _ => exact one k0 (fun _ _ _ _ => step_label) h
    | .code (.seq x y) :: k0, h, one, _ => exact one _ (fun _ _ _ _ => step_seq) h
    | .code (.block id c) :: k0, h, one, _ => exact one _ (fun _ _ _ _ => step_block) h
    | .code (.loop c) :: k0, h, _, again => exact again c k0 (fun _ _ _ _ => step_loop) h
    | .code .ret :: k0, h, _, _ =>
      have h : some s = some s1 := h
      cases h
      exact fun a w S b cs => ⟨a, w, .code .ret :: k0, hF hl a w S, .one step_ret⟩
    | .code (.exit id) :: k0, h, one, _ =>
      cases hk : exitTo id k0 with
      | none => simp only [stepX, stepC, hk] at h; cases h
      | some k' => simp only [stepX, stepC, hk] at h; exact one k' (fun _ _ _ _ => step_exit hk) h
    | .code (.cond c x y) :: k0, h, _, _ =>
      have h : (match stepI V x y k0 s (opndQ V s.slots 0 c) with | .fail => none | .done s => some s | .next k s => goX V L lv fuel k s) = some s1 := h
      have hcond : ∀ t, opndQ V s.slots 0 c = some (.cv (.one (.bool t))) → ∀ a w, Sim V C (plus m s) a w → a.eval c = .bool t := by
        rintro t ht a w ⟨β, S⟩
        rw [opndQ_eq V s.n s.slots s.boxes, ← opnd_plus hm] at ht
        have hr := opnd_ok S 0 c _ ht
        simpa only [SR, SVRep, CVRep, LeafRep] using hr
      generalize opndQ V s.slots 0 c = oc at h hcond
      match oc, h, hcond with
      | some (.cv (.one (.bool true))), h, hcond =>
        exact .of_steps (fun a w S b cs => ⟨a, w, S, .one (step_cond (hcond true rfl a w S))⟩) (goX_ok G h0 HL hm hu hF fuel (.code x :: k0) s h hl)
      | some (.cv (.one (.bool false))), h, hcond =>
        exact .of_steps (fun a w S b cs => ⟨a, w, S, .one (step_cond (hcond false rfl a w S))⟩) (goX_ok G h0 HL hm hu hF fuel (.code y :: k0) s h hl)
    | .code (.region id ops true) :: k0, h, _, _ =>
      have h : (match stepD V k0 ops (evOpsA V ops.toList 0 ops.toList s) with | .fail => none | .done s => some s | .next k s => goX V L lv fuel k s) = some s1 := h
      cases hev : evOpsA V ops.toList 0 ops.toList s with
      | none => rw [hev] at h; cases h
      | some r =>
        obtain ⟨s2, acs⟩ := r
        rw [hev] at h
        cases hany : anyB ops acs with
        | false => simp only [stepD, hany] at h; cases h
        | true =>
          simp only [stepD, hany] at h
          have hl2 : Low s2 := (runs_A (allA := acs) h0 hm (ops := ops) ops.toList 0 s s2 acs rfl rfl hev hl).1
          refine .of_steps (fun a w S b cs => ?_) (goX_ok G h0 HL hm hu hF fuel k0 s2 h hl2)
          have hwp := region_A G h0 hm (id := id) (Q := fun e a' w' => e = .normal ∧ Sim V C (plus m s2) a' w') S hev hany hl (fun a' w' S' => ⟨rfl, S'⟩)
          obtain ⟨e, a', w', ⟨rfl, S'⟩, harr⟩ := hwp b k0 cs
          exact ⟨a', w', S', harr⟩
    | .code (.region id ops false) :: k0, h, _, _ =>
      have h : (match toNx k0 (evOpsL V L ops.toList ops.toList 0 s) with | .fail => none | .done s => some s | .next k s => goX V L lv fuel k s) = some s1 := h
      cases hev : evOpsL V L ops.toList ops.toList 0 s with
      | none => rw [hev] at h; cases h
      | some s2 =>
        rw [hev] at h
        have h : goX V L lv fuel k0 s2 = some s1 := h
        intro a w S b cs
        have hwp : (Code.region id ops false).wp P (fun e a' w' => e = .normal ∧ Low s2 ∧ Sim V C (plus m s2) a' w') a w :=
          wp_region (by simpa using opsL_ok G h0 HL hm (ops := ops) ops.toList 0 rfl s s2 a w S hev hl fun hl2 a' w' S' => ⟨rfl, hl2, S'⟩)
        obtain ⟨e, a', w', ⟨rfl, hl2, S'⟩, harr⟩ := hwp b k0 cs
        obtain ⟨a2, w2, todo, hf, hst⟩ := goX_ok G h0 HL hm hu hF fuel k0 s2 h hl2 a' w' S' b cs
        exact ⟨a2, w2, todo, hf, harr.trans hst⟩
theorem resAll_ok (G : EnvOk V P) {m : Sl V} (hm : High m) {s : St V.E} {β : Nat → BI} {a : Act} {w : World} (S : SimB V C (plus m s) β a w) : ∀ (rs : List ResultVar) (cs : List (CV V.E)), resAll V s rs = some cs →
    ∃ vs, (rs.mapM (resRun a)).run P w = .ok vs w ∧ All2 (CVRep V.T s.boxes β (okOf C β w) w) cs vs
  | [], cs, h => by
    simp only [resAll, Option.some.injEq] at h
    subst h
    exact ⟨[], by simp, .nil⟩
  | r :: rs, cs, h => by
    simp only [resAll] at h
    split at h
    · rename_i c hc
      split at h
      · rename_i cs' hcs
        cases h
        have hc' : resOf V (plus m s) r = some c := by
          rw [← hc]
          cases r with
          | tmp k => simp only [resOf, slotT_plus hm]
          | cell k t => simp only [resOf, slotT_plus hm]; rfl
        obtain ⟨v, h1, h2⟩ := resOf_ok G S hc'
        obtain ⟨vs, h3, h4⟩ := resAll_ok G hm S rs cs' hcs
        refine ⟨v :: vs, ?_, .cons h2 h4⟩
        rw [List.mapM_cons]
        simp only [Sem.run_bind, Sem.run_pure, h1, h3, Result.andThen_ok]
      · cases h
    · cases h
theorem topA_le {α : Type} : ∀ (bx : List (Nat × α)) (t : Nat), t ≤ topA t bx ∧ ∀ k x, look k bx = some x → k ≤ topA t bx
  | [], t => ⟨Nat.le_refl _, fun k x h => by simp [look] at h⟩
  | (j, y) :: r, t => by
    unfold topA
    split
    · rename_i hj
      have hj := Nat.blt_eq.mp hj
      obtain ⟨h1, h2⟩ := topA_le r j
      refine ⟨by omega, fun k x h => ?_⟩
      unfold look at h
      split at h
      · rename_i e; have := eq_of_beq' e; subst this; exact h1
      · exact h2 k x h
    · rename_i hj
      obtain ⟨h1, h2⟩ := topA_le r t
      refine ⟨h1, fun k x h => ?_⟩
      unfold look at h
      split at h
      · rename_i e
        have := eq_of_beq' e; subst this
        have : ¬ t < j := fun h => by rw [Nat.blt_eq.mpr h] at hj; cases hj
        omega
      · exact h2 k x h
theorem baseOf_lt {α : Type} (lo : Nat) (bx : List (Nat × α)) {k : Nat} {x : α} (h : look k bx = some x) : k < baseOf lo bx := by
  have := (topA_le bx lo).2 k x h
  unfold baseOf
  omega
def fr (j : Nat) : Nat := (j + 1) * 1000000
theorem fr_inj {i j : Nat} (h : fr i = fr j) : i = j := by unfold fr at h; omega
theorem fr_high (j : Nat) : 1000000 ≤ fr j := by unfold fr; omega
theorem getV_fr (C : Ctx) (tmps : Array Value) (j : Nat) : getV C tmps (fr j) = (C.outs.getD j #[]).getD 0 undef := by
  have h1 : Nat.blt (fr j) 1000000 = false := by
    cases hc : Nat.blt (fr j) 1000000 with
    | false => rfl
    | true => have := Nat.blt_eq.mp hc; have := fr_high j; omega
  have h2 : fr j / 1000000 - 1 = j := by unfold fr; omega
  have h3 : fr j % 1000000 = 0 := by unfold fr; omega
  unfold getV
  rw [h1, h2, h3]
def kpM (V : Env) : Nat → List (SV V.E) → Sl V
  | _, [] => []
  | j, x :: xs => (fr j, some x) :: kpM V (j + 1) xs
theorem look_cons {α : Type} (i k : Nat) (x : α) (r : List (Nat × α)) : look k ((i, x) :: r) = if Nat.beq i k = true then some x else look k r := rfl
theorem look_kpM : ∀ (xs : List (SV V.E)) (j k : Nat), look k (kpM V j xs) = none ∨ ∃ i x, xs[i]? = some x ∧ k = fr (j + i) ∧ look k (kpM V j xs) = some (some x)
  | [], j, k => .inl rfl
  | x :: xs, j, k => by
    unfold kpM
    rw [look_cons]
    by_cases h : Nat.beq (fr j) k = true
    · rw [if_pos h]
      exact .inr ⟨0, x, rfl, (eq_of_beq' h).symm, rfl⟩
    · rw [if_neg h]
      rcases look_kpM xs (j + 1) k with h | ⟨i, y, h1, h2, h3⟩
      · exact .inl h
      · exact .inr ⟨i + 1, y, by simpa using h1, by rw [h2]; congr 1; omega, h3⟩
theorem kpM_at : ∀ (xs : List (SV V.E)) (j i : Nat) (x : SV V.E), xs[i]? = some x → look (fr (j + i)) (kpM V j xs) = some (some x)
  | [], j, i, x, h => by simp at h
  | y :: xs, j, 0, x, h => by
    unfold kpM
    rw [look_cons, Nat.add_zero, if_pos (Nat.beq_refl _)]
    simpa using h
  | y :: xs, j, i + 1, x, h => by
    unfold kpM
    rw [look_cons, if_neg (by rw [beq_of_ne (fun e => by have := fr_inj e; omega)]; simp)]
    have := kpM_at xs (j + 1) i x (by simpa using h)
    rw [show j + 1 + i = j + (i + 1) by omega] at this
    exact this
theorem argSlots_look : ∀ (args : List (CV V.E)) (i k : Nat), look k (argSlots i args) = if i ≤ k then (args[k - i]?).map (fun c => some (SV.cv c)) else none
  | [], i, k => by simp [argSlots, look]
  | c :: cs, i, k => by
    unfold argSlots
    rw [look_cons]
    split
    · rename_i h
      have := eq_of_beq' h; subst this
      simp
    · rename_i h
      have hne : i ≠ k := fun e => by subst e; simp at h
      rw [argSlots_look cs (i + 1) k]
      by_cases hik : i ≤ k
      · rw [if_pos hik, if_pos (by omega), show k - i = (k - (i + 1)) + 1 by omega]; simp
      · rw [if_neg hik, if_neg (by omega)]
end
section
variable {P : Program} {T : Tab} {ti : TypeId → Option (TI T.E)} {eqs : TypeId → Bool}
theorem eqL_any {L : FuncId → Option (FL T.E)} {base : Nat} : ∀ (l m : List (Leaf T.E)), eqL (envX T ti eqs L base) l m = eqL (envOf T ti eqs []) l m := by
  intro l
  induction l with
  | nil => intro m; cases m <;> simp [eqL]
  | cons a l ih =>
    intro m
    cases m with
    | nil => cases a <;> simp [eqL]
    | cons b m => cases a <;> cases b <;> simp [eqL, ih]
theorem good_X (B : Base T ti eqs P) {L : FuncId → Option (FL T.E)} (HL : ∀ f S, L f = some S → MeetsL T P f S) (base : Nat) : Good (envX T ti eqs L base) P :=
  ⟨B.tab, fun t i hi => by obtain ⟨info, d, z, I⟩ := B.types t i hi; exact ⟨info, d, z, I.inf, I.under, I.kind, I.size, I.bytes, I.ty, I.pos, I.bpos, I.zero, I.zeros, I.zcells, I.zagg⟩,
   fun t ht i hi bx β ok w' l m b c d hl h => B.eqs t ht i hi bx β ok w' l m b c d hl (by rw [← h]; exact (eqL_any l m).symm),
   ⟨(fun _ _ hS => by cases hS), (fun _ _ hS => by cases hS), (fun _ _ hS => by cases hS), fun f S hS => HL f S hS⟩, B.mixed⟩
theorem runX_calls {V : Env} {P : Program} (G : Good V P) (h0 : V.t0 = false) {L : FuncId → Option (FL V.E)} (HL : ∀ f S, L f = some S → MeetsL V.T P f S) {lv : Nat → Option (List Nat)} {f : FuncId} {fn : Func} (hf : P.funcs[f]? = some fn)
    {args res : List (CV V.E)} {bx bx' : Bx V} (hbase : ∀ k x, look k bx = some x → k < V.base) (h : runX V L lv fn args bx = some (res, bx')) {C : Ctx} {β : Nat → BI} {w : World} {vs : List Value} {kx : List (SV V.E)} {kv : List Value}
    (M : MemOk V.T C bx β w) (hargs : All2 (CVRep V.T bx β (okOf C β w) w) args vs) (hkp : All2 (SVRep V.T bx β (okOf C β w) w) kx kv) :
    Calls P f vs.toArray w fun e w' => ∃ β' rs, e = .returned (oneOr rs) ∧ MemOk V.T C bx' β' w' ∧ All2 (CVRep V.T bx' β' (okOf C β' w') w') res rs ∧ All2 (SVRep V.T bx' β' (okOf C β' w') w') kx kv := by
  unfold runX at h
  split at h
  · rename_i c hlen hbody
    simp only [Bool.and_eq_true, Nat.ble_eq] at hlen
    split at h
    · rename_i s1 hgo
      split at h
      · rename_i res' hres
        split at h
        · rename_i bx2 hlet
          cases h
          let C' : Ctx := ⟨C.P, C.okp, C.B, C.chg, C.W, undef, kv.map fun v => #[v]⟩
          have M' : MemOk V.T C' bx β w := ⟨M.boxes, M.nones, M.nodup, M.apart, M.mine, ⟨M.kept.os, M.kept.tape, M.kept.output, M.kept.size, M.kept.heap⟩⟩
          let m : Sl V := kpM V 0 kx
          have hm : High m := by
            intro k hk
            rcases look_kpM (V := V) kx 0 k with h | ⟨i, x, _, h2, _⟩
            · exact h
            · have := fr_high (0 + i); omega
          have hkget : ∀ i x, kx[i]? = some x → ∃ v, kv[i]? = some v ∧ SVRep V.T bx β (okOf C β w) w x v := fun i x hx => hkp.get i x hx
          have hu : Under V.base m := by
            intro k x hk i hi
            rcases look_kpM (V := V) kx 0 k with h | ⟨j, y, h1, _, h3⟩
            · rw [show look k m = none from h] at hk; cases hk
            · have h3' : look k m = some (some y) := h3
              rw [h3'] at hk
              cases hk
              obtain ⟨v, _, hr⟩ := hkget j _ h1
              obtain ⟨b, hb⟩ := SVRep.here hr i hi
              exact hbase _ _ hb
          have hlenv : args.length = vs.length := hargs.length
          have Sm : Sim V C' (plus m ⟨fn.ntmps, argSlots 0 args, bx⟩) { tmps := vs.toArray ++ Array.replicate (fn.ntmps - vs.toArray.size) undef, defers := [] } w := by
            refine ⟨β, ?_, ⟨rfl, fun h => by rw [h0] at h; cases h⟩, fun k y hk => ?_, M'⟩
            · simp [plus]; omega
            · have hk' : look k ((argSlots 0 args : Sl V) ++ m) = some (some y) := by
                unfold slot at hk
                split at hk
                · rename_i z hz; subst hk; exact hz
                · cases hk
              rw [look_append, argSlots_look (V := V)] at hk'
              simp only [Nat.zero_le, if_true, Nat.sub_zero] at hk'
              cases hak : args[k]? with
              | some c0 =>
                rw [hak] at hk'
                simp only [Option.map_some, Option.some.injEq] at hk'
                subst hk'
                obtain ⟨v, hv, hr⟩ := hargs.get k c0 hak
                have hlt : k < args.length := (List.getElem?_eq_some_iff.1 hak).1
                have hget : getV C' (vs.toArray ++ Array.replicate (fn.ntmps - vs.toArray.size) undef) k = v := by
                  rw [getV_lt (by omega), Array.getD_eq_getD_getElem?, Array.getElem?_append_left (by simpa [← hlenv] using hlt)]
                  simp [hv]
                show CVRep V.T bx β (okOf C β w) w c0 _
                rw [hget]; exact hr
              | none =>
                rw [hak] at hk'
                simp only [Option.map_none] at hk'
                rcases look_kpM (V := V) kx 0 k with h | ⟨j, x, h1, h2, h3⟩
                · rw [show look k m = none from h] at hk'; cases hk'
                · have h3' : look k m = some (some x) := h3
                  rw [h3'] at hk'
                  cases hk'
                  obtain ⟨v, hv, hr⟩ := hkget j _ h1
                  have hget : getV C' (vs.toArray ++ Array.replicate (fn.ntmps - vs.toArray.size) undef) k = v := by
                    rw [h2, getV_fr, Nat.zero_add]
                    show ((kv.map fun v => #[v]).getD j #[]).getD 0 undef = v
                    rw [List.getD_eq_getElem?_getD, List.getElem?_map, hv]
                    rfl
                  show SVRep V.T bx β (okOf C β w) w _ _
                  rw [hget]; exact hr
          have hl0 : Low (⟨fn.ntmps, argSlots 0 args, bx⟩ : St V.E) := by
            intro k hk
            show look k (argSlots 0 args : Sl V) = none
            rw [argSlots_look (V := V)]
            simp only [Nat.zero_le, if_true, Nat.sub_zero]
            rw [List.getElem?_eq_none (by omega)]; rfl
          refine Calls.of_goes hf hbody fun b cs => ?_
          refine goX_ok (V := V) (C := C') G h0 HL hm hu (s1 := s1) (fun hl1 a w' S' => ?_) _ _ _ hgo hl0 _ _ Sm b cs
          obtain ⟨β', S'⟩ := S'
          obtain ⟨rs, h1, h2⟩ := resAll_ok G.types hm S' _ _ hres
          obtain ⟨p, p1, p2, p3, p4⟩ := letGo_ok hlet
          obtain ⟨β2, M2, L, hag⟩ := mem_keep (V := V) S'.mem p1 p4
          refine ⟨S'.defers.1, oneOr rs, ?_, β2, rs, rfl, ⟨M2.boxes, M2.nones, M2.nodup, M2.apart, M2.mine, ⟨M2.kept.os, M2.kept.tape, M2.kept.output, M2.kept.size, M2.kept.heap⟩⟩, ?_, ?_⟩
          · have hm := h1
            unfold results
            rw [Array.mapM_eq_mapM_toList]
            simp only [Sem.run_bind, Sem.run_map]
            refine (congrArg (fun r => Result.andThen (Result.andThen r _) _) hm).trans ?_
            simp only [Result.andThen_ok, Sem.run_pure]
            congr 1
            match rs with
            | [] => rfl
            | [v] => rfl
            | v :: v' :: r => rfl
          · refine h2.imp_mem fun c v hc k => ?_
            have hin : ∀ id ∈ leavesIds c.leaves, p id = true := fun id hid => p3 id (List.mem_flatMap.2 ⟨c, hc, hid⟩)
            exact CVRep.agree (V := V) L (fun id hid => ⟨.inl (hag id (hin id hid)).1, (hag id (hin id hid)).2⟩) k
          · refine All2.of_get (by rw [hkp.length]) fun i x v hx hv => ?_
            obtain ⟨v', hv', hr⟩ := hkget i x hx
            rw [hv] at hv'; cases hv'
            have hat := kpM_at (V := V) kx 0 i x hx
            have hsl : slot V (plus m s1) (fr (0 + i)) = some x := by
              unfold slot plus
              simp only [look_append]
              rw [hl1 _ (fr_high _)]
              simp only
              rw [show look (fr (0 + i)) m = some (some x) from hat]
            have hin : ∀ id ∈ x.ids, p id = true := fun id hid => p2 id (hu _ x hat id hid)
            have hrep := S'.slots _ _ hsl
            have hget : getV C' a.tmps (fr (0 + i)) = v := by
              rw [getV_fr, Nat.zero_add]
              show ((kv.map fun v => #[v]).getD i #[]).getD 0 undef = v
              rw [List.getD_eq_getElem?_getD, List.getElem?_map, hv]
              rfl
            rw [hget] at hrep
            exact SVRep.agree (V := V) L (fun id hid => ⟨.inl (hag id (hin id hid)).1, (hag id (hin id hid)).2⟩) hrep
        · cases h
      · cases h
    · cases h
  · cases h
theorem meetsL_run (B : Base T ti eqs P) {L : FuncId → Option (FL T.E)} (HL : ∀ f S, L f = some S → MeetsL T P f S) {lv : Nat → Option (List Nat)} {f : FuncId} {fn : Func} (hf : P.funcs[f]? = some fn) (hn : (fn.name == "runtime.NumGoroutine") = false) {S : FL T.E}
    (hS : ∀ lo args bx, S.g lo args bx = runX (envX T ti eqs L (baseOf lo bx)) L lv fn args bx) (hb : fn.body.isSome = true) : MeetsL T P f S := by
  refine ⟨⟨fn, hf, hb, hn⟩, ?_⟩
  intro lo args bx res bx' h C β w vs kx kv M hargs hkp
  rw [hS] at h
  exact runX_calls (V := envX T ti eqs L (baseOf lo bx)) (good_X B HL _) rfl HL hf (fun k x hk => baseOf_lt lo bx hk) h M hargs hkp
theorem lvl_ok (B : Base T ti eqs P) {lv : FuncId → Nat → Option (List Nat)} {nat : FuncId → Option (FL T.E)} (HN : ∀ f S, nat f = some S → MeetsL T P f S) : ∀ n f S, lvl P T ti eqs lv nat n f = some S → MeetsL T P f S
  | 0, f, S, h => by cases h
  | n + 1, f, S, h => by
    have h : (match nat f with
      | some S => some S
      | none => match P.funcs.toList[f]? with
        | some fn => match fn.body.isNone || fn.name == "runtime.NumGoroutine" with
          | true => none
          | false => some ⟨fun lo args bx => runX (envX T ti eqs (lvl P T ti eqs lv nat n) (baseOf lo bx)) (lvl P T ti eqs lv nat n) (lv f) fn args bx⟩
        | none => none) = some S := h
    split at h
    · rename_i S' hS
      cases h
      exact HN f _ hS
    · split at h
      · rename_i fn hf
        split at h
        · cases h
        · rename_i hn
          cases h
          simp only [Bool.or_eq_false_iff] at hn
          exact meetsL_run B (lvl_ok B HN n) (by rw [← Array.getElem?_toList]; exact hf) hn.2 (fun _ _ _ => rfl) (by cases hb : fn.body <;> simp_all)
      · cases h
theorem closed_bool (B : Base T ti eqs P) {lv : FuncId → Nat → Option (List Nat)} {nat : FuncId → Option (FL T.E)} (HN : ∀ f S, nat f = some S → MeetsL T P f S) {n : Nat} {f : FuncId} {b : Bool}
    (h : (match lvl P T ti eqs lv nat n f with | some S => S.g 0 [] [] | none => none) = some ([.one (.bool b)], [])) : MeetsT T ti eqs P f ⟨[], [.bool], [], [], Bool, fun _ => some b, fun r => (r, ())⟩ := by
  split at h
  · rename_i S hS
    obtain ⟨hfn, hM⟩ := lvl_ok B HN n f S hS
    refine ⟨hfn, fun x y hxy okp w vs own hargs hnd hown hokp => ?_⟩
    obtain ⟨rfl, rfl⟩ := hargs
    have hy : (some (b, ()) : Option (HL T.E [.bool])) = some y := hxy
    cases hy
    let C1 : Ctx := ⟨P, okp, w.heap.size, fun _ => False, w, undef, []⟩
    have M0 : MemOk T C1 ([] : List (Nat × Box T.E)) β0 w := ⟨fun id b hb => by simp [look] at hb, fun _ _ => rfl, fun _ => List.nodup_nil, fun _ _ _ hx => by simp [β0] at hx, fun _ _ hx => by simp [β0] at hx, ⟨rfl, rfl, rfl, Nat.le_refl _, fun _ _ _ => rfl⟩⟩
    refine (hM _ _ _ _ _ h C1 β0 w [] [] [] M0 .nil .nil).mono ?_
    rintro e w' ⟨β', rs, rfl, M', hres, _⟩
    cases hres with
    | cons h1 h2 =>
      cases h2
      refine ⟨[_], [], rfl, ⟨M'.kept.os, M'.kept.tape, M'.kept.output, M'.kept.size, fun b hb _ => M'.kept.heap b hb fun k => k⟩, List.nodup_nil, (fun _ h => by simp at h), _, _, [], [], rfl, rfl, ?_, rfl, rfl⟩
      exact ⟨[_], .more (fun bx β => h1) .nil, rfl⟩
  · cases h
end
end Go.Ab
