/- A function of the program meets what is told of it: from its code's walk. Tables of structs, put together of their fields. Short forms of the walks' steps. Conditions: none beyond those that each theorem names. -/
import Derived.Test.YtgngflkahbpecaaGreatDoorU09
namespace Go.Ab
open Go
section
variable {V : Env} {P : Program} {C : Ctx}
def atEnd (k : List Item) : Bool :=
  match auto 200 k with
  | [] => true
  | .code .ret :: _ => true
  | _ => false
def Ends (V : Env) (C : Ctx) (F : Act → World → Prop) (rs : List ResultVar) (os : List (List (TypeId × TypeId))) (ts : List Ty) (y : HL V.E ts) : Prop :=
  ∀ (s : St V.E) ids, finAll V s os ts rs = some (y, ids) → distinct ids = true → ∀ a w, Sim V C s a w → F a w
def runEnd (V : Env) (rs : List ResultVar) (os : List (List (TypeId × TypeId))) (ts : List Ty) (c : List (Cmd V)) (k : List Item) (s : St V.E) : Option (HL V.E ts × List Cd) :=
  match run V c k s with
  | some (k', s', cs) => if atEnd k' then match finAll V s' os ts rs with
      | some (y, ids) => if distinct ids then some (y, cs) else none
      | none => none
    else none
  | none => none
theorem seg_end (G : Good V P) {F : Act → World → Prop} {rs : List ResultVar} {os : List (List (TypeId × TypeId))} {ts : List Ty} {y : HL V.E ts} (E : Ends V C F rs os ts y) {c : List (Cmd V)} {k : List Item} {s : St V.E} {cs : List Cd}
    (h : runEnd V rs os ts c k s = some (y, cs)) (hc : AllP cs) : Goes V P C F k s := by
  unfold runEnd at h
  split at h
  · rename_i k' s' cs' hr
    split at h
    · rename_i hend
      split at h
      · rename_i y' ids hfin
        split at h
        · rename_i hd
          cases h
          refine seg G hr hc fun a w S b cs => ?_
          have hs := auto_steps (P := P) b a cs w 200 k'
          unfold atEnd at hend
          split at hend
          · rename_i hk
            rw [hk] at hs
            exact ⟨a, w, [], E s' ids hfin hd a w S, hs.trans (.one step_end)⟩
          · rename_i k1 hk
            rw [hk] at hs
            exact ⟨a, w, .code .ret :: k1, E s' ids hfin hd a w S, hs.trans (.one step_ret)⟩
          · cases hend
        · cases h
      · cases h
    · cases h
  · cases h
theorem Calls.of_goes {f : FuncId} {fn : Func} {c : Code} {args : Array Value} {w : World} {R : Ending → World → Prop} (hf : P.funcs[f]? = some fn) (hb : fn.body = some c)
    (h : ∀ (b : Frame) (cs : List Frame), ∃ a' w' todo, (a'.defers = [] ∧ ∃ v, (results fn a'.tmps).run P w' = .ok v w' ∧ R (.returned v) w') ∧
      Steps P (lone (b.at { tmps := args ++ Array.replicate (fn.ntmps - args.size) undef, defers := [] } [.code c]) cs w) (lone { b.at a' todo with mode := .returning } cs w')) :
    Calls P f args w R := by
  intro cs
  let b : Frame := { (default : Frame) with fn := f, kind := .normal }
  have henter : Frame.enter P f args .normal = b.at { tmps := args ++ Array.replicate (fn.ntmps - args.size) undef, defers := [] } [.code c] := by
    simp [Frame.enter, Frame.at, hf, hb, b]
  obtain ⟨a', w', todo, ⟨hd, v, hr, hR⟩, hs⟩ := h b cs
  rw [← henter] at hs
  exact ⟨.returned v, w', _, hR, hs, rfl, rfl, hd, rfl, fn, hf, hr⟩
theorem argsRep_length {ok : Nat → Prop} {w : World} : ∀ (ts : List Ty) (os : List TypeId) (x : HL V.E ts) (vs : List Value) (own : List Nat), ArgsRep V.T ok w os ts x vs own → vs.length = ts.length
  | [], _, _, vs, own, h => by obtain ⟨rfl, _⟩ := h; rfl
  | t :: ts, os, (x, r), vs, own, h => by
    obtain ⟨v, vr, o1, o2, rfl, _, _, h⟩ := h
    simp [argsRep_length ts _ r vr o2 h]
theorem entryBoxes_none : ∀ (ts : List Ty) (os : List TypeId) (x : HL V.E ts) (i : Nat) (id : Nat), id < ownId i → look id (entryBoxes V i os ts x) = none
  | [], os, x, i, id, h => by cases os with
    | nil => rfl
    | cons o os => cases o <;> rfl
  | t :: ts, [], (x, r), i, id, h => by
    have e : entryBoxes V i [] (t :: ts) (x, r) = entryBoxes V (i + 1) [] ts r := by cases t <;> rfl
    rw [e]; exact entryBoxes_none ts [] r (i + 1) id (by unfold ownId at *; omega)
  | t :: ts, 0 :: os, (x, r), i, id, h => by
    have e : entryBoxes V i (0 :: os) (t :: ts) (x, r) = entryBoxes V (i + 1) os ts r := by cases t <;> rfl
    rw [e]; exact entryBoxes_none ts os r (i + 1) id (by unfold ownId at *; omega)
  | t :: ts, (o + 1) :: os, (x, r), i, id, h => by
    have IH := entryBoxes_none ts os r (i + 1) id (by unfold ownId at *; omega)
    cases t with
    | sl t => simp only [entryBoxes, look]; rw [beq_of_ne (by omega)]; exact IH
    | _ => exact IH
structure EntryOk (w : World) (okp : Nat → Prop) (i : Nat) (os : List TypeId) (ts : List Ty) (x : HL V.E ts) (vs : List Value) (ow : List Nat) (β : Nat → BI) : Prop where
  own : ∀ b, b ∈ ow ↔ ∃ id, b ∈ (β id).own
  low : ∀ id, id < ownId i → (β id).own = []
  nodup : ow.Nodup → ∀ id, (β id).own.Nodup
  apart : ow.Nodup → ∀ id id' b, b ∈ (β id).own → b ∈ (β id').own → id = id'
  nones : ∀ id, look id (entryBoxes V i os ts x) = none → (β id).own = []
  boxes : ∀ id b, look id (entryBoxes V i os ts x) = some b → ∃ e t xs, b = .arr e t xs 0 false ∧ (β id).own = (β id).hdr.ownBlock.toList ∧ ArrOwn V.T okp w e t xs (β id).hdr
  slots : ∀ k y, look k (entrySlots V i os ts x) = some (some y) → i ≤ k ∧ ∃ v, vs[k - i]? = some v ∧ ∃ c, y = .cv c ∧
    ((∃ id, c = .one (.ar id 0) ∧ v.oneCell' = true ∧ v = (β id).hdr ∧ ∃ b, look id (entryBoxes V i os ts x) = some b) ∨ (∀ bx β', CVRep V.T bx β' okp w c v))
theorem entry_ok (HT : V.T.Ok) {okp : Nat → Prop} {w : World} : ∀ (ts : List Ty) (os : List TypeId) (x : HL V.E ts) (vs : List Value) (own : List Nat) (i : Nat), ArgsRep V.T okp w os ts x vs own → ∃ β, EntryOk (V := V) w okp i os ts x vs own β
  | [], os, x, vs, own, i, h => by
    obtain ⟨rfl, rfl⟩ := h
    refine ⟨fun _ => ⟨0, undef, [], []⟩, ⟨by simp, by simp, by simp, by simp, by simp, ?_, ?_⟩⟩
    · intro id b hb
      have : entryBoxes V i os [] x = [] := by cases os with
        | nil => rfl
        | cons o os => cases o <;> rfl
      rw [this] at hb; simp [look] at hb
    · intro k y hk
      have : entrySlots V i os [] x = [] := by cases os with
        | nil => rfl
        | cons o os => cases o <;> rfl
      rw [this] at hk; simp [look] at hk
  | t :: ts, os, (x, r), vs, own, i, h => by
    obtain ⟨v, vr, o1, o2, rfl, rfl, harg, hrest⟩ := h
    obtain ⟨β, E⟩ := entry_ok HT ts os.tail r vr o2 (i + 1) hrest
    -- data
    have data : os.headD 0 = 0 → entrySlots V i os (t :: ts) (x, r) = (i, (ofLeaves (isNm t) (t.toL V.T x)).map SV.cv) :: entrySlots V (i + 1) os.tail ts r → entryBoxes V i os (t :: ts) (x, r) = entryBoxes V (i + 1) os.tail ts r →
        ∃ β, EntryOk (V := V) w okp i os (t :: ts) (x, r) (v :: vr) (o1 ++ o2) β := by
      intro h0 hs hb
      rw [h0] at harg
      cases harg with
      | data hd =>
        refine ⟨β, ⟨by simpa using E.own, fun id hid => E.low id (by unfold ownId at *; omega), by simpa using E.nodup, by simpa using E.apart, by rw [hb]; exact E.nones, by rw [hb]; exact E.boxes, fun k y hk => ?_⟩⟩
        rw [hs] at hk
        unfold look at hk
        split at hk
        · rename_i hik
          have := eq_of_beq' hik; subst this
          simp only [Option.some.injEq] at hk
          cases hl : ofLeaves (isNm t) (t.toL V.T x) with
          | none => rw [hl] at hk; cases hk
          | some c =>
            rw [hl] at hk
            simp only [Option.map_some, Option.some.injEq] at hk
            subst hk
            refine ⟨Nat.le_refl _, v, by simp, c, rfl, .inr fun bx β' => ?_⟩
            unfold DRep at hd
            unfold ofLeaves at hl
            split at hl
            · rename_i hn
              cases hl
              rw [if_pos hn] at hd
              obtain ⟨cs, rfl, hd⟩ := hd
              exact ⟨cs, rfl, (toL_av HT t x _).2 hd⟩
            · rename_i l hn hll
              cases hl
              rw [if_neg (by simp [hn])] at hd
              have := (toL_av HT (bx := bx) (β := β') t x _).2 hd
              rw [hll] at this
              cases this with
              | cons q1 q2 => exact q1
            · cases hl
        · obtain ⟨h1, v', h2, c, h3, h4⟩ := E.slots k y hk
          refine ⟨by omega, v', ?_, c, h3, by rw [hb]; exact h4⟩
          rw [show k - i = (k - (i + 1)) + 1 by omega]; simpa using h2
    match os, t, x, harg, data with
    | [], t, x, harg, data => exact data rfl (by cases t <;> rfl) (by cases t <;> rfl)
    | 0 :: os, t, x, harg, data => exact data rfl (by cases t <;> rfl) (by cases t <;> rfl)
    | (o + 1) :: os, t, x, harg, _ =>
      simp only [List.headD_cons] at harg
      cases harg with
      | own hA =>
        rename_i t xs
        have hlow := E.low (ownId i) (by unfold ownId; omega)
        have hb0 : look (ownId i) (entryBoxes V (i + 1) os ts r) = none := entryBoxes_none ts os r (i + 1) _ (by unfold ownId; omega)
        refine ⟨upd β (ownId i) ⟨0, v, v.ownBlock.toList, []⟩, ⟨fun b => ?_, fun id hid => ?_, fun hnd id => ?_, fun hnd id id' b h1 h2 => ?_, fun id hid => ?_, fun id b hid => ?_, fun k y hk => ?_⟩⟩
        · rw [List.mem_append, E.own]
          constructor
          · rintro (h | ⟨id, h⟩)
            · exact ⟨ownId i, by rw [upd_same]; exact h⟩
            · refine ⟨id, ?_⟩
              rw [upd_other _ _ (fun e => by rw [e, hlow] at h; simp at h)]; exact h
          · rintro ⟨id, h⟩
            by_cases e : id = ownId i
            · subst e; rw [upd_same] at h; exact .inl h
            · rw [upd_other _ _ e] at h; exact .inr ⟨id, h⟩
        · rw [upd_other _ _ (by omega)]; exact E.low id (by unfold ownId at *; omega)
        · have hnd := List.nodup_append.1 hnd
          by_cases e : id = ownId i
          · subst e; rw [upd_same]; exact hnd.1
          · rw [upd_other _ _ e]; exact E.nodup hnd.2.1 id
        · have hnd := List.nodup_append.1 hnd
          by_cases e : id = ownId i <;> by_cases e' : id' = ownId i
          · rw [e, e']
          · subst e; rw [upd_same] at h1; rw [upd_other _ _ e'] at h2
            exact (hnd.2.2 b h1 b ((E.own b).2 ⟨id', h2⟩) rfl).elim
          · subst e'; rw [upd_same] at h2; rw [upd_other _ _ e] at h1
            exact (hnd.2.2 b h2 b ((E.own b).2 ⟨id, h1⟩) rfl).elim
          · rw [upd_other _ _ e] at h1; rw [upd_other _ _ e'] at h2
            exact E.apart hnd.2.1 id id' b h1 h2
        · simp only [entryBoxes] at hid
          unfold look at hid
          split at hid
          · cases hid
          · rename_i hne
            have e : id ≠ ownId i := by rintro rfl; simp at hne
            rw [upd_other _ _ e]; exact E.nones id hid
        · simp only [entryBoxes] at hid
          unfold look at hid
          split at hid
          · rename_i he
            have := eq_of_beq' he; subst this
            cases hid
            refine ⟨_, _, _, rfl, ?_, ?_⟩
            · rw [upd_same]
            · rw [upd_same]; exact hA
          · rename_i hne
            have e : id ≠ ownId i := by rintro rfl; simp at hne
            rw [upd_other _ _ e]; exact E.boxes id b hid
        · simp only [entrySlots] at hk
          unfold look at hk
          split at hk
          · rename_i hik
            have := eq_of_beq' hik; subst this
            cases hk
            refine ⟨Nat.le_refl _, v, by simp, _, rfl, .inl ⟨ownId i, rfl, ?_, by rw [upd_same], ?_⟩⟩
            · obtain ⟨css, ⟨_, ho⟩, _⟩ := hA
              rcases ho with ⟨rfl, _⟩ | ⟨g, cap, cur, rfl, _⟩ <;> rfl
            · exact ⟨_, by simp only [entryBoxes, look]; simp; rfl⟩
          · obtain ⟨h1, v', h2, c, h3, h4⟩ := E.slots k y hk
            refine ⟨by omega, v', ?_, c, h3, ?_⟩
            · rw [show k - i = (k - (i + 1)) + 1 by omega]; simpa using h2
            · rcases h4 with ⟨id, q1, q2, q3, b, q4⟩ | h4
              · have e : id ≠ ownId i := by rintro rfl; have q4' : look (ownId i) (entryBoxes V (i + 1) os ts r) = some b := q4; rw [hb0] at q4'; cases q4'
                refine .inl ⟨id, q1, q2, by rw [upd_other _ _ e]; exact q3, b, ?_⟩
                simp only [entryBoxes, look]; rw [beq_of_ne (fun e' => e e'.symm)]; exact q4
              · exact .inr h4
theorem getV_lt {C : Ctx} {tmps : Array Value} {k : Nat} (h : k < 1000000) : getV C tmps k = tmps.getD k undef := by
  unfold getV; rw [Nat.blt_eq.mpr h]
theorem meets_of (G : Good V P) (ht0 : V.t0 = false) {f : FuncId} {fn : Func} {c : Code} {S : FS V.E} (hf : P.funcs[f]? = some fn) (hb : fn.body = some c) (hn : (fn.name == "runtime.NumGoroutine") = false)
    (hlen : (Nat.ble S.args.length fn.ntmps && Nat.ble S.args.length 1000000) = true)
    (h : ∀ x y, S.f x = some y → ∀ (C : Ctx) (F : Act → World → Prop), Ends V C F fn.results.toList S.resOwn S.res y → Goes V P C F [.code c] (entrySt V fn.ntmps S x)) : Meets V P f S := by
  refine ⟨⟨fn, hf, by rw [hb]; rfl, hn⟩, ?_⟩
  intro x y hxy okp w vs own hargs hnd hown hokp
  obtain ⟨β, E⟩ := entry_ok (V := V) (w := w) (okp := okp) G.tab S.args S.argOwn x vs own 0 hargs
  let C : Ctx := ⟨P, okp, w.heap.size, fun b => b ∈ own, w, undef, []⟩
  have hlen : S.args.length ≤ fn.ntmps ∧ S.args.length ≤ 1000000 := by simpa using hlen
  have hvs := argsRep_length _ _ _ _ _ hargs
  have hok : ∀ b, okp b → okOf C β w b := by
    intro b hb
    refine ⟨hokp b hb, .inl hb, fun id hid => ?_⟩
    have := (E.own b).2 ⟨id, hid⟩
    exact (hown b this).2 hb
  have L : Later okp w (okOf C β w) w := ⟨hok, fun _ _ => rfl⟩
  have M : MemOk V.T C (entryBoxes V 0 S.argOwn S.args x) β w := by
    refine ⟨fun id b hb => ?_, E.nones, E.nodup hnd, E.apart hnd, fun id b hb => ?_, ⟨rfl, rfl, rfl, Nat.le_refl _, fun _ _ _ => rfl⟩⟩
    · obtain ⟨e, t, xs, rfl, h1, h2⟩ := E.boxes id b hb
      exact ⟨h1, h2.later L fun _ _ => rfl⟩
    · have := (E.own b).2 ⟨id, hb⟩
      exact ⟨(hown b this).1, .inr this⟩
  have Sm : Sim V C (entrySt V fn.ntmps S x) { tmps := vs.toArray ++ Array.replicate (fn.ntmps - vs.toArray.size) undef, defers := [] } w := by
    refine ⟨β, ?_, ⟨rfl, fun h => by rw [ht0] at h; cases h⟩, fun k y hk => ?_, M⟩
    · simp [entrySt, hvs]; omega
    · have hk' : look k (entrySlots V 0 S.argOwn S.args x) = some (some y) := by
        unfold slot at hk
        split at hk
        · rename_i z hz; subst hk; exact hz
        · cases hk
      obtain ⟨_, v, hv, c, rfl, hc⟩ := E.slots k y hk'
      have hv' : vs[k]? = some v := by simpa using hv
      have hget : getV C (vs.toArray ++ Array.replicate (fn.ntmps - vs.toArray.size) undef) k = v := by
        have hlt : k < vs.length := (List.getElem?_eq_some_iff.1 hv').1
        rw [getV_lt (by omega), Array.getD_eq_getD_getElem?, Array.getElem?_append_left (by simpa using hlt)]
        simp [hv']
      show SVRep V.T _ β (okOf C β w) w (.cv c) _
      rw [hget]
      rcases hc with ⟨id, rfl, h1, h2, b, h3⟩ | hc
      · obtain ⟨e, t, xs, rfl, _, _⟩ := E.boxes id b h3
        show LeafRep V.T (entryBoxes V 0 S.argOwn S.args x) β (okOf C β w) w (.ar id 0) v
        simp only [LeafRep, h3]
        exact ⟨h1, Nat.le_refl _, fun _ => h2⟩
      · have := hc (entryBoxes V 0 S.argOwn S.args x) β
        show CVRep V.T (entryBoxes V 0 S.argOwn S.args x) β (okOf C β w) w c v
        cases c with
        | one l => exact LeafRep.agree L l v (fun id hid => ⟨.inl rfl, rfl⟩) this
        | ag ls =>
          obtain ⟨cs, rfl, this⟩ := this
          exact ⟨cs, rfl, this.imp fun l v k => LeafRep.agree L l v (fun id hid => ⟨.inl rfl, rfl⟩) k⟩
  refine Calls.of_goes hf hb fun b cs => ?_
  refine h x y hxy C _ ?_ _ _ Sm b cs
  intro s ids hfin hdis a w' S'
  obtain ⟨β', S'⟩ := S'
  have M' := S'.mem
  have hmem : ∀ b, b ∈ (ids.flatMap fun id => (β' id).own) ↔ ∃ id ∈ ids, b ∈ (β' id).own := fun b => List.mem_flatMap
  have L' : Later (okOf C β' w') w' (fun b => b < w'.heap.size ∧ (okp b ∨ w.heap.size ≤ b ∨ b ∈ own) ∧ b ∉ (ids.flatMap fun id => (β' id).own)) w' :=
    ⟨fun b hb => ⟨hb.1, hb.2.1, fun hm => by obtain ⟨id, _, hm⟩ := (hmem b).1 hm; exact hb.2.2 id hm⟩, fun _ _ => rfl⟩
  obtain ⟨rs, h1, h2⟩ := finAll_ok G.tab G.types S' L' _ _ _ _ _ hfin
  refine ⟨S'.defers.1, oneOr rs, ?_, rs, _, rfl, ?_, ?_, ?_, h2⟩
  · have hm := h1
    unfold results
    rw [Array.mapM_eq_mapM_toList]
    simp only [Sem.run_bind, Sem.run_map]
    refine (congrArg (fun r => Result.andThen (Result.andThen r _) _) hm).trans ?_
    simp only [Result.andThen_ok, Sem.run_pure]
    congr 1
    match rs with
    | [] => rfl
    | [v] => rfl
    | v :: v' :: r => rfl
  · exact ⟨M'.kept.os, M'.kept.tape, M'.kept.output, M'.kept.size, fun b hb hn => M'.kept.heap b hb hn⟩
  · exact flat_nodup_mk (distinct_of hdis) (fun id _ => M'.nodup id) (fun id _ id' _ b h1 h2 => M'.apart id id' b h1 h2)
  · intro b hb
    obtain ⟨id, _, hb⟩ := (hmem b).1 hb
    obtain ⟨h1, h2⟩ := M'.mine id b hb
    exact ⟨h1, h2⟩
theorem entryBoxes_nil : ∀ (ts : List Ty) (x : HL V.E ts) (i : Nat), entryBoxes V i [] ts x = []
  | [], _, _ => rfl
  | t :: ts, (x, r), i => by
    have e : entryBoxes V i [] (t :: ts) (x, r) = entryBoxes V (i + 1) [] ts r := by cases t <;> rfl
    rw [e]; exact entryBoxes_nil ts r (i + 1)
theorem resRep_nil {ok : Nat → Prop} {w : World} : ∀ (ts : List Ty) (y : HL V.E ts) (vs : List Value) (own : List Nat), ResRep V.T ok w [] ts y vs own → own = []
  | [], _, _, _, h => h.2
  | t :: ts, (y, r), _, _, ⟨v, vr, o1, o2, rfl, rfl, ⟨vs, h1, _⟩, h2⟩ => by
    have h2' := resRep_nil ts r vr o2 h2
    have key : ∀ {ls : List (Leaf V.E)} {vs : List Value} {ow : List Nat}, OwnLeaves V.T ok w [] ls vs ow → ow = [] := by
      intro ls
      induction ls with
      | nil => intro vs ow h; cases h; rfl
      | cons l ls IH => intro vs ow h; cases h with
        | more _ h => exact IH h
    rw [key h1, h2']; rfl
def entryStC (V : Env) (n : Nat) (S : FC V.E) (c : S.c.den V.E) (x : HL V.E S.args) : St V.E :=
  ⟨n, entrySlots V 0 [] S.args x ++ [(S.args.length, some (.cv (.one (S.via.leaf (.cp S.c c 0)))))], []⟩
theorem look_last {α : Type} {k n : Nat} {z y : α} : ∀ {l : List (Nat × α)}, look k (l ++ [(n, z)]) = some y → look k l = some y ∨ (k = n ∧ z = y)
  | [], h => by
    simp only [List.nil_append] at h
    unfold look at h
    split at h
    · rename_i e; have := eq_of_beq' e; cases h; exact .inr ⟨this.symm, rfl⟩
    · simp [look] at h
  | (j, v) :: l, h => by
    simp only [List.cons_append] at h
    unfold look at h ⊢
    split
    · rename_i e; rw [if_pos e] at h; exact .inl h
    · rename_i e; rw [if_neg e] at h; exact look_last h
theorem meetsc_of (G : Good V P) (ht0 : V.t0 = false) {f : FuncId} {fn : Func} {c : Code} {S : FC V.E} (hf : P.funcs[f]? = some fn) (hb : fn.body = some c) (hn : (fn.name == "runtime.NumGoroutine") = false)
    (hlen : (Nat.ble (S.args.length + 1) fn.ntmps && Nat.ble (S.args.length + 1) 1000000) = true)
    (h : ∀ z x y, S.f z x = some y → ∀ (C : Ctx) (F : Act → World → Prop), Ends V C F fn.results.toList [] S.res y → Goes V P C F [.code c] (entryStC V fn.ntmps S z x)) : MeetsC V P f S := by
  refine ⟨⟨fn, hf, by rw [hb]; rfl, hn⟩, ?_⟩
  intro z x y hxy okp w vs pv hargs hpv hokp
  obtain ⟨β, E⟩ := entry_ok (V := V) (w := w) (okp := okp) G.tab S.args [] x vs [] 0 hargs
  let C : Ctx := ⟨P, okp, w.heap.size, fun _ => False, w, undef, []⟩
  have hlen : S.args.length + 1 ≤ fn.ntmps ∧ S.args.length + 1 ≤ 1000000 := by simpa using hlen
  have hvs := argsRep_length _ _ _ _ _ hargs
  have hown : ∀ id, (β id).own = [] := fun id => by
    cases hx : (β id).own with
    | nil => rfl
    | cons z zs => have := (E.own z).2 ⟨id, by rw [hx]; simp⟩; simp at this
  have hok : ∀ b, okp b → okOf C β w b := fun b hb => ⟨hokp b hb, .inl hb, fun id hid => by rw [hown id] at hid; simp at hid⟩
  have L : Later okp w (okOf C β w) w := ⟨hok, fun _ _ => rfl⟩
  have M : MemOk V.T C [] β w := by
    refine ⟨fun id b hb => by simp [look] at hb, fun id _ => hown id, fun id => by rw [hown]; simp, fun id id' x hx => by rw [hown] at hx; simp at hx, fun id x hx => by rw [hown] at hx; simp at hx, ⟨rfl, rfl, rfl, Nat.le_refl _, fun _ _ _ => rfl⟩⟩
  have hget : ∀ (k : Nat) (u : Value), (vs ++ [S.via.val pv])[k]? = some u → getV C ((vs ++ [S.via.val pv]).toArray ++ Array.replicate (fn.ntmps - (vs ++ [S.via.val pv]).toArray.size) undef) k = u := by
    intro k u hv'
    have hlt : k < (vs ++ [S.via.val pv]).length := (List.getElem?_eq_some_iff.1 hv').1
    rw [getV_lt (by simp at hlt; omega), Array.getD_eq_getD_getElem?, Array.getElem?_append_left (by simpa using hlt)]
    simpa using congrArg (fun o => Option.getD o undef) hv'
  have hcp : LeafRep V.T [] β (okOf C β w) w (S.via.leaf (.cp S.c z 0)) (S.via.val pv) := via_leaf (by
    rcases hpv with hpv | ⟨b, o, cs, rfl, h1, h2⟩
    · exact .inl hpv
    · refine .inr ?_
      simp only [LeafRep]
      exact ⟨b, o, cs, rfl, AVRep.later L _ _ h1, h2.later L⟩)
  have Sm : Sim V C (entryStC V fn.ntmps S z x) { tmps := (vs ++ [S.via.val pv]).toArray ++ Array.replicate (fn.ntmps - (vs ++ [S.via.val pv]).toArray.size) undef, defers := [] } w := by
    refine ⟨β, ?_, ⟨rfl, fun h => by rw [ht0] at h; cases h⟩, fun k y hk => ?_, M⟩
    · simp [entryStC, hvs]; omega
    · have hk' : look k (entrySlots V 0 [] S.args x ++ [(S.args.length, some (.cv (.one (S.via.leaf (.cp S.c z 0)))))]) = some (some y) := by
        unfold slot at hk
        split at hk
        · rename_i z hz; subst hk; exact hz
        · cases hk
      rcases look_last hk' with hk' | ⟨rfl, e0⟩
      rotate_left
      · cases e0
        rw [hget S.args.length (S.via.val pv) (by rw [← hvs]; simp)]
        exact hcp
      · obtain ⟨h1, v', hv', c, rfl, hc⟩ := E.slots k y hk'
        have hv'' : vs[k]? = some v' := by simpa using hv'
        have hlt : k < vs.length := (List.getElem?_eq_some_iff.1 hv'').1
        rw [hget k v' (by rw [List.getElem?_append_left hlt]; exact hv'')]
        rcases hc with ⟨id, _, _, _, b0, h3⟩ | hc
        · rw [entryBoxes_nil] at h3; simp [look] at h3
        · have := hc [] β
          show CVRep V.T [] β (okOf C β w) w c v'
          cases c with
          | one l => exact LeafRep.agree L l v' (fun id hid => ⟨.inl rfl, rfl⟩) this
          | ag ls =>
            obtain ⟨cs, rfl, this⟩ := this
            exact ⟨cs, rfl, this.imp fun l v k => LeafRep.agree L l v (fun id hid => ⟨.inl rfl, rfl⟩) k⟩
  refine Calls.of_goes hf hb fun b cs => ?_
  refine h z x y hxy C _ ?_ _ _ Sm b cs
  intro s ids hfin hdis a w' S'
  obtain ⟨β', S'⟩ := S'
  have M' := S'.mem
  have hmem : ∀ b, b ∈ (ids.flatMap fun id => (β' id).own) ↔ ∃ id ∈ ids, b ∈ (β' id).own := fun b => List.mem_flatMap
  have L' : Later (okOf C β' w') w' (fun b => b < w'.heap.size ∧ (okp b ∨ w.heap.size ≤ b ∨ False) ∧ b ∉ (ids.flatMap fun id => (β' id).own)) w' :=
    ⟨fun b hb => ⟨hb.1, hb.2.1, fun hm => by obtain ⟨id, _, hm⟩ := (hmem b).1 hm; exact hb.2.2 id hm⟩, fun _ _ => rfl⟩
  obtain ⟨rs, h1, h2⟩ := finAll_ok G.tab G.types S' L' _ _ _ _ _ hfin
  rw [resRep_nil _ _ _ _ h2] at h2
  refine ⟨S'.defers.1, oneOr rs, ?_, rs, rfl, ?_, later_res ⟨fun b hb => ⟨hb.1, hb.2.1.imp id fun h => h.elim id fun h => h.elim⟩, fun _ _ => rfl⟩ _ _ _ _ h2⟩
  · have hm := h1
    unfold results
    rw [Array.mapM_eq_mapM_toList]
    simp only [Sem.run_bind, Sem.run_map]
    refine (congrArg (fun r => Result.andThen (Result.andThen r _) _) hm).trans ?_
    simp only [Result.andThen_ok, Sem.run_pure]
    congr 1
    match rs with
    | [] => rfl
    | [v] => rfl
    | v :: v' :: r => rfl
  · exact ⟨M'.kept.os, M'.kept.tape, M'.kept.output, M'.kept.size, fun b hb _ => M'.kept.heap b hb (fun h => h)⟩
end
end Go.Ab
namespace Go.Ab
open Go
section
variable {E : Nat → Type}
def Prs (E : Nat → Type) (α : Type) := List (Leaf E) → Option (α × List (Leaf E))
def Prs.Spec {α : Type} (p : Prs E α) (f : α → List (Leaf E)) : Prop := ∀ ls x r, p ls = some (x, r) → ∃ l, ls = l ++ r ∧ Coe l (f x)
theorem Coe.append : ∀ {a b c d : List (Leaf E)}, Coe a b → Coe c d → Coe (a ++ c) (b ++ d)
  | _, _, _, _, .nil, k => k
  | _, _, _, _, .cons h t, k => .cons h (t.append k)
def pInt (k : IntKind) : Prs E Int
  | .int k' n :: r => if k' = k then some (n, r) else none
  | _ => none
theorem pInt_spec (k : IntKind) : Prs.Spec (pInt (E := E) k) (fun n => [.int k n]) := by
  intro ls x r h
  unfold pInt at h
  split at h
  · split at h
    · rename_i hk; subst hk; cases h; exact ⟨[_], rfl, .cons (.inl rfl) .nil⟩
    · cases h
  · cases h
def pBool : Prs E Bool
  | .bool b :: r => some (b, r)
  | _ => none
theorem pBool_spec : Prs.Spec (pBool (E := E)) (fun b => [.bool b]) := by
  intro ls x r h
  unfold pBool at h
  split at h
  · cases h; exact ⟨[_], rfl, .cons (.inl rfl) .nil⟩
  · cases h
def pStr : Prs E (List UInt8)
  | .str b :: r => some (b, r)
  | _ => none
theorem pStr_spec : Prs.Spec (pStr (E := E)) (fun b => [.str b]) := by
  intro ls x r h
  unfold pStr at h
  split at h
  · cases h; exact ⟨[_], rfl, .cons (.inl rfl) .nil⟩
  · cases h
def pSl (t : Ty) (st : Bool) : Prs E (List (t.den E))
  | .sl t' st' xs :: r => if h : t' = t then (if st' || !st then some (castT h xs, r) else none) else none
  | _ => none
theorem pSl_spec (t : Ty) (st : Bool) : Prs.Spec (pSl (E := E) t st) (fun xs => [.sl t st xs]) := by
  intro ls x r h
  unfold pSl at h
  split at h
  · rename_i t' st' xs r'
    split at h
    · rename_i ht
      subst ht
      split at h
      · rename_i hst
        cases h
        refine ⟨[_], rfl, .cons (.inr ⟨_, st', st, xs, rfl, rfl, fun hs => .inl ?_⟩) .nil⟩
        subst hs
        simpa using hst
      · cases h
    · cases h
  · cases h
def pSeq {α β : Type} (p : Prs E α) (q : Prs E β) : Prs E (α × β) := fun ls =>
  match p ls with
  | some (x, r) => match q r with
    | some (y, r') => some ((x, y), r')
    | none => none
  | none => none
theorem pSeq_spec {α β : Type} {p : Prs E α} {q : Prs E β} {f : α → List (Leaf E)} {g : β → List (Leaf E)} (hp : p.Spec f) (hq : q.Spec g) : (pSeq p q).Spec (fun x => f x.1 ++ g x.2) := by
  intro ls x r h
  unfold pSeq at h
  split at h
  · rename_i y r1 h1
    split at h
    · rename_i z r2 h2
      cases h
      obtain ⟨l1, rfl, c1⟩ := hp _ _ _ h1
      obtain ⟨l2, rfl, c2⟩ := hq _ _ _ h2
      exact ⟨l1 ++ l2, by simp, c1.append c2⟩
    · cases h
  · cases h
def pMap {α β : Type} (p : Prs E α) (m : α → β) : Prs E β := fun ls =>
  match p ls with
  | some (x, r) => some (m x, r)
  | none => none
theorem pMap_spec {α β : Type} {p : Prs E α} {f : α → List (Leaf E)} (hp : p.Spec f) (m : α → β) (g : β → List (Leaf E)) (h : ∀ x, g (m x) = f x) : (pMap p m).Spec g := by
  intro ls x r hx
  unfold pMap at hx
  split at hx
  · rename_i y r1 h1
    cases hx
    obtain ⟨l, e, c⟩ := hp _ _ _ h1
    exact ⟨l, e, by rw [h]; exact c⟩
  · cases hx
def pAll {α : Type} (p : Prs E α) (ls : List (Leaf E)) : Option α :=
  match p ls with
  | some (x, []) => some x
  | _ => none
theorem pAll_coe {α : Type} {p : Prs E α} {f : α → List (Leaf E)} (hp : p.Spec f) {ls : List (Leaf E)} {x : α} (h : pAll p ls = some x) : Coe ls (f x) := by
  unfold pAll at h
  split at h
  · rename_i y h1
    cases h
    obtain ⟨l, e, c⟩ := hp _ _ _ h1
    rw [e]; simpa using c
  · cases h
end
def envC (T : Tab) (ti : TypeId → Option (TI T.E)) (eqs : TypeId → Bool) (fs : List (FuncId × FS T.E)) (ws : List (FuncId × FW T.E)) (cs : List (FuncId × FC T.E)) (t0 : Bool) : Env := ⟨T, ti, eqs, fun f => look f fs, fun f => look f ws, fun f => look f cs, fun _ => none, t0, 0⟩
def envW (T : Tab) (ti : TypeId → Option (TI T.E)) (eqs : TypeId → Bool) (fs : List (FuncId × FS T.E)) (ws : List (FuncId × FW T.E)) (t0 : Bool) : Env := envC T ti eqs fs ws [] t0
def envOf (T : Tab) (ti : TypeId → Option (TI T.E)) (eqs : TypeId → Bool) (fs : List (FuncId × FS T.E)) : Env := envW T ti eqs fs [] false
structure Base (T : Tab) (ti : TypeId → Option (TI T.E)) (eqs : TypeId → Bool) (P : Program) : Prop where
  tab : T.Ok
  types : EnvOk (envOf T ti eqs []) P
  eqs : EqsOk (envOf T ti eqs []) P
  mixed : P.follows .mixedOrders = true
def MeetsT (T : Tab) (ti : TypeId → Option (TI T.E)) (eqs : TypeId → Bool) (P : Program) (f : FuncId) (S : FS T.E) : Prop := Meets (envOf T ti eqs []) P f S
def AllMeet (T : Tab) (ti : TypeId → Option (TI T.E)) (eqs : TypeId → Bool) (P : Program) : List (FuncId × FS T.E) → Prop
  | [] => True
  | (f, S) :: r => MeetsT T ti eqs P f S ∧ AllMeet T ti eqs P r
theorem allMeet_mem {T : Tab} {ti : TypeId → Option (TI T.E)} {eqs : TypeId → Bool} {P : Program} : ∀ {l : List (FuncId × FS T.E)}, AllMeet T ti eqs P l → ∀ {f S}, look f l = some S → MeetsT T ti eqs P f S
  | [], _, _, _, h => by simp [look] at h
  | (g, S') :: r, hA, f, S, h => by
    unfold look at h
    split at h
    · rename_i e
      cases h
      have := eq_of_beq' e
      subst this
      exact hA.1
    · exact allMeet_mem hA.2 h
def MeetsWT (T : Tab) (ti : TypeId → Option (TI T.E)) (eqs : TypeId → Bool) (P : Program) (f : FuncId) (S : FW T.E) : Prop := MeetsW (envOf T ti eqs []) P f S
def AllMeetW (T : Tab) (ti : TypeId → Option (TI T.E)) (eqs : TypeId → Bool) (P : Program) : List (FuncId × FW T.E) → Prop
  | [] => True
  | (f, S) :: r => MeetsWT T ti eqs P f S ∧ AllMeetW T ti eqs P r
theorem allMeetW_mem {T : Tab} {ti : TypeId → Option (TI T.E)} {eqs : TypeId → Bool} {P : Program} : ∀ {l : List (FuncId × FW T.E)}, AllMeetW T ti eqs P l → ∀ {f S}, look f l = some S → MeetsWT T ti eqs P f S
  | [], _, _, _, h => by simp [look] at h
  | (g, S') :: r, hA, f, S, h => by
    unfold look at h
    split at h
    · rename_i e
      cases h
      have := eq_of_beq' e
      subst this
      exact hA.1
    · exact allMeetW_mem hA.2 h
def MeetsCT (T : Tab) (ti : TypeId → Option (TI T.E)) (eqs : TypeId → Bool) (P : Program) (f : FuncId) (S : FC T.E) : Prop := MeetsC (envOf T ti eqs []) P f S
def AllMeetC (T : Tab) (ti : TypeId → Option (TI T.E)) (eqs : TypeId → Bool) (P : Program) : List (FuncId × FC T.E) → Prop
  | [] => True
  | (f, S) :: r => MeetsCT T ti eqs P f S ∧ AllMeetC T ti eqs P r
theorem allMeetC_mem {T : Tab} {ti : TypeId → Option (TI T.E)} {eqs : TypeId → Bool} {P : Program} : ∀ {l : List (FuncId × FC T.E)}, AllMeetC T ti eqs P l → ∀ {f S}, look f l = some S → MeetsCT T ti eqs P f S
  | [], _, _, _, h => by simp [look] at h
  | (g, S') :: r, hA, f, S, h => by
    unfold look at h
    split at h
    · rename_i e
      cases h
      have := eq_of_beq' e
      subst this
      exact hA.1
    · exact allMeetC_mem hA.2 h
theorem eqL_fs {T : Tab} {ti : TypeId → Option (TI T.E)} {eqs : TypeId → Bool} {fs : List (FuncId × FS T.E)} {ws : List (FuncId × FW T.E)} {cs : List (FuncId × FC T.E)} {t0 : Bool} : ∀ (l m : List (Leaf T.E)), eqL (envC T ti eqs fs ws cs t0) l m = eqL (envOf T ti eqs []) l m := by
  intro l
  induction l with
  | nil => intro m; cases m <;> simp [eqL]
  | cons a l ih =>
    intro m
    cases m with
    | nil => cases a <;> simp [eqL]
    | cons b m => cases a <;> cases b <;> simp [eqL, ih]
theorem good_ofC {T : Tab} {ti : TypeId → Option (TI T.E)} {eqs : TypeId → Bool} {P : Program} {fs : List (FuncId × FS T.E)} {ws : List (FuncId × FW T.E)} {cs : List (FuncId × FC T.E)} {t0 : Bool} (B : Base T ti eqs P) (h : AllMeet T ti eqs P fs) (hw : AllMeetW T ti eqs P ws) (hc : AllMeetC T ti eqs P cs) :
    Good (envC T ti eqs fs ws cs t0) P :=
  ⟨B.tab, fun t i hi => by obtain ⟨info, d, z, I⟩ := B.types t i hi; exact ⟨info, d, z, I.inf, I.under, I.kind, I.size, I.bytes, I.ty, I.pos, I.bpos, I.zero, I.zeros, I.zcells, I.zagg⟩,
   fun t ht i hi bx β ok w' l m b c d hl h => B.eqs t ht i hi bx β ok w' l m b c d hl (by rw [← h]; exact (eqL_fs l m).symm), ⟨fun _ _ hS => allMeet_mem h hS, fun _ _ hS => allMeetW_mem hw hS, fun _ _ hS => allMeetC_mem hc hS, fun _ _ hS => by cases hS⟩, B.mixed⟩
theorem good_ofW {T : Tab} {ti : TypeId → Option (TI T.E)} {eqs : TypeId → Bool} {P : Program} {fs : List (FuncId × FS T.E)} {ws : List (FuncId × FW T.E)} {t0 : Bool} (B : Base T ti eqs P) (h : AllMeet T ti eqs P fs) (hw : AllMeetW T ti eqs P ws) :
    Good (envW T ti eqs fs ws t0) P := good_ofC B h hw (cs := []) trivial
end Go.Ab
namespace Go.Ab
open Go
section
variable {V : Env} {P : Program} {C : Ctx} {F : Act → World → Prop}
theorem tt : True := trivial
theorem rT : true = true := rfl
theorem rF : false = false := rfl
theorem sj {α : Type} {a b : α} (h : some a = some b) : a = b := Option.some.inj h
theorem si {α : Type} {a b : α} (h : some a = some b) : b = a := (Option.some.inj h).symm
theorem ns2 {α : Type} {a b : Prop} [Decidable a] [Decidable b] {r : Option α} {y : α} (h : need a (need b r) = some y) : a ∧ b ∧ r = some y := by
  obtain ⟨h1, h⟩ := need_some h
  exact ⟨h1, need_some h⟩
theorem ns3 {α : Type} {a b c : Prop} [Decidable a] [Decidable b] [Decidable c] {r : Option α} {y : α} (h : need a (need b (need c r)) = some y) : a ∧ b ∧ c ∧ r = some y := by
  obtain ⟨h1, h⟩ := need_some h
  exact ⟨h1, ns2 h⟩
theorem ns4 {α : Type} {a b c d : Prop} [Decidable a] [Decidable b] [Decidable c] [Decidable d] {r : Option α} {y : α} (h : need a (need b (need c (need d r))) = some y) : a ∧ b ∧ c ∧ d ∧ r = some y := by
  obtain ⟨h1, h⟩ := need_some h
  exact ⟨h1, ns3 h⟩
theorem ca {α : Type} {o : Option α} {y : α} (h : o = some y) : Option.map (fun r => (r, ())) o = some (y, ()) := by rw [h]; rfl
theorem cb {α β : Type} {o : Option (α × β)} {y : α × β} (h : o = some y) : Option.map (fun r => (r.1, r.2, ())) o = some (y.1, y.2, ()) := by rw [h]; rfl
abbrev FT := Act → World → Prop
def AN : Nat → Prop → Prop → Prop
  | 0, _, q => q
  | n + 1, p, q => p ∧ AN n p q
theorem ar : ∀ (n : Nat) {p q : Prop}, p → q → AN n p q
  | 0, _, _, _, k => k
  | n + 1, _, _, h, k => ⟨h, ar n h k⟩
theorem q1 {p0 k : Prop} (h0 : p0) (h : k) : p0 ∧ k := ⟨h0, h⟩
theorem q2 {p0 p1 k : Prop} (h0 : p0) (h1 : p1) (h : k) : p0 ∧ p1 ∧ k := ⟨h0, h1, h⟩
theorem q3 {p0 p1 p2 k : Prop} (h0 : p0) (h1 : p1) (h2 : p2) (h : k) : p0 ∧ p1 ∧ p2 ∧ k := ⟨h0, h1, h2, h⟩
theorem q4 {p0 p1 p2 p3 k : Prop} (h0 : p0) (h1 : p1) (h2 : p2) (h3 : p3) (h : k) : p0 ∧ p1 ∧ p2 ∧ p3 ∧ k := ⟨h0, h1, h2, h3, h⟩
theorem q5 {p0 p1 p2 p3 p4 k : Prop} (h0 : p0) (h1 : p1) (h2 : p2) (h3 : p3) (h4 : p4) (h : k) : p0 ∧ p1 ∧ p2 ∧ p3 ∧ p4 ∧ k := ⟨h0, h1, h2, h3, h4, h⟩
theorem q6 {p0 p1 p2 p3 p4 p5 k : Prop} (h0 : p0) (h1 : p1) (h2 : p2) (h3 : p3) (h4 : p4) (h5 : p5) (h : k) : p0 ∧ p1 ∧ p2 ∧ p3 ∧ p4 ∧ p5 ∧ k := ⟨h0, h1, h2, h3, h4, h5, h⟩
theorem e1 {p0 : Prop} (h0 : p0) : p0 ∧ True := ⟨h0, trivial⟩
theorem e2 {p0 p1 : Prop} (h0 : p0) (h1 : p1) : p0 ∧ p1 ∧ True := ⟨h0, h1, trivial⟩
theorem e3 {p0 p1 p2 : Prop} (h0 : p0) (h1 : p1) (h2 : p2) : p0 ∧ p1 ∧ p2 ∧ True := ⟨h0, h1, h2, trivial⟩
theorem e4 {p0 p1 p2 p3 : Prop} (h0 : p0) (h1 : p1) (h2 : p2) (h3 : p3) : p0 ∧ p1 ∧ p2 ∧ p3 ∧ True := ⟨h0, h1, h2, h3, trivial⟩
theorem e5 {p0 p1 p2 p3 p4 : Prop} (h0 : p0) (h1 : p1) (h2 : p2) (h3 : p3) (h4 : p4) : p0 ∧ p1 ∧ p2 ∧ p3 ∧ p4 ∧ True := ⟨h0, h1, h2, h3, h4, trivial⟩
theorem e6 {p0 p1 p2 p3 p4 p5 : Prop} (h0 : p0) (h1 : p1) (h2 : p2) (h3 : p3) (h4 : p4) (h5 : p5) : p0 ∧ p1 ∧ p2 ∧ p3 ∧ p4 ∧ p5 ∧ True := ⟨h0, h1, h2, h3, h4, h5, trivial⟩
@[reducible] def r0 {V : Env} : Cmd V := .reg []
@[reducible] def bt {V : Env} : Cmd V := .br true
@[reducible] def bf {V : Env} : Cmd V := .br false
@[reducible] def au {V : Env} : Cmd V := .auto
@[reducible] def en {V : Env} : Cmd V := .enter
def bits {E : Nat → Type} (b : Bool) (l : List Nat) : List (Nat × Orc E) := l.map fun i => (i, .bit b)
@[reducible] def rf {V : Env} (f : List Nat) : Cmd V := .reg (bits false f)
@[reducible] def ru {V : Env} (t : List Nat) : Cmd V := .reg (bits true t)
@[reducible] def rb {V : Env} (f t : List Nat) : Cmd V := .reg (bits false f ++ bits true t)
@[reducible] def rg {V : Env} (f t : List Nat) (o : Orcs V) : Cmd V := .reg (bits false f ++ bits true t ++ o)
@[reducible] def rc {V : Env} (i : Nat) (o : Orc V.E) : Cmd V := .reg [(i, o)]
@[reducible] def rs {E : Nat → Type} (t : Ty) (y : t.den E) : Orc E := .res ⟨[t], (y, ())⟩
@[reducible] def rt {E : Nat → Type} (t u : Ty) (y : t.den E × u.den E) : Orc E := .res ⟨[t, u], (y.1, y.2, ())⟩
@[reducible] def oi {E : Nat → Type} (k : Nat) (n : Int) : Nat × Option (SV E) := (k, some (.cv (.one (.int .i64 n))))
@[reducible] def og {E : Nat → Type} (k : Nat) (ls : List (Leaf E)) : Nat × Option (SV E) := (k, some (.cv (.ag ls)))
@[reducible] def ol {E : Nat → Type} (k : Nat) (l : Leaf E) : Nat × Option (SV E) := (k, some (.cv (.one l)))
@[reducible] def op {E : Nat → Type} (k : Nat) : Nat × Option (SV E) := (k, some (.cv (.one (.ptr k 0))))
@[reducible] def os {E : Nat → Type} (k : Nat) (t : Ty) (xs : List (t.den E)) : Nat × Option (SV E) := (k, some (.cv (.one (.sl t false xs))))
@[reducible] def bc {E : Nat → Type} (k : Nat) (ls : List (Leaf E)) : Nat × Box E := (k, .cells ls)
@[reducible] def ba {E : Nat → Type} (k e : Nat) (t : Ty) (xs : List (t.den E)) : Nat × Box E := (k, .arr e t xs 0 false)
@[reducible] def f1 {E : Nat → Type} (as : List Ty) (t : Ty) (g : HL E as → Option (t.den E)) : FS E := ⟨as, [t], [], [], t.den E, g, fun r => (r, ())⟩
@[reducible] def f2 {E : Nat → Type} (as : List Ty) (t u : Ty) (g : HL E as → Option (t.den E × u.den E)) : FS E := ⟨as, [t, u], [], [], t.den E × u.den E, g, fun r => (r.1, r.2, ())⟩
abbrev En (V : Env) (C : Ctx) (F : FT) (fn : Func) (S : FS V.E) (y : HL V.E S.res) : Prop := Ends V C F fn.results.toList S.resOwn S.res y
@[reducible] def c0 (fn : Func) : List Item := [.code (fn.body.getD .skip)]
def way : Nat → Way
  | 0 => .reg
  | 1 => .enter
  | 2 => .br false
  | 3 => .br true
  | _ => .auto
def ct (l : List Nat) (k : List Item) : List Item := ctl (l.map way) k
abbrev LP (V : Env) (P : Program) (C : Ctx) (F : FT) (k : List Item) {σ ρ : Type} (S : σ → St V.E) (X : ρ → Prop) (o : σ ⊕ ρ) : Prop := (∀ v, o = .inl v → Goes V P C F k (S v)) ∧ ∀ r, o = .inr r → X r
abbrev GX (V : Env) (P : Program) (C : Ctx) (F : FT) (k : List Item) {ρ : Type} (X : ρ → St V.E) (r : ρ) : Prop := Goes V P C F k (X r)
abbrev RX {ρ : Type} (y q : ρ) : Prop := q = y
theorem lg {σ ρ : Type} {f : σ → Option (σ ⊕ ρ)} {k : List Item} {S : σ → St V.E} {X : ρ → Prop} (h : ∀ v o, f v = some o → LP V P C F k S X o → Goes V P C F k (S v)) {v : σ} {r : ρ} (hv : iter f v = some r) (hX : X r) : Goes V P C F k (S v) :=
  loop_goes (fun v o h1 hl hr => h v o h1 ⟨hl, fun r' e => (hr r' e).symm ▸ hX⟩) v hv
def runQ (V : Env) (c : List (Cmd V)) (k : List Item) (s : St V.E) : Option (List Item × St V.E × Prop) :=
  match run V c k s with
  | some (k', s', cs) => some (k', s', AllP cs)
  | none => none
theorem sg (G : Good V P) (c : List (Cmd V)) {k k' : List Item} {s s' : St V.E} {Q : Prop} (q : Q) (g : Goes V P C F k' s')
    (h : runQ V (c ++ [.weak [.keep (s'.slots.map (·.1)) (s'.boxes.map (·.1))]]) k s = some (k', s', Q) := by kernel_rfl) : Goes V P C F k s := by
  unfold runQ at h
  split at h
  · rename_i k1 s1 cs hr
    cases h
    exact seg G hr q g
  · cases h
def endQ (V : Env) (rs : List ResultVar) (os : List (List (TypeId × TypeId))) (ts : List Ty) (c : List (Cmd V)) (k : List Item) (s : St V.E) : Option (HL V.E ts × Prop) :=
  match runEnd V rs os ts c k s with
  | some (y, cs) => some (y, AllP cs)
  | none => none
theorem se (G : Good V P) {rs : List ResultVar} {os : List (List (TypeId × TypeId))} {ts : List Ty} {y : HL V.E ts} (E : Ends V C F rs os ts y) (c : List (Cmd V)) {k : List Item} {s : St V.E} {Q : Prop} (q : Q)
    (h : endQ V rs os ts c k s = some (y, Q) := by kernel_rfl) : Goes V P C F k s := by
  unfold endQ at h
  split at h
  · rename_i y1 cs hr
    cases h
    exact seg_end G E hr q
  · cases h
theorem mt {fn : Func} {f : FuncId} {as rs : List Ty} {ao : List TypeId} {ro : List (List (TypeId × TypeId))} {α : Type} {g : HL V.E as → Option α} {pk : α → HL V.E rs} {S : HL V.E as → St V.E} (G : Good V P)
    (w : Good V P → ∀ x C F z, Ends V C F fn.results.toList ro rs (pk z) → g x = some z → Goes V P C F [.code (fn.body.getD .skip)] (S x))
    (h0 : V.t0 = false := by kernel_rfl) (h1 : P.funcs[f]? = some fn := by kernel_rfl) (h2 : fn.body = some (fn.body.getD .skip) := by kernel_rfl) (h3 : (fn.name == "runtime.NumGoroutine") = false := by kernel_rfl) (h4 : (Nat.ble as.length fn.ntmps && Nat.ble as.length 1000000) = true := by kernel_rfl)
    (hS : ∀ x, entrySt V fn.ntmps ⟨as, rs, ao, ro, α, g, pk⟩ x = S x := by intro x; kernel_rfl) : Meets V P f ⟨as, rs, ao, ro, α, g, pk⟩ :=
  meets_of G h0 h1 h2 h3 h4 fun x y h C F E => by
    have h : Option.map pk (g x) = some y := h
    obtain ⟨z, hz, e⟩ := Option.map_eq_some_iff.1 h
    subst e
    rw [hS]
    exact w G x C F z E hz
theorem m0 {fn : Func} {f : FuncId} {S : FS V.E} (hn : ∀ x, S.f x = none) (h1 : P.funcs[f]? = some fn := by kernel_rfl) (h2 : fn.body.isSome = true := by kernel_rfl) (h3 : (fn.name == "runtime.NumGoroutine") = false := by kernel_rfl) : Meets V P f S :=
  ⟨⟨fn, h1, h2, h3⟩, fun x y h => by rw [hn x] at h; cases h⟩
theorem mc {fn : Func} {f : FuncId} {u : Ty} {vi : Via} {as rs : List Ty} {α : Type} {g : u.den V.E → HL V.E as → Option α} {pk : α → HL V.E rs} {S : u.den V.E → HL V.E as → St V.E} (G : Good V P)
    (w : Good V P → ∀ c x C F z, Ends V C F fn.results.toList [] rs (pk z) → g c x = some z → Goes V P C F [.code (fn.body.getD .skip)] (S c x))
    (h0 : V.t0 = false := by kernel_rfl) (h1 : P.funcs[f]? = some fn := by kernel_rfl) (h2 : fn.body = some (fn.body.getD .skip) := by kernel_rfl) (h3 : (fn.name == "runtime.NumGoroutine") = false := by kernel_rfl) (h4 : (Nat.ble (as.length + 1) fn.ntmps && Nat.ble (as.length + 1) 1000000) = true := by kernel_rfl)
    (hS : ∀ c x, entryStC V fn.ntmps ⟨u, as, rs, α, g, pk, vi⟩ c x = S c x := by intro c x; kernel_rfl) : MeetsC V P f ⟨u, as, rs, α, g, pk, vi⟩ :=
  meetsc_of G h0 h1 h2 h3 h4 fun c x y h C F E => by
    have h : Option.map pk (g c x) = some y := h
    obtain ⟨z, hz, e⟩ := Option.map_eq_some_iff.1 h
    subst e
    rw [hS]
    exact w G c x C F z E hz
end
end Go.Ab
