/- Built structs and slices, the lesser and the greater one, function values. Built slices, the lesser and the greater one, function values. Maps: made, looked up, written. A slice, copied over the whole of an array; an array, added to another. Conditions: none beyond those that each theorem names. -/
import Derived.Test.YtgngflkahbpecaaGreatDoorU04
import Derived.MapKept
import Derived.Laws.CopyOwn
namespace Go.Ab
open Go
section
variable {V : Env} {P : Program} {C : Ctx} {bx : List (Nat × Box V.E)} {β : Nat → BI} {w : World}
variable {res : Option (SV V.E)} {cs : List Cd} {bx' : List (Nat × Box V.E)} {rs ws : List Nat} {ac : Acc}
abbrev Vals (V : Env) (C : Ctx) (bx : List (Nat × Box V.E)) (β : Nat → BI) (w : World) : List (Option (SV V.E)) → List Value → Prop :=
  All2 fun o v => ∀ x, o = some x → SR V C bx β w x v
theorem foldl_set (cells : Array Value) (off : Nat) : ∀ (vs : List Value) (k : Nat), off + k + vs.length ≤ cells.size →
    ((vs.zipIdx k).foldl (fun cs (x : Value × Nat) => cs.setIfInBounds (off + x.2) x.1) cells).toList = cells.toList.take (off + k) ++ vs ++ cells.toList.drop (off + k + vs.length) := by
  intro vs
  induction vs generalizing cells with
  | nil => intro k _; simp
  | cons v vs ih =>
    intro k hk
    simp only [List.zipIdx_cons, List.foldl_cons]
    rw [ih _ (k + 1) (by simp at hk ⊢; omega)]
    have e := list_seg_step cells.toList (off + k) v vs (by simp at hk ⊢; omega)
    simpa [Array.toList_setIfInBounds, Nat.add_assoc] using e
theorem fill_ok {place : Nat → Option (Nat × Nat)} : ∀ (ps : List (Nat × Operand)) (vs : List (Option (SV V.E))) (ds : List Value) (ls : List (Leaf V.E)) (cells : Array Value) (ls' : List (Leaf V.E)),
    Vals V C bx β w vs ds → vs.length = ps.length → All2 (LeafRep V.T bx β (okOf C β w) w) ls cells.toList → fillL place ls (zipParts V ps vs) = some ls' →
    (∀ i off size, place i = some (off, size) → 0 < size) →
    ∃ cells', Instr.fill place cells ((ps.map (·.1)).zip ds) = some cells' ∧ All2 (LeafRep V.T bx β (okOf C β w) w) ls' cells'.toList ∧ cells'.size = cells.size
  | [], [], ds, ls, cells, ls', hv, _, hr, h, _ => by
    cases hv
    simp only [zipParts, fillL, Option.some.injEq] at h
    subst h
    exact ⟨cells, by simp [Instr.fill], hr, rfl⟩
  | [], _ :: _, _, _, _, _, _, h, _, _, _ => by simp at h
  | _ :: _, [], _, _, _, _, _, h, _, _, _ => by simp at h
  | (i, o) :: ps, v :: vs, d :: ds, ls, cells, ls', .cons hv hvs, hl, hr, h, hpos => by
    simp only [zipParts] at h
    match v, hv, h with
    | some (.cv c), hv, h =>
      simp only [fillL] at h
      split at h
      · rename_i off size hp
        split at h
        · rename_i hsz
          have hsz := eq_of_beq' hsz
          split at h
          · rename_i ls1 hs
            have hc := CVRep.cells (hv _ rfl)
            have hpz := hpos i off size hp
            obtain ⟨hnew, hle⟩ := setAt_rep hr hc hs (by omega)
            have hcl : d.cells.toList.length = size := by rw [← hc.length, hsz]
            have hcl' : d.cells.size = size := by rw [← Array.length_toList]; exact hcl
            have hle' : off + size ≤ cells.size := by rw [← Array.length_toList, ← hcl]; exact hle
            have e := foldl_set cells off d.cells.toList 0 (by rw [hcl]; omega)
            simp only [Nat.add_zero] at e
            rw [← e] at hnew
            have hz : (d.cells.zipIdx.foldl (fun cs (x : Value × Nat) => cs.setIfInBounds (off + x.2) x.1) cells) = (d.cells.toList.zipIdx 0).foldl (fun cs (x : Value × Nat) => cs.setIfInBounds (off + x.2) x.1) cells := by
              rw [← Array.foldl_toList, Array.toList_zipIdx]
            rw [← hz] at hnew
            obtain ⟨cells', h1, h2, h3⟩ := fill_ok ps vs ds ls1 _ ls' hvs (by simpa using hl) hnew h hpos
            refine ⟨cells', ?_, h2, ?_⟩
            · simp only [List.map_cons, List.zip_cons_cons, Instr.fill, hp]
              rw [if_neg (by simp [hcl']; omega)]
              exact h1
            · rw [h3, ← Array.length_toList, hz, e]
              simp only [List.length_append, List.length_take, List.length_drop, Array.length_toList]
              omega
          · cases h
        · cases h
      · cases h
    | some (.tup _), _, h => simp [fillL] at h
    | none, _, h => simp [fillL] at h
theorem parts_eq (ρ : Operand → Value) (ps : List (Nat × Operand)) : (ps.map fun x => (x.1, ρ x.2)) = (ps.map (·.1)).zip (ps.map fun x => ρ x.2) := by
  induction ps with
  | nil => rfl
  | cons p ps ih => simp [ih]
theorem run_foldlM_push {α γ : Type} (f : α → Sem γ) (g : α → γ) : ∀ (l : List α) (acc : Array γ), (∀ x ∈ l, (f x).run P w = .ok (g x) w) →
    (l.foldlM (fun bs a => bs.push <$> f a) acc : Sem (Array γ)).run P w = .ok (acc ++ (l.map g).toArray) w
  | [], acc, _ => by simp
  | x :: l, acc, h => by
    simp only [List.foldlM_cons, Sem.run_bind, Sem.run_map, h x (by simp), Result.andThen_ok]
    rw [run_foldlM_push f g l _ (fun y hy => h y (by simp [hy]))]
    simp
theorem run_mapM {α γ : Type} (f : α → Sem γ) (g : α → γ) (l : Array α) (h : ∀ x ∈ l.toList, (f x).run P w = .ok (g x) w) : (l.mapM f).run P w = .ok (l.map g) w := by
  rw [Array.mapM_eq_foldlM, ← Array.foldlM_toList, run_foldlM_push f g _ _ h]
  congr 1
  apply Array.ext'
  simp
theorem build_ok (HE : EnvOk V P) (M : MemOk V.T C bx β w) {t : TypeId} {i : TI V.E} {info : TypeInfo} {d : TypeDesc} {z : Value} (I : InfoOk V P t i info d z) {fs : List (Nat × TypeId)} (hk : i.kind = .struct fs)
    (hall : fs.all (fun x => (V.ti x.2).isSome) = true) (ρ : Operand → Value) (ps : Array (Nat × Operand)) {vs : List (Option (SV V.E))} (hv : Vals V C bx β w vs (ps.toList.map fun x => ρ x.2))
    {ls : List (Leaf V.E)} (h : fillL (fieldPlace V fs) i.zero (zipParts V ps.toList vs) = some ls) :
    VOk V.T C bx β w (some (.cv (.ag ls))) bx ((Instr.build t (ps.map fun x => (x.1, ρ x.2))).run P w) := by
  have hkd := I.kind
  rw [hk] at hkd
  cases d <;> simp [kindB] at hkd
  rename_i fields
  subst hkd
  let g : Field → Nat × Nat := fun f => (f.offset, ((V.ti f.type).map (·.size)).getD 0)
  have hm := run_mapM (P := P) (w := w) (fun f : Field => (do pure (f.offset, ← sizeOf f.type) : Sem (Nat × Nat))) g fields fun f hf => by
    have h1 := List.all_eq_true.1 hall (f.offset, f.type) (List.mem_map.2 ⟨f, hf, rfl⟩)
    obtain ⟨j, hj⟩ := Option.isSome_iff_exists.1 h1
    obtain ⟨_, _, _, J⟩ := HE _ _ hj
    simp only [Sem.run_bind, J.run_size, Result.andThen_ok, Sem.run_pure, g, hj, Option.map_some, Option.getD_some]
  have hplace : ∀ n : Nat, (fields.map g)[n]? = fieldPlace V (fields.toList.map fun f => (f.offset, f.type)) n := by
    intro n
    unfold fieldPlace
    rw [Array.getElem?_map, List.getElem?_map, ← Array.getElem?_toList]
    cases hn : fields.toList[n]? with
    | none => rfl
    | some f =>
      have h1 := List.all_eq_true.1 hall (f.offset, f.type) (List.mem_map.2 ⟨f, List.mem_of_getElem? hn, rfl⟩)
      obtain ⟨j, hj⟩ := Option.isSome_iff_exists.1 h1
      simp [g, hj]
  have hpos : ∀ n off size, fieldPlace V (fields.toList.map fun f => (f.offset, f.type)) n = some (off, size) → 0 < size := by
    intro n off size hn
    unfold fieldPlace at hn
    split at hn
    · split at hn
      · rename_i j hj
        obtain ⟨_, _, _, J⟩ := HE _ _ hj
        cases hn
        exact J.pos
      · cases hn
    · cases hn
  obtain ⟨cells', h1, h2, h3⟩ := fill_ok (w := w) ps.toList vs _ i.zero z.cells ls hv (by rw [hv.length, List.length_map]) (zls_rep I.zeros) h hpos
  have hr : (Instr.build t (ps.map fun x => (x.1, ρ x.2))).run P w = .ok (.agg cells') w := by
    unfold Instr.build
    simp only [Sem.run_bind, I.run_zero, Result.andThen_ok, I.run_under, hm]
    have : (fun n => (fields.map g)[n]?) = fieldPlace V (fields.toList.map fun f => (f.offset, f.type)) := funext hplace
    rw [this, Array.toList_map, parts_eq, h1]
    simp
  rw [hr]
  exact .pure M ⟨cells', rfl, h2⟩
end
end Go.Ab
namespace Go.Ab
open Go
section
variable {V : Env} {P : Program} {C : Ctx} {bx : List (Nat × Box V.E)} {β : Nat → BI} {w : World}
variable {res : Option (SV V.E)} {cs : List Cd} {bx' : List (Nat × Box V.E)} {rs ws : List Nat} {ac : Acc}
theorem repeat_rep {R : Leaf V.E → Value → Prop} {l : List (Leaf V.E)} {vs : List Value} (h : All2 R l vs) : ∀ n, All2 R (repeatL l n) (List.replicate n vs).flatten
  | 0 => by simp [repeatL]; exact .nil
  | n + 1 => by rw [repeatL, List.replicate_succ, List.flatten_cons]; exact h.append (repeat_rep h n)
theorem chunks_ok (HT : V.T.Ok) {t : Ty} {sz : Nat} (hsz : t.sz V.T = sz) : ∀ (n : Nat) (ls : List (Leaf V.E)) (vs : List Value) (xs : List (t.den V.E)), chunks V t sz n ls = some xs → All2 (LeafRep V.T bx β (okOf C β w) w) ls vs →
    xs.length = n ∧ ∃ css : List (List Value), vs = css.flatten ∧ All2 (fun x cs => AVRep (okOf C β w) w (t.av V.T x) cs ∧ cs.length = t.sz V.T) xs css
  | 0, [], _, xs, h, .nil => by
    simp only [chunks, Option.some.injEq] at h
    subst h
    exact ⟨rfl, [], rfl, .nil⟩
  | 0, _ :: _, _, xs, h, _ => by simp [chunks] at h
  | n + 1, ls, vs, xs, h, hr => by
    simp only [chunks] at h
    split at h
    · rename_i x hx
      split at h
      · rename_i r hrr
        cases h
        obtain ⟨h1, css, h2, h3⟩ := chunks_ok HT hsz n _ _ r hrr (hr.drop sz)
        have hc := ofL_coe HT hx
        have hrep := coes_rep hc (hr.take sz)
        have hl := hrep.length
        rw [toL_length HT] at hl
        refine ⟨by simp [h1], vs.take sz :: css, ?_, .cons ⟨(toL_av HT t x _).1 hrep, hl.symm⟩ h3⟩
        rw [List.flatten_cons, ← h2, List.take_append_drop]
      · cases h
    · cases h
theorem mem_of_flat {ok : Nat → Prop} {t : Ty} {b : Nat} {c : Array Value} {e : TypeId} (hok : ok b) (hh : w.heap[b]? = some (.cells c e (0, 0))) : ∀ (xs : List (t.den V.E)) (css : List (List Value)) (pre : List Value),
    c.toList = pre ++ css.flatten → All2 (fun x cs => AVRep ok w (t.av V.T x) cs ∧ cs.length = t.sz V.T) xs css → AVMem ok w (t.sz V.T) (xs.map (t.av V.T)) b pre.length
  | [], _, _, _, .nil => trivial
  | x :: xs, cs :: css, pre, hc, .cons h1 h2 => by
    refine ⟨⟨cs, h1.1, h1.2, hok, fun j v hj => ?_⟩, ?_⟩
    · rw [cell_of_heap_cells hh, ← Array.getElem?_toList, hc, List.flatten_cons, List.getElem?_append_right (by omega), Nat.add_sub_cancel_left]
      rw [List.getElem?_append_left (List.getElem?_eq_some_iff.1 hj).1]; exact hj
    · have := mem_of_flat hok hh xs css (pre ++ cs) (by rw [hc, List.flatten_cons, List.append_assoc]) h2
      rw [List.length_append, h1.2] at this
      exact this
theorem run_buildSlice_of {t e : TypeId} (hu : P.underlying t = some (.slice e)) {i : TI V.E} {info : TypeInfo} {d : TypeDesc} {z : Value} (I : InfoOk V P e i info d z) (n : Nat) (hn : n * i.size ≤ 16777216) (parts : Array (Nat × Value)) {cells : Array Value}
    (h : Instr.fill (fun k => some (k * i.size, i.size)) (madeCells z.cells (n * i.size)) parts.toList = some cells) :
    (Instr.buildSlice t n parts).run P w = .ok (.slice (some ⟨w.heap.size, 0, none⟩) n n) (w.alloc (.cells cells e)) := by
  unfold Instr.buildSlice
  simp only [Sem.run_bind, run_underlying hu, Result.andThen_ok, I.run_size]
  rw [if_neg (by omega)]
  by_cases hz : n * i.size = 0
  · have h1 : (Array.range (n * i.size)).map (fun x => (#[] : Array Value)[x % (#[] : Array Value).size]!) = madeCells z.cells (n * i.size) := by rw [hz]; simp [madeCells]
    rw [if_pos hz]
    simp only [Sem.run_bind, Sem.run_pure, Result.andThen_ok, h1, h]
    rfl
  · rw [if_neg hz]
    have h1 : (Array.range (n * i.size)).map (fun x => z.cells[x % z.cells.size]!) = madeCells z.cells (n * i.size) := rfl
    simp only [Sem.run_bind, I.run_zero, Sem.run_pure, Result.andThen_ok, h1, h]
    rfl
theorem buildSlice_ok (HT : V.T.Ok) (M : MemOk V.T C bx β w) {t e : TypeId} (hu : P.underlying t = some (.slice e)) {i : TI V.E} {info : TypeInfo} {d : TypeDesc} {z : Value} (I : InfoOk V P e i info d z)
    (n : Nat) (hn : Nat.ble (n * i.size) 16777216 = true) (ρ : Operand → Value) (ps : Array (Nat × Operand)) {vs : List (Option (SV V.E))} (hv : Vals V C bx β w vs (ps.toList.map fun x => ρ x.2))
    {ls : List (Leaf V.E)} (hf : fillL (fun k => some (k * i.size, i.size)) (repeatL i.zero n) (zipParts V ps.toList vs) = some ls) (q : Orc V.E) {dst : Nat}
    (h : interp V bx (builtTodo V dst e i n q ls) rs ws = some (res, cs, bx', ac)) :
    VOk V.T C bx β w res bx' ((Instr.buildSlice t n (ps.map fun x => (x.1, ρ x.2))).run P w) := by
  have hz := repeat_rep (zls_rep (T := V.T) (bx := bx) (β := β) (ok := okOf C β w) (w := w) I.zeros) n
  rw [← made_flatten _ (by rw [I.zcells]; exact I.pos), I.zcells] at hz
  obtain ⟨cells', h1, h2, h3⟩ := fill_ok (w := w) ps.toList vs _ _ (madeCells z.cells (n * i.size)) ls hv (by rw [hv.length, List.length_map]) hz hf (fun _ _ _ h => by cases h; exact I.pos)
  rw [run_buildSlice_of hu I n (Nat.le_of_ble_eq_true hn) _ (by rw [Array.toList_map, parts_eq]; exact h1)]
  rw [size_madeCells] at h3
  have later : ∀ {bx1 : List (Nat × Box V.E)} {β1 : Nat → BI}, MemOk V.T C bx1 β1 w → MemOk V.T C bx1 β1 (w.alloc (.cells cells' e)) ∧ Ext V.T bx1 β1 (okOf C β1 w) w bx1 β1 (okOf C β1 (w.alloc (.cells cells' e))) (w.alloc (.cells cells' e)) ∧
      okOf C β1 (w.alloc (.cells cells' e)) w.heap.size := by
    intro bx1 β1 M1
    obtain ⟨M2, X2⟩ := M1.grow (Grow.alloc w (.cells cells' e))
    exact ⟨M2, X2, by simp, .inr (.inl M1.kept.size), fun id hid => Nat.lt_irrefl _ (M1.mine id _ hid).1⟩
  unfold builtTodo at h
  split at h
  · rename_i l
    obtain ⟨rfl, _, rfl⟩ := interp_ret h
    obtain ⟨M2, X2, hok⟩ := later M
    have hn1 : n = 1 := by
      have hl := h2.length
      simp [h3] at hl
      exact Nat.eq_one_of_mul_eq_one_right hl.symm
    subst hn1
    refine ⟨β, _, _, _, rfl, rfl, ?_, M2, X2⟩
    simp only [SVRep, CVRep, LeafRep]
    exact ⟨w.heap.size, cells'.toList, cells', e, rfl, hok, heap_alloc_new _ _, rfl, (LeafReps.iff V.T _ _).2 (All2.ext X2 h2)⟩
  · rename_i ls
    obtain ⟨bx1, β1, ls', rs', ws', M1, X1, R1, h, _⟩ := frz_ok _ _ bx β M h2 _ _ _ h
    split at h
    · rename_i xs hx
      obtain ⟨hid, rs1, ws1, h⟩ := newBox_ok h
      obtain ⟨rfl, _, rfl⟩ := interp_ret h
      have hnm : n ≤ maxLen := by
        have h1 := Nat.le_of_ble_eq_true hn
        have h2 : n * 1 ≤ n * i.size := Nat.mul_le_mul_left _ I.pos
        unfold maxLen; omega
      obtain ⟨M', X⟩ := M1.new hid (.arr e i.ty xs 0 false) (.cells cells' e) (.slice (some ⟨w.heap.size, 0, none⟩) n n) [w.heap.size] (.inl rfl) fun X => by
        obtain ⟨hxl, css, hcss, hA⟩ := chunks_ok HT I.ty n _ _ xs hx (All2.ext X R1)
        refine ⟨by rw [upd_same]; rfl, ?_⟩
        rw [upd_same]
        refine ⟨css, ⟨?_, .inr ⟨w.heap.size, n, _, by rw [hxl], Nat.zero_le _, heap_alloc_new _ _, by rw [hxl]; exact Nat.le_refl _, hnm, ?_, ?_⟩⟩, hA⟩
        · rw [← hcss, hxl, Array.length_toList, h3, I.ty]
        · rw [h3, I.ty]
        · rw [hxl, hcss, I.ty]
          exact List.take_of_length_le (by rw [← hcss, Array.length_toList, h3]; exact Nat.le_refl _)
      refine ⟨_, _, _, _, rfl, rfl, ?_, M', X1.trans X⟩
      simp only [SVRep, CVRep, LeafRep, look_put_same, upd_same]
      exact ⟨rfl, Nat.le_refl _, fun _ => trivial⟩
    · simp [interp] at h
  · obtain ⟨bx1, β1, ls', rs', ws', M1, X1, R1, h, _⟩ := frz_ok _ _ bx β M h2 _ _ _ h
    split at h
    · rename_i xs hx
      obtain ⟨rfl, _, rfl⟩ := interp_ret h
      obtain ⟨M2, X2, hok⟩ := later M1
      obtain ⟨hxl, css, hcss, hA⟩ := chunks_ok HT I.ty n _ _ xs hx (All2.ext X2 R1)
      refine ⟨β1, _, _, _, rfl, rfl, ?_, M2, X1.trans X2⟩
      simp only [SVRep, CVRep, LeafRep]
      refine ⟨some ⟨w.heap.size, 0, none⟩, n, by rw [List.length_map, hxl], by rw [List.length_map, hxl]; exact Nat.le_refl _, (fun h => by cases h), (fun h => by cases h), fun ad had => ?_⟩
      cases had
      exact ⟨fun _ => rfl, mem_of_flat hok (heap_alloc_new _ _) xs css [] (by simpa using hcss) hA⟩
    · simp [interp] at h
theorem min_ok (M : MemOk V.T C bx β w) (ats : Array TypeId) (ty : TypeId) (k : IntKind) (a b : Int) :
    VOk V.T C bx β w (some (.cv (.one (.int k (if b < a then b else a))))) bx ((Builtin.min_ ats ty #[.int k a, .int k b]).run P w) := by
  have : (Builtin.min_ ats ty #[.int k a, .int k b]).run P w = .ok (.int k (if b < a then b else a)) w := by
    simp [Builtin.min_, Builtin.min2]
  rw [this]; exact .pure M rfl
theorem max_ok (M : MemOk V.T C bx β w) (ats : Array TypeId) (ty : TypeId) (k : IntKind) (a b : Int) :
    VOk V.T C bx β w (some (.cv (.one (.int k (if a < b then b else a))))) bx ((Builtin.max_ ats ty #[.int k a, .int k b]).run P w) := by
  have : (Builtin.max_ ats ty #[.int k a, .int k b]).run P w = .ok (.int k (if a < b then b else a)) w := by
    simp [Builtin.max_, Builtin.max2]
  rw [this]; exact .pure M rfl
theorem onesOf_ok : ∀ (vs : List (Option (SV V.E))) (ds : List Value) (ls : List (Leaf V.E)), Vals V C bx β w vs ds → onesOf V vs = some ls → All2 (LeafRep V.T bx β (okOf C β w) w) ls ds
  | [], _, ls, .nil, h => by simp only [onesOf, Option.some.injEq] at h; subst h; exact .nil
  | v :: vs, _, ls, .cons h1 h2, h => by
    match v, h1, h with
    | some (.cv (.one l)), h1, h =>
      simp only [onesOf] at h
      split at h
      · rename_i r hr
        cases h
        exact .cons (h1 _ rfl) (onesOf_ok vs _ r h2 hr)
      · cases h
    | some (.cv (.ag _)), _, h => simp [onesOf] at h
    | some (.tup _), _, h => simp [onesOf] at h
    | none, _, h => simp [onesOf] at h
theorem makeFunc_ok (M : MemOk V.T C bx β w) (f : FuncId) (ρ : Operand → Value) (fi ca : Array Operand) (hfi : fi.isEmpty = true) {vs : List (Option (SV V.E))} (hv : Vals V C bx β w vs ((fi ++ ca).toList.map ρ))
    {ls : List (Leaf V.E)} (h : onesOf V vs = some ls) : VOk V.T C bx β w (some (.cv (.one (.clo f ls)))) bx ((Instr.makeFunc (.func f) (fi.map ρ) (ca.map ρ)).run P w) := by
  have hfi : fi = #[] := by simpa using hfi
  subst hfi
  have hr : (Instr.makeFunc (.func f) ((#[] : Array Operand).map ρ) (ca.map ρ)).run P w = .ok (.func (.func f) #[] (ca.map ρ)) w := by
    simp [Instr.makeFunc]
  rw [hr]
  refine .pure M ?_
  simp only [SVRep, CVRep, LeafRep]
  refine ⟨_, rfl, (LeafReps.iff V.T _ _).2 ?_⟩
  have := onesOf_ok _ _ _ hv h
  simpa using this
end
end Go.Ab
namespace Go.Ab
open Go Go.MapKept
section
variable {V : Env} {P : Program} {C : Ctx} {bx : List (Nat × Box V.E)} {β : Nat → BI} {w : World}
variable {res : Option (SV V.E)} {cs : List Cd} {bx' : List (Nat × Box V.E)} {rs ws : List Nat} {ac : Acc}
theorem mapOf_ok {t : TypeId} {i j : TI V.E} (h : mapOf V t = some (i, j)) :
    ∃ it k e, V.ti t = some it ∧ it.kind = .map k e ∧ V.ti k = some i ∧ V.ti e = some j ∧ keyKind i.kind i.ty = true ∧ isNm j.ty = j.kind.agg := by
  unfold mapOf at h
  split at h
  · rename_i k e _ _ _ _ ht
    split at h
    · rename_i i' j' h1 h2
      split at h
      · rename_i hc
        simp only [Bool.and_eq_true, beq_iff_eq] at hc
        cases h
        exact ⟨_, k, e, ht, rfl, h1, h2, hc.1, hc.2⟩
      · cases h
    · cases h
  · cases h
theorem map_kind {t : TypeId} {i : TI V.E} {info : TypeInfo} {d : TypeDesc} {z : Value} (I : InfoOk V P t i info d z) {k e : TypeId} (h : i.kind = .map k e) : P.underlying t = some (.map k e) := by
  have hk := I.kind
  rw [h] at hk
  have hu := I.under
  cases d <;> simp [kindB] at hk
  obtain ⟨rfl, rfl⟩ := hk
  exact hu
theorem key_is {ok : Nat → Prop} {T : Tab} {κ : TK} {k : Ty} {d : TypeDesc} (hk : keyKind κ k = true) (hd : kindB κ d = true) {x : k.den T.E} {v : Value} (h : AVRep ok w (k.av T x) [v]) : IsKey d v := by
  cases κ <;> cases k <;> simp [keyKind] at hk <;> cases d <;> simp [kindB] at hd <;> simp only [Ty.av, AVRep, List.cons.injEq, and_true] at h <;> subst h <;> simp_all [IsKey]
theorem key_same {ok : Nat → Prop} {T : Tab} {κ : TK} {k : Ty} {d : TypeDesc} (hk : keyKind κ k = true) (hd : kindB κ d = true) {x y : k.den T.E} {v u : Value} (h : AVRep ok w (k.av T x) [v]) (h' : AVRep ok w (k.av T y) [u]) :
    Instr.sameNow d v u = some (keyEq k x y) := by
  cases κ <;> cases k <;> simp [keyKind] at hk <;> cases d <;> simp [kindB] at hd <;> simp only [Ty.av, AVRep, List.cons.injEq, and_true] at h h' <;> subst h h'
  · simp [Instr.sameNow, keyEq, kqI]
    exact Bool.eq_iff_iff.2 (by simp)
  · rfl
  · simp only [Instr.sameNow, keyEq, kqS, Option.some.injEq]
    refine Bool.eq_iff_iff.2 ?_
    rw [bytes_beq]
    simp
theorem key_eq {ok : Nat → Prop} {T : Tab} {κ : TK} {k : Ty} (hk : keyKind κ k = true) {x y : k.den T.E} {v : Value} (h : AVRep ok w (k.av T x) [v]) (he : keyEq k x y = true) : AVRep ok w (k.av T y) [v] := by
  cases κ <;> cases k <;> simp [keyKind] at hk <;> simp [keyEq, kqI, kqB, kqS] at he <;> subst he <;> exact h
def ERep (T : Tab) (ok : Nat → Prop) (w : World) (k t : Ty) (x : k.den T.E × t.den T.E) (e : MapEntry) : Prop := AVRep ok w (k.av T x.1) [e.key] ∧ VRep T ok w t x.2 e.val
theorem find_ok {ok : Nat → Prop} {T : Tab} {κ : TK} {k t : Ty} {d : TypeDesc} (hk : keyKind κ k = true) (hd : kindB κ d = true) {x : k.den T.E} {v : Value} (h : AVRep ok w (k.av T x) [v]) :
    ∀ {l : List (k.den T.E × t.den T.E)} {es : List MapEntry}, All2 (ERep T ok w k t) l es → ∀ i,
      (mget (keyEq k) x l = none ∧ Instr.findNow d v es i = some none ∧ ∀ y, mput (keyEq k) x y l = l ++ [(x, y)]) ∨
      ∃ j y e, mget (keyEq k) x l = some y ∧ Instr.findNow d v es i = some (some (i + j, e.val)) ∧ es[j]? = some e ∧ VRep T ok w t y e.val ∧ e.key = v ∧
        ∀ (y' : t.den T.E) (f : MapEntry → MapEntry), AVRep ok w (k.av T x) [(f e).key] → VRep T ok w t y' (f e).val → All2 (ERep T ok w k t) (mput (keyEq k) x y' l) (es.modify j f)
  | [], _, .nil, i => .inl ⟨rfl, rfl, fun _ => rfl⟩
  | (y, z) :: l, e :: es, .cons h1 h2, i => by
    have hs := key_same hk hd h h1.1
    cases he : keyEq k x y with
    | true =>
      refine .inr ⟨0, z, e, by simp [mget, he], by simp [Instr.findNow, hs, he], rfl, h1.2, ?_, fun y' f g1 g2 => ?_⟩
      · have := key_eq hk h he
        have h3 := h1.1
        cases κ <;> cases k <;> simp [keyKind] at hk <;> simp only [Ty.av, AVRep, List.cons.injEq, and_true] at this h3 <;> rw [this, h3]
      · simp only [mput, he, if_true, List.modify_zero_cons]
        exact .cons ⟨g1, g2⟩ h2
    | false =>
      rcases find_ok hk hd h h2 (i + 1) with ⟨k1, k2, k3⟩ | ⟨j, y1, e1, k1, k2, k3, k4, k5, k6⟩
      · exact .inl ⟨by simp [mget, he, k1], by simp [Instr.findNow, hs, he, k2], fun q => by simp [mput, he, k3 q]⟩
      · refine .inr ⟨j + 1, y1, e1, by simp [mget, he, k1], by simp [Instr.findNow, hs, he, k2]; omega, by simpa using k3, k4, k5, fun y' f g1 g2 => ?_⟩
        simp only [mput, he, Bool.false_eq_true, if_false, List.modify_succ_cons]
        exact .cons h1 (k6 y' f g1 g2)
theorem ofL_av (HT : V.T.Ok) {ok : Nat → Prop} {t : Ty} {ls : List (Leaf V.E)} {x : t.den V.E} (h : t.ofL V.T ls = some x) {vs : List Value} (k : All2 (LeafRep V.T bx β ok w) ls vs) : AVRep ok w (t.av V.T x) vs :=
  (toL_av HT t x vs).1 (coes_rep (ofL_coe HT h) k)
theorem makeMap_ok (M : MemOk V.T C bx β w) {dst : Nat} {k t : Ty} {mt : TypeId} (h : interp V bx (newBox V dst (.map k t []) (.one (.mp dst))) rs ws = some (res, cs, bx', ac)) :
    VOk V.T C bx β w res bx' ((Instr.makeMap mt none).run P w) := by
  obtain ⟨hid, rs', ws', h⟩ := newBox_ok h
  obtain ⟨rfl, _, rfl⟩ := interp_ret h
  have hr : (Instr.makeMap mt none).run P w = .ok (.map (some w.heap.size)) (w.alloc (.map #[] 0)) := by
    simp only [Instr.makeMap, Sem.run_bind, run_newObj, Result.andThen_ok, Sem.run_pure]
    rfl
  rw [hr]
  obtain ⟨M', X⟩ := M.new hid (.map k t []) (.map #[] 0) .nilIface [w.heap.size] (.inl rfl) fun X => by
    refine ⟨by simp, #[], 0, ?_, .nil⟩
    rw [upd_same]; exact heap_alloc_new _ _
  refine ⟨_, _, _, _, rfl, rfl, ?_, M', X⟩
  simp only [SVRep, CVRep, LeafRep, look_put_same, upd_same]
  exact ⟨rfl, trivial⟩
theorem vrep_cv (HT : V.T.Ok) {ok : Nat → Prop} {t : Ty} {x : t.den V.E} {v : Value} (h : VRep V.T ok w t x v) {c : CV V.E} (hc : ofLeaves (isNm t) (t.toL V.T x) = some c) : CVRep V.T bx β ok w c v := by
  unfold VRep at h
  cases hn : isNm t with
  | true =>
    rw [hn] at h hc
    obtain ⟨cs, rfl, h⟩ := h
    simp [ofLeaves] at hc; subst hc
    exact ⟨cs, rfl, (toL_av HT t x _).2 h⟩
  | false =>
    rw [hn] at h hc
    simp only [Bool.false_eq_true, if_false] at h
    have k := (toL_av HT (bx := bx) (β := β) t x _).2 h
    rcases ofLeaves_rep hc k with ⟨h0, _⟩ | ⟨_, l, v', h1, rfl, h3, h4⟩
    · cases h0
    · cases h3; exact h4
theorem zero_v {z : Value} (b : Bool) (h : isAggV z = b) : (b = true → z = .agg z.cells) ∧ (b = false → z.cells.size = 1 → z.cells.toList = [z]) := by
  cases z <;> simp [isAggV] at h <;> subst h <;> simp [Value.cells]
theorem lookup_ok (HT : V.T.Ok) (M : MemOk V.T C bx β w) {i j : TI V.E} {mt kt et : TypeId} {ki ei : TypeInfo} {kd ed : TypeDesc} {kz ez : Value} (hm : P.underlying mt = some (.map kt et))
    (I : InfoOk V P kt i ki kd kz) (J : InfoOk V P et j ei ed ez) (hk : keyKind i.kind i.ty = true) (hj : isNm j.ty = j.kind.agg) {a x : SV V.E} {va vx : Value} (ha : SR V C bx β w a va) (hx : SR V C bx β w x vx) {ok : Bool}
    (h : interp V bx (lookupTodo V i j a x ok) rs ws = some (res, cs, bx', ac)) : VOk V.T C bx β w res bx' ((Instr.lookup mt va vx ok).run P w) := by
  unfold lookupTodo at h
  split at h
  · rename_i id key
    simp only [interp] at h
    split at h
    · rename_i k t l hb
      split at h
      · rename_i hkt
        simp only [Bool.and_eq_true, decide_eq_true_eq] at hkt
        obtain ⟨rfl, rfl⟩ := hkt
        split at h
        · rename_i kx z hkx hz
          split at h
          · rename_i c hc
            have ha' := ha
            simp only [SR, SVRep, CVRep, LeafRep, hb] at ha'
            obtain ⟨_, rfl⟩ := ha'
            obtain ⟨_, es, clock, h1, h2⟩ := M.boxes id _ hb
            have hx' : LeafRep V.T bx β (okOf C β w) w key vx := hx
            have hkv := ofL_av HT hkx (.cons hx' .nil)
            have hik := key_is hk I.kind hkv
            have hzv : VRep V.T (okOf C β w) w j.ty z ez := by
              have hz' := ofL_av HT (w := w) (ok := okOf C β w) hz (zls_rep (bx := bx) (β := β) J.zeros)
              obtain ⟨z1, z2⟩ := zero_v _ J.zagg
              unfold VRep
              rw [hj]
              cases hg : j.kind.agg with
              | true => exact ⟨ez.cells, z1 hg, hz'⟩
              | false =>
                simp only [Bool.false_eq_true, if_false]
                have hsz : ez.cells.size = 1 := by
                  rw [J.zcells, ← J.ty]
                  rw [hg] at hj
                  cases hty : j.ty <;> rw [hty] at hj <;> simp [isNm] at hj <;> rfl
                rw [z2 hg hsz] at hz'
                exact hz'
            have fin : ∀ (y : j.ty.den V.E) (v : Value) (b : Bool), VRep V.T (okOf C β w) w j.ty y v → ofLeaves j.kind.agg (j.ty.toL V.T y) = some c → (mget (keyEq i.ty) kx l).isSome = b →
                (Instr.lookup mt (.map (some (β id).blk)) vx ok).run P w = .ok (if ok then .tuple #[v, .bool b] else v) w → VOk V.T C bx β w res bx' ((Instr.lookup mt (.map (some (β id).blk)) vx ok).run P w) := by
              intro y v b hv hc' hb' hrun
              rw [hrun]
              rw [← hj] at hc'
              have hcv := vrep_cv HT (bx := bx) (β := β) hv hc'
              cases ok with
              | true =>
                simp only [if_true] at h ⊢
                obtain ⟨rfl, _, rfl⟩ := interp_ret h
                refine VOk.pure M ⟨_, rfl, .cons hcv (.cons ?_ .nil)⟩
                rw [hb']; rfl
              | false =>
                simp only [Bool.false_eq_true, if_false] at h ⊢
                obtain ⟨rfl, _, rfl⟩ := interp_ret h
                exact VOk.pure M hcv
            rcases find_ok hk I.kind hkv h2 0 with ⟨k1, k2, _⟩ | ⟨jj, y, e, k1, k2, k3, k4, _⟩
            · refine fin z ez false hzv (by rw [k1] at hc; exact hc) (by rw [k1]; rfl) ?_
              cases ok <;> simp [Instr.lookup, run_underlying hm, MapKept.run_getObj_map h1, run_checkKey I.under hik, run_findKey I.under k2, J.run_zero, Result.andThen]
            · refine fin y e.val true k4 (by rw [k1] at hc; exact hc) (by rw [k1]; rfl) ?_
              cases ok <;> simp [Instr.lookup, run_underlying hm, MapKept.run_getObj_map h1, run_checkKey I.under hik, run_findKey I.under k2, Result.andThen]
          · simp [interp] at h
        · simp [interp] at h
      · simp [interp] at h
    · simp [interp] at h
  · simp [interp] at h
theorem update_ok (HT : V.T.Ok) (M : MemOk V.T C bx β w) {i j : TI V.E} {mt kt et : TypeId} {ki : TypeInfo} {kd : TypeDesc} {kz : Value} (hm : P.underlying mt = some (.map kt et))
    (I : InfoOk V P kt i ki kd kz) (hk : keyKind i.kind i.ty = true) (hj : isNm j.ty = j.kind.agg) {a x y : SV V.E} {va vx vy : Value} (ha : SR V C bx β w a va) (hx : SR V C bx β w x vx) (hy : SR V C bx β w y vy)
    (h : interp V bx (updateTodo V i j a x y) rs ws = some (res, cs, bx', ac)) : UOk V.T C bx β w res bx' ((Instr.mapUpdate mt va vx vy).run P w) := by
  unfold updateTodo at h
  split at h
  · rename_i id key c
    have hcv : CVRep V.T bx β (okOf C β w) w c vy := hy
    obtain ⟨bx1, β1, ls, rs1, ws1, M1, X1, R1, h, G1⟩ := frz_ok c.leaves _ bx β M (CVRep.cells hcv) _ _ _ h
    simp only [interp] at h
    split at h
    · rename_i k t l hb
      split at h
      · rename_i hkt
        simp only [Bool.and_eq_true, decide_eq_true_eq, beq_iff_eq] at hkt
        obtain ⟨⟨rfl, rfl⟩, hag⟩ := hkt
        split at h
        · rename_i kx q hkx hq
          have ha' : LeafRep V.T bx1 β1 (okOf C β1 w) w (.mp id) va := LeafRep.ext X1 _ _ ha
          simp only [LeafRep, hb] at ha'
          obtain ⟨_, rfl⟩ := ha'
          obtain ⟨hown, es, clock, h1, h2⟩ := M1.boxes id _ hb
          have hx' : LeafRep V.T bx1 β1 (okOf C β1 w) w key vx := LeafRep.ext X1 _ _ hx
          have hkv := ofL_av HT hkx (.cons hx' .nil)
          have hik := key_is hk I.kind hkv
          have hqv := ofL_av HT hq R1
          have hv : VRep V.T (okOf C β1 w) w j.ty q vy := by
            unfold VRep
            rw [hj, ← hag]
            cases c with
            | one l0 =>
              simp only [CV.isAg, Bool.false_eq_true, if_false]
              rw [leaf_cells (show LeafRep V.T bx β (okOf C β w) w l0 vy from hcv)] at hqv
              exact hqv
            | ag l0 =>
              obtain ⟨cs0, rfl, _⟩ := hcv
              exact ⟨cs0, rfl, hqv⟩
          simp only [interp, done] at h
          obtain ⟨rfl, _, rfl⟩ := interp_ret h
          have key : ∀ (es' : Array MapEntry) (cl' : Nat), (Instr.mapUpdate mt (.map (some (β1 id).blk)) vx vy).run P w = .ok () { w with heap := w.heap.setIfInBounds (β1 id).blk (.map es' cl') } →
              All2 (ERep V.T (okOf C β1 w) w i.ty j.ty) (mput (keyEq i.ty) kx q l) es'.toList →
              UOk V.T C bx β w none (put id (.map i.ty j.ty (mput (keyEq i.ty) kx q l)) bx1) ((Instr.mapUpdate mt (.map (some (β1 id).blk)) vx vy).run P w) := by
            intro es' cl' hrun hall
            rw [hrun]
            obtain ⟨g1, g2⟩ := heap_set (o' := .map es' cl') h1
            obtain ⟨M2, X2⟩ := M1.set (w' := { w with heap := w.heap.setIfInBounds (β1 id).blk (.map es' cl') }) id (.map i.ty j.ty (mput (keyEq i.ty) kx q l)) (β1 id) rfl rfl rfl (by simp) (fun b hb1 hb2 => g2 b (by rintro rfl; exact hb2 (by rw [hown]; simp)))
              (fun b hb => .inl hb) (M1.nodup id) (fun b0 hb0 => by rw [hb] at hb0; cases hb0; exact ⟨rfl, rfl, rfl⟩) (fun X => by
                refine ⟨by rw [upd_same]; exact hown, es', cl', by rw [upd_same]; exact g1, ?_⟩
                exact hall.imp fun p e hp => ⟨AVRep.later X.later _ _ hp.1, hp.2.later X.later⟩)
            exact ⟨_, _, rfl, rfl, M2, X1.trans X2⟩
          rcases find_ok hk I.kind hkv h2 0 with ⟨k1, k2, k3⟩ | ⟨jj, y1, e, k1, k2, k3, k4, k5, k6⟩
          · refine key (es.push { key := vx, val := vy, born := clock }) (clock + 1) ?_ ?_
            · simp [Instr.mapUpdate, run_underlying hm, MapKept.run_getObj_map h1, run_checkKey I.under hik, run_findKey I.under k2, MapKept.run_setObj_map _ h1, Result.andThen]
            · rw [k3 q, Array.toList_push]
              exact h2.append (.cons ⟨hkv, hv⟩ .nil)
          · have hjj : es[jj]? = some e := by simpa using k3
            refine key (es.modify jj fun e => { e with key := vx, val := vy }) clock ?_ ?_
            · simp [Instr.mapUpdate, run_underlying hm, MapKept.run_getObj_map h1, run_checkKey I.under hik, run_findKey I.under k2, hjj, k5, run_keyThatStays hik, MapKept.run_setObj_map _ h1, Result.andThen]
            · rw [Array.toList_modify]
              exact k6 q _ hkv hv
        · simp [interp] at h
      · simp [interp] at h
    · simp [interp] at h
  · simp [interp] at h
end
end Go.Ab
namespace Go.Ab
open Go
section
variable {V : Env} {P : Program} {C : Ctx} {bx : List (Nat × Box V.E)} {β : Nat → BI} {w : World}
variable {res : Option (SV V.E)} {cs : List Cd} {bx' : List (Nat × Box V.E)} {rs ws : List Nat} {ac : Acc}
theorem All2.of_map {α β γ : Type} {R : β → γ → Prop} {f : α → β} : ∀ {l : List α} {m : List γ}, All2 R (l.map f) m → All2 (fun x c => R (f x) c) l m
  | [], _, .nil => .nil
  | _ :: _, _, .cons h t => .cons h (All2.of_map t)
theorem run_copy_sz {dT sT ty elem : TypeId} {sz : Nat} (g dLen dCap : Nat) (a : Addr) (sCap : Nat) (cur : Array Value) (t : TypeId) (cs : List Value)
    (hu : P.underlying dT = some (.slice elem)) (hs : (P.info? elem).map (·.size) = some sz) (hg : w.heap[g]? = some (.cells cur t (0, 0))) (hn : cs.length = dLen * sz)
    (hsrc : ∀ j v, cs[j]? = some v → w.cell? (a.add j) = some v) (hfit : cs.length ≤ cur.size) (h1 : ∀ v ∈ cs, v.oneCell' = true) :
    (Builtin.copy_ #[dT, sT] ty #[.slice (some ⟨g, 0, none⟩) dLen dCap, .slice (some a) dLen sCap]).run P w = .ok (goInt dLen) (w.setRow g (cs ++ cur.toList.drop cs.length).toArray) := by
  have hl := run_loadCells_list (P := P) w a cs hsrc
  have hst := run_storeCells_at P g 0 t cs 0 cur w hg (by simpa using hfit) h1
  cases hq : P.info? elem with
  | none => simp [hq] at hs
  | some i =>
    have hi : i.size = sz := by simpa [hq] using hs
    simp only [Nat.add_zero, List.take_zero, List.nil_append, Nat.zero_add] at hst
    simp [Builtin.copy_, run_underlying hu, Builtin.lenOf, Builtin.firstCells, sizeOf, typeInfo, hq, hi, ← hn, hl, hst]
theorem run_copy_zero {dT sT ty elem : TypeId} {sz : Nat} (d a : Option Addr) (dCap sCap : Nat) (hu : P.underlying dT = some (.slice elem)) (hs : (P.info? elem).map (·.size) = some sz) :
    (Builtin.copy_ #[dT, sT] ty #[.slice d 0 dCap, .slice a 0 sCap]).run P w = .ok (goInt 0) w := by
  cases hq : P.info? elem with
  | none => simp [hq] at hs
  | some i =>
    have hl : ∀ a : Addr, (loadCells a 0).run P w = .ok #[] w := fun a => by
      have := run_loadCells_list (P := P) w a [] (by simp)
      simpa using this
    cases d <;> cases a <;> simp [Builtin.copy_, run_underlying hu, Builtin.lenOf, Builtin.firstCells, sizeOf, typeInfo, hq, hl, storeCells]
theorem mem_flat {ok : Nat → Prop} {sz : Nat} : ∀ {xs : List AV} {b o : Nat}, AVMem ok w sz xs b o → ∃ css : List (List Value), All2 (fun x c => AVRep ok w x c ∧ c.length = sz) xs css ∧ css.flatten.length = xs.length * sz ∧
    (xs ≠ [] → ok b) ∧ ∀ j v, css.flatten[j]? = some v → w.cell? ⟨b, o + j, none⟩ = some v
  | [], _, _, _ => ⟨[], .nil, by simp, by simp, by simp⟩
  | x :: xs, b, o, h => by
    obtain ⟨⟨c, h1, h2, h3⟩, h4⟩ := h
    obtain ⟨css, k1, k2, _, k4⟩ := mem_flat h4
    refine ⟨c :: css, .cons ⟨h1, h2⟩ k1, by simp [h2, k2, Nat.add_mul]; omega, fun _ => h3.1, fun j v hj => ?_⟩
    rw [List.flatten_cons, List.getElem?_append] at hj
    split at hj
    · exact h3.2 j v hj
    · rename_i hlt
      have := k4 (j - c.length) v hj
      rw [show o + sz + (j - c.length) = o + j by omega] at this
      exact this
theorem avs_one {ok : Nat → Prop} : ∀ (x : AV) (c : List Value), AVRep ok w x c → ∀ v ∈ c, v.oneCell' = true
  | .int _ _, c, h, v, hv => by simp only [AVRep] at h; subst h; simp at hv; subst hv; rfl
  | .bool _, c, h, v, hv => by simp only [AVRep] at h; subst h; simp at hv; subst hv; rfl
  | .str _, c, h, v, hv => by simp only [AVRep] at h; subst h; simp at hv; subst hv; rfl
  | .sl _ _ _, c, h, v, hv => by
    simp only [AVRep] at h
    obtain ⟨a, cap, h, _⟩ := h
    subst h; simp at hv; subst hv; rfl
  | .ag xs, c, h, v, hv => all_one xs c h v hv
where all_one : ∀ (xs : List AV) (c : List Value), AVAll ok w xs c → ∀ v ∈ c, v.oneCell' = true
  | [], c, h, v, hv => by simp only [AVAll] at h; subst h; simp at hv
  | x :: xs, c, h, v, hv => by
    simp only [AVAll] at h
    obtain ⟨c1, c2, rfl, h1, h2⟩ := h
    rcases List.mem_append.1 hv with hv | hv
    · exact avs_one x c1 h1 v hv
    · exact all_one xs c2 h2 v hv
theorem copy_ok (M : MemOk V.T C bx β w) {t u e : TypeId} {i : TI V.E} {info : TypeInfo} {d : TypeDesc} {z : Value} (ht : P.underlying t = some (.slice e)) (I : InfoOk V P e i info d z) {a b : SV V.E} {va vb : Value}
    (ha : SR V C bx β w a va) (hb : SR V C bx β w b vb) (ty : TypeId) (h : interp V bx (copyTodo V i a b) rs ws = some (res, cs, bx', ac)) (hc : AllP cs) :
    VOk V.T C bx β w res bx' ((Builtin.copy_ #[t, u] ty #[va, vb]).run P w) := by
  unfold copyTodo at h
  split at h
  · rename_i id ver l
    obtain ⟨bx1, β1, ls', rs1, ws1, M1, X1, R1, h, _⟩ := frz_ok [l] [vb] bx β M (.cons hb .nil) _ _ _ h
    split at h
    · rename_i t' st ys
      simp only [interp] at h
      split at h
      · rename_i e0 t0 xs v0 hbx
        split at h
        · rename_i hv
          simp only [Bool.and_eq_true, decide_eq_true_eq] at hv
          obtain ⟨hv, rfl⟩ := hv
          split at h
          · rename_i hty
            subst hty
            simp only [interp] at h
            obtain ⟨rfl, rfl, rfl⟩ := interp_ret h
            have hlen : ys.length = xs.length := hc.1
            have ha' : LeafRep V.T bx1 β1 (okOf C β1 w) w (.ar id ver) va := LeafRep.ext X1 _ _ ha
            simp only [LeafRep, hbx] at ha'
            have hva := ha'.2.2 (eq_of_beq' hv)
            obtain ⟨hown, css, ⟨hl, ho⟩, hx⟩ := M1.boxes id _ hbx
            cases R1 with
            | cons r1 _ =>
              simp only [LeafRep, SlRep, AVRep, List.cons.injEq, and_true, List.length_map] at r1
              obtain ⟨sa, scap, rfl, hcap, hnil, _, hmem⟩ := r1
              have hsz : (P.info? e).map (·.size) = some i.size := by rw [I.inf]; simp [I.size]
              have hty : i.ty.sz V.T = i.size := I.ty
              rcases ho with ⟨ho1, ho2⟩ | ⟨g, cap, cur, ho1, _, hg, hcap2, hmax, hcs, htake⟩
              · have hx0 : xs = [] := List.length_eq_zero_iff.1 ho2
                have hy0 : ys = [] := List.length_eq_zero_iff.1 (by rw [hlen, ho2])
                subst hx0 hy0
                rw [hva, ho1]
                have hrun := run_copy_zero (P := P) (w := w) (dT := t) (sT := u) (ty := ty) (elem := e) none sa 0 scap ht hsz
                have hput : put id (Box.arr e0 i.ty (castT rfl []) v0 false) bx1 = put id (Box.arr e0 i.ty [] v0 false) bx1 := rfl
                rw [hput]
                obtain ⟨M2, X2⟩ := M1.set (w' := w) id (.arr e0 i.ty [] v0 false) (β1 id) rfl rfl rfl (Nat.le_refl _) (fun _ _ _ => rfl) (fun x hx => .inl hx) (M1.nodup id)
                  (fun b0 h0 => by rw [hbx] at h0; cases h0; exact ⟨rfl, Nat.le_refl _, fun _ => ⟨rfl, rfl⟩⟩)
                  (fun X => ⟨by rw [upd_same]; exact hown, by rw [upd_same]; exact ArrOwn.later X.later ⟨css, ⟨hl, .inl ⟨ho1, ho2⟩⟩, hx⟩ fun _ _ => rfl⟩)
                exact ⟨_, w, _, _, rfl, hrun, rfl, M2, X1.trans X2⟩
              · have hkey : ∃ cy : List (List Value), All2 (fun x c => AVRep (okOf C β1 w) w (i.ty.av V.T x) c ∧ c.length = i.ty.sz V.T) ys cy ∧ cy.flatten.length = ys.length * i.ty.sz V.T ∧
                    (ys = [] ∨ ∃ ad, sa = some ad ∧ ad.spot = none ∧ okOf C β1 w ad.block ∧ ∀ j v, cy.flatten[j]? = some v → w.cell? ⟨ad.block, ad.off + j, none⟩ = some v) := by
                  cases sa with
                  | none =>
                    have := hnil rfl
                    have hy0 : ys = [] := List.length_eq_zero_iff.1 (by omega)
                    subst hy0
                    exact ⟨[], .nil, by simp, .inl rfl⟩
                  | some ad =>
                    obtain ⟨hsp, hm⟩ := hmem ad rfl
                    obtain ⟨cy, k1, k2, k3, k4⟩ := mem_flat hm
                    have k1' : All2 (fun x c => AVRep (okOf C β1 w) w (i.ty.av V.T x) c ∧ c.length = i.ty.sz V.T) ys cy := All2.of_map k1
                    refine ⟨cy, k1', by simpa using k2, ?_⟩
                    by_cases hy : ys = []
                    · exact .inl hy
                    · have hy' : ys.map (i.ty.av V.T) ≠ [] := by simpa using hy
                      exact .inr ⟨ad, rfl, hsp hy', k3 hy', k4⟩
                obtain ⟨cy, hcy, hcl, hsrc⟩ := hkey
                have hone : ∀ v ∈ cy.flatten, v.oneCell' = true := by
                  intro v hv
                  obtain ⟨c, hc1, hc2⟩ := List.mem_flatten.1 hv
                  obtain ⟨m, hm⟩ := List.getElem?_of_mem hc1
                  obtain ⟨x, _, q⟩ := hcy.get' m c hm
                  exact avs_one _ c q.1 v hc2
                have hfit : cy.flatten.length ≤ cur.size := by
                  rw [hcl, hlen, hcs]
                  exact Nat.mul_le_mul_right _ hcap2
                have hgo : g ∈ (β1 id).own := by rw [hown, ho1]; simp [Value.ownBlock]
                have hrun : (Builtin.copy_ #[t, u] ty #[va, .slice sa ys.length scap]).run P w = .ok (goInt ys.length) (w.setRow g (cy.flatten ++ cur.toList.drop cy.flatten.length).toArray) := by
                  rw [hva, ho1, hlen]
                  rcases hsrc with hy | ⟨ad, rfl, hsp, _, hsrc⟩
                  · subst hy
                    cases hcy
                    have hx0 : xs.length = 0 := hlen.symm
                    rw [hx0]
                    rw [run_copy_zero (P := P) (w := w) (dT := t) (sT := u) (ty := ty) (elem := e) (some ⟨g, 0, none⟩) sa cap scap ht hsz]
                    congr 1
                    simp only [List.flatten_nil, List.nil_append, List.length_nil, List.drop_zero, Array.toArray_toList]
                    exact (setRow_self w g cur e0 (0, 0) hg).symm
                  · refine run_copy_sz (P := P) (w := w) g xs.length cap ad scap cur e0 cy.flatten ht hsz hg (by rw [hcl, hlen, hty]) (fun j v hj => ?_) hfit hone
                    have hadd : ad.add j = ⟨ad.block, ad.off + j, none⟩ := by
                      obtain ⟨ab, ao, asp⟩ := ad
                      simp only at hsp
                      subst hsp
                      unfold Addr.add; split <;> simp_all
                    rw [hadd]
                    exact hsrc j v hj
                obtain ⟨M2, X2⟩ := M1.set (w' := w.setRow g (cy.flatten ++ cur.toList.drop cy.flatten.length).toArray) id (.arr e0 i.ty ys v0 false) (β1 id) rfl rfl rfl (by simp)
                  (fun x _ hx => setRow_other _ _ _ _ (by rintro rfl; exact hx hgo)) (fun x hx => .inl hx) (M1.nodup id)
                  (fun b0 h0 => by rw [hbx] at h0; cases h0; exact ⟨rfl, Nat.le_refl _, fun _ => ⟨rfl, hlen⟩⟩)
                  (fun X => ⟨by rw [upd_same]; exact hown, by
                    rw [upd_same]
                    refine ⟨cy, ⟨hcl, .inr ⟨g, cap, _, by rw [ho1, hlen], Nat.zero_le _, setRow_heap _ _ _ _ _ _ hg, by omega, hmax, ?_, ?_⟩⟩, hcy.imp fun x c k => ⟨AVRep.later X.later _ _ k.1, k.2⟩⟩
                    · simp only [List.size_toArray, List.length_append, List.length_drop, Array.length_toList]
                      rw [← hcs]; omega
                    · show ((cy.flatten ++ cur.toList.drop cy.flatten.length).toArray.toList).take _ = _
                      rw [← hcl]
                      simp⟩)
                exact ⟨_, _, _, _, rfl, hrun, rfl, M2, X1.trans X2⟩
          · simp [interp] at h
        · simp [interp] at h
      · simp [interp] at h
    · simp [interp] at h
  · simp [interp] at h
theorem appendF_ok (M : MemOk V.T C bx β w) {t u e e' : TypeId} (hu : P.underlying t = some (.slice e)) (hu2 : P.underlying u = some (.slice e')) {i : TI V.E} {info : TypeInfo} {d : TypeDesc} {z : Value} (I : InfoOk V P e i info d z)
    {dst : Nat} {a b : SV V.E} {va vb : Value} (ha : SR V C bx β w a va) (hb : SR V C bx β w b vb) (ty : TypeId)
    (h : interp V bx (appendF V dst e i a b) rs ws = some (res, cs, bx', ac)) (hc : AllP cs) :
    VOk V.T C bx β w res bx' ((Builtin.append_ #[t, u] ty #[va, vb]).run P w) := by
  unfold appendF at h
  split at h
  · rename_i id ver
    obtain ⟨bx1, β1, ls', rs1, ws1, M1, X1, R1, h, _⟩ := frz_ok [.ar id ver] [vb] bx β M (.cons hb .nil) _ _ _ h
    split at h
    · rename_i l
      cases R1 with
      | cons r1 _ =>
        obtain ⟨β', w', v, x, h1, h2, h3, h4, h5⟩ := append_ok M1 hu hu2 I (SVRep.ext X1 ha) (show SR V C bx1 β1 w (.cv (.one l)) vb from r1) ty h hc
        exact ⟨β', w', v, x, h1, h2, h3, h4, X1.trans h5⟩
    · simp [interp] at h
  · exact append_ok M hu hu2 I ha hb ty h hc
end
end Go.Ab
