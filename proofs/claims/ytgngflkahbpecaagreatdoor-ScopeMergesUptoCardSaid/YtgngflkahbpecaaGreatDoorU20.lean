/- What scope.Merge returns; put over twice it is put over once. What is put over a list twice is put over it once: the law's function returns true. The document's merging of modifiers is the program's, where paths are short: the law's function returns true. Modifiers put over others: program and document agree; the law's function returns true. Conditions: none beyond those that each theorem names. -/
import Derived.Test.YtgngflkahbpecaaGreatDoorU19
namespace Go.Ab
open Go
set_option linter.unusedVariables false
def allPath (l : List ApiMod) : Bool := (fst (fun k => !bPath (l.getD k ApiModZ).Path) 0 l.length).isNone
def mspec (o i : List ApiMod) : List ApiMod × Int :=
  if 8 < o.length ∨ 8 < i.length then ([], 3) else if (allPath o && allPath i) = false then ([], 1) else if ¬ ((ps o).Nodup ∧ (ps i).Nodup) then ([], 5) else if 8 < (mrg o i).length then ([], 3) else (mrg o i, 0)
theorem fst_two (p : Nat → Bool) : fst p 0 2 = if p 0 then some 0 else if p 1 then some 1 else none := rfl
theorem mrg_mem {o i : List ApiMod} {m : ApiMod} (h : m ∈ mrg o i) : m ∈ o ∨ m ∈ i := by
  unfold mrg at h
  rcases List.mem_append.1 h with h | h
  · obtain ⟨x, hx, rfl⟩ := List.mem_map.1 h
    cases ha : atP o x.Path with
    | none => rw [pick_none ha]; exact .inr hx
    | some k => rw [pick_some ha, getD_at o k _ (atP_some ha).1]; exact .inl (List.getElem_mem _)
  · exact .inl (List.mem_filter.1 h).1
theorem mrg_len (o i : List ApiMod) : (mrg o i).length ≤ i.length + o.length := by
  unfold mrg
  have := List.length_filter_le (fun x : ApiMod => !decide (x.Path ∈ ps i)) o
  simp only [List.length_append, List.length_map]; omega
theorem scopeMerge_is (o i : List ApiMod) (ho : ∀ m ∈ o, OkM m) (hi : ∀ m ∈ i, OkM m) (hlo : o.length < 9223372036854775807) (hli : i.length < 9223372036854775807) : scopeMerge o i = some (mspec o i) := by
  have hmb : maxBytes = 140737488355328 := rfl
  have hmem : ∀ k, k < 2 → ∀ m ∈ [o, i].getD k [], OkM m := by
    intro k hk
    match k, hk with
    | 0, _ => exact ho
    | 1, _ => exact hi
  have hlen : ∀ k, k < 2 → ([o, i].getD k []).length < 9223372036854775807 := by
    intro k hk
    match k, hk with
    | 0, _ => exact hlo
    | 1, _ => exact hli
  unfold scopeMerge
  have h1 := iter_searchE (f := fun v => scopeMergeL1 o i v) (e := fun k => (k : Int)) (p := fun k => decide (8 < ([o, i].getD k []).length)) (q := fun _ => (([] : List ApiMod), (3 : Int))) 2 0 (fun k _ hk => by
    have hr : inRange (k : Int) [o, i].length := ⟨by omega, by simp; omega⟩
    unfold scopeMergeL1
    rw [if_pos (by simp; omega), need_of hr]
    simp only [Int.toNat_natCast]
    rw [wi64 (by omega) (by omega)]
    by_cases h8 : 8 < ([o, i].getD k []).length
    · rw [if_pos (decide_eq_true (by omega)), if_pos (decide_eq_true h8)]
    · rw [if_neg (by rw [decide_eq_false (by omega)]; simp), if_neg (by rw [decide_eq_false h8]; simp)]; simp) (by unfold scopeMergeL1; rw [if_neg (by simp)])
  rw [show ((0 : Int)) = ((0 : Nat) : Int) from rfl, h1, fst_two]
  unfold mspec
  by_cases e1 : 8 < o.length
  · rw [if_pos (show decide (8 < ([o, i].getD 0 []).length) = true from decide_eq_true e1), if_pos (.inl e1)]; rfl
  rw [if_neg (show ¬ decide (8 < ([o, i].getD 0 []).length) = true by rw [show [o, i].getD 0 [] = o from rfl, decide_eq_false e1]; simp)]
  by_cases e2 : 8 < i.length
  · rw [if_pos (show decide (8 < ([o, i].getD 1 []).length) = true from decide_eq_true e2), if_pos (.inr e2)]; rfl
  rw [if_neg (show ¬ decide (8 < ([o, i].getD 1 []).length) = true by rw [show [o, i].getD 1 [] = i from rfl, decide_eq_false e2]; simp), if_neg (by omega)]
  simp only [Option.bind_some]
  have h2 := iter_searchE (f := fun v => scopeMergeL2 o i v) (e := fun k => (k : Int)) (p := fun k => !allPath ([o, i].getD k [])) (q := fun _ => (([] : List ApiMod), (1 : Int))) 2 0 (fun k _ hk => by
    have hr : inRange (k : Int) [o, i].length := ⟨by omega, by simp; omega⟩
    have hm := hmem k (by omega)
    have hl := hlen k (by omega)
    unfold scopeMergeL2
    rw [if_pos (by simp; omega), need_of hr]
    simp only [Int.toNat_natCast]
    rw [wi64 (by omega) (by omega)]
    have h3 := iter_searchE (f := fun v : Int × Int => scopeMergeL3 o i k v.1 v.2) (e := fun j => ((([o, i].getD k []).length : Int), (j : Int))) (p := fun j => !bPath (([o, i].getD k []).getD j ApiModZ).Path) (q := fun _ => (([] : List ApiMod), (1 : Int))) ([o, i].getD k []).length 0 (fun j _ hj => by
      have hj' : j < ([o, i].getD k []).length := by omega
      have hmj : ([o, i].getD k []).getD j ApiModZ ∈ [o, i].getD k [] := by rw [getD_at _ j _ hj']; exact List.getElem_mem _
      have hr2 : inRange (j : Int) ([o, i].getD k []).length := ⟨by omega, by omega⟩
      unfold scopeMergeL3
      rw [if_pos (decide_eq_true (by omega))]
      simp only [Int.toNat_natCast]
      rw [need_of hr2, scopeIsPath_is _ (hm _ hmj).2]
      simp only [Option.bind_some]
      rw [wi64 (by omega) (by omega)]
      rcases tf (bPath (([o, i].getD k []).getD j ApiModZ).Path) with e | e
      · rw [e]; simp
      · rw [e]; simp) (by unfold scopeMergeL3; rw [if_neg (by simp)])
    rw [show ((0 : Int)) = ((0 : Nat) : Int) from rfl, h3]
    unfold allPath
    cases fst (fun j => !bPath (([o, i].getD k []).getD j ApiModZ).Path) 0 ([o, i].getD k []).length with
    | none => simp
    | some j => simp) (by unfold scopeMergeL2; rw [if_neg (by simp)])
  rw [show ((0 : Int)) = ((0 : Nat) : Int) from rfl, h2, fst_two]
  rcases tf (allPath o) with e3 | e3
  rotate_left
  · rw [if_pos (show (!allPath ([o, i].getD 0 [])) = true by rw [show [o, i].getD 0 [] = o from rfl, e3]; rfl), if_pos (by rw [e3]; rfl)]; rfl
  rw [if_neg (show ¬ (!allPath ([o, i].getD 0 [])) = true by rw [show [o, i].getD 0 [] = o from rfl, e3]; simp)]
  rcases tf (allPath i) with e4 | e4
  rotate_left
  · rw [if_pos (show (!allPath ([o, i].getD 1 [])) = true by rw [show [o, i].getD 1 [] = i from rfl, e4]; rfl), if_pos (by rw [e3, e4]; rfl)]; rfl
  rw [if_neg (show ¬ (!allPath ([o, i].getD 1 [])) = true by rw [show [o, i].getD 1 [] = i from rfl, e4]; simp), if_neg (by rw [e3, e4]; simp)]
  simp only [Option.bind_some]
  obtain ⟨c1, h5, rfl⟩ := isClean_gives o (by omega)
  obtain ⟨c2, h6, rfl⟩ := isClean_gives i (by omega)
  rw [h5, h6]
  unfold scopeMergeJ1
  simp only [Option.bind_some]
  by_cases n1 : (ps o).Nodup
  rotate_left
  · rw [if_pos (by rw [decide_eq_false n1]; rfl), if_pos (fun h => n1 h.1)]
  by_cases n2 : (ps i).Nodup
  rotate_left
  · rw [if_neg (by rw [decide_eq_true n1]; simp), if_pos (by rw [decide_eq_false n2]; rfl), if_pos (fun h => n2 h.2)]
  obtain ⟨r, h7, rfl⟩ := mergeIn_gives o i (by omega) (by omega)
  have hml := mrg_len o i
  rw [if_neg (by rw [decide_eq_true n1]; simp), if_neg (by rw [decide_eq_true n2]; simp), if_neg (fun h => h ⟨n1, n2⟩), h7]
  simp only [Option.bind_some]
  by_cases e8 : 8 < (mrg o i).length
  · rw [if_pos (decide_eq_true (by omega)), if_pos e8]
  · rw [if_neg (by rw [decide_eq_false (by omega)]; simp), if_neg e8, cloneMods_is _ (by omega) fun m hm => (mrg_mem hm).elim (ho m) (hi m)]
    rfl
end Go.Ab
namespace Go.Ab
open Go
set_option linter.unusedVariables false
theorem mrg_nil (l : List ApiMod) : mrg [] l = l := by
  unfold mrg
  rw [List.filter_nil, List.append_nil]
  conv => rhs; rw [← List.map_id l]
  exact List.map_congr_left fun m _ => pick_none (show atP [] m.Path = none from rfl)
end Go.Ab
namespace Go.Ab
open Go
set_option linter.unusedVariables false
theorem dot_iff (c : UInt8) : ((c.toNat : Int) = 46) ↔ (c == 46) = true := by
  rw [beq_iff_eq]
  constructor
  · intro h
    apply UInt8.toNat_inj.1
    have : (46 : UInt8).toNat = 46 := rfl
    omega
  · rintro rfl; rfl
theorem refSplit_is (s : List UInt8) (hs : s.length ≤ 1048576) : isoclineref08Split s = some (pieces [] s) := by
  have hmb : maxBytes = 140737488355328 := rfl
  obtain ⟨r, h1, h2⟩ : Gives (isoclineref08Split s) fun r => r = pieces [] s := by
    unfold isoclineref08Split
    refine Gives.bind (R := fun r => r = pieces [] s) ?_ (fun r h => gives_some.2 h)
    refine gives_iter (f := fun v : Int × Int × List (List UInt8) => isoclineref08SplitL1 s v.1 v.2.1 v.2.2) (fun v => ∃ a k : Nat, v.1 = a ∧ v.2.1 = k ∧ k ≤ s.length + 1 ∧ v.2.2.length ≤ k ∧ (k ≤ s.length → a ≤ k ∧ pieces [] s = v.2.2 ++ pieces ((s.drop a).take (k - a)) (s.drop k)) ∧ (k = s.length + 1 → v.2.2 = pieces [] s)) (fun v => s.length + 1 - v.2.1.toNat) ⟨0, 0, rfl, rfl, by omega, by simp, fun _ => ⟨Nat.le_refl _, by simp⟩, fun h => by omega⟩ ?_
    rintro ⟨v1, v2, v3⟩ ⟨a, k, h1, h2, hk, hl, hI, hE⟩
    simp only at h1 h2 hl hI hE
    subst h1 h2
    show Gives (isoclineref08SplitL1 s (a : Int) (k : Int) v3) _
    unfold isoclineref08SplitL1
    by_cases hle : k ≤ s.length
    · obtain ⟨hak, hp⟩ := hI hle
      rw [if_pos (by simpa using hle)]
      have key : ∀ (hn : k = s.length ∨ k < s.length ∧ (s.getD k 0 == 46) = true), Gives (isoclineref08SplitJ1 s (a : Int) (k : Int) v3) (Round (fun v : Int × Int × List (List UInt8) => ∃ a k : Nat, v.1 = a ∧ v.2.1 = k ∧ k ≤ s.length + 1 ∧ v.2.2.length ≤ k ∧ (k ≤ s.length → a ≤ k ∧ pieces [] s = v.2.2 ++ pieces ((s.drop a).take (k - a)) (s.drop k)) ∧ (k = s.length + 1 → v.2.2 = pieces [] s)) (fun v => s.length + 1 - v.2.1.toNat) ((a : Int), (k : Int), v3) fun r => r = pieces [] s) := by
        intro hn
        show Gives _ _
        unfold isoclineref08SplitJ1 isoclineref08SplitJ2
        rw [need_of (by omega), need_of (by omega), need_of (by omega), need_of (by rw [hmb]; simp only [List.length_singleton]; omega), wi64 (by omega) (by omega)]
        refine gives_some.2 ?_
        rw [round_inl]
        refine ⟨⟨k + 1, k + 1, by simp, by simp, by omega, by simp; omega, fun h => ⟨Nat.le_refl _, ?_⟩, fun h => ?_⟩, by simp only [Int.toNat_natCast]; omega⟩
        · rcases hn with hn | ⟨hn, hc⟩
          · omega
          · rw [hp, List.drop_eq_getElem_cons hn, pieces]
            rw [getD_at s k _ hn] at hc
            rw [if_pos hc]
            simp
        · have hn : k = s.length := by omega
          subst hn
          rw [hp]
          simp [pieces]
      by_cases he : k = s.length
      · rw [if_pos (decide_eq_true (by omega))]
        exact key (.inl he)
      · have hlt : k < s.length := by omega
        rw [if_neg (by rw [decide_eq_false (by omega)]; simp), need_of ⟨by omega, by omega⟩]
        simp only [Int.toNat_natCast]
        by_cases hc : (s.getD k 0 == 46) = true
        · rw [if_pos (decide_eq_true ((dot_iff _).2 hc))]
          exact key (.inr ⟨hlt, hc⟩)
        · rw [if_neg (by rw [decide_eq_false (fun h => hc ((dot_iff _).1 h))]; simp)]
          unfold isoclineref08SplitJ2
          rw [wi64 (by omega) (by omega)]
          refine gives_some.2 ?_
          rw [round_inl]
          refine ⟨⟨a, k + 1, rfl, by simp, by omega, by simp only; omega, fun h => ⟨by omega, ?_⟩, fun h => by omega⟩, by simp only [Int.toNat_natCast]; omega⟩
          rw [getD_at s k _ hlt] at hc
          rw [hp, List.drop_eq_getElem_cons hlt, pieces, if_neg hc]
          have ht := take_succ' (s.drop a) (k - a) 0 (by rw [List.length_drop]; omega)
          rw [show k + 1 - a = k - a + 1 by omega, ht, getD_at _ _ _ (by rw [List.length_drop]; omega), List.getElem_drop]
          simp only [show a + (k - a) = k by omega]
    · rw [if_neg (by simpa using (by omega : ¬ (k : Int) ≤ s.length))]
      refine gives_some.2 ?_
      rw [round_inr]
      exact hE (by omega)
  rw [h1, h2]
theorem fst_all {α : Type} (g : α → Bool) (z : α) : ∀ l : List α, (fst (fun k => !g (l.getD k z)) 0 l.length).isNone = l.all g := by
  intro l
  cases h : fst (fun k => !g (l.getD k z)) 0 l.length with
  | none =>
    have h := fst_none h
    symm
    simp only [Option.isNone_none, List.all_eq_true]
    intro x hx
    obtain ⟨k, hk, e⟩ := List.getElem_of_mem hx
    subst e
    have := h k (Nat.zero_le _) (by omega)
    rw [getD_at l k _ hk] at this
    simpa using this
  | some k =>
    obtain ⟨_, h2, h3, _⟩ := fst_some h
    have hk : k < l.length := by omega
    symm
    simp only [Option.isNone_some]
    rw [List.all_eq_false]
    refine ⟨l[k], List.getElem_mem hk, ?_⟩
    rw [getD_at l k _ hk] at h3
    simpa using h3
theorem refIsPath_is (s : List UInt8) (hs : s.length ≤ 1048576) : isoclineref08IsPath s = some (bPath s) := by
  have hpl : (pieces [] s).length ≤ s.length + 1 := by
    have : ∀ s acc, (pieces acc s).length ≤ s.length + 1 := by
      intro s
      induction s with
      | nil => intro acc; simp [pieces]
      | cons c r ih =>
        intro acc
        unfold pieces
        split
        · have := ih []; simp only [List.length_cons]; omega
        · have := ih (acc ++ [c]); simp only [List.length_cons]; omega
    exact this s []
  unfold isoclineref08IsPath
  rw [refSplit_is s hs]
  simp only [Option.bind_some]
  have := iter_searchE (f := fun v => isoclineref08IsPathL1 (pieces [] s) v) (e := fun k => (k : Int)) (p := fun k => !bSimple ((pieces [] s).getD k [])) (q := fun _ => false) (pieces [] s).length 0 (fun k _ hk => by
    have hk' : k < (pieces [] s).length := by omega
    unfold isoclineref08IsPathL1
    rw [if_pos (by simpa using hk'), need_of (by unfold inRange; omega)]
    simp only [Int.toNat_natCast, refIsSimple_is, Option.bind_some]
    rw [wi64 (by omega) (by omega)]
    rcases tf (bSimple ((pieces [] s).getD k [])) with e | e <;> rw [e] <;> simp) (by unfold isoclineref08IsPathL1; rw [if_neg (by simp)])
  rw [show ((0 : Int)) = ((0 : Nat) : Int) from rfl, this]
  have ha := fst_all bSimple [] (pieces [] s)
  unfold bPath
  rw [← ha]
  cases fst (fun k => !bSimple ((pieces [] s).getD k [])) 0 (pieces [] s).length <;> rfl
theorem refAtPath_is (l : List ApiMod) (p : List UInt8) (hl : l.length < 9223372036854775807) : isoclineref09AtPath l p = some (match atP l p with | some k => (k : Int) | none => -1) := by
  unfold isoclineref09AtPath
  have := iter_searchE (f := fun v => isoclineref09AtPathL1 l p v) (e := fun k => (k : Int)) (p := isAt p l) (q := fun k => (k : Int)) l.length 0 (fun k _ h3 => by
    unfold isoclineref09AtPathL1
    rw [if_pos (by simpa using (by omega : k < l.length)), need_of (by unfold inRange; omega)]
    simp only [Int.toNat_natCast]
    rw [wi64 (by omega) (by omega)]
    unfold isAt
    by_cases h : (l.getD k ApiModZ).Path = p
    · rw [if_pos (by simpa using h), if_pos (by simpa using h)]
    · rw [if_neg (by simpa using h), if_neg (by simpa using h)]; simp) (by unfold isoclineref09AtPathL1; rw [if_neg (by simp)])
  rw [show ((0 : Int)) = ((0 : Nat) : Int) from rfl, this]
  unfold atP
  cases fst (isAt p l) 0 l.length <;> rfl
theorem fst_first {p : Nat → Bool} : ∀ {n i j : Nat}, i ≤ j → j < i + n → p j = true → (∀ k, i ≤ k → k < j → p k = false) → fst p i n = some j
  | 0, _, _, h1, h2, _, _ => by omega
  | n + 1, i, j, h1, h2, hp, hn => by
    unfold fst
    rcases Nat.lt_or_ge i j with h | h
    · rw [if_neg (by rw [hn i (Nat.le_refl _) h]; simp)]
      exact fst_first h (by omega) hp fun k hk1 hk2 => hn k (by omega) hk2
    · obtain rfl : i = j := by omega
      rw [if_pos hp]
theorem fst_nil {p : Nat → Bool} : ∀ {n i : Nat}, (∀ k, i ≤ k → k < i + n → p k = false) → fst p i n = none
  | 0, _, _ => rfl
  | n + 1, i, h => by
    unfold fst
    rw [if_neg (by rw [h i (Nat.le_refl _) (by omega)]; simp)]
    exact fst_nil fun k h1 h2 => h k (by omega) (by omega)
theorem atP_snoc (l : List ApiMod) (x : ApiMod) (p : List UInt8) : atP (l ++ [x]) p = match atP l p with | some k => some k | none => if x.Path = p then some l.length else none := by
  have hget : ∀ k, k < l.length → (l ++ [x]).getD k ApiModZ = l.getD k ApiModZ := fun k hk => by
    rw [getD_at _ k _ (by simp; omega), getD_at _ k _ hk, List.getElem_append_left hk]
  have hlast : (l ++ [x]).getD l.length ApiModZ = x := by
    rw [getD_at _ _ _ (by simp), List.getElem_append_right (Nat.le_refl _)]; simp
  cases h : atP l p with
  | some k =>
    obtain ⟨_, h2, h3, h4⟩ := fst_some h
    have hk : k < l.length := by omega
    refine fst_first (Nat.zero_le _) (by simp; omega) ?_ fun j _ hj => ?_
    · rw [isAt, hget k hk]; exact h3
    · rw [isAt, hget j (by omega)]; exact h4 j (Nat.zero_le _) hj
  | none =>
    have h := fst_none h
    simp only
    split
    · rename_i e
      refine fst_first (Nat.zero_le _) (by simp) ?_ fun j _ hj => ?_
      · rw [isAt, hlast]; exact decide_eq_true e
      · rw [isAt, hget j hj]; exact h j (Nat.zero_le _) (by omega)
    · rename_i e
      refine fst_nil fun j _ hj => ?_
      simp at hj
      rcases Nat.lt_or_ge j l.length with hj2 | hj2
      · rw [isAt, hget j hj2]; exact h j (Nat.zero_le _) (by omega)
      · obtain rfl : j = l.length := by omega
        rw [isAt, hlast]; exact decide_eq_false e
theorem pick_snoc (l : List ApiMod) (x m : ApiMod) : pick (l ++ [x]) m = match atP l m.Path with | some _ => pick l m | none => if x.Path = m.Path then x else m := by
  cases h : atP l m.Path with
  | some k =>
    have h1 := atP_snoc l x m.Path
    rw [h] at h1
    obtain ⟨hk, _, _⟩ := atP_some h
    rw [pick_some h1, pick_some h, getD_at _ k _ (by simp; omega), getD_at _ k _ hk, List.getElem_append_left hk]
  | none =>
    have h1 := atP_snoc l x m.Path
    rw [h] at h1
    simp only at h1 ⊢
    split
    · rename_i e
      rw [if_pos e] at h1
      rw [pick_some h1, getD_at _ _ _ (by simp), List.getElem_append_right (Nat.le_refl _)]
      simp
    · rename_i e
      rw [if_neg e] at h1
      exact pick_none h1
theorem refOver_is (o i : List ApiMod) (ho : (ps o).Nodup) (hi : (ps i).Nodup) (hlo : o.length ≤ 8) (hli : i.length ≤ 8) : isoclineref09Over o i = some (mrg o i) := by
  have hmb : maxBytes = 140737488355328 := rfl
  unfold isoclineref09Over
  rw [need_of (by rw [hmb]; simp only [List.length_nil]; omega)]
  obtain ⟨r, h1, h2⟩ : Gives (iter (fun v : Int × List ApiMod => isoclineref09OverL1 o i v.1 v.2) ((0 : Int), [] ++ i)) fun r => r = mrg o i := by
    refine iter_inv (f := fun v : Int × List ApiMod => isoclineref09OverL1 o i v.1 v.2) (fun k v => v = mrg (o.take k) i) (n := o.length) ?_ ?_ o.length 0 _ (by omega) (by rw [List.take_zero, mrg_nil]; rfl)
    · intro k v hk hv
      subst hv
      have hml := mrg_len (o.take k) i
      rw [List.length_take] at hml
      have ht := take_succ' o k ApiModZ hk
      unfold isoclineref09OverL1 isoclineref09OverJ1
      rw [if_pos (by simpa using hk), need_of (by unfold inRange; omega)]
      simp only [Int.toNat_natCast, ApiModEta_eq]
      rw [refAtPath_is i _ (by omega)]
      simp only [Option.bind_some]
      have hnot : atP (o.take k) (o.getD k ApiModZ).Path = none := by
        cases hq : atP (o.take k) (o.getD k ApiModZ).Path with
        | none => rfl
        | some j =>
          obtain ⟨_, _, hm⟩ := atP_some hq
          exfalso
          have hs : (ps (o.take (k + 1))).Sublist (ps o) := (List.take_sublist _ _).map _
          have := ho.sublist hs
          rw [ht] at this
          simp only [ps, List.map_append, List.map_cons, List.map_nil, List.nodup_append] at this
          exact this.2.2 _ hm _ (List.mem_singleton.2 rfl) rfl
      cases ha : atP i (o.getD k ApiModZ).Path with
      | none =>
        have hni := atP_none ha
        rw [if_neg (by simp), need_of (by rw [hmb]; simp only [List.length_singleton]; omega), wi64 (by omega) (by omega)]
        refine ⟨_, rfl, ?_⟩
        rw [ht]
        unfold mrg
        rw [List.filter_append, ← List.append_assoc]
        congr 1
        · congr 1
          refine List.map_congr_left fun m hm => ?_
          rw [pick_snoc]
          cases hq : atP (o.take k) m.Path with
          | some j => rfl
          | none =>
            simp only
            rw [if_neg, pick_none hq]
            intro e
            exact hni (by rw [e]; exact List.mem_map_of_mem hm)
        · rw [List.filter_cons, if_pos (by rw [decide_eq_false hni]; rfl)]; rfl
      | some j =>
        obtain ⟨hj, hjp, hmem⟩ := atP_some ha
        have hml2 : j < (mrg (o.take k) i).length := by unfold mrg; rw [List.length_append, List.length_map]; omega
        simp only
        rw [if_pos (decide_eq_true (by omega)), need_of ⟨by omega, by omega⟩, wi64 (by omega) (by omega)]
        refine ⟨_, rfl, ?_⟩
        simp only [Int.toNat_natCast]
        rw [ht]
        unfold mrg
        rw [List.filter_append, List.set_append_left _ _ (by rw [List.length_map]; exact hj)]
        rw [show List.filter (fun x => !decide (x.Path ∈ ps i)) [o.getD k ApiModZ] = [] by rw [List.filter_cons, if_neg (by rw [decide_eq_true hmem]; simp)]; rfl, List.append_nil]
        congr 1
        apply List.ext_getElem
        · simp
        · intro q hq1 hq2
          rw [List.getElem_set]
          simp only [List.length_set, List.length_map] at hq1
          rw [List.getElem_map, List.getElem_map, pick_snoc]
          by_cases hqj : j = q
          · subst hqj
            rw [getD_at i j _ hj] at hjp
            rw [if_pos rfl, hjp, hnot]
            simp
          · rw [if_neg hqj]
            cases hz : atP (o.take k) i[q].Path with
            | some z => rfl
            | none =>
              simp only
              rw [if_neg, pick_none hz]
              intro e
              have hn := List.pairwise_iff_getElem.1 hi
              have hq' : q < (ps i).length := by rw [List.length_map]; exact hq1
              have hj' : j < (ps i).length := by rw [List.length_map]; exact hj
              rw [getD_at i j _ hj] at hjp
              rcases Nat.lt_or_gt_of_ne hqj with h | h
              · exact hn j q hj' hq' h (by rw [List.getElem_map, List.getElem_map, hjp, e])
              · exact hn q j hq' hj' h (by rw [List.getElem_map, List.getElem_map, hjp, e])
    · intro v hv
      subst hv
      unfold isoclineref09OverL1
      rw [if_neg (by simp)]
      exact ⟨_, rfl, by rw [List.take_length]⟩
  rw [h1, h2]
  rfl
end Go.Ab
namespace Go.Ab
open Go
set_option linter.unusedVariables false
theorem nodup_iff (l : List ApiMod) : (ps l).Nodup ↔ (fst (fun k => (atP (l.take k) (l.getD k ApiModZ).Path).isSome) 0 l.length).isNone = true := by
  have step : ∀ k, k < l.length → ((ps (l.take (k + 1))).Nodup ↔ (ps (l.take k)).Nodup ∧ (atP (l.take k) (l.getD k ApiModZ).Path).isSome = false) := by
    intro k hk
    rw [take_succ' l k ApiModZ hk]
    simp only [ps, List.map_append, List.map_cons, List.map_nil, List.nodup_append]
    constructor
    · rintro ⟨h1, _, h2⟩
      refine ⟨h1, ?_⟩
      cases ha : atP (l.take k) (l.getD k ApiModZ).Path with
      | none => rfl
      | some j => exact (h2 _ (atP_some ha).2.2 _ (List.mem_singleton.2 rfl) rfl).elim
    · rintro ⟨h1, h2⟩
      refine ⟨h1, by simp, fun a ha b hb e => ?_⟩
      rw [List.mem_singleton] at hb
      subst hb
      subst e
      have := atP_iff.2 ha
      rw [h2] at this
      cases this
  have all : ∀ k, k ≤ l.length → ((ps (l.take k)).Nodup ↔ ∀ j, j < k → (atP (l.take j) (l.getD j ApiModZ).Path).isSome = false) := by
    intro k
    induction k with
    | zero => intro _; simp [ps]
    | succ k ih =>
      intro hk
      rw [step k (by omega), ih (by omega)]
      constructor
      · rintro ⟨h1, h2⟩ j hj
        rcases Nat.lt_or_ge j k with h | h
        · exact h1 j h
        · obtain rfl : j = k := by omega
          exact h2
      · intro h
        exact ⟨fun j hj => h j (by omega), h k (by omega)⟩
  have := all l.length (Nat.le_refl _)
  rw [List.take_length] at this
  rw [this]
  cases h : fst (fun k => (atP (l.take k) (l.getD k ApiModZ).Path).isSome) 0 l.length with
  | none =>
    have h := fst_none h
    simp only [Option.isNone_none, iff_true]
    intro j hj
    exact h j (Nat.zero_le _) (by omega)
  | some k =>
    obtain ⟨_, h2, h3, _⟩ := fst_some h
    simp only [Option.isNone_some, Bool.false_eq_true, iff_false]
    intro hj
    rw [hj k (by omega)] at h3
    cases h3
theorem refMerge_is (o i : List ApiMod) (ho : ∀ m ∈ o, m.Path.length ≤ 1048576) (hi : ∀ m ∈ i, m.Path.length ≤ 1048576) (hlo : o.length < 9223372036854775807) (hli : i.length < 9223372036854775807) : isoclineref09Merge o i = some (mspec o i) := by
  have hmem : ∀ k, k < 2 → ∀ m ∈ [o, i].getD k [], m.Path.length ≤ 1048576 := by
    intro k hk
    match k, hk with
    | 0, _ => exact ho
    | 1, _ => exact hi
  unfold isoclineref09Merge isoclineref09MergeJ1 mspec
  by_cases e1 : 8 < o.length
  · rw [if_pos (decide_eq_true (by omega)), if_pos (.inl e1)]
  rw [if_neg (by rw [decide_eq_false (by omega)]; simp)]
  by_cases e2 : 8 < i.length
  · rw [if_pos (decide_eq_true (by omega)), if_pos (.inr e2)]
  rw [if_neg (by rw [decide_eq_false (by omega)]; simp), if_neg (by omega)]
  have hlen : ∀ k, k < 2 → ([o, i].getD k []).length ≤ 8 := by
    intro k hk
    match k, hk with
    | 0, _ => show o.length ≤ 8; omega
    | 1, _ => show i.length ≤ 8; omega
  have h2 := iter_searchE (f := fun v => isoclineref09MergeL1 o i v) (e := fun k => (k : Int)) (p := fun k => !allPath ([o, i].getD k [])) (q := fun _ => (([] : List ApiMod), (1 : Int))) 2 0 (fun k _ hk => by
    have hr : inRange (k : Int) [o, i].length := ⟨by omega, by simp; omega⟩
    have hm := hmem k (by omega)
    have hl := hlen k (by omega)
    unfold isoclineref09MergeL1
    rw [if_pos (by simp; omega), need_of hr]
    simp only [Int.toNat_natCast]
    rw [wi64 (by omega) (by omega)]
    have h3 := iter_searchE (f := fun v : Int × Int => isoclineref09MergeL2 o i k v.1 v.2) (e := fun j => ((([o, i].getD k []).length : Int), (j : Int))) (p := fun j => !bPath (([o, i].getD k []).getD j ApiModZ).Path) (q := fun _ => (([] : List ApiMod), (1 : Int))) ([o, i].getD k []).length 0 (fun j _ hj => by
      have hj' : j < ([o, i].getD k []).length := by omega
      have hmj : ([o, i].getD k []).getD j ApiModZ ∈ [o, i].getD k [] := by rw [getD_at _ j _ hj']; exact List.getElem_mem _
      have hr2 : inRange (j : Int) ([o, i].getD k []).length := ⟨by omega, by omega⟩
      unfold isoclineref09MergeL2
      rw [if_pos (decide_eq_true (by omega))]
      simp only [Int.toNat_natCast]
      rw [need_of hr2, refIsPath_is _ (hm _ hmj)]
      simp only [Option.bind_some]
      rw [wi64 (by omega) (by omega)]
      rcases tf (bPath (([o, i].getD k []).getD j ApiModZ).Path) with e | e
      · rw [e]; simp
      · rw [e]; simp) (by unfold isoclineref09MergeL2; rw [if_neg (by simp)])
    rw [show ((0 : Int)) = ((0 : Nat) : Int) from rfl, h3]
    unfold allPath
    cases fst (fun j => !bPath (([o, i].getD k []).getD j ApiModZ).Path) 0 ([o, i].getD k []).length with
    | none => simp
    | some j => simp) (by unfold isoclineref09MergeL1; rw [if_neg (by simp)])
  rw [show ((0 : Int)) = ((0 : Nat) : Int) from rfl, h2, fst_two]
  rcases tf (allPath o) with e3 | e3
  rotate_left
  · rw [if_pos (show (!allPath ([o, i].getD 0 [])) = true by rw [show [o, i].getD 0 [] = o from rfl, e3]; rfl), if_pos (by rw [e3]; rfl)]; rfl
  rw [if_neg (show ¬ (!allPath ([o, i].getD 0 [])) = true by rw [show [o, i].getD 0 [] = o from rfl, e3]; simp)]
  rcases tf (allPath i) with e4 | e4
  rotate_left
  · rw [if_pos (show (!allPath ([o, i].getD 1 [])) = true by rw [show [o, i].getD 1 [] = i from rfl, e4]; rfl), if_pos (by rw [e3, e4]; rfl)]; rfl
  rw [if_neg (show ¬ (!allPath ([o, i].getD 1 [])) = true by rw [show [o, i].getD 1 [] = i from rfl, e4]; simp), if_neg (by rw [e3, e4]; simp)]
  simp only [Option.bind_some]
  have h5 := iter_searchE (f := fun v => isoclineref09MergeL3 o i v) (e := fun k => (k : Int)) (p := fun k => !decide (ps ([o, i].getD k [])).Nodup) (q := fun _ => (([] : List ApiMod), (5 : Int))) 2 0 (fun k _ hk => by
    have hr : inRange (k : Int) [o, i].length := ⟨by omega, by simp; omega⟩
    have hl := hlen k (by omega)
    unfold isoclineref09MergeL3
    rw [if_pos (by simp; omega), need_of hr]
    rw [wi64 (by omega) (by omega)]
    have h3 := iter_searchE (f := fun v : Int => isoclineref09MergeL4 o i k v) (e := fun j => (j : Int)) (p := fun j => (atP (([o, i].getD k []).take j) (([o, i].getD k []).getD j ApiModZ).Path).isSome) (q := fun _ => (([] : List ApiMod), (5 : Int))) ([o, i].getD k []).length 0 (fun j _ hj => by
      have hj' : j < ([o, i].getD k []).length := by omega
      have hr2 : inRange (j : Int) ([o, i].getD k []).length := ⟨by omega, by omega⟩
      unfold isoclineref09MergeL4
      simp only [Int.toNat_natCast]
      rw [if_pos (decide_eq_true (by omega)), need_of (by omega), need_of (by omega), need_of (by omega), need_of hr2]
      simp only [Int.toNat_zero, Nat.sub_zero, List.drop_zero]
      rw [refAtPath_is _ _ (by rw [List.length_take]; omega)]
      simp only [Option.bind_some]
      rw [wi64 (by omega) (by omega)]
      cases atP (([o, i].getD k []).take j) (([o, i].getD k []).getD j ApiModZ).Path with
      | none => simp
      | some z => simp) (by unfold isoclineref09MergeL4; simp only [Int.toNat_natCast]; rw [if_neg (by simp)])
    rw [show ((0 : Int)) = ((0 : Nat) : Int) from rfl, h3]
    have hnd := nodup_iff ([o, i].getD k [])
    cases hf : fst (fun j => (atP (([o, i].getD k []).take j) (([o, i].getD k []).getD j ApiModZ).Path).isSome) 0 ([o, i].getD k []).length with
    | none =>
      rw [hf] at hnd
      rw [if_neg (by rw [decide_eq_true (hnd.2 rfl)]; simp)]; simp
    | some j =>
      rw [hf] at hnd
      rw [if_pos (by rw [decide_eq_false (fun h => by have := hnd.1 h; simp at this)]; rfl)]; simp) (by unfold isoclineref09MergeL3; rw [if_neg (by simp)])
  rw [h5, fst_two]
  by_cases n1 : (ps o).Nodup
  rotate_left
  · rw [if_pos (show (!decide (ps ([o, i].getD 0 [])).Nodup) = true by rw [show [o, i].getD 0 [] = o from rfl, decide_eq_false n1]; rfl), if_pos (fun h => n1 h.1)]; rfl
  rw [if_neg (show ¬ (!decide (ps ([o, i].getD 0 [])).Nodup) = true by rw [show [o, i].getD 0 [] = o from rfl, decide_eq_true n1]; simp)]
  by_cases n2 : (ps i).Nodup
  rotate_left
  · rw [if_pos (show (!decide (ps ([o, i].getD 1 [])).Nodup) = true by rw [show [o, i].getD 1 [] = i from rfl, decide_eq_false n2]; rfl), if_pos (fun h => n2 h.2)]; rfl
  rw [if_neg (show ¬ (!decide (ps ([o, i].getD 1 [])).Nodup) = true by rw [show [o, i].getD 1 [] = i from rfl, decide_eq_true n2]; simp), if_neg (fun h => h ⟨n1, n2⟩)]
  simp only [Option.bind_some]
  rw [refOver_is o i n1 n2 (by omega) (by omega)]
  simp only [Option.bind_some]
  by_cases e8 : 8 < (mrg o i).length
  · rw [if_pos (decide_eq_true (by omega)), if_pos e8]
  · rw [if_neg (by rw [decide_eq_false (by omega)]; simp), if_neg e8]
theorem merges_is (o i : List ApiMod) (ho : ∀ m ∈ o, OkM m) (hi : ∀ m ∈ i, OkM m) (hso : ∀ m ∈ o, m.Path.length ≤ 1048576) (hsi : ∀ m ∈ i, m.Path.length ≤ 1048576) (hlo : o.length < 9223372036854775807) (hli : i.length < 9223372036854775807) : isoclinelaw09ScopeMerges o i = some true := by
  unfold isoclinelaw09ScopeMerges isoclinelaw09Known
  rw [scopeMerge_is o i ho hi hlo hli, refMerge_is o i hso hsi hlo hli]
  simp only [Option.bind_some]
  have hs : isoclineref09SameMods (mspec o i).1 (mspec o i).1 = some true := by
    have hz : isoclineref09SameMods [] [] = some true := sameMods_refl [] (by simp) (fun m h => by cases h)
    unfold mspec
    by_cases e1 : 8 < o.length ∨ 8 < i.length
    · rw [if_pos e1]; exact hz
    rw [if_neg e1]
    split
    · exact hz
    split
    · exact hz
    split
    · exact hz
    · rename_i h8
      have h9 : (mrg o i).length ≤ 16 := by omega
      exact sameMods_refl _ h9 fun m hm => (mrg_mem hm).elim (ho m) (hi m)
  rw [hs]
  simp
end Go.Ab
