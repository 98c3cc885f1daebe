/- The law's function returns true, in the row's form, where what it reads is of bulk at most 1048576. Conditions: none beyond those that each theorem names. -/
import Derived.Test.YtgngflkahbpecaaGreatDoorU19
import Derived.Test.YtgngflkahbpecaaGreatDoorU11
import Derived.Test.YtgngflkahbpecaaGreatDoorU20
import Derived.Test.YtgngflkahbpecaaGreatDoorU21
import Derived.JoinedOf
import Derived.LaidLaws
namespace Go.Proofs.YtgngflkahbpecaaGreatDoor
open Go Go.Ab
set_option maxRecDepth 100000
def bk (H : Type) (d : DataW H) : Nat := Rows.uptoBulk d
theorem one_le {H : Type} (d : DataW H) : 1 ≤ Rows.uptoBulk d := by
  cases d with
  | lit l => cases l <;> simp [Rows.uptoBulk]
  | _ => simp [Rows.uptoBulk]
theorem part_le {H : Type} {d : DataW H} {l : List (DataW H)} (h : d ∈ l) : Rows.uptoBulk d ≤ Rows.uptoBulkAll l := by
  induction l with
  | nil => cases h
  | cons x r ih =>
    simp only [Rows.uptoBulkAll]
    rcases List.mem_cons.1 h with rfl | h
    · omega
    · have := ih h; omega
theorem length_le {H : Type} (l : List (DataW H)) : l.length ≤ Rows.uptoBulkAll l := by
  induction l with
  | nil => simp [Rows.uptoBulkAll]
  | cons x r ih => have := one_le x; simp only [Rows.uptoBulkAll, List.length_cons]; omega
theorem bkOk : BkOk bk where
  str H s := by show s.length ≤ Rows.uptoBulk _; simp [Rows.uptoBulk]
  len H xs ys := by show xs.length ≤ Rows.uptoBulk _; have := length_le xs; simp only [Rows.uptoBulk]; omega
  elem H xs ys x h := by show Rows.uptoBulk x ≤ Rows.uptoBulk _; have := part_le h; simp only [Rows.uptoBulk]; omega
  part H xs x h := by show Rows.uptoBulk x ≤ Rows.uptoBulk _; have := part_le h; simp only [Rows.uptoBulk]; omega
theorem bk_small {H : Type} (ds : List (DataW H)) (h : Rows.uptoSmall H ds = true) : ∀ d ∈ ds, bk H d ≤ 1048576 := fun d hd => by
  have h : Rows.uptoBulkAll ds ≤ 1048576 := of_decide_eq_true h
  exact Nat.le_trans (part_le hd) h
def OkS (m : ApiMod) : Prop := OkM m ∧ m.Path.length ≤ 1048576
theorem rdRat : RdL ydT Tryz.prog bk 1048576 65 ([.int .i64] ++ ([.int .i64] ++ [])) :=
  rdl_struct bkOk (fl := [(0, 3, 1), (1, 3, 1)]) (fin := 2) (by kernel_rfl) (by kernel_rfl) (.cons (rdl_int (by kernel_rfl)) (.cons (rdl_int (by kernel_rfl)) .nil))
theorem mkExpr (ls : List (Leaf ydE)) (h : Shp (E := ydE) 1048576 ([.int .i64] ++ ([.str] ++ (([.int .i64] ++ ([.int .i64] ++ [])) ++ ([.sl (.nm 1) (Tryz.prog.bytesOf 68) OkE] ++ [])))) ls) : ∃ x : ApiExpr, OkE x ∧ ydToApiExpr x = ls := by
  obtain ⟨a, _, rfl, _, s, _, rfl, _, n, _, rfl, _, d, _, rfl, _, xs, _, rfl, hb, hq, rfl⟩ := h
  exact ⟨⟨a, s, ⟨n, d⟩, xs⟩, OkE.mk _ (by show xs.length * 64 ≤ _; have : xs.length ≤ 1048576 := hb; omega) hq, rfl⟩
theorem cells68 : Tryz.prog.cellsOf 68 = 5 := by kernel_rfl
theorem cells75 : Tryz.prog.cellsOf 75 = 7 := by kernel_rfl
theorem rdExprN : ∀ N, RdEn ydT Tryz.prog bk 1048576 N 68 (.nm 1) OkE
  | 0 => .zero
  | N + 1 => by
    have hk : RdLn ydT Tryz.prog bk 1048576 (N + 1) 66 [.sl (.nm 1) (Tryz.prog.bytesOf 68) OkE] := by
      exact rdl_slice_n bkOk (by kernel_rfl) (rdExprN N) (by kernel_rfl) (by rw [cells68]; omega)
    exact rde_nm_n ydT_ok (rdl_struct_n bkOk (N := N) (fl := [(0, 3, 1), (1, 9, 1), (2, 65, 2), (4, 66, 1)]) (fin := 5) (by kernel_rfl) (by kernel_rfl)
      (.cons ((rdl_int (by kernel_rfl)).n N) (.cons ((rdl_str bkOk (by kernel_rfl)).n N) (.cons (rdRat.n N) (.cons (hk.le (Nat.le_succ N)) .nil))))) mkExpr
theorem rdExprL : RdL ydT Tryz.prog bk 1048576 68 ([.int .i64] ++ ([.str] ++ (([.int .i64] ++ ([.int .i64] ++ [])) ++ ([.sl (.nm 1) (Tryz.prog.bytesOf 68) OkE] ++ [])))) := by
  have hk : RdL ydT Tryz.prog bk 1048576 66 [.sl (.nm 1) (Tryz.prog.bytesOf 68) OkE] := by
    exact rdl_slice bkOk (by kernel_rfl) (RdE.of_n rdExprN) (by kernel_rfl) (by rw [cells68]; omega)
  exact rdl_struct bkOk (fl := [(0, 3, 1), (1, 9, 1), (2, 65, 2), (4, 66, 1)]) (fin := 5) (by kernel_rfl) (by kernel_rfl)
    (.cons (rdl_int (by kernel_rfl)) (.cons (rdl_str bkOk (by kernel_rfl)) (.cons rdRat (.cons hk .nil))))
theorem rdModE : RdE ydT Tryz.prog bk 1048576 75 (.nm 2) OkS :=
  rde_nm ydT_ok (rdl_struct bkOk (fl := [(0, 9, 1), (1, 9, 1), (2, 68, 5)]) (fin := 7) (by kernel_rfl) (by kernel_rfl)
    (.cons (rdl_str bkOk (by kernel_rfl)) (.cons (rdl_str bkOk (by kernel_rfl)) (.cons rdExprL .nil)))) (by
  intro ls h
  obtain ⟨p, _, rfl, hp, t, _, rfl, _, a, _, rfl, _, s, _, rfl, _, n, _, rfl, _, d, _, rfl, _, xs, _, rfl, hb, hq, rfl⟩ := h
  have hp : p.length ≤ 1048576 := hp
  exact ⟨⟨p, t, ⟨a, s, ⟨n, d⟩, xs⟩⟩, ⟨⟨OkE.mk _ (by show xs.length * 64 ≤ _; have : xs.length ≤ 1048576 := hb; omega) hq, by unfold maxLen; show p.length ≤ _; omega⟩, hp⟩, rfl⟩)
def QL (l : List ApiMod) : Prop := l.length ≤ 1048576 ∧ ∀ x ∈ l, OkS x
theorem rdModsE : RdE ydT Tryz.prog bk 1048576 54 (.sl (.nm 2)) QL := rde_slice bkOk (by kernel_rfl) rdModE (by kernel_rfl) (by rw [cells75]; omega)
theorem rdArgs : RdAll ydT Tryz.prog bk 1048576 [54, 54] [.sl (.nm 2), .sl (.nm 2)] (fun x => QL x.1 ∧ QL x.2.1 ∧ True) :=
  .cons (rdv_one rdModsE rfl (by kernel_rfl)) (.cons (rdv_one rdModsE rfl (by kernel_rfl)) .nil)
theorem reads (os : Os) {H : Type} (enc : TypeId × Value → H) : ∃ places, DataW.whole enc Tryz.prog ((wLaid os).forCall (fun _ _ => 0) ⟨#[], #[.slice none 0 0, .slice none 0 0], []⟩).memory Tryz.f8.params.toList Rows.scopeMergesSpec.vars false #[Value.slice none 0 0, Value.slice none 0 0].toList 8 = some ([.nil, .nil], [], places) :=
  ⟨[], by kernel_rfl⟩
theorem merges_lifted (os : Os) (started : os.Started) (H : Type) (enc : TypeId × Value → H) (F : Stop.Interp) :
    ReturnsInHanded {} Tryz.checked os 8 .any ((Rows.OpenSpec.upto Rows.scopeMergesSpec).preRow enc Tryz.prog Tryz.f8 Rows.scopeMergesUptoRow.domain false Rows.scopeMergesUptoRow.laid) (((Rows.OpenSpec.upto Rows.scopeMergesSpec).at F).post enc Tryz.prog Tryz.f8 false Rows.scopeMergesUptoRow.fresh Rows.scopeMergesUptoRow.handsOn Rows.scopeMergesUptoRow.again) := by
  obtain ⟨places, hx⟩ := reads os enc
  exact law_lifted_row (C := Tryz.checked) (tb := 4) (bk := bk) (B := 1048576) w8Meets (by kernel_rfl) rdArgs
    (fun x hx => by
      obtain ⟨o, i, u⟩ := x
      have h1 : o.length ≤ 1048576 := hx.1.1
      have h2 : i.length ≤ 1048576 := hx.2.1.1
      exact merges_is o i (fun m hm => (hx.1.2 m hm).1) (fun m hm => (hx.2.1.2 m hm).1) (fun m hm => (hx.1.2 m hm).2) (fun m hm => (hx.2.1.2 m hm).2) (by omega) (by omega))
    (fun ds h => bk_small ds (h _ rfl))
    (by kernel_rfl) (by kernel_rfl) (by kernel_rfl) (by kernel_rfl) (by kernel_rfl) rfl
    (fun ds h => by
      have h : ds.length = 2 := h.trans (by kernel_rfl)
      match ds, h with
      | [d1, d2], _ => rfl)
    started (by kernel_rfl) (by kernel_rfl)
    (witness_row_at (enc := enc) (C := Tryz.checked) false (wLaid os) #[.slice none 0 0, .slice none 0 0] rfl (by kernel_rfl) (by kernel_rfl) (by kernel_rfl)
      (OpenSpec.preRow_of_cond 8 hx (by kernel_rfl) (fun k hk => by cases hk; kernel_rfl) (by kernel_rfl) (laid_met os _)))
end Go.Proofs.YtgngflkahbpecaaGreatDoor
