/- The law's function returns true, in the row's form. Conditions: none beyond those that each theorem names. -/
import Derived.Test.YtgngflkahbpecaaGreatDoorM19
import Derived.Test.YtgngflkahbpecaaGreatDoorM11
import Derived.Test.YtgngflkahbpecaaGreatDoorM20
import Derived.JoinedOf
import Derived.LaidLaws
namespace Go.Proofs.YtgngflkahbpecaaGreatDoor
open Go Go.Ab
set_option maxRecDepth 100000
theorem rdRat : RdL ydT Tryz.prog 65 ([.int .i64] ++ ([.int .i64] ++ [])) :=
  rdl_struct (fl := [(0, 3, 1), (1, 3, 1)]) (fin := 2) (by kernel_rfl) (by kernel_rfl) (.cons (rdl_int (by kernel_rfl)) (.cons (rdl_int (by kernel_rfl)) .nil))
theorem mkExpr (ls : List (Leaf ydE)) (h : Shp (E := ydE) ([.int .i64] ++ ([.str] ++ (([.int .i64] ++ ([.int .i64] ++ [])) ++ ([.sl (.nm 1) 64 OkE] ++ [])))) ls) : ∃ x : ApiExpr, OkE x ∧ ydToApiExpr x = ls := by
  obtain ⟨a, _, rfl, _, s, _, rfl, _, n, _, rfl, _, d, _, rfl, _, xs, _, rfl, hb, hq, rfl⟩ := h
  exact ⟨⟨a, s, ⟨n, d⟩, xs⟩, OkE.mk _ hb hq, rfl⟩
theorem bytes68 : Tryz.prog.bytesOf 68 = 64 := by kernel_rfl
theorem cells68 : Tryz.prog.cellsOf 68 = 5 := by kernel_rfl
theorem bytes75 : Tryz.prog.bytesOf 75 = 96 := by kernel_rfl
theorem cells75 : Tryz.prog.cellsOf 75 = 7 := by kernel_rfl
theorem rdExprN : ∀ N, RdEn ydT Tryz.prog N 68 (.nm 1) OkE
  | 0 => .zero
  | N + 1 => by
    have hk : RdLn ydT Tryz.prog (N + 1) 66 [.sl (.nm 1) 64 OkE] := by
      rw [← bytes68]
      exact rdl_slice_n (by kernel_rfl) (rdExprN N) (by kernel_rfl) (by rw [cells68]; omega)
    exact rde_nm_n ydT_ok (rdl_struct_n (N := N) (fl := [(0, 3, 1), (1, 9, 1), (2, 65, 2), (4, 66, 1)]) (fin := 5) (by kernel_rfl) (by kernel_rfl)
      (.cons ((rdl_int (by kernel_rfl)).n N) (.cons ((rdl_str (by kernel_rfl)).n N) (.cons (rdRat.n N) (.cons (hk.le (Nat.le_succ N)) .nil))))) mkExpr
theorem rdExprL : RdL ydT Tryz.prog 68 ([.int .i64] ++ ([.str] ++ (([.int .i64] ++ ([.int .i64] ++ [])) ++ ([.sl (.nm 1) 64 OkE] ++ [])))) := by
  have hk : RdL ydT Tryz.prog 66 [.sl (.nm 1) 64 OkE] := by
    rw [← bytes68]
    exact rdl_slice (by kernel_rfl) (RdE.of_n rdExprN) (by kernel_rfl) (by rw [cells68]; omega)
  exact rdl_struct (fl := [(0, 3, 1), (1, 9, 1), (2, 65, 2), (4, 66, 1)]) (fin := 5) (by kernel_rfl) (by kernel_rfl)
    (.cons (rdl_int (by kernel_rfl)) (.cons (rdl_str (by kernel_rfl)) (.cons rdRat (.cons hk .nil))))
theorem rdModE : RdE ydT Tryz.prog 75 (.nm 2) OkM :=
  rde_nm ydT_ok (rdl_struct (fl := [(0, 9, 1), (1, 9, 1), (2, 68, 5)]) (fin := 7) (by kernel_rfl) (by kernel_rfl)
    (.cons (rdl_str (by kernel_rfl)) (.cons (rdl_str (by kernel_rfl)) (.cons rdExprL .nil)))) (by
  intro ls h
  obtain ⟨p, _, rfl, hp, t, _, rfl, _, a, _, rfl, _, s, _, rfl, _, n, _, rfl, _, d, _, rfl, _, xs, _, rfl, hb, hq, rfl⟩ := h
  have hp : p.length ≤ 140737488351232 := hp
  exact ⟨⟨p, t, ⟨a, s, ⟨n, d⟩, xs⟩⟩, ⟨OkE.mk _ hb hq, by unfold maxLen; show p.length ≤ _; omega⟩, rfl⟩)
def QL (l : List ApiMod) : Prop := l.length * Tryz.prog.bytesOf 75 ≤ reachBytes ∧ ∀ x ∈ l, OkM x
theorem rdModsE : RdE ydT Tryz.prog 54 (.sl (.nm 2)) QL := rde_slice (by kernel_rfl) rdModE (by kernel_rfl) (by rw [cells75]; omega)
theorem ql_len {l : List ApiMod} (h : QL l) : l.length < 9223372036854775807 := by
  have h1 := h.1
  rw [bytes75] at h1
  have h1 : l.length * 96 ≤ 140737488351232 := h1
  omega
theorem rdArgs : RdAll ydT Tryz.prog [54, 54] [.sl (.nm 2), .sl (.nm 2)] (fun x => QL x.1 ∧ QL x.2.1 ∧ True) :=
  .cons (rdv_one rdModsE rfl (by kernel_rfl)) (.cons (rdv_one rdModsE rfl (by kernel_rfl)) .nil)
theorem twice_lifted (os : Os) (started : os.Started) (H : Type) (enc : TypeId × Value → H) :
    ReturnsInHanded {} Tryz.checked os 9 .any (fun w args => (Rows.scopeMergeTwiceSpec.pre enc Tryz.prog Tryz.f9 [] false w args ∧ laidMetH Tryz.prog laids w) ∧ sizedMet enc Tryz.prog Tryz.f9 (OpenSpec.ofChange Rows.scopeMergeTwiceSpec) false w args)
      (Rows.scopeMergeTwiceSpec.post enc Tryz.prog Tryz.f9 false Rows.scopeMergeTwiceRow.fresh Rows.scopeMergeTwiceRow.handsOn Rows.scopeMergeTwiceRow.again) :=
  law_lifted_laid (C := Tryz.checked) (tb := 4) w9Meets (by kernel_rfl) rdArgs
    (fun x hx => by
      obtain ⟨o, i, u⟩ := x
      exact mergeTwice_is o i hx.1.2 hx.2.1.2 (ql_len hx.1) (ql_len hx.2.1))
    (by kernel_rfl) (by kernel_rfl) (by kernel_rfl) (by kernel_rfl) (by kernel_rfl) rfl
    (fun ds h => by
      have h : ds.length = 2 := h.trans (by kernel_rfl)
      match ds, h with
      | [d1, d2], _ => rfl)
    started (by kernel_rfl) (by kernel_rfl)
    (ChangeSpec.witness_shaped (enc := enc) (C := Tryz.checked) (os := os) (X := fun w _ => laidMetH Tryz.prog laids w) false (wLaid os) #[.slice none 0 0, .slice none 0 0] 8 rfl (World.shaped_of_RefB (by kernel_rfl) (by kernel_rfl)) (by kernel_rfl) (by kernel_rfl) (by kernel_rfl) (laid_met os _))
end Go.Proofs.YtgngflkahbpecaaGreatDoor
