/- Lengths, indexes, sums, comparisons, conversions, parts. Comparisons, conversions, parts, slices. New boxes, stores, made slices. Conditions: none beyond those that each theorem names. -/
import Derived.Test.YtjdgmcngpiookaaGreatS01
import Derived.Laws.Strings
import Derived.Laws.Strings2
import Derived.Laws.Tables
import Derived.Laws.Rows
namespace Go.Ab
open Go
section
variable {V : Env} {P : Program} {C : Ctx} {bx : List (Nat × Box V.E)} {β : Nat -> BI} {w : World}
variable {res : Option (SV V.E)} {cs : List Prop} {bx' : List (Nat × Box V.E)} {rs ws : List Nat} {ac : Acc}
theorem Axh (M : Bq V.T C bx β w) {id : Nat} {e : TypeId} {u : Ty} {xs : List (u.den V.E)} {v : Nat} {fz : Bool} (hb : A6 id bx = some (.arr e u xs v fz)) :
   ∃ a cap, (β id).hdr = .slice a xs.length cap := by
 have hB := M.boxes id _ hb
 cases fz with
 | false =>
   obtain ⟨_, css, ⟨_, h⟩, _⟩ := hB
   rcases h with ⟨h, h2⟩ | ⟨g, cap, cur, h, _⟩
   · exact ⟨_, _, by rw [h, h2]⟩
   · exact ⟨_, _, h⟩
 | true => obtain ⟨_, ⟨a, cap, h, _⟩, _⟩ := hB; simp at h; exact ⟨a, cap, h⟩
theorem Ard (M : Bq V.T C bx β w) {id : Nat} {e e2 : TypeId} {u : Ty} {xss : List (List (u.den V.E))} {v rv : Nat} {fz : RS} (hb : A6 id bx = some (.rows e e2 u xss v rv fz)) :
   ∃ a cap, (β id).hdr = .slice a xss.length cap := by
 have hB := M.boxes id _ hb
 cases fz with
 | opn =>
   obtain ⟨⟨_, h⟩, _, _⟩ := hB
   rcases h with ⟨h, h2⟩ | ⟨g, cap, cur, h, _⟩
   · exact ⟨_, _, by rw [h, h2]⟩
   · exact ⟨_, _, h⟩
 | shut => obtain ⟨_, ⟨a, cap, h, _⟩, _⟩ := hB; simp at h; exact ⟨a, cap, h⟩
 | mix p q =>
   obtain ⟨_, _, _, _, _, _, ⟨_, h⟩, _, _⟩ := hB
   rcases h with ⟨h, h2⟩ | ⟨g, cap, cur, h, _⟩
   · exact ⟨_, _, by rw [h, h2]⟩
   · exact ⟨_, _, h⟩
theorem A7k (M : Bq V.T C bx β w) {t : TypeId} {i : TI V.E} {info : TypeInfo} {d : TypeDesc} {z : Value} (I : C6 V P t i info d z) (r : List TypeId)
   {a : SV V.E} {va : Value} (ha : SR V C bx β w a va) (h : Aj V bx (Abv V i.kind a) rs ws = some (res, cs, bx', ac)) (ty : TypeId) :
   VOk V.T C bx β w res bx' ((Builtin.len_ (t :: r).toArray ty #[va]).run P w) := by
 have hu := I.under
 have hk := I.kind
 have slen : ∀ a n c e, i.kind = .slice e -> (Builtin.len_ (t :: r).toArray ty #[.slice a n c]).run P w = .ok (.int .i64 n) w := by
   intro a n c e he
   rw [he] at hk
   cases d <;> simp [F5] at hk
   simp [Builtin.len_, run_underlying hu, goInt]
 unfold Abv at h
 split at h
 · rename_i s he
   obtain ⟨rfl, _, rfl⟩ := Az h
   simp only [SR, Bb, A3, Ak] at ha
   subst ha
   rw [he] at hk
   cases d <;> simp [F5] at hk
   have : (Builtin.len_ (t :: r).toArray ty #[.string ⟨s.toArray⟩]).run P w = .ok (.int .i64 s.length) w := by
     have hsz : ByteArray.size ⟨s.toArray⟩ = s.length := List.size_toArray
     simp [Builtin.len_, run_underlying hu, goInt, hsz]
   rw [this]
   exact .pure M rfl
 · rename_i u st xs e he
   obtain ⟨rfl, _, rfl⟩ := Az h
   simp only [SR, Bb, A3, Ak] at ha
   obtain ⟨a, cap, hv, _⟩ := ha
   simp only [List.cons.injEq, and_true, List.length_map] at hv
   subst hv
   rw [slen _ _ _ _ he]
   exact .pure M rfl
 · rename_i e id ver he
   simp only [SR, Bb, A3, Ak] at ha
   simp only [Aj] at h
   split at h
   · rename_i e' u xs v fz hb
     split at h
     · rename_i hv
       obtain ⟨rfl, _, rfl⟩ := Az h
       rw [hb] at ha
       have ha := ha.2.2 (Aq hv)
       obtain ⟨a, cap, hh⟩ := Axh M hb
       rw [ha, hh, slen _ _ _ _ he]
       exact .pure M rfl
     · simp [Aj] at h
   · rename_i e' e2 u xss v rv fz hb
     split at h
     · rename_i hv
       obtain ⟨rfl, _, rfl⟩ := Az h
       rw [hb] at ha
       have ha := ha.2.2 (Aq hv)
       obtain ⟨a, cap, hh⟩ := Ard M hb
       rw [ha, hh, slen _ _ _ _ he]
       exact .pure M rfl
     · simp [Aj] at h
   · simp [Aj] at h
 · rename_i e id ver o n he
   simp only [SR, Bb, A3, Ak] at ha
   simp only [Aj] at h
   split at h
   · rename_i e' u xs v fz hb
     split at h
     · rename_i hv
       obtain ⟨rfl, _, rfl⟩ := Az h
       rw [hb] at ha
       obtain ⟨i0, n0, hin, b, cap, hh, hic, rfl⟩ := ha.2.2 (Aq hv)
       rw [slen _ _ _ _ he, Int.toNat_of_nonneg n0]
       exact .pure M rfl
     · simp [Aj] at h
   · simp [Aj] at h
 · rename_i e id ver rv j he
   simp only [SR, Bb, A3, Ak] at ha
   simp only [Aj] at h
   split at h
   · rename_i e' e2 u xss v rv' hb
     split at h
     · rename_i hv
       simp only [Bool.and_eq_true] at hv
       obtain ⟨rfl, _, rfl⟩ := Az h
       rw [hb] at ha
       obtain ⟨j0, jl, hr⟩ := (ha.2.2 (Aq hv.1)).2 (Aq hv.2)
       obtain ⟨_, _, e4⟩ := M.boxes id _ hb
       have hj : j.toNat < xss.length := by omega
       obtain ⟨x, hx, css, ⟨_, hA⟩, _⟩ := e4.get j.toNat (xss.getD j.toNat []) (by rw [List.getD_eq_getElem?_getD, List.getElem?_eq_getElem hj]; rfl)
       rw [hr] at hx; cases hx
       have : ∃ a cap, va = .slice a (xss.getD j.toNat []).length cap := by
         rcases hA with ⟨h, h2⟩ | ⟨g, cap, cur, h, _⟩
         · exact ⟨_, _, by rw [h, h2]⟩
         · exact ⟨_, _, h⟩
       obtain ⟨a, cap, rfl⟩ := this
       rw [slen _ _ _ _ he]
       exact .pure M rfl
     · simp [Aj] at h
   · simp [Aj] at h
 · simp [Aj] at h
theorem Ar8 (M : Bq V.T C bx β w) {t : TypeId} (hu : P.underlying t = some .string) (s : List UInt8) (k : IntKind) (i : Int) (hi : Af i s.length) :
   VOk V.T C bx β w (some (.cv (.one (.int .u8 (s.getD i.toNat 0).toNat)))) bx ((Instr.index t (.string ⟨s.toArray⟩) (.int k i)).run P w) := by
 obtain ⟨h0, h1⟩ := hi
 have hlt : i.toNat < s.length := by omega
 have : (⟨s.toArray⟩ : ByteArray)[i.toNat]? = some (s.getD i.toNat 0) := by
   have hsz : i.toNat < (⟨s.toArray⟩ : ByteArray).size := by
     have : ByteArray.size ⟨s.toArray⟩ = s.length := List.size_toArray
     omega
   rw [getElem?_pos (⟨s.toArray⟩ : ByteArray) i.toNat hsz]
   rw [List.getD_eq_getElem?_getD, List.getElem?_eq_getElem hlt]
   rfl
 have hr : (Instr.index t (.string ⟨s.toArray⟩) (.int k i)).run P w = .ok (.int .u8 (s.getD i.toNat 0).toNat) w := by
   simp only [Instr.index, asIntOf, Sem.run_bind, Sem.run_pure, Result.andThen_ok, run_underlying hu, h0, if_true, this]
 rw [hr]
 exact .pure M rfl
theorem Anp (M : Bq V.T C bx β w) (op : BinOp) (t : TypeId) (k : IntKind) (a b : Int)
   (h : Aj V bx (Ahk V op k a b) rs ws = some (res, cs, bx', ac)) (hc : Gw cs) : VOk V.T C bx β w res bx' ((binOp op t (.int k a) (.int k b)).run P w) := by
 have fin : ∀ {l : A7 V.E} {p : List Prop} {v : Value}, Aj V bx (.one l p) rs ws = some (res, cs, bx', ac) -> Ak V.T bx β (Bc C β w) w l v -> (Gw p -> (binOp op t (.int k a) (.int k b)).run P w = .ok v w) ->
     VOk V.T C bx β w res bx' ((binOp op t (.int k a) (.int k b)).run P w) := by
   intro l p v h1 hv h2
   obtain ⟨rfl, rfl, rfl⟩ := Az h1
   rw [h2 hc]
   exact .pure M hv
 unfold Ahk at h
 split at h
 · exact fin h (v := .int k (k.wrap (a + b))) rfl λ _ => by simp [binOp, Op.intArith]
 · exact fin h (v := .int k (k.wrap (a - b))) rfl λ _ => by simp [binOp, Op.intArith]
 · exact fin h (v := .int k (k.wrap (a * b))) rfl λ _ => by simp [binOp, Op.intArith]
 · exact fin h (v := .int k (k.wrap (a.tdiv b))) rfl λ hp => by simp [binOp, Op.intDiv, hp.1]
 · exact fin h (v := .int k (a.tmod b)) rfl λ hp => by simp [binOp, Op.intDiv, hp.1]
 · exact fin h (v := .int k (k.wrap (BitVec.ofInt k.bits a &&& BitVec.ofInt k.bits b).toNat)) rfl λ _ => by simp [binOp, Op.intBits]
 · exact fin h (v := .int k (k.wrap (BitVec.ofInt k.bits a ||| BitVec.ofInt k.bits b).toNat)) rfl λ _ => by simp [binOp, Op.intBits]
 · exact fin h (v := .int k (k.wrap (BitVec.ofInt k.bits a ^^^ BitVec.ofInt k.bits b).toNat)) rfl λ _ => by simp [binOp, Op.intBits]
 · exact fin h (v := .bool (decide (a = b))) rfl λ _ => by simp [binOp, Op.intCmp]; rfl
 · exact fin h (v := .bool (!decide (a = b))) rfl λ _ => by simp [binOp, Op.intCmp]; rfl
 · exact fin h (v := .bool (decide (a < b))) rfl λ _ => by simp [binOp, Op.intCmp]
 · exact fin h (v := .bool (decide (a <= b))) rfl λ _ => by simp [binOp, Op.intCmp]
 · exact fin h (v := .bool (decide (b < a))) rfl λ _ => by simp [binOp, Op.intCmp]
 · exact fin h (v := .bool (decide (b <= a))) rfl λ _ => by simp [binOp, Op.intCmp]
 · simp [Aj] at h
theorem Ano (M : Bq V.T C bx β w) (op : BinOp) (t : TypeId) (a b : List UInt8)
   (h : Aj V bx (Ah7 V op a b) rs ws = some (res, cs, bx', ac)) (hc : Gw cs) : VOk V.T C bx β w res bx' ((binOp op t (.string ⟨a.toArray⟩) (.string ⟨b.toArray⟩)).run P w) := by
 have fin : ∀ {l : A7 V.E} {p : List Prop} {v : Value}, Aj V bx (.one l p) rs ws = some (res, cs, bx', ac) -> Ak V.T bx β (Bc C β w) w l v -> (Gw p -> (binOp op t (.string ⟨a.toArray⟩) (.string ⟨b.toArray⟩)).run P w = .ok v w) ->
     VOk V.T C bx β w res bx' ((binOp op t (.string ⟨a.toArray⟩) (.string ⟨b.toArray⟩)).run P w) := by
   intro l p v h1 hv h2
   obtain ⟨rfl, rfl, rfl⟩ := Az h1
   rw [h2 hc]
   exact .pure M hv
 have hb : (a == b) = decide (a = b) := by rw [Bool.eq_iff_iff]; simp
 have ta : (ByteArray.mk a.toArray).toList = a := ByteArray.toList_mk a
 have tb : (ByteArray.mk b.toArray).toList = b := ByteArray.toList_mk b
 unfold Ah7 at h
 split at h
 · refine fin h (v := .string ⟨(a ++ b).toArray⟩) rfl λ hp => ?_
   have hp := hp.1
   unfold Ap at hp
   have e1 : ByteArray.size ⟨a.toArray⟩ = a.length := List.size_toArray
   have e2 : ByteArray.size ⟨b.toArray⟩ = b.length := List.size_toArray
   have e3 : (ByteArray.mk a.toArray ++ ByteArray.mk b.toArray) = ByteArray.mk (a ++ b).toArray := by
     apply ByteArray.ext; simp
   have e4 : ¬ (((a.length + b.length : Nat) : Int) > IntKind.i64.max) := by
     have : IntKind.i64.max = 9223372036854775807 := by decide
     rw [this]; omega
   simp only [binOp, Op.stringOp, e1, e2, e3, if_neg e4, Sem.run_pure]
 · exact fin h (v := .bool (decide (a = b))) rfl λ _ => by simp only [binOp, Op.stringOp, ta, tb, hb]; rfl
 · exact fin h (v := .bool (!decide (a = b))) rfl λ _ => by simp only [binOp, Op.stringOp, ta, tb, hb]; rfl
 · exact fin h (v := .bool (Op.bytesLess a b)) rfl λ _ => by simp only [binOp, Op.stringOp, ta, tb]; rfl
 · exact fin h (v := .bool (Op.bytesLess a b || decide (a = b))) rfl λ _ => by simp only [binOp, Op.stringOp, ta, tb, hb]; rfl
 · exact fin h (v := .bool !(Op.bytesLess a b || decide (a = b))) rfl λ _ => by simp only [binOp, Op.stringOp, ta, tb, hb]; rfl
 · exact fin h (v := .bool !(Op.bytesLess a b)) rfl λ _ => by simp only [binOp, Op.stringOp, ta, tb]; rfl
 · simp [Aj] at h
end
def Akw (V : Env) (P : Program) : Prop :=
 ∀ t, V.eqs t = true -> ∀ i, V.ti t = some i -> ∀ (bx : List (Nat × Box V.E)) (β : Nat -> BI) (ok : Nat -> Prop) (w' : World) (l m : List (A7 V.E)) (b : Bool) (c d : Array Value), Iw i.zero l = true -> eqL V l m = some b ->
   Bk (Ak V.T bx β ok w') l c.toList -> Bk (Ak V.T bx β ok w') m d.toList -> ∀ (x y : Operand) (w : World) (op : BinOp), op = .eql \/ op = .neq ->
   (eqGuard op t x y (.agg c) (.agg d)).run P w = .ok () w /\ (Op.equal t (.agg c) (.agg d)).run P w = .ok b w
section
variable {V : Env} {P : Program} {C : Ctx} {bx : List (Nat × Box V.E)} {β : Nat -> BI} {w : World}
variable {res : Option (SV V.E)} {cs : List Prop} {bx' : List (Nat × Box V.E)} {rs ws : List Nat} {ac : Acc}
theorem Alr {t : TypeId} (hu : P.underlying t = some .bool) (a b : Bool) : (Op.equal t (.bool a) (.bool b)).run P w = .ok (a == b) w := by
 have gen : ∀ d, (Op.equalIn (d + 1) t (.bool a) (.bool b)).run P w = .ok (a == b) w := by
   intro d; simp [Op.equalIn, run_underlying hu]
 exact gen 9999
theorem Auq {t e : TypeId} (hu : P.underlying t = some (.slice e)) (n c n' c' : Nat) : (Op.equal t (.slice none n c) (.slice none n' c')).run P w = .ok true w := by
 have gen : ∀ d, (Op.equalIn (d + 1) t (.slice none n c) (.slice none n' c')).run P w = .ok true w := by
   intro d; simp [Op.equalIn, run_underlying hu]
 exact gen 9999
theorem Ajn {t e : TypeId} (hu : P.underlying t = some (.slice e)) (a : Addr) (n c n' c' : Nat) : (Op.equal t (.slice (some a) n c) (.slice none n' c')).run P w = .ok false w := by
 have gen : ∀ d, (Op.equalIn (d + 1) t (.slice (some a) n c) (.slice none n' c')).run P w = .ok false w := by
   intro d; simp [Op.equalIn, run_underlying hu]
 exact gen 9999
theorem Yl {α : Type} {xs : List α} (h : xs ≠ []) : xs.isEmpty = false := by cases xs <;> simp_all
theorem Z1 (op : BinOp) (t : TypeId) (x y : Operand) {a b : Value} (h : a.oneCell' = true) (h2 : a ≠ .nilIface) : (eqGuard op t x y a b).run P w = .ok () w := by
 unfold eqGuard
 cases op <;> simp <;> cases a <;> simp_all [Value.oneCell']
theorem A8q (HE : Tt V P) (HQ : Akw V P) (M : Bq V.T C bx β w) (op : BinOp) (t : TypeId) (x y : Operand) {a b : SV V.E} {va vb : Value} (ha : SR V C bx β w a va) (hb : SR V C bx β w b vb)
   (h : Aj V bx (Ach V op t a b) rs ws = some (res, cs, bx', ac)) (hc : Gw cs) :
   VOk V.T C bx β w res bx' ((do eqGuard op t x y va vb; binOp op t va vb : Sem Value).run P w) := by
 have plain : ∀ r : Result Value, va.oneCell' = true -> va ≠ .nilIface -> VOk V.T C bx β w res bx' r -> (binOp op t va vb).run P w = r -> VOk V.T C bx β w res bx' ((do eqGuard op t x y va vb; binOp op t va vb : Sem Value).run P w) := by
   intro r h1 h2 h3 h4
   simp only [Sem.run_bind, Z1 op t x y h1 h2, Result.andThen_ok, h4]
   exact h3
 unfold Ach at h
 split at h
 · rename_i k p k' q
   obtain ⟨rfl, rfl, rfl⟩ := Az h
   simp only [SR, Bb, A3, Ak] at ha hb
   subst ha hb
   refine plain _ rfl (by simp) (.pure M rfl) ?_
   have := hc.1
   simp [binOp, Op.shift, show ¬ q < 0 by omega]
 · rename_i k p k' q
   obtain ⟨rfl, rfl, rfl⟩ := Az h
   simp only [SR, Bb, A3, Ak] at ha hb
   subst ha hb
   refine plain _ rfl (by simp) (.pure M rfl) ?_
   have := hc.1
   simp [binOp, Op.shift, show ¬ q < 0 by omega]
 · rename_i k p k' q _ _
   simp only [SR, Bb, A3, Ak] at ha hb
   subst ha hb
   split at h
   · rename_i hk; subst hk
     exact plain _ rfl (by simp) (Anp M op t k p q h hc) rfl
   · simp [Aj] at h
 · rename_i p q
   simp only [SR, Bb, A3, Ak] at ha hb
   subst ha hb
   exact plain _ rfl (by simp) (Ano M op t p q h hc) rfl
 · rename_i p q
   simp only [SR, Bb, A3, Ak] at ha hb
   subst ha hb
   split at h
   · rename_i e1 e2 e3 e4 hi
     obtain ⟨rfl, rfl, rfl⟩ := Az h
     refine plain _ rfl (by simp) (.pure M rfl) ?_
     obtain ⟨info, d, z, I⟩ := HE t _ hi
     have hk := I.kind
     cases d <;> simp [F5] at hk
     simp only [binOp, Sem.run_bind, Alr I.under, Result.andThen_ok, Sem.run_pure]
   · simp [Aj] at h
 · rename_i p q
   simp only [SR, Bb, A3, Ak] at ha hb
   subst ha hb
   split at h
   · rename_i e1 e2 e3 e4 hi
     obtain ⟨rfl, rfl, rfl⟩ := Az h
     refine plain _ rfl (by simp) (.pure M rfl) ?_
     obtain ⟨info, d, z, I⟩ := HE t _ hi
     have hk := I.kind
     cases d <;> simp [F5] at hk
     simp only [binOp, Sem.run_bind, Alr I.under, Result.andThen_ok, Sem.run_pure]
   · simp [Aj] at h
 · rename_i u xs u'
   simp only [SR, Bb, A3, Ak] at ha hb
   obtain ⟨a, cap, hv, hcap, hn, hs, _⟩ := ha
   obtain ⟨a', cap', hv', hcap', hn', hs', _⟩ := hb
   simp only [List.cons.injEq, and_true, List.length_map] at hv hv'
   subst hv hv'
   have a'0 := hs' rfl (by simp)
   subst a'0
   split at h
   · rename_i e1 e2 e3 e4 e5 hi
     obtain ⟨rfl, rfl, rfl⟩ := Az h
     refine plain _ rfl (by simp) (.pure M (v := .bool xs.isEmpty) rfl) ?_
     obtain ⟨info, d, z, I⟩ := HE t _ hi
     have hk := I.kind
     cases d <;> simp [F5] at hk
     cases a with
     | none =>
       have : xs = [] := by have := hn rfl; simp at hcap; cases xs <;> simp_all
       subst this
       simp only [binOp, Sem.run_bind, Auq I.under, Result.andThen_ok, Sem.run_pure, List.isEmpty_nil]
     | some ad =>
       have : xs ≠ [] := λ e => by have := hs rfl (by simp [e]); cases this
       simp only [binOp, Sem.run_bind, Ajn I.under, Result.andThen_ok, Sem.run_pure, Yl this]
   · simp [Aj] at h
 · rename_i u xs u'
   simp only [SR, Bb, A3, Ak] at ha hb
   obtain ⟨a, cap, hv, hcap, hn, hs, _⟩ := ha
   obtain ⟨a', cap', hv', hcap', hn', hs', _⟩ := hb
   simp only [List.cons.injEq, and_true, List.length_map] at hv hv'
   subst hv hv'
   have a'0 := hs' rfl (by simp)
   subst a'0
   split at h
   · rename_i e1 e2 e3 e4 e5 hi
     obtain ⟨rfl, rfl, rfl⟩ := Az h
     refine plain _ rfl (by simp) (.pure M (v := .bool !xs.isEmpty) rfl) ?_
     obtain ⟨info, d, z, I⟩ := HE t _ hi
     have hk := I.kind
     cases d <;> simp [F5] at hk
     cases a with
     | none =>
       have : xs = [] := by have := hn rfl; simp at hcap; cases xs <;> simp_all
       subst this
       simp only [binOp, Sem.run_bind, Auq I.under, Result.andThen_ok, Sem.run_pure, List.isEmpty_nil]
     | some ad =>
       have : xs ≠ [] := λ e => by have := hs rfl (by simp [e]); cases this
       simp only [binOp, Sem.run_bind, Ajn I.under, Result.andThen_ok, Sem.run_pure, Yl this]
   · simp [Aj] at h
 · rename_i l m
   split at h
   · rename_i b i he1 he2 hti
     split at h
     · rename_i hsz
       obtain ⟨rfl, rfl, rfl⟩ := Az h
       simp only [SR, Bb, A3] at ha hb
       obtain ⟨c1, rfl, h1⟩ := ha
       obtain ⟨c2, rfl, h2⟩ := hb
       obtain ⟨g1, g2⟩ := HQ t he2 _ hti _ _ _ _ _ _ _ _ _ hsz he1 h1 h2 x y w .eql (.inl rfl)
       simp only [Sem.run_bind, g1, g2, binOp, Result.andThen_ok, Sem.run_pure]
       exact .pure M rfl
     · simp [Aj] at h
   · simp [Aj] at h
 · rename_i l m
   split at h
   · rename_i b i he1 he2 hti
     split at h
     · rename_i hsz
       obtain ⟨rfl, rfl, rfl⟩ := Az h
       simp only [SR, Bb, A3] at ha hb
       obtain ⟨c1, rfl, h1⟩ := ha
       obtain ⟨c2, rfl, h2⟩ := hb
       obtain ⟨g1, g2⟩ := HQ t he2 _ hti _ _ _ _ _ _ _ _ _ hsz he1 h1 h2 x y w .neq (.inr rfl)
       simp only [Sem.run_bind, g1, g2, binOp, Result.andThen_ok, Sem.run_pure]
       exact .pure M rfl
     · simp [Aj] at h
   · simp [Aj] at h
 · simp [Aj] at h
theorem Bdv (M : Bq V.T C bx β w) (op : UnOp) {a : SV V.E} {va : Value} (ha : SR V C bx β w a va)
   (h : Aj V bx (Aht V op a) rs ws = some (res, cs, bx', ac)) : VOk V.T C bx β w res bx' ((Op.unary op va).run P w) := by
 unfold Aht at h
 split at h
 · obtain ⟨rfl, _, rfl⟩ := Az h
   simp only [SR, Bb, A3, Ak] at ha
   subst ha
   exact .pure M rfl
 · obtain ⟨rfl, _, rfl⟩ := Az h
   simp only [SR, Bb, A3, Ak] at ha
   subst ha
   exact .pure M rfl
 · simp [Aj] at h
theorem A17 (HE : Tt V P) (M : Bq V.T C bx β w) (u t : TypeId) {a : SV V.E} {va : Value} (ha : SR V C bx β w a va)
   (h : Aj V bx (Xt V (V.ti u) (V.ti t) a) rs ws = some (res, cs, bx', ac)) : VOk V.T C bx β w res bx' ((convert u t va).run P w) := by
 unfold Xt at h
 split at h
 · rename_i k0 _ _ _ _ k _ _ _ _ k1 n h1 h2
   obtain ⟨rfl, _, rfl⟩ := Az h
   simp only [SR, Bb, A3, Ak] at ha
   subst ha
   obtain ⟨_, d1, _, I1⟩ := HE u _ h1
   obtain ⟨_, d2, _, I2⟩ := HE t _ h2
   have k1 := I1.kind
   have k2 := I2.kind
   cases d1 <;> simp [F5] at k1
   cases d2 <;> simp [F5] at k2
   subst k1 k2
   have : (convert u t (.int ‹_› n)).run P w = .ok (.int k (k.wrap n)) w := by
     simp [convert, I1.run_under, I2.run_under, Conv.intToInt]
   rw [this]
   exact .pure M rfl
 · rename_i _ _ _ _ _ _ _ _ s h1 h2
   obtain ⟨rfl, _, rfl⟩ := Az h
   simp only [SR, Bb, A3, Ak] at ha
   subst ha
   obtain ⟨_, d1, _, I1⟩ := HE u _ h1
   obtain ⟨_, d2, _, I2⟩ := HE t _ h2
   have k1 := I1.kind
   have k2 := I2.kind
   cases d1 <;> simp [F5] at k1
   cases d2 <;> simp [F5] at k2
   have : (convert u t (.string ⟨s.toArray⟩)).run P w = .ok (.string ⟨s.toArray⟩) w := by
     simp [convert, I1.run_under, I2.run_under]
   rw [this]
   exact .pure M rfl
 · simp [Aj] at h
theorem Ah9 (M : Bq V.T C bx β w) {l : List (CV V.E)} {va : Value} (ha : SR V C bx β w (.tup l) va) (n : Nat)
   (h : Aj V bx (tcv l[n]?) rs ws = some (res, cs, bx', ac)) : VOk V.T C bx β w res bx' ((Instr.extract va n).run P w) := by
 simp only [SR, Bb] at ha
 obtain ⟨vs, rfl, ha⟩ := ha
 cases hn : l[n]? with
 | none => rw [hn] at h; simp [tcv, Aj] at h
 | some c =>
   rw [hn] at h
   obtain ⟨rfl, _, rfl⟩ := Az h
   obtain ⟨v, hv, hr⟩ := ha.get n c hn
   have : vs[n]? = some v := by rw [<- Array.getElem?_toList]; exact hv
   simp only [Instr.extract, this, Sem.run_pure]
   exact .pure M hr
theorem Ayl (M : Bq V.T C bx β w) {t : TypeId} {i : TI V.E} {info : TypeInfo} {d : TypeDesc} {z : Value} (I : C6 V P t i info d z) (off : Nat) {ls : List (A7 V.E)} {vs : Array Value}
   (hr : Bk (Ak V.T bx β (Bc C β w) w) ls vs.toList) (h : Aj V bx (part V i.kind.agg i.size off ls) rs ws = some (res, cs, bx', ac)) :
   VOk V.T C bx β w res bx' ((Go.part t vs off).run P w) := by
 unfold part at h
 split at h
 · rename_i hle
   have hle := Nat.le_of_ble_eq_true hle
   obtain ⟨c, h1, rfl, rfl⟩ := W4 h
   have hr' := (hr.drop off).take i.size
   rcases Lh h1 hr' with ⟨hag, rfl, k⟩ | ⟨hag, l, v, e1, rfl, e2, k⟩
   · have : (Go.part t vs off).run P w = .ok (.agg (vs.extract off (off + i.size))) w := by
       simp only [Go.part, Sem.run_bind, I.run_agg, Result.andThen_ok, hag, if_true, I.run_size, Sem.run_pure]
     rw [this]
     refine .pure M ?_
     have e : ((vs.toList.drop off).take i.size).toArray = vs.extract off (off + i.size) := by
       apply Array.ext'
       rw [Array.toList_extract]
       simp [List.extract]
     rw [e] at k
     exact k
   · have hv : vs[off]? = some v := by
       have := congrArg (λ l => l[0]?) e2
       simp only [List.getElem?_take, List.getElem?_drop] at this
       rw [if_pos I.pos] at this
       simpa using this
     have : (Go.part t vs off).run P w = .ok v w := by
       simp only [Go.part, Sem.run_bind, I.run_agg, Result.andThen_ok, hag, Bool.false_eq_true, if_false, hv, Sem.run_pure]
     rw [this]
     exact .pure M k
 · simp [Aj] at h
theorem Fr.drop {ok : Nat -> Prop} {w : World} {esz : Nat} : ∀ (n : Nat) (xs : List AV) (blk off : Nat), Fr ok w esz xs blk off -> n <= xs.length -> Fr ok w esz (xs.drop n) blk (off + n * esz)
 | 0, xs, blk, off, h, _ => by simpa using h
 | n + 1, [], blk, off, h, hl => by simp at hl
 | n + 1, x :: xs, blk, off, h, hl => by
   have := Fr.drop n xs blk (off + esz) h.2 (by simpa using hl)
   rw [show off + (n + 1) * esz = off + esz + n * esz by rw [Nat.add_mul]; omega]
   simpa using this
theorem Fr.take {ok : Nat -> Prop} {w : World} {esz : Nat} : ∀ (n : Nat) (xs : List AV) (blk off : Nat), Fr ok w esz xs blk off -> Fr ok w esz (xs.take n) blk off
 | 0, xs, blk, off, h => by simp [Fr]
 | n + 1, [], blk, off, h => by simp [Fr]
 | n + 1, x :: xs, blk, off, h => ⟨h.1, Fr.take n xs blk _ h.2⟩
theorem Ub {α : Type} : ∀ (css : List (List α)) (k sz : Nat), (∀ c ∈ css, c.length = sz) -> (css.take k).flatten = css.flatten.take (k * sz)
 | [], k, sz, _ => by simp
 | c :: css, 0, sz, _ => by simp
 | c :: css, k + 1, sz, h => by
   have hc := h c (by simp)
   rw [List.take_succ_cons, List.flatten_cons, List.flatten_cons, Ub css k sz (λ x hx => h x (by simp [hx])), List.take_append]
   have e1 : c.take ((k + 1) * sz) = c := List.take_of_length_le (by rw [hc, Nat.add_mul]; omega)
   have e2 : (k + 1) * sz - c.length = k * sz := by rw [hc, Nat.add_mul]; omega
   rw [e1, e2]
theorem Uk (M : Bq V.T C bx β w) {t : TypeId} {i : TI V.E} {info : TypeInfo} {d : TypeDesc} {z : Value} (I : C6 V P t i info d z)
   (het : ∀ e, i.kind = .slice e -> ∀ j, V.ti e = some j -> ∃ info d z, C6 V P e j info d z) (et : Option Ty) (hel : ∀ e u, i.kind = .slice e -> et = some u -> ∃ j, V.ti e = some j /\ j.ty = u)
   {a : SV V.E} {va : Value} (ha : SR V C bx β w a va) (lo hi : Option (IntKind × Int))
   (h : Aj V bx (Ln V i.kind et a (lo.map (·.2)) (hi.map (·.2))) rs ws = some (res, cs, bx', ac)) (hc : Gw cs) :
   VOk V.T C bx β w res bx' ((Instr.sliceAt t va (lo.map λ x => .int x.1 x.2) (hi.map λ x => .int x.1 x.2) none).run P w) := by
 have hk := I.kind
 have bounds : ∀ (isS : Bool) (len cap : Nat) (l h : Int), lo.elim (0 : Int) (·.2) = l -> hi.elim (len : Int) (·.2) = h -> 0 <= l -> l <= h -> h <= len -> len <= cap ->
     (Instr.sliceBounds isS len cap (lo.map λ x => .int x.1 x.2) (hi.map λ x => .int x.1 x.2) none).run P w = .ok (l.toNat, h.toNat, cap) w := by
   intro isS len cap l h hl hh h0 h1 h2 h3
   cases lo <;> cases hi <;> simp only [Option.elim] at hl hh <;> subst hl hh
   · simp [Instr.sliceBounds]
   · rename_i y
     simp [Instr.sliceBounds, Instr.sliceBound, asIntOf, show 0 <= y.2 /\ y.2 <= (cap : Int) by omega]
   · rename_i x
     simp [Instr.sliceBounds, Instr.sliceBound, asIntOf, show 0 <= x.2 /\ x.2 <= (len : Int) by omega]
   · rename_i x y
     have e : ((y.2.toNat : Nat) : Int) = y.2 := Int.toNat_of_nonneg (by omega)
     simp [Instr.sliceBounds, Instr.sliceBound, asIntOf, show 0 <= y.2 /\ y.2 <= (cap : Int) by omega, e, show 0 <= x.2 /\ x.2 <= y.2 by omega]
 have glo : ∀ (n : Int), (lo.map (·.2)).getD n = lo.elim n (·.2) := by intro n; cases lo <;> rfl
 have ghi : ∀ (n : Int), (hi.map (·.2)).getD n = hi.elim n (·.2) := by intro n; cases hi <;> rfl
 unfold Ln at h
 split at h
 · rename_i s hs
   obtain ⟨rfl, rfl, rfl⟩ := Az h
   obtain ⟨c1, c2, c3, _⟩ := hc
   simp only [SR, Bb, A3, Ak] at ha
   subst ha
   rw [hs] at hk
   cases d <;> simp [F5] at hk
   have hsz : ByteArray.size ⟨s.toArray⟩ = s.length := List.size_toArray
   rw [glo] at c1 c2 ⊢
   rw [ghi] at c2 c3 ⊢
   have hb := bounds false s.length s.length _ _ rfl rfl c1 c2 c3 (Nat.le_refl _)
   have : (Instr.sliceAt t (.string ⟨s.toArray⟩) (lo.map λ x => .int x.1 x.2) (hi.map λ x => .int x.1 x.2) none).run P w =
       .ok (.string ⟨((s.drop (lo.elim (0 : Int) (·.2)).toNat).take ((hi.elim (s.length : Int) (·.2)).toNat - (lo.elim (0 : Int) (·.2)).toNat)).toArray⟩) w := by
     simp only [Instr.sliceAt, Sem.run_bind, I.run_under, Result.andThen_ok, Instr.slice, hsz, hb, Option.isSome_none, Bool.false_eq_true, if_false, Sem.run_pure, ByteArray.extract_mk]
   rw [this]
   exact .pure M rfl
 · rename_i e u u' st xs hE
   split at h
   · rename_i hu
     subst hu
     obtain ⟨rfl, rfl, rfl⟩ := Az h
     obtain ⟨c1, c2, c3, _⟩ := hc
     simp only [SR, Bb, A3, Ak] at ha
     obtain ⟨a, cap, hv, hcap, hn, hs, hm⟩ := ha
     simp only [List.cons.injEq, and_true, List.length_map] at hv hcap
     subst hv
     rw [hE] at hk
     cases d <;> simp [F5] at hk
     subst hk
     obtain ⟨j, hj, hjt⟩ := hel e _ hE rfl
     obtain ⟨info', d', z', J⟩ := het e hE j hj
     rw [glo] at c1 c2 ⊢
     rw [ghi] at c2 c3 ⊢
     have hb := bounds true xs.length cap _ _ rfl rfl c1 c2 c3 hcap
     generalize hl : lo.elim (0 : Int) (·.2) = l at *
     generalize hh : hi.elim (xs.length : Int) (·.2) = hh' at *
     have : (Instr.sliceAt t (.slice a xs.length cap) (lo.map λ x => .int x.1 x.2) (hi.map λ x => .int x.1 x.2) none).run P w =
         .ok (.slice (if cap = l.toNat then a else a.map (·.add (l.toNat * j.size))) (hh'.toNat - l.toNat) (cap - l.toNat)) w := by
       simp only [Instr.sliceAt, Sem.run_bind, I.run_under, Result.andThen_ok, Instr.slice, hb, J.run_size, Sem.run_pure]
     rw [this]
     refine .pure M ?_
     simp only [Bb, A3, Ak]
     have hlen : ((xs.drop l.toNat).take (hh'.toNat - l.toNat)).length = hh'.toNat - l.toNat := by
       rw [List.length_take, List.length_drop]; omega
     refine ⟨if cap = l.toNat then a else a.map λ x => x.add (l.toNat * j.size), cap - l.toNat, ?_, ?_, ?_, (λ h => by cases h), ?_⟩
     · rw [List.length_map, hlen]
     · rw [List.length_map, hlen]; omega
     · intro e
       split at e
       · have := hn e; omega
       · cases a with
         | none => have := hn rfl; omega
         | some ad => simp at e
     · intro ad he
       split at he
       · rename_i hcl
         obtain ⟨s1, _⟩ := hm ad he
         have : (xs.drop l.toNat).take (hh'.toNat - l.toNat) = [] := List.eq_nil_of_length_eq_zero (by rw [hlen]; omega)
         rw [this]; exact ⟨λ h => (h rfl).elim, trivial⟩
       · cases a with
         | none => simp at he
         | some ad0 =>
           obtain ⟨s1, m1⟩ := hm ad0 rfl
           simp at he
           subst he
           by_cases hx0 : xs = []
           · subst hx0
             refine ⟨λ h => (h (by simp)).elim, ?_⟩
             rw [show ((([] : List (Ty.den V.E u')).drop l.toNat).take (hh'.toNat - l.toNat)) = [] by simp]
             exact trivial
           rw [Afs (s1 (by simpa using hx0))]
           refine ⟨λ _ => rfl, ?_⟩
           rw [List.map_take, List.map_drop]
           have hsz : j.size = Ty.sz V.T u' := by rw [<- hjt]; exact J.ty.symm
           rw [hsz]
           exact Fr.take _ _ _ _ (Fr.drop _ _ _ _ m1 (by simp; omega))
   · simp [Aj] at h
 · -- of a box's array
   rename_i e u' id ver hE
   simp only [Aj] at h
   split at h
   · rename_i e' u xs v hb
     split at h
     · rename_i hv
       simp only [Bool.and_eq_true, decide_eq_true_eq] at hv
       obtain ⟨hv, hu⟩ := hv
       subst hu
       simp only [SR, Bb, A3, Ak, hb] at ha
       obtain ⟨_, hle, ha⟩ := ha
       have hva := ha (Aq hv)
       rw [hE] at hk
       cases d <;> simp [F5] at hk
       subst hk
       obtain ⟨j, hj, hjt⟩ := hel e _ hE rfl
       obtain ⟨info', d', z', J⟩ := het e hE j hj
       have hsz : j.size = Ty.sz V.T u := by rw [<- hjt]; exact J.ty.symm
       obtain ⟨hown, hA⟩ := M.boxes id _ hb
       have hA' := hA
       obtain ⟨css, ⟨l1, l2⟩, hal⟩ := hA'
       have run : ∀ (a : Option Addr) (cap : Nat) (l h' : Int), lo.elim (0 : Int) (·.2) = l -> hi.elim (xs.length : Int) (·.2) = h' -> 0 <= l -> l <= h' -> h' <= xs.length -> xs.length <= cap ->
           (Instr.sliceAt t (.slice a xs.length cap) (lo.map λ x => .int x.1 x.2) (hi.map λ x => .int x.1 x.2) none).run P w =
           .ok (.slice (if cap = l.toNat then a else a.map (·.add (l.toNat * j.size))) (h'.toNat - l.toNat) (cap - l.toNat)) w := by
         intro a cap l h' e1 e2 c1 c2 c3 c4
         have hb := bounds true xs.length cap _ _ e1 e2 c1 c2 c3 c4
         simp only [Instr.sliceAt, Sem.run_bind, I.run_under, Result.andThen_ok, Instr.slice, hb, J.run_size, Sem.run_pure]
       cases lo with
       | none =>
         simp only [Option.map_none, Aj] at h
         obtain ⟨rfl, rfl, rfl⟩ := Az h
         obtain ⟨c1, c2, _⟩ := hc
         rw [ghi] at c1 c2 ⊢
         generalize hh : hi.elim (xs.length : Int) (·.2) = hh' at *
         have key : ∃ r, (Instr.sliceAt t va (none : Option Value) (hi.map λ x => .int x.1 x.2) none).run P w = .ok r w /\ r.ownBlock = (β id).hdr.ownBlock /\ r.oneCell' = true /\ w.ownsRow 0 e' (u.sz V.T) r hh'.toNat (css.take hh'.toNat).flatten := by
           have hl : (css.take hh'.toNat).flatten = css.flatten.take (hh'.toNat * u.sz V.T) := Ub css _ _ λ c hc => by
             obtain ⟨m, hm⟩ := List.getElem?_of_mem hc
             obtain ⟨_, _, q⟩ := hal.get' m c hm
             exact q.2
           have hle' : hh'.toNat * u.sz V.T <= xs.length * u.sz V.T := Nat.mul_le_mul_right _ (by omega)
           rcases l2 with ⟨l2, l3⟩ | ⟨g, cap, cur, l2, l0, l3, l4, l5, l6, l7⟩
           · rw [hva, l2]
             have hz : hh' = 0 := by omega
             have := run none 0 0 hh' rfl rfl (Int.le_refl _) c1 c2 (by omega)
             rw [l3] at this
             refine ⟨_, this, ?_, ?_, ?_⟩
             · simp [Value.ownBlock]
             · simp [Value.oneCell']
             · subst hz; simp; exact World.ownsRow_nil _ _ _ _
           · rw [hva, l2]
             refine ⟨_, run (some ⟨g, 0, none⟩) cap 0 hh' rfl rfl (Int.le_refl _) c1 c2 l4, ?_, ?_, ?_⟩
             · split <;> simp [Value.ownBlock, Ju]
             · split <;> simp [Value.oneCell']
             · have e0 : (if cap = Int.toNat 0 then (some ⟨g, 0, none⟩ : Option Addr) else (some ⟨g, 0, none⟩ : Option Addr).map (·.add (Int.toNat 0 * j.size))) = some ⟨g, 0, none⟩ := by
                 split <;> simp [Ju]
               rw [e0, hl]
               refine ⟨?_, .inr ⟨g, cap, cur, by simp, Nat.zero_le _, l3, by omega, l5, l6, ?_⟩⟩
               · rw [List.length_take, l1]; omega
               · rw [<- l7, List.take_take, Nat.min_eq_left hle']
         obtain ⟨r, hr, ho, hone, hrow⟩ := key
         rw [show (Option.map (λ x => Value.int x.1 x.2) (none : Option (IntKind × Int))) = none from rfl, hr]
         obtain ⟨M', X⟩ := M.set (w' := w) id (.arr e' u (xs.take hh'.toNat) (v + 1) false) { β id with hdr := r } rfl rfl rfl (Nat.le_refl _) (λ _ _ _ => rfl) (λ x hx => .inl hx) (M.nodup id)
           (λ b0 h0 => by rw [hb] at h0; cases h0; exact ⟨rfl, Nat.le_succ _, λ e => by omega⟩)
           (λ X => by
             simp only [C5]
             rw [Ba]
             refine ⟨by show (β id).own = _; rw [hown, ho], css.take hh'.toNat, ?_, (hal.take hh'.toNat).imp λ x c q => ⟨Br.later X.later _ _ q.1, q.2⟩⟩
             rw [List.length_take, Nat.min_eq_left (by omega)]; exact hrow)
         refine ⟨_, w, r, _, rfl, rfl, ?_, M', X⟩
         simp only [Bb, A3, Ak, A2]
         exact ⟨hone, Nat.le_refl _, λ _ => by rw [Ba]⟩
       | some lk =>
         simp only [Option.map_some] at h
         obtain ⟨rfl, rfl, rfl⟩ := Az h
         obtain ⟨c1, c2, c3, _⟩ := hc
         rw [ghi] at c2 c3 ⊢
         generalize hh : hi.elim (xs.length : Int) (·.2) = hh' at *
         rcases l2 with ⟨l2, l3⟩ | ⟨g, cap, cur, l2, l0, l3, l4, l5, l6, l7⟩
         · omega
         · rw [hva, l2, run (some ⟨g, 0, none⟩) cap lk.2 hh' rfl rfl c1 (by omega) c3 l4]
           refine .pure M ?_
           simp only [Bb, A3, Ak, hb]
           refine ⟨by simp [Value.oneCell'], hle, λ _ => ⟨c1, by omega, by omega, g, cap, l2, by omega, ?_⟩⟩
           rw [if_neg (by omega)]
           simp only [Option.map_some, Ju, hsz, Nat.zero_add]
           congr 1
           omega
     · simp [Aj] at h
   · simp [Aj] at h
 · simp [Aj] at h
end
theorem S5 {α β : Type} {R : α -> β -> Prop} : ∀ {l : List α} {m : List β} {n : Nat} {xs : List α} {ys : List β} {l' : List α}, Bk R l m -> Bk R xs ys -> Ma l n xs = some l' ->
   Bk R l' (m.take n ++ ys ++ m.drop (n + ys.length)) /\ n + ys.length <= m.length \/ (xs = [] /\ l' = l)
 | l, m, n, [], ys, l', _, _, h => by
   unfold Ma at h
   cases l <;> simp at h <;> (subst h; exact .inr ⟨rfl, rfl⟩)
 | [], m, n, x :: xs, ys, l', _, _, h => by unfold Ma at h; cases h
 | a :: l, _, 0, x :: xs, _, l', .cons h1 h2, .cons k1 k2, h => by
   simp only [Ma] at h
   cases hs : Ma l 0 xs with
   | none => rw [hs] at h; cases h
   | some r =>
     rw [hs] at h; simp at h; subst h
     left
     rcases S5 h2 k2 hs with ⟨q, ql⟩ | ⟨rfl, rfl⟩
     · refine ⟨?_, by simp at ql ⊢; omega⟩
       simp only [List.take_zero, List.nil_append, Nat.zero_add] at q ⊢
       simp only [List.length_cons, List.drop_succ_cons, List.cons_append]
       exact .cons k1 q
     · cases k2
       refine ⟨?_, by simp⟩
       simp only [List.take_zero, List.nil_append, Nat.zero_add, List.length_cons, List.length_nil, List.drop_succ_cons, List.drop_zero, List.cons_append]
       exact .cons k1 h2
 | a :: l, _, n + 1, x :: xs, ys, l', .cons h1 h2, k, h => by
   simp only [Ma] at h
   cases hs : Ma l n (x :: xs) with
   | none => rw [hs] at h; cases h
   | some r =>
     rw [hs] at h; simp at h; subst h
     left
     rcases S5 h2 k hs with ⟨q, ql⟩ | ⟨q, _⟩
     · refine ⟨?_, by simp; omega⟩
       simp only [List.take_succ_cons, List.cons_append, show n + 1 + ys.length = n + ys.length + 1 by omega, List.drop_succ_cons]
       exact .cons h1 q
     · cases q
theorem Vj {α β : Type} {R : α -> β -> Prop} {l : List α} {m : List β} {n : Nat} {xs : List α} {ys : List β} {l' : List α} (h1 : Bk R l m) (h2 : Bk R xs ys) (h : Ma l n xs = some l') (hpos : 0 < xs.length) :
   Bk R l' (m.take n ++ ys ++ m.drop (n + ys.length)) /\ n + ys.length <= m.length := by
 rcases S5 h1 h2 h with h | ⟨h, _⟩
 · exact h
 · rw [h] at hpos; simp at hpos
theorem Qh {sz : Nat} : ∀ (css : List (List Value)) (i : Nat) (cs : List Value), (∀ c ∈ css, c.length = sz) -> css[i]? = some cs -> ∀ (n : Nat) (ys : List Value), n + ys.length <= sz ->
   css.flatten.take (i * sz + n) ++ ys ++ css.flatten.drop (i * sz + n + ys.length) = (css.set i (cs.take n ++ ys ++ cs.drop (n + ys.length))).flatten
 | [], i, cs, _, h, _, _, _ => by simp at h
 | c :: css, 0, cs, hall, h, n, ys, hl => by
   simp at h; subst h
   have hc := hall c (by simp)
   simp only [List.set_cons_zero, List.flatten_cons, Nat.zero_mul, Nat.zero_add]
   rw [List.take_append_of_le_length (by omega), List.drop_append_of_le_length (by omega)]
   simp
 | c :: css, i + 1, cs, hall, h, n, ys, hl => by
   have hc := hall c (by simp)
   simp only [List.set_cons_succ, List.flatten_cons]
   rw [<- Qh css i cs (λ c hc => hall c (by simp [hc])) (by simpa using h) n ys hl]
   have e1 : (i + 1) * sz + n = c.length + (i * sz + n) := by rw [hc, Nat.add_mul]; omega
   have e2 : (i + 1) * sz + n + ys.length = c.length + (i * sz + n + ys.length) := by rw [hc, Nat.add_mul]; omega
   rw [e2, e1, List.take_length_add_append, List.drop_length_add_append]
   simp
theorem Lc (z : Array Value) (hz : 0 < z.size) : ∀ n : Nat, (madeCells z (n * z.size)).toList = (List.replicate n z.toList).flatten
 | 0 => by simp [madeCells]
 | n + 1 => by
   rw [List.replicate_succ, List.flatten_cons, <- Lc z hz n]
   unfold madeCells
   simp only [Array.toList_map, Array.toList_range]
   rw [show (n + 1) * z.size = z.size + n * z.size by rw [Nat.add_mul]; omega, List.range_add, List.map_append, List.map_map]
   congr 1
   · apply List.ext_getElem?
     intro k
     simp only [List.getElem?_map]
     by_cases hk : k < z.size
     · rw [List.getElem?_range hk]
       simp [Nat.mod_eq_of_lt hk, hk]
     · rw [List.getElem?_eq_none (by simp; omega)]
       simp; omega
   · apply List.map_congr_left
     intro k _
     simp [Nat.add_mod_left]
section
variable {V : Env} {P : Program} {C : Ctx} {bx : List (Nat × Box V.E)} {β : Nat -> BI} {w : World}
variable {res : Option (SV V.E)} {cs : List Prop} {bx' : List (Nat × Box V.E)} {rs ws : List Nat} {ac : Acc}
theorem H2 {id : Nat} {b : Box V.E} {k : Er V.E} (h : Aj V bx (Jh V id b k) rs ws = some (res, cs, bx', ac)) :
   A6 id bx = none /\ ∃ rs' ws', Aj V (put id b bx) k rs' ws' = some (res, cs, bx', ac) := by
 simp only [Jh, Aj] at h
 split at h
 · rename_i hb; exact ⟨hb, _, _, h⟩
 · simp [Aj] at h
theorem Bq.new (M : Bq V.T C bx β w) {id : Nat} (hid : A6 id bx = none) (b : Box V.E) (o : Obj) (hdr : Value) (own : List Nat) (ho : own = [w.heap.size] \/ own = [])
   (hrep : Ext V.T bx β (Bc C β w) w (put id b bx) (upd β id ⟨w.heap.size, hdr, own, []⟩) (Bc C (upd β id ⟨w.heap.size, hdr, own, []⟩) (w.alloc o)) (w.alloc o) ->
     C5 V.T (put id b bx) (upd β id ⟨w.heap.size, hdr, own, []⟩) (Bc C (upd β id ⟨w.heap.size, hdr, own, []⟩) (w.alloc o)) (w.alloc o) id b) :
   Bq V.T C (put id b bx) (upd β id ⟨w.heap.size, hdr, own, []⟩) (w.alloc o) /\
     Ext V.T bx β (Bc C β w) w (put id b bx) (upd β id ⟨w.heap.size, hdr, own, []⟩) (Bc C (upd β id ⟨w.heap.size, hdr, own, []⟩) (w.alloc o)) (w.alloc o) := by
 have G := Rr.alloc w o
 refine M.set id b _ G.os G.tape G.output G.size (λ x hx _ => G.heap x hx) ?_ ?_ ?_ hrep
 · intro x hx
   rcases ho with rfl | rfl
   · simp at hx; subst hx; exact .inr ⟨Nat.le_refl _, by simp⟩
   · simp at hx
 · rcases ho with rfl | rfl <;> simp
 · intro b0 h0; rw [hid] at h0; cases h0
theorem Aqe (M : Bq V.T C bx β w) {dst : Nat} {t : TypeId} {ls : List (A7 V.E)} {vs : Array Value} (hr : Bk (Ak V.T bx β (Bc C β w) w) ls vs.toList)
   (h : Aj V bx (Jh V dst (.cells ls) (.one (.ptr dst 0))) rs ws = some (res, cs, bx', ac)) :
   VOk V.T C bx β w res bx' (.ok (.pointer (some ⟨w.heap.size, 0, none⟩)) (w.alloc (.cells vs t))) := by
 obtain ⟨hid, rs', ws', h⟩ := H2 h
 obtain ⟨rfl, _, rfl⟩ := Az h
 obtain ⟨M', X⟩ := M.new hid (.cells ls) (.cells vs t) .nilIface [w.heap.size] (.inl rfl) λ X => by
   refine ⟨vs, t, by simp, ?_, Bk.ext X hr⟩
   rw [Ba]; exact heap_alloc_new _ _
 refine ⟨_, _, _, _, rfl, rfl, ?_, M', X⟩
 simp only [Bb, A3, Ak, A2, Ba]
 exact ⟨rfl, trivial⟩
theorem Adf (i i' : BI) (h : i'.blk = i.blk) (l m : List (A7 V.E)) : Fy V.T i i' (.cells l) (.cells m) := h
theorem Yv {ls : List (A7 V.E)} {vs : List Value} (h : Bk (Ak V.T bx β (Bc C β w) w) ls vs) : ∀ v ∈ vs, v.oneCell' = true := by
 intro v hv
 obtain ⟨n, hn⟩ := List.getElem?_of_mem hv
 obtain ⟨l, _, hl⟩ := h.get' n v hn
 exact Afq hl
def UOk (T : Tab) (C : Ctx) (bx : List (Nat × Box T.E)) (β : Nat -> BI) (w : World) (res : Option (SV T.E)) (bx' : List (Nat × Box T.E)) (r : Result Unit) : Prop :=
 ∃ β' w', res = none /\ r = .ok () w' /\ Bq T C bx' β' w' /\ Ext T bx β (Bc C β w) w bx' β' (Bc C β' w') w'
theorem Hb {t : TypeId} {i : TI V.E} {info : TypeInfo} {d : TypeDesc} {z : Value} (I : C6 V P t i info d z) {b o : Nat} {c : Array Value} {e : TypeId} (hg : w.heap[b]? = some (.cells c e (0, 0)))
   {v : Value} (hv : v.cells.size = i.size) (hl : o + i.size <= c.size) (h1 : ∀ x ∈ v.cells.toList, x.oneCell' = true) :
   (Instr.storeAt t (.pointer (some ⟨b, o, none⟩)) v).run P w = .ok () (w.setRow b (c.toList.take o ++ v.cells.toList ++ c.toList.drop (o + v.cells.toList.length)).toArray) := by
 have hs := run_storeCells_at (P := P) b o e v.cells.toList 0 c w hg (by simp [hv]; omega) h1
 simp only [Nat.add_zero] at hs
 simp only [Instr.storeAt, Instr.sureAddr, storeVar, Sem.run_bind, Sem.run_pure, Result.andThen_ok, I.run_size, hv, ne_eq, not_true, if_false, hs]
end
end Go.Ab
