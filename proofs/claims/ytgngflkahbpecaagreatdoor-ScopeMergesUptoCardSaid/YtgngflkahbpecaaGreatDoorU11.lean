/- From what a row, with a condition or without, and with variables listed or without, says of a call's arguments to data, and from a function that meets its telling to the row's form. Structs of ints, bools, texts: compared as their leaves are. One operation, told by small steps that are quickly reckoned; and that they tell what `core` tells. Conditions: none beyond those that each theorem names. -/
import Derived.Test.YtgngflkahbpecaaGreatDoorU10
import Derived.JoinedOf
import Derived.SizedLaws
import Derived.Carry
import Derived.ChangeSame
import Derived.LaidMore
import Derived.LaidHandle
import Derived.Handed
import Derived.Stop.Joined
import Derived.Deep.DeepHandedRow
import Derived.Laws.StructEq
namespace Go.Ab
open Go
inductive LK (E : Nat → Type) where
  | int (k : IntKind) | bool | str
  | sl (t : Ty) (b : Nat) (Q : t.den E → Prop)
structure BkOk (bk : (H : Type) → DataW H → Nat) : Prop where
  str : ∀ H (s : List UInt8), s.length ≤ bk H (.lit (.string s))
  len : ∀ H (xs ys : List (DataW H)), xs.length ≤ bk H (.slice xs ys)
  elem : ∀ H (xs ys : List (DataW H)), ∀ x ∈ xs, bk H x ≤ bk H (.slice xs ys)
  part : ∀ H (xs : List (DataW H)), ∀ x ∈ xs, bk H x ≤ bk H (.agg xs)
def Shp {E : Nat → Type} (B : Nat) : List (LK E) → List (Leaf E) → Prop
  | [], ls => ls = []
  | .int k :: ks, ls => ∃ n r, ls = .int k n :: r ∧ k.has n ∧ Shp B ks r
  | .bool :: ks, ls => ∃ b r, ls = .bool b :: r ∧ Shp B ks r
  | .str :: ks, ls => ∃ s r, ls = .str s :: r ∧ s.length ≤ B ∧ Shp B ks r
  | .sl t b Q :: ks, ls => ∃ xs r, ls = .sl t false xs :: r ∧ xs.length ≤ B ∧ (∀ x ∈ xs, Q x) ∧ Shp B ks r
theorem Shp.append {E : Nat → Type} {B : Nat} : ∀ {ks ks' : List (LK E)} {ls ls' : List (Leaf E)}, Shp B ks ls → Shp B ks' ls' → Shp B (ks ++ ks') (ls ++ ls')
  | [], _, _, _, h, h' => by cases h; exact h'
  | .int k :: ks, _, _, _, h, h' => by obtain ⟨n, r, rfl, h1, h2⟩ := h; exact ⟨n, _, rfl, h1, h2.append h'⟩
  | .bool :: ks, _, _, _, h, h' => by obtain ⟨n, r, rfl, h2⟩ := h; exact ⟨n, _, rfl, h2.append h'⟩
  | .str :: ks, _, _, _, h, h' => by obtain ⟨n, r, rfl, h1, h2⟩ := h; exact ⟨n, _, rfl, h1, h2.append h'⟩
  | .sl t b Q :: ks, _, _, _, h, h' => by obtain ⟨n, r, rfl, h1, h2, h3⟩ := h; exact ⟨n, _, rfl, h1, h2, h3.append h'⟩
section
variable (T : Tab) (P : Program) (bk : (H : Type) → DataW H → Nat) (B : Nat)
def DLeaf (ok : Nat → Prop) (w : World) (l : Leaf T.E) (v : Value) : Prop := ∃ a, Leaf.av T l = some a ∧ AVRep ok w a [v]
def below (W : World) (b : Nat) : Prop := b < W.heap.size
def RdL (t : TypeId) (ks : List (LK T.E)) : Prop :=
  ∀ (H : Type) (enc : TypeId × Value → H) (W : World) (fuel : Nat) (cs : List Value) (d : DataW H) (ps : List MemPlace), DataW.trod enc P W 0 (fun _ => true) true fuel t cs = some (d, ps) → bk H d ≤ B →
    ∃ ls, Shp B ks ls ∧ All2 (DLeaf T (below W) W) ls cs
def RdE (t : TypeId) (u : Ty) (Q : u.den T.E → Prop) : Prop :=
  ∀ (H : Type) (enc : TypeId × Value → H) (W : World) (fuel : Nat) (cs : List Value) (d : DataW H) (ps : List MemPlace), DataW.trod enc P W 0 (fun _ => true) true fuel t cs = some (d, ps) → bk H d ≤ B →
    ∃ x, Q x ∧ AVRep (below W) W (u.av T x) cs
end
section
variable {T : Tab} {P : Program} {bk : (H : Type) → DataW H → Nat} {B : Nat} {t e : TypeId}
theorem has_of {k : IntKind} {n : Int} (h : (Lit.int k n).wf = true) : k.has n := by
  simpa [Lit.wf, Bool.and_eq_true, decide_eq_true_eq, IntKind.has] using h
theorem rdl_int {k : IntKind} (ht : P.underlying t = some (.int k)) : RdL T P bk B t [.int k] := by
  intro H enc W fuel cs d ps h _
  obtain ⟨n, rfl, _, hw⟩ := DataW.trod_int ht h
  exact ⟨[.int k n], ⟨n, [], rfl, has_of hw, rfl⟩, .cons ⟨_, rfl, rfl⟩ .nil⟩
theorem rdl_str (hk : BkOk bk) (ht : P.underlying t = some .string) : RdL T P bk B t [.str] := by
  intro H enc W fuel cs d ps h hz
  obtain ⟨s, rfl, hx, _⟩ := DataW.trod_string ht h
  cases hx
  refine ⟨[.str s.data.toList], ⟨s.data.toList, [], rfl, ?_, rfl⟩, .cons ⟨_, rfl, by simp [AVRep]⟩ .nil⟩
  exact Nat.le_trans (hk.str _ _) hz
theorem list_of {α : Type} {R : Nat → α → Prop} : ∀ n, (∀ i, i < n → ∃ x, R i x) → ∃ xs : List α, xs.length = n ∧ ∀ i x, xs[i]? = some x → R i x
  | 0, _ => ⟨[], rfl, fun i x h => by simp at h⟩
  | n + 1, h => by
    obtain ⟨xs, h1, h2⟩ := list_of n fun i hi => h i (by omega)
    obtain ⟨x, hx⟩ := h n (by omega)
    refine ⟨xs ++ [x], by simp [h1], fun i y hy => ?_⟩
    by_cases hi : i < xs.length
    · rw [List.getElem?_append_left hi] at hy; exact h2 i y hy
    · rw [List.getElem?_append_right (by omega)] at hy
      have : i - xs.length = 0 := by
        rcases Nat.eq_zero_or_pos (i - xs.length) with h | h
        · exact h
        · rw [List.getElem?_eq_none (by simp; omega)] at hy; cases hy
      rw [this] at hy
      simp at hy
      subst hy
      have : i = n := by omega
      rw [this]; exact hx
theorem cells_get {w : World} {a : Addr} {n : Nat} {cs : List Value} (h : w.cells? 0 a n = some cs) : cs.length = n ∧ ∀ j v, cs[j]? = some v → w.cell? (a.add j) = some v := by
  unfold World.cells? at h
  rw [if_pos (Nat.zero_le _)] at h
  refine ⟨by simpa using mapM_some_length h, fun j v hv => ?_⟩
  have hj : j < n := by
    rcases Nat.lt_or_ge j n with h' | h'
    · exact h'
    · rw [List.getElem?_eq_none (by have := mapM_some_length h; simp at this; omega)] at hv; cases hv
  rw [mapM_some_get h j j (by simp [hj])]
  exact hv
theorem block_lt {w : World} {a : Addr} {v : Value} (h : w.cell? a = some v) : a.block < w.heap.size := by
  unfold World.cell? at h
  rcases Nat.lt_or_ge a.block w.heap.size with h' | h'
  · exact h'
  · rw [Array.getElem?_eq_none h'] at h; cases h
theorem spot_add {ad : Addr} (h : ad.spot = none) (n : Nat) : ad.add n = ⟨ad.block, ad.off + n, none⟩ := by
  unfold Addr.add
  split
  · rename_i e; subst e; obtain ⟨b, o, s⟩ := ad; simp at h; subst h; rfl
  · rfl
theorem rdl_slice (hk : BkOk bk) {u : Ty} {Q : u.den T.E → Prop} (ht : P.underlying t = some (.slice e)) (he : RdE T P bk B e u Q) (hsz : P.cellsOf e = u.sz T) (hpos : 0 < P.cellsOf e) : RdL T P bk B t [.sl u (P.bytesOf e) Q] := by
  intro H enc W fuel cs d ps h hz
  rcases DataW.trod_slice ht h with ⟨rfl, hx⟩ | ⟨a, len, cap, elems, rest, n, rfl, rfl, hx, _, hlen, _, hel, hget, _, _⟩
  · exact ⟨[.sl u false []], ⟨[], [], rfl, by simp, by simp, rfl⟩, .cons ⟨_, rfl, none, 0, rfl, by simp, fun _ => rfl, (fun h => by cases h), fun ad h => by cases h⟩ .nil⟩
  · cases hx
    have hz1 : elems.length ≤ B := by have := hk.len H (elems.map (·.1)) (rest.map (·.1)); rw [List.length_map] at this; omega
    have hz2 : ∀ x ∈ elems.map (·.1), bk H x ≤ B := fun x hx => Nat.le_trans (hk.elem H _ _ x hx) hz
    obtain ⟨xs, x1, x2⟩ := list_of (R := fun i x => Q x ∧ ∃ cs, W.cells? 0 (a.add (i * P.cellsOf e)) (P.cellsOf e) = some cs ∧ AVRep (below W) W (u.av T x) cs) len (fun i hi => by
      have := hget i hi
      have hi' : i < elems.length := by omega
      rw [List.getElem?_eq_getElem hi'] at this
      obtain ⟨cs, c1, c2⟩ := Option.bind_eq_some_iff.1 this
      obtain ⟨x, q1, q2⟩ := he H enc W n cs elems[i].1 elems[i].2 c2 (hz2 _ (List.mem_map.2 ⟨_, List.getElem_mem hi', rfl⟩))
      exact ⟨x, q1, cs, c1, q2⟩)
    have hspot : xs ≠ [] → a.spot = none ∧ a.block < W.heap.size := by
      intro hne
      have h0 : 0 < xs.length := List.length_pos_iff.2 hne
      obtain ⟨_, cs, c1, _⟩ := x2 0 xs[0] (by rw [List.getElem?_eq_getElem h0])
      obtain ⟨g1, g2⟩ := cells_get c1
      have hc : 0 < cs.length := by omega
      have := g2 0 cs[0] (by rw [List.getElem?_eq_getElem hc])
      have e : (a.add (0 * P.cellsOf e)).add 0 = a := by simp [Addr.add]
      rw [e] at this
      exact ⟨World.cell?_spot this, block_lt this⟩
    refine ⟨[.sl u false xs], ⟨xs, [], rfl, ?_, fun x hx => ?_, rfl⟩, .cons ⟨_, rfl, some a, cap, by rw [List.length_map, x1], by rw [List.length_map, x1]; exact hlen, (fun h => by cases h), (fun h => by cases h), fun ad had => ?_⟩ .nil⟩
    · omega
    · obtain ⟨i, hi⟩ := List.getElem?_of_mem hx
      exact (x2 i x hi).1
    · cases had
      refine ⟨fun hne => (hspot (by simpa using hne)).1, AVMem.mk _ _ _ fun i y hy => ?_⟩
      rw [List.getElem?_map] at hy
      obtain ⟨x, hx, rfl⟩ := Option.map_eq_some_iff.1 hy
      obtain ⟨_, cs, c1, c2⟩ := x2 i x hx
      obtain ⟨g1, g2⟩ := cells_get c1
      obtain ⟨s1, s2⟩ := hspot (by rintro rfl; simp at hx)
      refine ⟨cs, c2, by omega, s2, fun j v hv => ?_⟩
      have := g2 j v hv
      rw [spot_add s1, spot_add rfl] at this
      rw [← hsz]; exact this
inductive Flds (T : Tab) (P : Program) (bk : (H : Type) → DataW H → Nat) (B : Nat) : Nat → List (Nat × TypeId × Nat) → List (LK T.E) → Nat → Prop where
  | nil {off} : Flds T P bk B off [] [] off
  | cons {off t n fs ks ks' fin} : RdL T P bk B t ks → Flds T P bk B (off + n) fs ks' fin → Flds T P bk B off ((off, t, n) :: fs) (ks ++ ks') fin
theorem flds_ok {H : Type} {enc : TypeId × Value → H} {W : World} {m : Nat} {cs : List Value} : ∀ {fs : List (Nat × TypeId × Nat)} {off fin : Nat} {ks : List (LK T.E)} {xs : List (DataW H × List MemPlace)}, Flds T P bk B off fs ks fin → cs.length = fin → xs.length = fs.length →
    (∀ (i : Nat) (f : Nat × TypeId × Nat), fs[i]? = some f → DataW.trod enc P W 0 (fun _ => true) true m f.2.1 ((cs.drop f.1).take f.2.2) = xs[i]?) →
    (∀ (i : Nat) (f : Nat × TypeId × Nat) (x : DataW H × List MemPlace), fs[i]? = some f → xs[i]? = some x → bk H x.1 ≤ B) →
    ∃ ls, Shp B ks ls ∧ All2 (DLeaf T (below W) W) ls (cs.drop off)
  | _, off, _, _, xs, .nil, hl, hx, _, _ => ⟨[], rfl, by rw [List.drop_eq_nil_of_le (by omega)]; exact .nil⟩
  | _, off, fin, _, [], .cons _ _, _, hx, _, _ => by simp at hx
  | _, off, fin, _, x :: xs, .cons (t := t) (n := n) (fs := fs) h2 h3, hl, hx, hg, hw => by
    obtain ⟨ls2, s2, a2⟩ := flds_ok h3 hl (by simpa using hx) (fun i f' hf => by have := hg (i + 1) f' (by simpa using hf); simpa using this) (fun i f' x' hf hx' => hw (i + 1) f' x' (by simpa using hf) (by simpa using hx'))
    obtain ⟨ls1, s1, a1⟩ := h2 H enc W m _ x.1 x.2 (by have := hg 0 (off, t, n) (by simp); simpa using this) (hw 0 (off, t, n) x (by simp) (by simp))
    refine ⟨ls1 ++ ls2, s1.append s2, ?_⟩
    have : cs.drop off = (cs.drop off).take n ++ cs.drop (off + n) := by
      rw [← List.drop_drop, List.take_append_drop]
    rw [this]
    exact a1.append a2
def fldsOf (P : Program) (t : TypeId) : Option (List (Nat × TypeId × Nat)) := match P.underlying t with
  | some (.struct fs) => some (fs.toList.map fun f => (f.offset, f.type, P.cellsOf f.type))
  | _ => none
theorem rdl_struct (hk : BkOk bk) {fl : List (Nat × TypeId × Nat)} {ks : List (LK T.E)} {fin : Nat} (hf : fldsOf P t = some fl) (hfin : P.cellsOf t = fin) (h : Flds T P bk B 0 fl ks fin) : RdL T P bk B t ks := by
  intro H enc W fuel cs d ps htr hz
  unfold fldsOf at hf
  split at hf
  · rename_i fs ht
    cases hf
    obtain ⟨xs, n, rfl, hx, hl, hxl, hg⟩ := DataW.trod_struct ht htr
    cases hx
    have := flds_ok (enc := enc) (W := W) (m := n) (cs := cs) (xs := xs) h (hl.trans hfin) (by simpa using hxl) (fun i f hf => by
      rw [List.getElem?_map] at hf
      obtain ⟨f', hf', rfl⟩ := Option.map_eq_some_iff.1 hf
      exact hg i f' (by simpa using hf')) (fun i f x _ hx' => Nat.le_trans (hk.part H _ x.1 (List.mem_map.2 ⟨x, List.mem_of_getElem? hx', rfl⟩)) hz)
    simpa using this
  · cases hf
theorem rde_slice (hk : BkOk bk) {u : Ty} {Q : u.den T.E → Prop} (ht : P.underlying t = some (.slice e)) (he : RdE T P bk B e u Q) (hsz : P.cellsOf e = u.sz T) (hpos : 0 < P.cellsOf e) : RdE T P bk B t (.sl u) fun xs : List (u.den T.E) => xs.length ≤ B ∧ ∀ x ∈ xs, Q x := by
  intro H enc W fuel cs d ps h hz
  obtain ⟨ls, ⟨xs, r, rfl, h1, h2, h3⟩, a⟩ := rdl_slice hk ht he hsz hpos H enc W fuel cs d ps h hz
  cases h3
  cases a with
  | cons k1 k2 =>
    cases k2
    obtain ⟨av, h4, h5⟩ := k1
    cases h4
    exact ⟨xs, ⟨h1, h2⟩, h5⟩
theorem dleaf_all {ok : Nat → Prop} {w : World} : ∀ {ls : List (Leaf T.E)} {as : List AV} {cs : List Value}, All2 (DLeaf T ok w) ls cs → ls.map (Leaf.av T) = as.map some → AVAll ok w as cs
  | [], as, _, .nil, h => by
    have : as = [] := by cases as with
      | nil => rfl
      | cons a as => simp at h
    subst this
    exact rfl
  | l :: ls, [], _, .cons _ _, h => by simp at h
  | l :: ls, a :: as, _, .cons (b := v) (m := vs) h1 h2, h => by
    simp only [List.map_cons, List.cons.injEq] at h
    obtain ⟨a', h3, h4⟩ := h1
    rw [h.1] at h3
    cases h3
    exact ⟨[v], vs, rfl, h4, dleaf_all h2 h.2⟩
theorem rde_nm (ok : T.Ok) {n : Nat} {Q : T.E n → Prop} {ks : List (LK T.E)} (h : RdL T P bk B t ks) (mk : ∀ ls, Shp B ks ls → ∃ x, Q x ∧ T.toL n x = ls) : RdE T P bk B t (.nm n) Q := by
  intro H enc W fuel cs d ps htr hz
  obtain ⟨ls, s, a⟩ := h H enc W fuel cs d ps htr hz
  obtain ⟨x, hx, rfl⟩ := mk ls s
  exact ⟨x, hx, dleaf_all a (ok.av n x)⟩
def RdV (T : Tab) (P : Program) (bk : (H : Type) → DataW H → Nat) (B : Nat) (t : TypeId) (u : Ty) (Q : u.den T.E → Prop) : Prop :=
  ∀ (H : Type) (enc : TypeId × Value → H) (W : World) (base : Nat) (v : Value) (d : DataW H) (ps : List MemPlace), Value.okWide P W .any base t v → DataW.Trod enc P W 0 (fun _ => true) true t v d ps → bk H d ≤ B →
    ∃ x, Q x ∧ DRep T (below W) W u x v
def plainB (P : Program) (t : TypeId) : Bool := match P.underlying t with
  | some (.int _) | some .bool | some .string | some (.slice _) => true
  | _ => false
theorem rdv_one {u : Ty} {Q : u.den T.E → Prop} (h : RdE T P bk B t u Q) (hu : isNm u = false) (hk : plainB P t = true) : RdV T P bk B t u Q := by
  intro H enc W base v d ps hv htr hz
  obtain ⟨fuel, htr⟩ := htr
  have hc : v.cells.toList = [v] := by
    cases v <;> try rfl
    exfalso
    unfold Value.okWide Cell.okWide Cell.ok at hv
    unfold plainB at hk
    split at hk <;> rename_i h' <;> first | (rw [h'] at hv; simp at hv) | cases hk
  rw [hc] at htr
  obtain ⟨x, h1, h2⟩ := h H enc W fuel _ d ps htr hz
  exact ⟨x, h1, by unfold DRep; rw [if_neg (by rw [hu]; exact Bool.false_ne_true)]; exact h2⟩
inductive RdAll (T : Tab) (P : Program) (bk : (H : Type) → DataW H → Nat) (B : Nat) : List TypeId → (us : List Ty) → (HL T.E us → Prop) → Prop where
  | nil : RdAll T P bk B [] [] fun _ => True
  | cons {t u Q ts us R} : RdV T P bk B t u Q → RdAll T P bk B ts us R → RdAll T P bk B (t :: ts) (u :: us) fun x => Q x.1 ∧ R x.2
theorem rdall_args {H : Type} {enc : TypeId × Value → H} {W : World} {base : Nat} {ts : List TypeId} {us : List Ty} {Q : HL T.E us → Prop} (h : RdAll T P bk B ts us Q) : ∀ (vs : List Value) (ds : List (DataW H)) (ps : List MemPlace), DataW.TrodAll enc P W 0 (fun _ => true) true ts vs ds ps →
    (∀ (j : Nat) t v, ts[j]? = some t → vs[j]? = some v → Value.okWide P W .any base t v) → (∀ d ∈ ds, bk H d ≤ B) → ∃ x, Q x ∧ ArgsRep T (below W) W [] us x vs [] := by
  induction h with
  | nil =>
    intro vs ds ps h _ _
    match vs, ds, h with
    | [], [], _ => exact ⟨(), trivial, rfl, rfl⟩
  | cons h1 h2 ih =>
    intro vs ds ps h hv hz
    match vs, ds, h with
    | v :: vs, d :: ds, ⟨p, q, g1, g2, g3⟩ =>
      obtain ⟨x, k1, k2⟩ := h1 H enc W base v d p (hv 0 _ v rfl rfl) g1 (hz d (by simp))
      obtain ⟨y, k3, k4⟩ := ih vs ds q g2 (fun j t' v' hj hj' => hv (j + 1) t' v' (by simpa using hj) (by simpa using hj')) (fun d hd => hz d (by simp [hd]))
      exact ⟨(x, y), ⟨k1, k3⟩, v, vs, [], [], rfl, rfl, .data k2, k4⟩
theorem trodAll_len {H : Type} {enc : TypeId × Value → H} {W : World} {base : Nat} {sp : Nat → Bool} {held : Bool} : ∀ {ts : List TypeId} {vs : List Value} {ds : List (DataW H)} {ps : List MemPlace}, DataW.TrodAll enc P W base sp held ts vs ds ps → ds.length = ts.length
  | [], [], [], _, _ => rfl
  | t :: ts, v :: vs, d :: ds, ps, ⟨p, q, _, h, _⟩ => by simp [trodAll_len h]
theorem trodAll_stays {H : Type} {enc : TypeId × Value → H} {W W' : World} (hl : laidOutB P = true) {sp' : Nat → Bool} : ∀ {ts : List TypeId} {vs : List Value} {ds : List (DataW H)} {ps : List MemPlace}, (∀ t ∈ ts, P.readableRec t = true ∧ t < P.types.size) → DataW.TrodAll enc P W 0 (fun _ => true) true ts vs ds ps →
    (∀ p ∈ ps, W.sameAt W' p) → (∀ p ∈ ps, sp' p.block = true) → DataW.TrodAll enc P W' 0 sp' true ts vs ds ps
  | [], [], [], _, _, h, _, _ => h
  | t :: ts, v :: vs, d :: ds, ps, hr, ⟨p, q, h1, h2, h3⟩, hs, hb => by
    subst h3
    exact ⟨p, q, WideElems.Trod_stays hl (hr t (by simp)).1 (hr t (by simp)).2 h1 (fun x hx => hs x (by simp [hx])) (fun x hx => hb x (by simp [hx])),
      trodAll_stays hl (fun t' ht' => hr t' (by simp [ht'])) h2 (fun x hx => hs x (by simp [hx])) (fun x hx => hb x (by simp [hx])), rfl⟩
end
section
variable (T : Tab) (P : Program) (bk : (H : Type) → DataW H → Nat) (B : Nat)
def RdLn (N : Nat) (t : TypeId) (ks : List (LK T.E)) : Prop :=
  ∀ (H : Type) (enc : TypeId × Value → H) (W : World) (fuel : Nat) (cs : List Value) (d : DataW H) (ps : List MemPlace), fuel < N → DataW.trod enc P W 0 (fun _ => true) true fuel t cs = some (d, ps) → bk H d ≤ B →
    ∃ ls, Shp B ks ls ∧ All2 (DLeaf T (below W) W) ls cs
def RdEn (N : Nat) (t : TypeId) (u : Ty) (Q : u.den T.E → Prop) : Prop :=
  ∀ (H : Type) (enc : TypeId × Value → H) (W : World) (fuel : Nat) (cs : List Value) (d : DataW H) (ps : List MemPlace), fuel < N → DataW.trod enc P W 0 (fun _ => true) true fuel t cs = some (d, ps) → bk H d ≤ B →
    ∃ x, Q x ∧ AVRep (below W) W (u.av T x) cs
end
section
variable {T : Tab} {P : Program} {bk : (H : Type) → DataW H → Nat} {B : Nat} {t e : TypeId}
theorem RdL.n {ks : List (LK T.E)} (h : RdL T P bk B t ks) (N : Nat) : RdLn T P bk B N t ks := fun H enc W fuel cs d ps _ => h H enc W fuel cs d ps
theorem RdLn.le {ks : List (LK T.E)} {M N : Nat} (hm : M ≤ N) (h : RdLn T P bk B N t ks) : RdLn T P bk B M t ks := fun H enc W fuel cs d ps hf => h H enc W fuel cs d ps (Nat.lt_of_lt_of_le hf hm)
theorem RdE.of_n {u : Ty} {Q : u.den T.E → Prop} (h : ∀ N, RdEn T P bk B N t u Q) : RdE T P bk B t u Q := fun H enc W fuel cs d ps => h (fuel + 1) H enc W fuel cs d ps (Nat.lt_succ_self _)
theorem RdEn.zero {u : Ty} {Q : u.den T.E → Prop} : RdEn T P bk B 0 t u Q := fun _ _ _ _ _ _ _ hf => absurd hf (Nat.not_lt_zero _)
theorem rdl_slice_n (hk : BkOk bk) {N : Nat} {u : Ty} {Q : u.den T.E → Prop} (ht : P.underlying t = some (.slice e)) (he : RdEn T P bk B N e u Q) (hsz : P.cellsOf e = u.sz T) (hpos : 0 < P.cellsOf e) : RdLn T P bk B (N + 1) t [.sl u (P.bytesOf e) Q] := by
  intro H enc W fuel cs d ps hfl h hz
  rcases DataW.trod_slice ht h with ⟨rfl, hx⟩ | ⟨a, len, cap, elems, rest, n, hfu, rfl, hx, _, hlen, _, hel, hget, _, _⟩
  · exact ⟨[.sl u false []], ⟨[], [], rfl, by simp, by simp, rfl⟩, .cons ⟨_, rfl, none, 0, rfl, by simp, fun _ => rfl, (fun h => by cases h), fun ad h => by cases h⟩ .nil⟩
  · cases hx
    have hz1 : elems.length ≤ B := by have := hk.len H (elems.map (·.1)) (rest.map (·.1)); rw [List.length_map] at this; omega
    have hz2 : ∀ x ∈ elems.map (·.1), bk H x ≤ B := fun x hx => Nat.le_trans (hk.elem H _ _ x hx) hz
    obtain ⟨xs, x1, x2⟩ := list_of (R := fun i x => Q x ∧ ∃ cs, W.cells? 0 (a.add (i * P.cellsOf e)) (P.cellsOf e) = some cs ∧ AVRep (below W) W (u.av T x) cs) len (fun i hi => by
      have := hget i hi
      have hi' : i < elems.length := by omega
      rw [List.getElem?_eq_getElem hi'] at this
      obtain ⟨cs, c1, c2⟩ := Option.bind_eq_some_iff.1 this
      obtain ⟨x, q1, q2⟩ := he H enc W n cs elems[i].1 elems[i].2 (by omega) c2 (hz2 _ (List.mem_map.2 ⟨_, List.getElem_mem hi', rfl⟩))
      exact ⟨x, q1, cs, c1, q2⟩)
    have hspot : xs ≠ [] → a.spot = none ∧ a.block < W.heap.size := by
      intro hne
      have h0 : 0 < xs.length := List.length_pos_iff.2 hne
      obtain ⟨_, cs, c1, _⟩ := x2 0 xs[0] (by rw [List.getElem?_eq_getElem h0])
      obtain ⟨g1, g2⟩ := cells_get c1
      have hc : 0 < cs.length := by omega
      have := g2 0 cs[0] (by rw [List.getElem?_eq_getElem hc])
      have e : (a.add (0 * P.cellsOf e)).add 0 = a := by simp [Addr.add]
      rw [e] at this
      exact ⟨World.cell?_spot this, block_lt this⟩
    refine ⟨[.sl u false xs], ⟨xs, [], rfl, ?_, fun x hx => ?_, rfl⟩, .cons ⟨_, rfl, some a, cap, by rw [List.length_map, x1], by rw [List.length_map, x1]; exact hlen, (fun h => by cases h), (fun h => by cases h), fun ad had => ?_⟩ .nil⟩
    · omega
    · obtain ⟨i, hi⟩ := List.getElem?_of_mem hx
      exact (x2 i x hi).1
    · cases had
      refine ⟨fun hne => (hspot (by simpa using hne)).1, AVMem.mk _ _ _ fun i y hy => ?_⟩
      rw [List.getElem?_map] at hy
      obtain ⟨x, hx, rfl⟩ := Option.map_eq_some_iff.1 hy
      obtain ⟨_, cs, c1, c2⟩ := x2 i x hx
      obtain ⟨g1, g2⟩ := cells_get c1
      obtain ⟨s1, s2⟩ := hspot (by rintro rfl; simp at hx)
      refine ⟨cs, c2, by omega, s2, fun j v hv => ?_⟩
      have := g2 j v hv
      rw [spot_add s1, spot_add rfl] at this
      rw [← hsz]; exact this
inductive FldsN (T : Tab) (P : Program) (bk : (H : Type) → DataW H → Nat) (B N : Nat) : Nat → List (Nat × TypeId × Nat) → List (LK T.E) → Nat → Prop where
  | nil {off} : FldsN T P bk B N off [] [] off
  | cons {off t n fs ks ks' fin} : RdLn T P bk B N t ks → FldsN T P bk B N (off + n) fs ks' fin → FldsN T P bk B N off ((off, t, n) :: fs) (ks ++ ks') fin
theorem flds_n {H : Type} {enc : TypeId × Value → H} {W : World} {m N : Nat} (hm : m < N) {cs : List Value} : ∀ {fs : List (Nat × TypeId × Nat)} {off fin : Nat} {ks : List (LK T.E)} {xs : List (DataW H × List MemPlace)}, FldsN T P bk B N off fs ks fin → cs.length = fin → xs.length = fs.length →
    (∀ (i : Nat) (f : Nat × TypeId × Nat), fs[i]? = some f → DataW.trod enc P W 0 (fun _ => true) true m f.2.1 ((cs.drop f.1).take f.2.2) = xs[i]?) →
    (∀ (i : Nat) (f : Nat × TypeId × Nat) (x : DataW H × List MemPlace), fs[i]? = some f → xs[i]? = some x → bk H x.1 ≤ B) →
    ∃ ls, Shp B ks ls ∧ All2 (DLeaf T (below W) W) ls (cs.drop off)
  | _, off, _, _, xs, .nil, hl, hx, _, _ => ⟨[], rfl, by rw [List.drop_eq_nil_of_le (by omega)]; exact .nil⟩
  | _, off, fin, _, [], .cons _ _, _, hx, _, _ => by simp at hx
  | _, off, fin, _, x :: xs, .cons (t := t) (n := n) (fs := fs) h2 h3, hl, hx, hg, hw => by
    obtain ⟨ls2, s2, a2⟩ := flds_n hm h3 hl (by simpa using hx) (fun i f' hf => by have := hg (i + 1) f' (by simpa using hf); simpa using this) (fun i f' x' hf hx' => hw (i + 1) f' x' (by simpa using hf) (by simpa using hx'))
    obtain ⟨ls1, s1, a1⟩ := h2 H enc W m _ x.1 x.2 hm (by have := hg 0 (off, t, n) (by simp); simpa using this) (hw 0 (off, t, n) x (by simp) (by simp))
    refine ⟨ls1 ++ ls2, s1.append s2, ?_⟩
    have : cs.drop off = (cs.drop off).take n ++ cs.drop (off + n) := by
      rw [← List.drop_drop, List.take_append_drop]
    rw [this]
    exact a1.append a2
theorem rdl_struct_n (hk : BkOk bk) {N : Nat} {fl : List (Nat × TypeId × Nat)} {ks : List (LK T.E)} {fin : Nat} (hf : fldsOf P t = some fl) (hfin : P.cellsOf t = fin) (h : FldsN T P bk B N 0 fl ks fin) : RdLn T P bk B (N + 1) t ks := by
  intro H enc W fuel cs d ps hfl htr hz
  unfold fldsOf at hf
  split at hf
  · rename_i fs ht
    cases hf
    obtain ⟨xs, n, hfu, hx, hl, hxl, hg⟩ := DataW.trod_struct ht htr
    cases hx
    have := flds_n (enc := enc) (W := W) (m := n) (N := N) (by omega) (cs := cs) (xs := xs) h (hl.trans hfin) (by simpa using hxl) (fun i f hf => by
      rw [List.getElem?_map] at hf
      obtain ⟨f', hf', rfl⟩ := Option.map_eq_some_iff.1 hf
      exact hg i f' (by simpa using hf')) (fun i f x _ hx' => Nat.le_trans (hk.part H _ x.1 (List.mem_map.2 ⟨x, List.mem_of_getElem? hx', rfl⟩)) hz)
    simpa using this
  · cases hf
theorem rde_nm_n {N : Nat} (ok : T.Ok) {n : Nat} {Q : T.E n → Prop} {ks : List (LK T.E)} (h : RdLn T P bk B N t ks) (mk : ∀ ls, Shp B ks ls → ∃ x, Q x ∧ T.toL n x = ls) : RdEn T P bk B N t (.nm n) Q := by
  intro H enc W fuel cs d ps hfl htr hz
  obtain ⟨ls, s, a⟩ := h H enc W fuel cs d ps hfl htr hz
  obtain ⟨x, hx, rfl⟩ := mk ls s
  exact ⟨x, hx, dleaf_all a (ok.av n x)⟩
end
section
open Go.ChangeShapes
variable {H : Type} {enc : TypeId × Value → H} {T : Tab} {ti : TypeId → Option (TI T.E)} {eqs : TypeId → Bool}
theorem law_lifted_row {bk : (H : Type) → DataW H → Nat} {B : Nat} {a : Assume} {C : Checked} {os : Os} {f : FuncId} {fn : Func} {s : OpenSpec} {F : Stop.Interp} {conds : List PathCond} {apart fresh handsOn again : Bool} {args : List Ty} {g : HL T.E args → Option Bool} {Q : HL T.E args → Prop} {tb : TypeId} {ts : List TypeId}
    {ls : List (String × DataW Unit)}
    (M : MeetsT T ti eqs C.prog f ⟨args, [.bool], [], [], Bool, g, fun r => (r, ())⟩) (hts : fn.params.toList = ts) (R : RdAll T C.prog bk B ts args Q) (plain : ∀ x, Q x → g x = some true)
    (hbk : ∀ ds : List (DataW H), (∀ k, s.cond = some k → k H ds = true) → ∀ d ∈ ds, bk H d ≤ B)
    (own : ownKnob C.prog.godebug = none) (laid : laidOutB C.prog = true) (hp : fn.params.toList.all (fun t => C.prog.readableRec t && decide (t < C.prog.types.size)) = true)
    (hr : fn.resultTypes = #[tb]) (hb : C.prog.underlying tb = some .bool) (hv : s.vars = []) (hs : ∀ ds : List (DataW H), ds.length = fn.params.toList.length → s.fn F H ds = { results := [.lit (.bool true)], args := ds })
    (started : os.Started) (noInit : C.prog.inits.idxOf? f = none) (hfn : C.prog.funcs[f]? = some fn)
    (witness : ∃ (w : World) (tape : Tape) (i : Input), w.os = os ∧ (w.forCall tape i).Shaped C.prog ∧ i.vars = [] ∧ Input.okWide C.prog (w.forCall tape i) .any w.heap.size f i ∧
      s.preRow enc C.prog fn conds apart ls (w.forCall tape i).memory i.args ∧ a.holds C.prog (lone (Frame.enter C.prog f i.args .normal) [] (w.forCall tape i))) :
    ReturnsInHanded a C os f .any (s.preRow enc C.prog fn conds apart ls) ((s.at F).post enc C.prog fn apart fresh handsOn again) := by
  subst hts
  refine returnsInHanded_of_row own started noInit hfn witness ?_
  intro W base vs ds gs before hval hW _ hcond _ _ _ _
  have hW' := hW
  obtain ⟨p, q, hA, hV, hps, hfz, hnd⟩ := hW
  rw [hv] at hV
  have hgs : gs = [] ∧ q = [] := by
    match gs, hV with
    | [], h => exact ⟨rfl, h⟩
  obtain ⟨rfl, rfl⟩ := hgs
  rw [List.append_nil] at hps
  subst hps
  have hlen := trodAll_len hA
  rw [List.append_nil] at hcond
  obtain ⟨x, hx, hargs⟩ := rdall_args R vs.toList ds before hA (fun j t v hj hj' => hval j t v (by simpa using hj) (by simpa using hj')) (hbk ds hcond)
  have hcall := M.2 x (true, ()) (show Option.map (fun r => (r, ())) (g x) = _ by rw [plain x hx]; rfl) (below W) W vs.toList [] hargs List.nodup_nil (by simp) (fun b h => h)
  have hrd : ∀ t ∈ fn.params.toList, C.prog.readableRec t = true ∧ t < C.prog.types.size := by
    intro t ht
    have := List.all_eq_true.1 hp t ht
    simpa using this
  simp only [Array.toArray_toList] at hcall
  refine hcall.mono fun e W' ⟨rs, own', he, hbut, _, _, hres⟩ => ?_
  obtain ⟨v, vr, o1, o2, rfl, rfl, ⟨us, hus, huv⟩, hvr, _⟩ := hres
  have hvt : v = .bool true := by
    have huv : us = [v] := huv
    subst huv
    cases hus with
    | more h1 _ => exact h1 [] (fun _ => ⟨0, .bool true, [], []⟩)
  subst hvr hvt
  subst he
  have hB : RowKit.Below W.heap.size W W' := ⟨hbut.os, hbut.tape, hbut.output, hbut.size, fun k hk => hbut.heap k hk (by simp)⟩
  have hlt : ∀ p ∈ before, p.block < W.heap.size := fun p hp => by simpa using hW'.lt p hp
  have hs' : (s.at F).fn H ds = _ := hs ds hlen
  have hfr : ∀ b off, MemPlace.cell b off ∈ before → W'.frozen? ⟨b, off, none⟩ = W.frozen? ⟨b, off, none⟩ := fun b off h => hB.frozen (hlt _ h)
  have hold : ∀ sp : Nat → Bool, (∀ p ∈ before, sp p.block = true) → DataW.TrodAll enc C.prog W' 0 sp true fn.params.toList vs.toList ds before := fun sp hsp => trodAll_stays laid hrd hA (fun p hp => hB.same (hlt p hp)) hsp
  have hbool : ∀ (b : Nat) (sp : Nat → Bool) (hd : Bool), DataW.TrodAll enc C.prog W' b sp hd fn.resultTypes.toList ((Value.bool true).resultList fn.resultTypes.size) [.lit (.bool true)] [] := by
    intro b sp hd
    rw [hr]
    show DataW.TrodAll enc C.prog W' b sp hd [tb] [.bool true] [.lit (.bool true)] []
    refine ⟨[], [], ⟨1, ?_⟩, rfl, rfl⟩
    simp [DataW.trod, hb, Value.cells]
  have hvars0 : ∀ sp : Nat → Bool, DataW.TrodVars enc C.prog W' sp (s.at F).vars [] [] := by intro sp; rw [show (s.at F).vars = [] from hv]; exact rfl
  refine ⟨.bool true, rfl, ds, [], before, [], before, [], hW', ?_, ?_, ?_, hB.frame _, fun _ => ⟨fun j t r hj hj' => ?_, .lit (.bool true) :: ds, [], before, ⟨before, [], ?_, ?_, by simp, fun b off hb' => ?_, fun ha => hnd ha⟩, fun p hp _ => hp⟩⟩
  · rw [List.append_nil, hs']; exact hbool _ _ _
  · rw [List.append_nil, hs']; exact hold _ fun p hp => by simpa using hlt p hp
  · rw [List.append_nil, hs']; exact hvars0 _
  · rw [hr] at hj hj'
    match j, hj, hj' with
    | 0, hj, hj' =>
      simp [Value.resultList] at hj hj'
      subst hj; subst hj'
      simp [Value.okWide, hb, Cell.okWide, Cell.ok]
    | j + 1, hj, _ => simp at hj
  · have h1 : DataW.TrodAll enc C.prog W' 0 (fun _ => true) true fn.resultTypes.toList ((Value.bool true).resultList fn.resultTypes.size) [.lit (.bool true)] [] := hbool _ _ _
    have := trodAll_append (hold _ fun _ _ => rfl) h1
    simpa using this
  · exact hvars0 _
  · rw [hfr b off hb']; exact hfz b off hb'
end
end Go.Ab
namespace Go.Ab
open Go
section
variable {V : Env} {P : Program}
variable {E : Nat → Type}
def fieldsB (P : Program) (ok : TypeId → List (Leaf E) → Bool) : List Field → Nat → List (Leaf E) → Bool
  | [], _, zs => zs.isEmpty
  | f :: fs, off, zs => (f.name != "_") && Nat.beq f.offset off && match P.info? f.type with
    | some info => Nat.ble info.size zs.length && ok f.type (zs.take info.size) && fieldsB P ok fs (off + info.size) (zs.drop info.size)
    | none => false
def eqB (P : Program) : Nat → TypeId → List (Leaf E) → Bool
  | 0, _, _ => false
  | d + 1, t, zs => match P.underlying t, zs with
    | some (.int _), [.int _ _] => true
    | some .bool, [.bool _] => true
    | some .string, [.str _] => true
    | some (.struct fs), zs => !P.stoodInHeld t && fieldsB P (eqB P d) fs.toList 0 zs && (match P.info? t with | some info => Nat.beq info.size zs.length | none => false)
    | _, _ => false
theorem likeB_length : ∀ {z l : List (Leaf E)}, likeB z l = true → l.length = z.length
  | [], [], _ => rfl
  | [], b :: l, h => by cases b <;> simp [likeB] at h
  | a :: z, [], h => by cases a <;> simp [likeB] at h
  | a :: z, b :: l, h => by
    cases a <;> cases b <;> simp only [likeB, Bool.and_eq_true] at h <;> first | (cases h; done) | simp [likeB_length h] | simp [likeB_length h.2]
theorem likeB_take : ∀ {z l : List (Leaf E)} (n : Nat), likeB z l = true → likeB (z.take n) (l.take n) = true ∧ likeB (z.drop n) (l.drop n) = true
  | z, l, 0, h => by simp [likeB, h]
  | [], [], n + 1, h => by simp [likeB]
  | [], b :: l, n + 1, h => by cases b <;> simp [likeB] at h
  | a :: z, [], n + 1, h => by cases a <;> simp [likeB] at h
  | a :: z, b :: l, n + 1, h => by
    cases a <;> cases b <;> simp only [likeB, Bool.and_eq_true, List.take_succ_cons, List.drop_succ_cons] at h ⊢ <;> first | (cases h; done) | exact likeB_take n h | exact ⟨⟨h.1, (likeB_take n h.2).1⟩, (likeB_take n h.2).2⟩
theorem eqL_split : ∀ {l1 l2 m : List (Leaf V.E)} {b : Bool}, eqL V (l1 ++ l2) m = some b → ∃ m1 m2 b1 b2, m = m1 ++ m2 ∧ m1.length = l1.length ∧ eqL V l1 m1 = some b1 ∧ eqL V l2 m2 = some b2 ∧ b = (b1 && b2)
  | [], l2, m, b, h => ⟨[], m, true, b, rfl, rfl, by simp [eqL], h, by simp⟩
  | a :: l1, l2, [], b, h => by cases a <;> simp [eqL] at h
  | a :: l1, l2, c :: m, b, h => by
    have key : ∀ (e : Bool), (eqL V (l1 ++ l2) m).map (e && ·) = some b → (∀ m1 b1, eqL V l1 m1 = some b1 → eqL V (a :: l1) (c :: m1) = some (e && b1)) →
        ∃ m1 m2 b1 b2, c :: m = m1 ++ m2 ∧ m1.length = (a :: l1).length ∧ eqL V (a :: l1) m1 = some b1 ∧ eqL V l2 m2 = some b2 ∧ b = (b1 && b2) := by
      intro e he hf
      obtain ⟨b', hb', e2⟩ := Option.map_eq_some_iff.1 he
      obtain ⟨m1, m2, b1, b2, rfl, h1, h2, h3, rfl⟩ := eqL_split hb'
      exact ⟨c :: m1, m2, e && b1, b2, rfl, by simp [h1], hf m1 b1 h2, h3, by rw [← e2, Bool.and_assoc]⟩
    cases a <;> cases c <;> simp only [List.cons_append, eqL] at h <;> try exact (by cases h)
    · split at h
      · rename_i hk
        exact key _ h fun m1 b1 h1 => by simp only [eqL, hk, if_true, h1, Option.map_some]
      · cases h
    · exact key _ h fun m1 b1 h1 => by simp only [eqL, h1, Option.map_some]
    · exact key _ h fun m1 b1 h1 => by simp only [eqL, h1, Option.map_some]
theorem run_part_agg {t : TypeId} {info : TypeInfo} {fs : Array Field} (hi : P.info? t = some info) (hu : P.underlying t = some (.struct fs)) (vs : Array Value) (off : Nat) (w : World) :
    (Go.part t vs off).run P w = .ok (.agg (vs.extract off (off + info.size))) w := by
  simp [Go.part, isAgg, run_underlying hu, sizeOf, typeInfo, hi]
theorem run_part_one {t : TypeId} {d : TypeDesc} (hu : P.underlying t = some d) (hd : (∃ k, d = .int k) ∨ d = .bool ∨ d = .string) {vs : Array Value} {off : Nat} {v : Value} (hv : vs[off]? = some v) (w : World) :
    (Go.part t vs off).run P w = .ok v w := by
  rcases hd with ⟨k, rfl⟩ | rfl | rfl <;> simp [Go.part, isAgg, run_underlying hu, hv]
def EqAt (P : Program) (V : Env) (D : Nat) (t : TypeId) (zs : List (Leaf V.E)) : Prop :=
  ∀ (bx : List (Nat × Box V.E)) (β : Nat → BI) (ok : Nat → Prop) (w' : World) (l m : List (Leaf V.E)) (b : Bool) (c1 c2 c3 e1 e2 e3 : List Value), likeB zs l = true → eqL V l m = some b →
    All2 (LeafRep V.T bx β ok w') l c2 → All2 (LeafRep V.T bx β ok w') m e2 → c1.length = e1.length → ∀ w : World, ∃ x y,
      (Go.part t (c1 ++ c2 ++ c3).toArray c1.length).run P w = .ok x w ∧ (Go.part t (e1 ++ e2 ++ e3).toArray c1.length).run P w = .ok y w ∧ (Op.equalIn D t x y).run P w = .ok b w
theorem eqFields_ok {D : Nat} {ok : TypeId → List (Leaf V.E) → Bool} (hok : ∀ t info zs, P.info? t = some info → zs.length = info.size → ok t zs = true → EqAt P V D t zs)
    (bx : List (Nat × Box V.E)) (β : Nat → BI) (okp : Nat → Prop) (w' : World) : ∀ (fs : List Field) (off : Nat) (zs : List (Leaf V.E)), fieldsB P ok fs off zs = true → ∀ (l m : List (Leaf V.E)) (b : Bool) (c1 c2 e1 e2 : List Value), c1.length = off → e1.length = off → likeB zs l = true → eqL V l m = some b →
      All2 (LeafRep V.T bx β okp w') l c2 → All2 (LeafRep V.T bx β okp w') m e2 → ∀ w : World, (Op.eqFields D (c1 ++ c2).toArray (e1 ++ e2).toArray fs).run P w = .ok b w
  | [], off, zs, h, l, m, b, c1, c2, e1, e2, h1, h2, h3, hb, r1, r2, w => by
    simp only [fieldsB, List.isEmpty_iff] at h
    subst h
    have hl : l = [] := by have := likeB_length h3; cases l <;> simp_all
    subst hl
    cases m with
    | nil => simp [eqL] at hb; subst hb; simp [Op.eqFields]
    | cons c m => simp [eqL] at hb
  | f :: fs, off, zs, h, l, m, b, c1, c2, e1, e2, h1, h2, h3, hb, r1, r2, w => by
    simp only [fieldsB, Bool.and_eq_true, bne_iff_ne, ne_eq] at h
    obtain ⟨⟨hname, hoff⟩, h⟩ := h
    split at h
    · rename_i info hinf
      simp only [Bool.and_eq_true] at h
      obtain ⟨⟨hle, hokf⟩, hrest⟩ := h
      have hle := Nat.le_of_ble_eq_true hle
      have hoff := eq_of_beq' hoff
      have hll := likeB_length h3
      obtain ⟨k1, k2⟩ := likeB_take info.size h3
      have hsplit : l = l.take info.size ++ l.drop info.size := (List.take_append_drop _ _).symm
      rw [hsplit] at hb r1
      obtain ⟨m1, m2, b1, b2, rfl, hm1, hb1, hb2, rfl⟩ := eqL_split hb
      obtain ⟨p1, p2, rfl, s1, s2⟩ := r1.split
      obtain ⟨q1, q2, rfl, u1, u2⟩ := r2.split
      have hlen : (l.take info.size).length = info.size := by simp; omega
      obtain ⟨x, y, g1, g2, g3⟩ := hok f.type info _ hinf (by simp; omega) hokf bx β okp w' _ _ _ c1 p1 p2 e1 q1 q2 k1 hb1 s1 u1 (by rw [h1, h2]) w
      have IH := eqFields_ok hok bx β okp w' fs (off + info.size) _ hrest (l.drop info.size) m2 b2 (c1 ++ p1) p2 (e1 ++ q1) q2 (by rw [List.length_append, h1, ← s1.length, hlen]) (by rw [List.length_append, h2, ← u1.length, hm1, hlen]) k2 hb2 s2 u2 w
      rw [List.append_assoc] at g1 g2
      rw [h1] at g1 g2
      simp only [Op.eqFields, if_pos hname, Sem.run_bind, hoff, g1, g2, g3, Result.andThen_ok, Sem.run_ite, Sem.run_pure]
      cases b1
      · simp
      · rw [List.append_assoc, List.append_assoc] at IH
        simpa using IH
    · cases h
theorem extract_mid (c1 c2 c3 : List Value) : (c1 ++ c2 ++ c3).toArray.extract c1.length (c1.length + c2.length) = c2.toArray := by
  apply Array.ext'
  rw [Array.toList_extract]
  simp [List.extract]
theorem eqAt_ok : ∀ (d D : Nat), d ≤ D → ∀ (t : TypeId) (zs : List (Leaf V.E)) (info : TypeInfo), P.info? t = some info → zs.length = info.size → eqB P d t zs = true → EqAt P V D t zs
  | 0, _, _, _, _, _, _, _, h => by simp [eqB] at h
  | d + 1, D, hD, t, zs, info, hinf, hn, h => by
    obtain ⟨D, rfl⟩ : ∃ D', D = D' + 1 := ⟨D - 1, by omega⟩
    intro bx β okp w' l m b c1 c2 c3 e1 e2 e3 hl hb r1 r2 hce w
    have getc : ∀ (c1 c3 : List Value) (v : Value), (c1 ++ [v] ++ c3).toArray[c1.length]? = some v := by
      intro c1 c3 v; simp
    unfold eqB at h
    split at h
    · rename_i k k' z hu
      match l, hl with
      | [.int k1 a], hl =>
        match m, hb with
        | [.int k2 a'], hb =>
          simp only [eqL] at hb
          split at hb
          · rename_i hk
            subst hk
            cases r1 with
            | cons q1 t1 =>
              cases t1
              cases r2 with
              | cons q2 t2 =>
                cases t2
                simp only [LeafRep] at q1 q2
                subst q1; subst q2
                refine ⟨_, _, run_part_one hu (.inl ⟨_, rfl⟩) (getc _ _ _) w, run_part_one hu (.inl ⟨_, rfl⟩) (by rw [hce]; exact getc _ _ _) w, ?_⟩
                rw [run_equalIn_int w D t k1 k a a' hu]
                simp only [Option.map_some, Bool.and_true, Option.some.injEq] at hb
                rw [← hb]
                congr 1
          · cases hb
        | [], hb => simp [eqL] at hb
        | .int _ _ :: _ :: _, hb => simp only [eqL] at hb; split at hb <;> simp at hb
      | .int _ _ :: x :: _, hl => cases x <;> simp [likeB] at hl
    · rename_i z hu
      match l, hl with
      | [.bool a], hl =>
        match m, hb with
        | [.bool a'], hb =>
          cases r1 with
          | cons q1 t1 =>
            cases t1
            cases r2 with
            | cons q2 t2 =>
              cases t2
              simp only [LeafRep] at q1 q2
              subst q1; subst q2
              refine ⟨_, _, run_part_one hu (.inr (.inl rfl)) (getc _ _ _) w, run_part_one hu (.inr (.inl rfl)) (by rw [hce]; exact getc _ _ _) w, ?_⟩
              rw [run_equalIn_bool' w D t a a' hu]
              simp [eqL] at hb
              rw [← hb]
        | [], hb => simp [eqL] at hb
        | .bool _ :: _ :: _, hb => simp [eqL] at hb
    · rename_i z hu
      match l, hl with
      | [.str a], hl =>
        match m, hb with
        | [.str a'], hb =>
          cases r1 with
          | cons q1 t1 =>
            cases t1
            cases r2 with
            | cons q2 t2 =>
              cases t2
              simp only [LeafRep] at q1 q2
              subst q1; subst q2
              refine ⟨_, _, run_part_one hu (.inr (.inr rfl)) (getc _ _ _) w, run_part_one hu (.inr (.inr rfl)) (by rw [hce]; exact getc _ _ _) w, ?_⟩
              rw [run_equalIn_string w D t _ _ hu]
              simp [eqL] at hb
              rw [← hb]
              simp only [ByteArray.toList_eq]
              by_cases e : a = a'
              · subst e; simp
              · simp [e]
        | [], hb => simp [eqL] at hb
        | .str _ :: _ :: _, hb => simp [eqL] at hb
    · rename_i fs hu
      simp only [Bool.and_eq_true, Bool.not_eq_true'] at h
      obtain ⟨⟨hs, hf⟩, _⟩ := h
      have hll := likeB_length hl
      have hc2 : c2.length = info.size := by rw [← r1.length, hll, hn]
      have hml : e2.length = info.size := by
        have : l = l ++ [] := by simp
        rw [this] at hb
        obtain ⟨m1, m2, b1, b2, rfl, hm1, _, hb2, _⟩ := eqL_split hb
        have : m2 = [] := by cases m2 <;> simp [eqL] at hb2 <;> rfl
        subst this
        rw [← r2.length]; simp; omega
      have hfo : P.fieldsOf t = fs := by simp [Program.fieldsOf, hu]
      refine ⟨.agg c2.toArray, .agg e2.toArray, ?_, ?_, ?_⟩
      · rw [run_part_agg hinf hu, ← hc2, extract_mid]
      · rw [run_part_agg hinf hu, hce, ← hml, extract_mid]
      · rw [run_equalIn_agg w D t _ _ (by rw [hfo]; exact hu) hs, hfo]
        have := eqFields_ok (V := V) (P := P) (D := D) (ok := eqB P d) (fun t info zs hi hz hk => eqAt_ok d D (by omega) t zs info hi hz hk) bx β okp w' fs.toList 0 _ hf l m b [] c2 [] e2 rfl rfl hl hb r1 r2 w
        simpa using this
    · cases h
theorem eqsOk_of (HE : EnvOk V P) {es : List TypeId} (hes : V.eqs = fun t => memB t es) (h : (es.all fun t => match V.ti t with | some i => eqB P 100 t i.zero && !P.eqGuardType P.depth t && i.kind.agg | none => false) = true) : EqsOk V P := by
  intro t ht i hi bx β ok w' l m b c d hl hb r1 r2 x y w op hop
  rw [hes] at ht
  have := List.all_eq_true.1 h t (memB_mem ht)
  rw [hi] at this
  simp only [Bool.and_eq_true, Bool.not_eq_true'] at this
  obtain ⟨⟨h1, h2⟩, h3⟩ := this
  obtain ⟨info, dd, z, I⟩ := HE t i hi
  refine ⟨run_eqGuard_agg w op t x y c d h2, ?_⟩
  have hz : i.zero.length = info.size := by
    have := (zls_rep (T := V.T) (bx := bx) (β := β) (ok := ok) (w := w') I.zeros).length
    rw [this, I.size, ← I.zcells]; simp
  obtain ⟨xx, yy, g1, g2, g3⟩ := eqAt_ok (V := V) (P := P) 100 10000 (by omega) t i.zero info I.inf hz h1 bx β ok w' l m b [] c.toList [] [] d.toList [] hl hb r1 r2 rfl w
  have hk := I.kind
  have hu := I.under
  cases dd <;> cases hik : i.kind <;> rw [hik] at hk h3 <;> simp [kindB] at hk <;> simp [TK.agg] at h3
  · exfalso
    unfold eqB at h1
    rw [hu] at h1
    simp at h1
  · have hc : c.toList.length = info.size := by rw [← r1.length, likeB_length hl, hz]
    have hd : d.toList.length = info.size := by
      have e : l = l ++ [] := by simp
      rw [e] at hb
      obtain ⟨m1, m2, b1, b2, rfl, hm1, _, hb2, _⟩ := eqL_split hb
      have : m2 = [] := by cases m2 <;> simp [eqL] at hb2 <;> rfl
      subst this
      rw [← r2.length]; simp; rw [hm1, likeB_length hl, hz]
    rw [run_part_agg I.inf hu] at g1 g2
    have e1 := extract_mid [] c.toList []
    have e2 := extract_mid [] d.toList []
    rw [hc] at e1; rw [hd] at e2
    rw [e1] at g1; rw [e2] at g2
    cases g1; cases g2
    simpa [Op.equal, Op.maxDepth] using g3
end
end Go.Ab
namespace Go.Ab
open Go
noncomputable def lookQ.{u} {α : Type u} (k : Nat) (l : List (Nat × α)) : Option α :=
  List.rec (motive := fun _ => Option α) none (fun e _ ih => Bool.rec (motive := fun _ => Option α) ih (some e.2) (Nat.beq e.1 k)) l
theorem lookQ_eq.{u} {α : Type u} (k : Nat) : ∀ l : List (Nat × α), lookQ k l = look k l
  | [] => rfl
  | (j, x) :: r => by
    have ih := lookQ_eq k r
    unfold lookQ at ih ⊢
    unfold look
    show Bool.rec (motive := fun _ => Option α) _ (some x) (Nat.beq j k) = _
    cases h : Nat.beq j k
    · simpa using ih
    · simp
noncomputable def putQ {α : Type} (k : Nat) (x : α) (l : List (Nat × α)) : List (Nat × α) :=
  List.rec (motive := fun _ => List (Nat × α)) [(k, x)] (fun e r ih => Bool.rec (motive := fun _ => List (Nat × α))
    ((k, x) :: e :: r) (Bool.rec (motive := fun _ => List (Nat × α)) (e :: ih) ((k, x) :: r) (Nat.beq e.1 k)) (Nat.ble k e.1)) l
theorem look_putQ {α : Type} (k : Nat) (x : α) (i : Nat) : ∀ l : List (Nat × α), look i (putQ k x l) = if i = k then some x else look i l
  | [] => by
    show look i [(k, x)] = _
    by_cases h : i = k
    · subst h; simp [look]
    · rw [if_neg h]; unfold look; rw [beq_of_ne (Ne.symm h)]; rfl
  | (j, y) :: r => by
    have ih := look_putQ k x i r
    unfold putQ at ih ⊢
    show look i (Bool.rec (motive := fun _ => List (Nat × α)) ((k, x) :: (j, y) :: r) (Bool.rec (motive := fun _ => List (Nat × α)) ((j, y) :: _) ((k, x) :: r) (Nat.beq j k)) (Nat.ble k j)) = _
    have front : ∀ m : List (Nat × α), look i ((k, x) :: m) = if i = k then some x else look i m := by
      intro m
      by_cases h : i = k
      · subst h; simp [look]
      · rw [if_neg h]; show look i ((k, x) :: m) = _; unfold look; rw [beq_of_ne (Ne.symm h)]; cases m <;> rfl
    cases h : Nat.ble k j
    · exact front _
    · cases h2 : Nat.beq j k
      · show look i ((j, y) :: _) = _
        unfold look
        by_cases hj : Nat.beq j i = true
        · rw [if_pos hj, if_pos hj]
          have := eq_of_beq' hj
          subst this
          rw [if_neg]
          rintro rfl
          simp at h2
        · rw [if_neg hj, if_neg hj]; exact ih
      · have := eq_of_beq' h2
        subst this
        show look i ((j, x) :: r) = _
        rw [front]
        by_cases hi : i = j
        · rw [if_pos hi, if_pos hi]
        · rw [if_neg hi, if_neg hi]; show look i r = look i ((j, y) :: r); conv => rhs; unfold look
          rw [beq_of_ne (Ne.symm hi)]; rfl
section
variable (V : Env)
abbrev Sl (V : Env) := List (Nat × Option (SV V.E))
abbrev Bx (V : Env) := List (Nat × Box V.E)
noncomputable def slotQ (sl : Sl V) (k : Nat) : Option (SV V.E) :=
  Bool.rec (motive := fun _ => Option (SV V.E)) none (Option.rec (motive := fun _ => Option (SV V.E)) none (fun x => x) (lookQ k sl)) (Nat.blt k 1000000)
noncomputable def opndQ (sl : Sl V) (t : TypeId) (x : Operand) : Option (SV V.E) :=
  Operand.rec (motive := fun _ => Option (SV V.E)) (slotQ V sl) (constSV V t) (fun _ => none) (fun f => some (.cv (.one (.clo f [])))) x
noncomputable def interpQ (t : Todo V.E) : Bx V → List Nat → List Nat → Option (Option (SV V.E) × List Cd × List (Nat × Box V.E) × Acc) :=
  Todo.rec (motive := fun _ => Bx V → List Nat → List Nat → Option (Option (SV V.E) × List Cd × List (Nat × Box V.E) × Acc))
    (fun _ _ _ => none) (fun v c bs rs ws => some (v, c, bs, ⟨rs, ws⟩)) (fun id _ ih bs rs ws => ih (lookQ id bs) bs (id :: rs) ws) (fun id b _ ih bs rs ws => ih (putQ id b bs) rs (id :: ws)) t
theorem slotQ_eq (n : Nat) (sl : Sl V) (bx : Bx V) (k : Nat) : slotQ V sl k = slotT V ⟨n, sl, bx⟩ k := by
  unfold slotQ slotT slot
  rw [lookQ_eq]
  cases Nat.blt k 1000000
  · rfl
  · show Option.rec (motive := fun _ => Option (SV V.E)) none (fun x => x) (look k sl) = _
    cases look k sl <;> simp
theorem opndQ_eq (n : Nat) (sl : Sl V) (bx : Bx V) (t : TypeId) (x : Operand) : opndQ V sl t x = opnd V ⟨n, sl, bx⟩ t x := by
  cases x with
  | tmp k => exact slotQ_eq V n sl bx k
  | _ => rfl
theorem interpQ_ok : ∀ (t : Todo V.E) (bs bs' : Bx V) (rs ws : List Nat), Same bs bs' → ∀ {v c b1 a}, interpQ V t bs rs ws = some (v, c, b1, a) → ∃ b1', interp V bs' t rs ws = some (v, c, b1', a) ∧ Same b1 b1'
  | .fail, _, _, _, _, _, _, _, _, _, h => by cases h
  | .ret v c, bs, bs', rs, ws, e, _, _, _, _, h => by
    have h : some (v, c, bs, (⟨rs, ws⟩ : Acc)) = some _ := h
    cases h
    exact ⟨bs', rfl, e⟩
  | .read id k, bs, bs', rs, ws, e, _, _, _, _, h => by
    have h : interpQ V (k (lookQ id bs)) bs (id :: rs) ws = some _ := h
    rw [lookQ_eq, e id] at h
    exact interpQ_ok (k (look id bs')) bs bs' _ _ e h
  | .write id b k, bs, bs', rs, ws, e, _, _, _, _, h => by
    have h : interpQ V k (putQ id b bs) rs (id :: ws) = some _ := h
    refine interpQ_ok k _ _ _ _ (fun i => ?_) h
    rw [look_putQ]
    by_cases hi : i = id
    · subst hi; rw [if_pos rfl, look_put_same]
    · rw [if_neg hi, look_put_other hi]; exact e i
end
end Go.Ab
