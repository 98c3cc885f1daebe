/- From what a row says of a call's arguments to data, and from a function that meets its telling to the row's form. Conditions: none beyond those that each theorem names. -/
import Derived.Test.YtjdgmcngpiookaaGreatS09
import Derived.JoinedOf
import Derived.SizedLaws
import Derived.Carry
import Derived.ChangeSame
namespace Go.Ab
open Go
inductive LK (E : Nat -> Type) where
 | int (k : IntKind) | bool | str
 | sl (t : Ty) (b : Nat) (Q : t.den E -> Prop)
def Shp {E : Nat -> Type} : List (LK E) -> List (A7 E) -> Prop
 | [], ls => ls = []
 | .int k :: ks, ls => ∃ n r, ls = .int k n :: r /\ k.has n /\ Shp ks r
 | .bool :: ks, ls => ∃ b r, ls = .bool b :: r /\ Shp ks r
 | .str :: ks, ls => ∃ s r, ls = .str s :: r /\ s.length <= reachBytes /\ Shp ks r
 | .sl t b Q :: ks, ls => ∃ xs r, ls = .sl t false xs :: r /\ xs.length * b <= reachBytes /\ (∀ x ∈ xs, Q x) /\ Shp ks r
theorem Shp.append {E : Nat -> Type} : ∀ {ks ks' : List (LK E)} {ls ls' : List (A7 E)}, Shp ks ls -> Shp ks' ls' -> Shp (ks ++ ks') (ls ++ ls')
 | [], _, _, _, h, h' => by cases h; exact h'
 | .int k :: ks, _, _, _, h, h' => by obtain ⟨n, r, rfl, h1, h2⟩ := h; exact ⟨n, _, rfl, h1, h2.append h'⟩
 | .bool :: ks, _, _, _, h, h' => by obtain ⟨n, r, rfl, h2⟩ := h; exact ⟨n, _, rfl, h2.append h'⟩
 | .str :: ks, _, _, _, h, h' => by obtain ⟨n, r, rfl, h1, h2⟩ := h; exact ⟨n, _, rfl, h1, h2.append h'⟩
 | .sl t b Q :: ks, _, _, _, h, h' => by obtain ⟨n, r, rfl, h1, h2, h3⟩ := h; exact ⟨n, _, rfl, h1, h2, h3.append h'⟩
section
variable (T : Tab) (P : Program)
def Av3 (ok : Nat -> Prop) (w : World) (l : A7 T.E) (v : Value) : Prop := ∃ a, A7.av T l = some a /\ Br ok w a [v]
def Xb (W : World) (b : Nat) : Prop := b < W.heap.size
def RdL (t : TypeId) (ks : List (LK T.E)) : Prop :=
 ∀ (H : Type) (enc : TypeId × Value -> H) (W : World) (fuel : Nat) (cs : List Value) (d : DataW H) (ps : List MemPlace), DataW.trod enc P W 0 (λ _ => true) true fuel t cs = some (d, ps) -> (∀ n ∈ d.weights P t, n <= reachBytes) ->
   ∃ ls, Shp ks ls /\ Bk (Av3 T (Xb W) W) ls cs
def RdE (t : TypeId) (u : Ty) (Q : u.den T.E -> Prop) : Prop :=
 ∀ (H : Type) (enc : TypeId × Value -> H) (W : World) (fuel : Nat) (cs : List Value) (d : DataW H) (ps : List MemPlace), DataW.trod enc P W 0 (λ _ => true) true fuel t cs = some (d, ps) -> (∀ n ∈ d.weights P t, n <= reachBytes) ->
   ∃ x, Q x /\ Br (Xb W) W (u.av T x) cs
end
section
variable {T : Tab} {P : Program} {t e : TypeId}
theorem Au7 {k : IntKind} {n : Int} (h : (Lit.int k n).wf = true) : k.has n := by
 simpa [Lit.wf, Bool.and_eq_true, decide_eq_true_eq, IntKind.has] using h
theorem Tw {k : IntKind} (ht : P.underlying t = some (.int k)) : RdL T P t [.int k] := by
 intro H enc W fuel cs d ps h _
 obtain ⟨n, rfl, _, hw⟩ := DataW.trod_int ht h
 exact ⟨[.int k n], ⟨n, [], rfl, Au7 hw, rfl⟩, .cons ⟨_, rfl, rfl⟩ .nil⟩
theorem Ajl {α : Type} {R : Nat -> α -> Prop} : ∀ n, (∀ i, i < n -> ∃ x, R i x) -> ∃ xs : List α, xs.length = n /\ ∀ i x, xs[i]? = some x -> R i x
 | 0, _ => ⟨[], rfl, λ i x h => by simp at h⟩
 | n + 1, h => by
   obtain ⟨xs, h1, h2⟩ := Ajl n λ i hi => h i (by omega)
   obtain ⟨x, hx⟩ := h n (by omega)
   refine ⟨xs ++ [x], by simp [h1], λ i y hy => ?_⟩
   by_cases hi : i < xs.length
   · rw [List.getElem?_append_left hi] at hy; exact h2 i y hy
   · rw [List.getElem?_append_right (by omega)] at hy
     have : i - xs.length = 0 := by
       rcases Nat.eq_zero_or_pos (i - xs.length) with h | h
       · exact h
       · rw [List.getElem?_eq_none (by simp; omega)] at hy; cases hy
     rw [this] at hy
     simp at hy
     subst hy
     have : i = n := by omega
     rw [this]; exact hx
theorem Aau {w : World} {a : Addr} {n : Nat} {cs : List Value} (h : w.cells? 0 a n = some cs) : cs.length = n /\ ∀ j v, cs[j]? = some v -> w.cell? (a.add j) = some v := by
 unfold World.cells? at h
 rw [if_pos (Nat.zero_le _)] at h
 refine ⟨by simpa using mapM_some_length h, λ j v hv => ?_⟩
 have hj : j < n := by
   rcases Nat.lt_or_ge j n with h' | h'
   · exact h'
   · rw [List.getElem?_eq_none (by have := mapM_some_length h; simp at this; omega)] at hv; cases hv
 rw [mapM_some_get h j j (by simp [hj])]
 exact hv
theorem Qq {H : Type} {e : TypeId} {d : DataW H} {n : Nat} : ∀ {l : List (DataW H)}, d ∈ l -> n ∈ d.weights P e -> n ∈ DataW.weightsAll P e l
 | x :: l, hd, hn => by
   simp only [DataW.weightsAll, List.mem_append]
   rcases List.mem_cons.1 hd with rfl | hd
   · exact .inl hn
   · exact .inr (Qq hd hn)
theorem Apv {w : World} {a : Addr} {v : Value} (h : w.cell? a = some v) : a.block < w.heap.size := by
 unfold World.cell? at h
 rcases Nat.lt_or_ge a.block w.heap.size with h' | h'
 · exact h'
 · rw [Array.getElem?_eq_none h'] at h; cases h
theorem Agd {ad : Addr} (h : ad.spot = none) (n : Nat) : ad.add n = ⟨ad.block, ad.off + n, none⟩ := by
 unfold Addr.add
 split
 · rename_i e; subst e; obtain ⟨b, o, s⟩ := ad; simp at h; subst h; rfl
 · rfl
theorem An6 {u : Ty} {Q : u.den T.E -> Prop} (ht : P.underlying t = some (.slice e)) (he : RdE T P e u Q) (hsz : P.cellsOf e = u.sz T) (hpos : 0 < P.cellsOf e) : RdL T P t [.sl u (P.bytesOf e) Q] := by
 intro H enc W fuel cs d ps h hz
 rcases DataW.trod_slice ht h with ⟨rfl, hx⟩ | ⟨a, len, cap, elems, rest, n, rfl, rfl, hx, _, hlen, _, hel, hget, _, _⟩
 · exact ⟨[.sl u false []], ⟨[], [], rfl, by simp, by simp, rfl⟩, .cons ⟨_, rfl, none, 0, rfl, by simp, λ _ => rfl, (λ h => by cases h), λ ad h => by cases h⟩ .nil⟩
 · cases hx
   have hz1 : (elems.length + rest.length) * P.bytesOf e <= reachBytes := hz _ (by simp [DataW.weights, ht])
   have hz2 : ∀ x ∈ elems.map (·.1), ∀ m ∈ x.weights P e, m <= reachBytes := λ x hx m hm => hz _ (by
     simp only [DataW.weights, ht, List.mem_cons, List.mem_append]
     exact .inr (.inl (Qq hx hm)))
   obtain ⟨xs, x1, x2⟩ := Ajl (R := λ i x => Q x /\ ∃ cs, W.cells? 0 (a.add (i * P.cellsOf e)) (P.cellsOf e) = some cs /\ Br (Xb W) W (u.av T x) cs) len (λ i hi => by
     have := hget i hi
     have hi' : i < elems.length := by omega
     rw [List.getElem?_eq_getElem hi'] at this
     obtain ⟨cs, c1, c2⟩ := Option.bind_eq_some_iff.1 this
     obtain ⟨x, q1, q2⟩ := he H enc W n cs elems[i].1 elems[i].2 c2 (hz2 _ (List.mem_map.2 ⟨_, List.getElem_mem hi', rfl⟩))
     exact ⟨x, q1, cs, c1, q2⟩)
   have hspot : xs ≠ [] -> a.spot = none /\ a.block < W.heap.size := by
     intro hne
     have h0 : 0 < xs.length := List.length_pos_iff.2 hne
     obtain ⟨_, cs, c1, _⟩ := x2 0 xs[0] (by rw [List.getElem?_eq_getElem h0])
     obtain ⟨g1, g2⟩ := Aau c1
     have hc : 0 < cs.length := by omega
     have := g2 0 cs[0] (by rw [List.getElem?_eq_getElem hc])
     have e : (a.add (0 * P.cellsOf e)).add 0 = a := by simp [Addr.add]
     rw [e] at this
     exact ⟨World.cell?_spot this, Apv this⟩
   refine ⟨[.sl u false xs], ⟨xs, [], rfl, ?_, λ x hx => ?_, rfl⟩, .cons ⟨_, rfl, some a, cap, by rw [List.length_map, x1], by rw [List.length_map, x1]; exact hlen, (λ h => by cases h), (λ h => by cases h), λ ad had => ?_⟩ .nil⟩
   · have : xs.length * P.bytesOf e <= (elems.length + rest.length) * P.bytesOf e := Nat.mul_le_mul_right _ (by omega)
     omega
   · obtain ⟨i, hi⟩ := List.getElem?_of_mem hx
     exact (x2 i x hi).1
   · cases had
     refine ⟨λ hne => (hspot (by simpa using hne)).1, Fr.mk _ _ _ λ i y hy => ?_⟩
     rw [List.getElem?_map] at hy
     obtain ⟨x, hx, rfl⟩ := Option.map_eq_some_iff.1 hy
     obtain ⟨_, cs, c1, c2⟩ := x2 i x hx
     obtain ⟨g1, g2⟩ := Aau c1
     obtain ⟨s1, s2⟩ := hspot (by rintro rfl; simp at hx)
     refine ⟨cs, c2, by omega, s2, λ j v hv => ?_⟩
     have := g2 j v hv
     rw [Agd s1, Agd rfl] at this
     rw [<- hsz]; exact this
inductive Aqj (T : Tab) (P : Program) : Nat -> List (Nat × TypeId × Nat) -> List (LK T.E) -> Nat -> Prop where
 | nil {off} : Aqj T P off [] [] off
 | cons {off t n fs ks ks' fin} : RdL T P t ks -> Aqj T P (off + n) fs ks' fin -> Aqj T P off ((off, t, n) :: fs) (ks ++ ks') fin
theorem We {H : Type} {ts : List TypeId} {ds : List (DataW H)} {j : Nat} {t : TypeId} {d : DataW H} (ht : ts[j]? = some t) (hd : ds[j]? = some d) {n : Nat} (hn : n ∈ d.weights P t) : n ∈ DataW.weightsEach P ts ds := DataW.weights_mem_each ht hd n hn
theorem Akl {H : Type} {enc : TypeId × Value -> H} {W : World} {m : Nat} {cs : List Value} : ∀ {fs : List (Nat × TypeId × Nat)} {off fin : Nat} {ks : List (LK T.E)} {xs : List (DataW H × List MemPlace)}, Aqj T P off fs ks fin -> cs.length = fin -> xs.length = fs.length ->
   (∀ (i : Nat) (f : Nat × TypeId × Nat), fs[i]? = some f -> DataW.trod enc P W 0 (λ _ => true) true m f.2.1 ((cs.drop f.1).take f.2.2) = xs[i]?) ->
   (∀ (i : Nat) (f : Nat × TypeId × Nat) (x : DataW H × List MemPlace), fs[i]? = some f -> xs[i]? = some x -> ∀ n ∈ x.1.weights P f.2.1, n <= reachBytes) ->
   ∃ ls, Shp ks ls /\ Bk (Av3 T (Xb W) W) ls (cs.drop off)
 | _, off, _, _, xs, .nil, hl, hx, _, _ => ⟨[], rfl, by rw [List.drop_eq_nil_of_le (by omega)]; exact .nil⟩
 | _, off, fin, _, [], .cons _ _, _, hx, _, _ => by simp at hx
 | _, off, fin, _, x :: xs, .cons (t := t) (n := n) (fs := fs) h2 h3, hl, hx, hg, hw => by
   obtain ⟨ls2, s2, a2⟩ := Akl h3 hl (by simpa using hx) (λ i f' hf => by have := hg (i + 1) f' (by simpa using hf); simpa using this) (λ i f' x' hf hx' => hw (i + 1) f' x' (by simpa using hf) (by simpa using hx'))
   obtain ⟨ls1, s1, a1⟩ := h2 H enc W m _ x.1 x.2 (by have := hg 0 (off, t, n) (by simp); simpa using this) (hw 0 (off, t, n) x (by simp) (by simp))
   refine ⟨ls1 ++ ls2, s1.append s2, ?_⟩
   have : cs.drop off = (cs.drop off).take n ++ cs.drop (off + n) := by
     rw [<- List.drop_drop, List.take_append_drop]
   rw [this]
   exact a1.append a2
def Adb (P : Program) (t : TypeId) : Option (List (Nat × TypeId × Nat)) := match P.underlying t with
 | some (.struct fs) => some (fs.toList.map λ f => (f.offset, f.type, P.cellsOf f.type))
 | _ => none
theorem R9 {fl : List (Nat × TypeId × Nat)} {ks : List (LK T.E)} {fin : Nat} (hf : Adb P t = some fl) (hfin : P.cellsOf t = fin) (h : Aqj T P 0 fl ks fin) : RdL T P t ks := by
 intro H enc W fuel cs d ps htr hz
 unfold Adb at hf
 split at hf
 · rename_i fs ht
   cases hf
   obtain ⟨xs, n, rfl, hx, hl, hxl, hg⟩ := DataW.trod_struct ht htr
   cases hx
   have := Akl (enc := enc) (W := W) (m := n) (cs := cs) (xs := xs) h (hl.trans hfin) (by simpa using hxl) (λ i f hf => by
     rw [List.getElem?_map] at hf
     obtain ⟨f', hf', rfl⟩ := Option.map_eq_some_iff.1 hf
     exact hg i f' (by simpa using hf')) (λ i f x hf hx' m hm => hz m (by
     rw [List.getElem?_map] at hf
     obtain ⟨f', hf', rfl⟩ := Option.map_eq_some_iff.1 hf
     simp only [DataW.weights, ht]
     refine We (j := i) (t := f'.type) (d := x.1) ?_ ?_ hm
     · rw [List.getElem?_map, hf']; rfl
     · rw [List.getElem?_map, hx']; rfl))
   simpa using this
 · cases hf
theorem Aj6 {k : IntKind} (ht : P.underlying t = some (.int k)) : RdE T P t (.int k) k.has := by
 intro H enc W fuel cs d ps h _
 obtain ⟨n, rfl, _, hw⟩ := DataW.trod_int ht h
 exact ⟨n, Au7 hw, rfl⟩
theorem Abe {ok : Nat -> Prop} {w : World} : ∀ {ls : List (A7 T.E)} {as : List AV} {cs : List Value}, Bk (Av3 T ok w) ls cs -> ls.map (A7.av T) = as.map some -> H9 ok w as cs
 | [], as, _, .nil, h => by
   have : as = [] := by cases as with
     | nil => rfl
     | cons a as => simp at h
   subst this
   exact rfl
 | l :: ls, [], _, .cons _ _, h => by simp at h
 | l :: ls, a :: as, _, .cons (b := v) (m := vs) h1 h2, h => by
   simp only [List.map_cons, List.cons.injEq] at h
   obtain ⟨a', h3, h4⟩ := h1
   rw [h.1] at h3
   cases h3
   exact ⟨[v], vs, rfl, h4, Abe h2 h.2⟩
theorem Aoz (ok : T.Ok) {n : Nat} {Q : T.E n -> Prop} {ks : List (LK T.E)} (h : RdL T P t ks) (mk : ∀ ls, Shp ks ls -> ∃ x, Q x /\ T.toL n x = ls) : RdE T P t (.nm n) Q := by
 intro H enc W fuel cs d ps htr hz
 obtain ⟨ls, s, a⟩ := h H enc W fuel cs d ps htr hz
 obtain ⟨x, hx, rfl⟩ := mk ls s
 exact ⟨x, hx, Abe a (ok.av n x)⟩
def RdV (T : Tab) (P : Program) (t : TypeId) (u : Ty) (Q : u.den T.E -> Prop) : Prop :=
 ∀ (H : Type) (enc : TypeId × Value -> H) (W : World) (base : Nat) (v : Value) (d : DataW H) (ps : List MemPlace), Value.okWide P W .any base t v -> DataW.Trod enc P W 0 (λ _ => true) true t v d ps -> (∀ n ∈ d.weights P t, n <= reachBytes) ->
   ∃ x, Q x /\ Afj T (Xb W) W u x v
def Avw (P : Program) (t : TypeId) : Bool := match P.underlying t with
 | some (.int _) | some .bool | some .string | some (.slice _) => true
 | _ => false
theorem Alh {u : Ty} {Q : u.den T.E -> Prop} (h : RdE T P t u Q) (hu : Kg u = false) (hk : Avw P t = true) : RdV T P t u Q := by
 intro H enc W base v d ps hv htr hz
 obtain ⟨fuel, htr⟩ := htr
 have hc : v.cells.toList = [v] := by
   cases v <;> try rfl
   exfalso
   unfold Value.okWide Cell.okWide Cell.ok at hv
   unfold Avw at hk
   split at hk <;> rename_i h' <;> first | (rw [h'] at hv; simp at hv) | cases hk
 rw [hc] at htr
 obtain ⟨x, h1, h2⟩ := h H enc W fuel _ d ps htr hz
 exact ⟨x, h1, by unfold Afj; rw [if_neg (by rw [hu]; exact Bool.false_ne_true)]; exact h2⟩
theorem A90 {n : Nat} {Q : T.E n -> Prop} (h : RdE T P t (.nm n) Q) (hk : (Adb P t).isSome = true) : RdV T P t (.nm n) Q := by
 intro H enc W base v d ps hv htr hz
 obtain ⟨fuel, htr⟩ := htr
 obtain ⟨cs, rfl⟩ : ∃ cs, v = .agg cs := by
   unfold Value.okWide at hv
   unfold Adb at hk
   split at hk
   · rename_i h'; rw [h'] at hv; obtain ⟨cs, h1, _⟩ := hv; exact ⟨cs, h1⟩
   · cases hk
 obtain ⟨x, h1, h2⟩ := h H enc W fuel _ d ps htr hz
 exact ⟨x, h1, by unfold Afj; rw [if_pos (show Kg (.nm n) = true from rfl)]; exact ⟨cs, rfl, h2⟩⟩
inductive Aao (T : Tab) (P : Program) : List TypeId -> (us : List Ty) -> (HL T.E us -> Prop) -> Prop where
 | nil : Aao T P [] [] λ _ => True
 | cons {t u Q ts us R} : RdV T P t u Q -> Aao T P ts us R -> Aao T P (t :: ts) (u :: us) λ x => Q x.1 /\ R x.2
theorem Aje {H : Type} {enc : TypeId × Value -> H} {W : World} {base : Nat} {ts : List TypeId} {us : List Ty} {Q : HL T.E us -> Prop} (h : Aao T P ts us Q) : ∀ (vs : List Value) (ds : List (DataW H)) (ps : List MemPlace), DataW.TrodAll enc P W 0 (λ _ => true) true ts vs ds ps ->
   (∀ (j : Nat) t v, ts[j]? = some t -> vs[j]? = some v -> Value.okWide P W .any base t v) -> (∀ n ∈ DataW.weightsEach P ts ds, n <= reachBytes) -> ∃ x, Q x /\ Jd T (Xb W) W [] us x vs [] := by
 induction h with
 | nil =>
   intro vs ds ps h _ _
   match vs, ds, h with
   | [], [], _ => exact ⟨(), trivial, rfl, rfl⟩
 | cons h1 h2 ih =>
   intro vs ds ps h hv hz
   match vs, ds, h with
   | v :: vs, d :: ds, ⟨p, q, g1, g2, g3⟩ =>
     obtain ⟨x, k1, k2⟩ := h1 H enc W base v d p (hv 0 _ v rfl rfl) g1 (λ n hn => hz n (by simp only [DataW.weightsEach, List.mem_append]; exact .inl hn))
     obtain ⟨y, k3, k4⟩ := ih vs ds q g2 (λ j t' v' hj hj' => hv (j + 1) t' v' (by simpa using hj) (by simpa using hj')) (λ n hn => hz n (by simp only [DataW.weightsEach, List.mem_append]; exact .inr hn))
     exact ⟨(x, y), ⟨k1, k3⟩, v, vs, [], [], rfl, rfl, .data k2, k4⟩
theorem Vs {H : Type} {enc : TypeId × Value -> H} {W : World} {base : Nat} {sp : Nat -> Bool} {held : Bool} : ∀ {ts : List TypeId} {vs : List Value} {ds : List (DataW H)} {ps : List MemPlace}, DataW.TrodAll enc P W base sp held ts vs ds ps -> ds.length = ts.length
 | [], [], [], _, _ => rfl
 | t :: ts, v :: vs, d :: ds, ps, ⟨p, q, _, h, _⟩ => by simp [Vs h]
theorem R8 {H : Type} {enc : TypeId × Value -> H} {W W' : World} (hl : laidOutB P = true) {sp' : Nat -> Bool} : ∀ {ts : List TypeId} {vs : List Value} {ds : List (DataW H)} {ps : List MemPlace}, (∀ t ∈ ts, P.readableRec t = true /\ t < P.types.size) -> DataW.TrodAll enc P W 0 (λ _ => true) true ts vs ds ps ->
   (∀ p ∈ ps, W.sameAt W' p) -> (∀ p ∈ ps, sp' p.block = true) -> DataW.TrodAll enc P W' 0 sp' true ts vs ds ps
 | [], [], [], _, _, h, _, _ => h
 | t :: ts, v :: vs, d :: ds, ps, hr, ⟨p, q, h1, h2, h3⟩, hs, hb => by
   subst h3
   exact ⟨p, q, WideElems.Trod_stays hl (hr t (by simp)).1 (hr t (by simp)).2 h1 (λ x hx => hs x (by simp [hx])) (λ x hx => hb x (by simp [hx])),
     R8 hl (λ t' ht' => hr t' (by simp [ht'])) h2 (λ x hx => hs x (by simp [hx])) (λ x hx => hb x (by simp [hx])), rfl⟩
end
section
open Go.ChangeShapes
variable {H : Type} {enc : TypeId × Value -> H} {T : Tab} {ti : TypeId -> Option (TI T.E)} {eqs : TypeId -> Bool}
theorem Ai4 {a : Assume} {C : Checked} {os : Os} {f : FuncId} {fn : Func} {s : ChangeSpec} {conds : List PathCond} {apart fresh handsOn again : Bool} {args : List Ty} {g : HL T.E args -> Option (HL T.E [.bool])} {Q : HL T.E args -> Prop} {tb : TypeId} {ts : List TypeId}
   (M : Abu T ti eqs C.prog f ⟨args, [.bool], [], [], g⟩) (hts : fn.params.toList = ts) (R : Aao T C.prog ts args Q) (plain : ∀ x, Q x -> g x = some (true, ()))
   (own : ownKnob C.prog.godebug = none) (laid : laidOutB C.prog = true) (hp : fn.params.toList.all (λ t => C.prog.readableRec t && decide (t < C.prog.types.size)) = true)
   (hr : fn.resultTypes = #[tb]) (hb : C.prog.underlying tb = some .bool) (hv : s.vars = []) (hs : ∀ ds : List (DataW H), ds.length = fn.params.toList.length -> s.fn H ds = { results := [.lit (.bool true)], args := ds })
   (started : os.Started) (noInit : C.prog.inits.idxOf? f = none) (hfn : C.prog.funcs[f]? = some fn)
   (witness : ∃ (w : World) (tape : Tape) (i : Input), w.os = os /\ (w.forCall tape i).Shaped C.prog /\ i.vars = [] /\ Input.okWide C.prog (w.forCall tape i) .any w.heap.size f i /\
     s.pre6 enc C.prog fn conds apart (w.forCall tape i).memory i.args /\ a.holds C.prog (lone (Frame.enter C.prog f i.args .normal) [] (w.forCall tape i))) :
   ReturnsInHanded a C os f .any (s.pre6 enc C.prog fn conds apart) (s.post enc C.prog fn apart fresh handsOn again) := by
 subst hts
 refine returnsInHanded_of_change_sized own started noInit hfn witness ?_
 intro W base vs ds gs before hval hW _ hz _
 have hW' := hW
 obtain ⟨p, q, hA, hV, hps, hfz, hnd⟩ := hW
 rw [hv] at hV
 have hgs : gs = [] /\ q = [] := by
   match gs, hV with
   | [], h => exact ⟨rfl, h⟩
 obtain ⟨rfl, rfl⟩ := hgs
 rw [List.append_nil] at hps
 subst hps
 have hlen := Vs hA
 have hz' : ∀ n ∈ DataW.weightsEach C.prog fn.params.toList ds, n <= reachBytes := by
   intro n hn
   have e : s.plain.varTypes C.prog = [] := by unfold DataSpec.varTypes ChangeSpec.plain; rw [hv]; rfl
   rw [e, List.append_nil, List.append_nil] at hz
   have := List.all_eq_true.1 hz n hn
   simpa using this
 obtain ⟨x, hx, hargs⟩ := Aje R vs.toList ds before hA (λ j t v hj hj' => hval j t v (by simpa using hj) (by simpa using hj')) hz'
 have hcall := M.2 x (true, ()) (plain x hx) (Xb W) W vs.toList [] hargs List.nodup_nil (by simp) (λ b h => h)
 have hrd : ∀ t ∈ fn.params.toList, C.prog.readableRec t = true /\ t < C.prog.types.size := by
   intro t ht
   have := List.all_eq_true.1 hp t ht
   simpa using this
 simp only [Array.toArray_toList] at hcall
 refine hcall.mono λ e W' ⟨rs, own', he, hbut, _, _, hres⟩ => ?_
 obtain ⟨v, vr, o1, o2, rfl, rfl, ⟨us, hus, huv⟩, hvr, _⟩ := hres
 have hvt : v = .bool true := by
   have huv : us = [v] := huv
   subst huv
   cases hus with
   | more h1 _ => exact h1 [] (λ _ => ⟨0, .bool true, [], []⟩)
 subst hvr hvt
 subst he
 have hB : RowKit.Below W.heap.size W W' := ⟨hbut.os, hbut.tape, hbut.output, hbut.size, λ k hk => hbut.heap k hk (by simp)⟩
 have hlt : ∀ p ∈ before, p.block < W.heap.size := λ p hp => by simpa using hW'.lt p hp
 have hs' := hs ds hlen
 have hfr : ∀ b off, MemPlace.cell b off ∈ before -> W'.frozen? ⟨b, off, none⟩ = W.frozen? ⟨b, off, none⟩ := λ b off h => hB.frozen (hlt _ h)
 have hold : ∀ sp : Nat -> Bool, (∀ p ∈ before, sp p.block = true) -> DataW.TrodAll enc C.prog W' 0 sp true fn.params.toList vs.toList ds before := λ sp hsp => R8 laid hrd hA (λ p hp => hB.same (hlt p hp)) hsp
 have hbool : ∀ (b : Nat) (sp : Nat -> Bool) (hd : Bool), DataW.TrodAll enc C.prog W' b sp hd fn.resultTypes.toList ((Value.bool true).resultList fn.resultTypes.size) [.lit (.bool true)] [] := by
   intro b sp hd
   rw [hr]
   show DataW.TrodAll enc C.prog W' b sp hd [tb] [.bool true] [.lit (.bool true)] []
   refine ⟨[], [], ⟨1, ?_⟩, rfl, rfl⟩
   simp [DataW.trod, hb, Value.cells]
 have hvars0 : ∀ sp : Nat -> Bool, DataW.TrodVars enc C.prog W' sp s.vars [] [] := by intro sp; rw [hv]; exact rfl
 refine ⟨.bool true, rfl, ds, [], before, [], before, [], hW', ?_, ?_, ?_, hB.frame _, λ _ => ⟨λ j t r hj hj' => ?_, .lit (.bool true) :: ds, [], before, ⟨before, [], ?_, ?_, by simp, λ b off hb' => ?_, λ ha => hnd ha⟩, λ p hp _ => hp⟩⟩
 · rw [List.append_nil, hs']; exact hbool _ _ _
 · rw [List.append_nil, hs']; exact hold _ λ p hp => by simpa using hlt p hp
 · rw [List.append_nil, hs']; exact hvars0 _
 · rw [hr] at hj hj'
   match j, hj, hj' with
   | 0, hj, hj' =>
     simp [Value.resultList] at hj hj'
     subst hj; subst hj'
     simp [Value.okWide, hb, Cell.okWide, Cell.ok]
   | j + 1, hj, _ => simp at hj
 · have h1 : DataW.TrodAll enc C.prog W' 0 (λ _ => true) true fn.resultTypes.toList ((Value.bool true).resultList fn.resultTypes.size) [.lit (.bool true)] [] := hbool _ _ _
   have := trodAll_append (hold _ λ _ _ => rfl) h1
   simpa using this
 · exact hvars0 _
 · rw [hfr b off hb']; exact hfz b off hb'
end
end Go.Ab
