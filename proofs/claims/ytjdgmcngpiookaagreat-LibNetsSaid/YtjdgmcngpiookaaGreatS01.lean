/- When an abstract state tells a frame and the memory; and that it does so still when other things turn. How the memory of an abstract state may turn: the general step, and its cases; what is known of the program's types. Each operation that only reads does in the model what the abstract one tells. More operations that only read or compute. Conditions: none beyond those that each theorem names. -/
import Derived.Test.YtjdgmcngpiookaaGreatS00
import Derived.Laws.Cells
import Derived.Laws.CopyRow
import Derived.Laws.Slices
namespace Go.Ab
open Go
structure Rr (w w' : World) : Prop where
 os : w'.os = w.os
 tape : w'.tape = w.tape
 output : w'.output = w.output
 size : w.heap.size <= w'.heap.size
 heap : ∀ b, b < w.heap.size -> w'.heap[b]? = w.heap[b]?
theorem Rr.refl (w : World) : Rr w w := ⟨rfl, rfl, rfl, Nat.le_refl _, λ _ _ => rfl⟩
theorem Rr.trans {a b c : World} (h : Rr a b) (k : Rr b c) : Rr a c :=
 ⟨k.os.trans h.os, k.tape.trans h.tape, k.output.trans h.output, Nat.le_trans h.size k.size, λ x hx => (k.heap x (Nat.lt_of_lt_of_le hx h.size)).trans (h.heap x hx)⟩
theorem Rr.alloc (w : World) (o : Obj) : Rr w (w.alloc o) :=
 ⟨rfl, rfl, rfl, by simp, λ b hb => by rw [World.alloc, Array.getElem?_push]; simp [Nat.ne_of_lt hb]⟩
theorem Rr.drew (w : World) : Rr w { w with drawn := w.drawn + 1 } := ⟨rfl, rfl, rfl, Nat.le_refl _, λ _ _ => rfl⟩
structure Ctx where
 P : Program
 okp : Nat -> Prop
 B : Nat
 chg : Nat -> Prop
 W : World
 v0 : Value
structure Bjy (C : Ctx) (w : World) : Prop where
 os : w.os = C.W.os
 tape : w.tape = C.W.tape
 output : w.output = C.W.output
 size : C.B <= w.heap.size
 heap : ∀ b, b < C.B -> ¬ C.chg b -> w.heap[b]? = C.W.heap[b]?
def Bc (C : Ctx) (β : Nat -> BI) (w : World) (b : Nat) : Prop :=
 b < w.heap.size /\ (C.okp b \/ C.B <= b \/ C.chg b) /\ ∀ id, b ∉ (β id).own
section
variable (T : Tab)
def Hh (ok : Nat -> Prop) (w : World) (e : TypeId) (t : Ty) (xs : List (t.den T.E)) (hdr : Value) : Prop :=
 ∃ css : List (List Value), w.ownsRow 0 e (t.sz T) hdr xs.length css.flatten /\ Bk (λ x cs => Br ok w (t.av T x) cs /\ cs.length = t.sz T) xs css
def Ld (ok : Nat -> Prop) (w : World) (e e2 : TypeId) (t : Ty) (xss : List (List (t.den T.E))) (i : BI) : Prop :=
 w.ownsRow 0 e 1 i.hdr xss.length i.rows /\ i.own = i.hdr.ownBlock.toList ++ i.rows.flatMap (λ v => v.ownBlock.toList) /\
 Bk (λ xs v => Hh T ok w e2 t xs v) xss i.rows
def Acu (ok : Nat -> Prop) (w : World) (e e2 : TypeId) (t : Ty) (xss : List (List (t.den T.E))) (i : BI) (a b : Int) : Prop :=
 0 <= a /\ a < xss.length /\ 0 <= b /\ b < xss.length /\ ∃ rb, i.rows[b.toNat]? = some rb /\ w.ownsRow 0 e 1 i.hdr xss.length (i.rows.set a.toNat rb) /\
   i.own = i.hdr.ownBlock.toList ++ i.rows.flatMap (λ v => v.ownBlock.toList) /\ Bk (λ xs v => Hh T ok w e2 t xs v) xss i.rows
def Sc (ok : Nat -> Prop) (w : World) (t : Ty) (x : t.den T.E) (v : Value) : Prop :=
 if Kg t then ∃ cs, v = .agg cs /\ Br ok w (t.av T x) cs.toList else Br ok w (t.av T x) [v]
def Abp (ok : Nat -> Prop) (w : World) (k t : Ty) (l : List (k.den T.E × t.den T.E)) (b : Nat) : Prop :=
 ∃ es clock, w.heap[b]? = some (.map es clock) /\ Bk (λ (x : k.den T.E × t.den T.E) (e : MapEntry) => Br ok w (k.av T x.1) [e.key] /\ Sc T ok w t x.2 e.val) l es.toList
def C5 (bx : List (Nat × Box T.E)) (β : Nat -> BI) (ok : Nat -> Prop) (w : World) (id : Nat) : Box T.E -> Prop
 | .cells ls => ∃ c e, (β id).own = [(β id).blk] /\ w.heap[(β id).blk]? = some (.cells c e (0, 0)) /\ Bk (Ak T bx β ok w) ls c.toList
 | .arr e t xs _ false => (β id).own = (β id).hdr.ownBlock.toList /\ Hh T ok w e t xs (β id).hdr
 | .arr _ t xs _ true => (β id).own = [] /\ R2 T ok w t false xs (β id).hdr /\ (xs ≠ [] -> ∃ b cap, (β id).hdr = .slice (some ⟨b, 0, none⟩) xs.length cap)
 | .rows e e2 t xss _ _ .opn => Ld T ok w e e2 t xss (β id)
 | .rows _ _ t xss _ _ .shut => (β id).own = [] /\ R2 T ok w (.sl t) false xss (β id).hdr /\ (xss ≠ [] -> ∃ b cap, (β id).hdr = .slice (some ⟨b, 0, none⟩) xss.length cap)
 | .rows e e2 t xss _ _ (.mix a b) => Acu T ok w e e2 t xss (β id) a b
 | .map k t l => (β id).own = [(β id).blk] /\ Abp T ok w k t l (β id).blk
 | .gone => True
structure Bq (C : Ctx) (bx : List (Nat × Box T.E)) (β : Nat -> BI) (w : World) : Prop where
 boxes : ∀ id b, A6 id bx = some b -> C5 T bx β (Bc C β w) w id b
 nones : ∀ id, A6 id bx = none -> (β id).own = []
 nodup : ∀ id, (β id).own.Nodup
 apart : ∀ id id' x, x ∈ (β id).own -> x ∈ (β id').own -> id = id'
 mine : ∀ id x, x ∈ (β id).own -> x < w.heap.size /\ (C.B <= x \/ C.chg x)
 kept : Bjy C w
def A3 (bx : List (Nat × Box T.E)) (β : Nat -> BI) (ok : Nat -> Prop) (w : World) : CV T.E -> Value -> Prop
 | .one l, v => Ak T bx β ok w l v
 | .ag ls, v => ∃ cs, v = .agg cs /\ Bk (Ak T bx β ok w) ls cs.toList
def Bb (bx : List (Nat × Box T.E)) (β : Nat -> BI) (ok : Nat -> Prop) (w : World) : SV T.E -> Value -> Prop
 | .cv c, v => A3 T bx β ok w c v
 | .tup cs, v => ∃ vs, v = .tuple vs /\ Bk (A3 T bx β ok w) cs vs.toList
def Fy (i i' : BI) : Box T.E -> Box T.E -> Prop
 | .cells _, .cells _ => i'.blk = i.blk
 | .arr _ t xs v _, .arr _ t' xs' v' _ => t' = t /\ v <= v' /\ (v' = v -> i'.hdr = i.hdr /\ xs'.length = xs.length)
 | .rows _ _ t xss v rv _, .rows _ _ t' xss' v' rv' _ => t' = t /\ v <= v' /\ (v' = v -> i'.hdr = i.hdr /\ xss'.length = xss.length /\ rv <= rv' /\
     (rv' = rv -> i'.rows = i.rows /\ ∀ k : Nat, (xss'.getD k []).length = (xss.getD k []).length))
 | .map k t _, .map k' t' _ => k' = k /\ t' = t /\ i'.blk = i.blk
 | _, .gone => True
 | _, _ => False
theorem Fy.refl (i : BI) (b : Box T.E) : Fy T i i b b := by
 cases b <;> simp [Fy]
structure Ext (bx : List (Nat × Box T.E)) (β : Nat -> BI) (ok : Nat -> Prop) (w : World) (bx' : List (Nat × Box T.E)) (β' : Nat -> BI) (ok' : Nat -> Prop) (w' : World) : Prop where
 later : Fb ok w ok' w'
 box : ∀ id b, A6 id bx = some b -> ∃ b', A6 id bx' = some b' /\ Fy T (β id) (β' id) b b'
variable {T}
variable {bx bx' : List (Nat × Box T.E)} {β β' : Nat -> BI} {ok ok' : Nat -> Prop} {w w' : World}
mutual
theorem Ak.ext (X : Ext T bx β ok w bx' β' ok' w') : ∀ (l : A7 T.E) (v : Value), Ak T bx β ok w l v -> Ak T bx' β' ok' w' l v
 | .int _ _, _, h => h
 | .bool _, _, h => h
 | .str _, _, h => h
 | .sl t st xs, v, h => Br.later X.later _ _ h
 | .ar id ver, v, h => by
   simp only [Ak] at h ⊢
   refine ⟨h.1, ?_⟩
   have h2 := h.2
   cases hb : A6 id bx with
   | none => rw [hb] at h2; exact h2.elim
   | some b =>
     obtain ⟨b', hb', hc⟩ := X.box id b hb
     rw [hb] at h2; rw [hb']
     cases b <;> cases b' <;> simp only [Fy] at hc h2 ⊢
     · obtain ⟨_, hv, hc⟩ := hc
       refine ⟨Nat.le_trans h2.1 hv, λ e => ?_⟩
       have := hc (by omega)
       rw [this.1]; exact h2.2 (by omega)
     · obtain ⟨_, hv, hc⟩ := hc
       refine ⟨Nat.le_trans h2.1 hv, λ e => ?_⟩
       have := hc (by omega)
       rw [this.1]; exact h2.2 (by omega)
 | .row id ver rv i, v, h => by
   simp only [Ak] at h ⊢
   refine ⟨h.1, ?_⟩
   have h2 := h.2
   cases hb : A6 id bx with
   | none => rw [hb] at h2; exact h2.elim
   | some b =>
     obtain ⟨b', hb', hc⟩ := X.box id b hb
     rw [hb] at h2; rw [hb']
     cases b <;> cases b' <;> simp only [Fy] at hc h2 ⊢
     obtain ⟨_, hv, hc⟩ := hc
     refine ⟨Nat.le_trans h2.1 hv, λ e => ?_⟩
     obtain ⟨c1, c2, c3, c4⟩ := hc (by omega)
     obtain ⟨k1, k2⟩ := h2.2 (by omega)
     refine ⟨Nat.le_trans k1 c3, λ e2 => ?_⟩
     obtain ⟨d1, d2⟩ := c4 (by omega)
     obtain ⟨m1, m2, m3⟩ := k2 (by omega)
     exact ⟨m1, by rw [c2]; exact m2, by rw [d1]; exact m3⟩
 | .ptr id off, v, h => by
   simp only [Ak] at h ⊢
   refine ⟨h.1, ?_⟩
   have h2 := h.2
   cases hb : A6 id bx with
   | none => rw [hb] at h2; exact h2.elim
   | some b =>
     obtain ⟨b', hb', hc⟩ := X.box id b hb
     rw [hb] at h2; rw [hb']
     cases b <;> cases b' <;> simp only [Fy] at hc h2 ⊢
     rw [hc]; exact h2
 | .ep id ver i off, v, h => by
   simp only [Ak] at h ⊢
   refine ⟨h.1, ?_⟩
   have h2 := h.2
   cases hb : A6 id bx with
   | none => rw [hb] at h2; exact h2.elim
   | some b =>
     obtain ⟨b', hb', hc⟩ := X.box id b hb
     rw [hb] at h2; rw [hb']
     cases b <;> cases b' <;> simp only [Fy] at hc h2 ⊢
     · obtain ⟨rfl, hv, hc⟩ := hc
       refine ⟨Nat.le_trans h2.1 hv, λ e => ?_⟩
       obtain ⟨c1, c2⟩ := hc (by omega)
       rw [c1, c2]; exact h2.2 (by omega)
     · obtain ⟨rfl, hv, hc⟩ := hc
       refine ⟨Nat.le_trans h2.1 hv, λ e => ?_⟩
       obtain ⟨c1, c2, _⟩ := hc (by omega)
       rw [c1, c2]; exact h2.2 (by omega)
 | .win id ver i n, v, h => by
   simp only [Ak] at h ⊢
   refine ⟨h.1, ?_⟩
   have h2 := h.2
   cases hb : A6 id bx with
   | none => rw [hb] at h2; exact h2.elim
   | some b =>
     obtain ⟨b', hb', hc⟩ := X.box id b hb
     rw [hb] at h2; rw [hb']
     cases b <;> cases b' <;> simp only [Fy] at hc h2 ⊢
     obtain ⟨rfl, hv, hc⟩ := hc
     refine ⟨Nat.le_trans h2.1 hv, λ e => ?_⟩
     obtain ⟨c1, c2⟩ := hc (by omega)
     rw [c1, c2]; exact h2.2 (by omega)
 | .rp id ver rv i k off, v, h => by
   simp only [Ak] at h ⊢
   refine ⟨h.1, ?_⟩
   have h2 := h.2
   cases hb : A6 id bx with
   | none => rw [hb] at h2; exact h2.elim
   | some b =>
     obtain ⟨b', hb', hc⟩ := X.box id b hb
     rw [hb] at h2; rw [hb']
     cases b <;> cases b' <;> simp only [Fy] at hc h2 ⊢
     obtain ⟨rfl, hv, hc⟩ := hc
     refine ⟨Nat.le_trans h2.1 hv, λ e => ?_⟩
     obtain ⟨c1, c2, c3, c4⟩ := hc (by omega)
     obtain ⟨k1, k2⟩ := h2.2 (by omega)
     refine ⟨Nat.le_trans k1 c3, λ e2 => ?_⟩
     obtain ⟨d1, d2⟩ := c4 (by omega)
     rw [d1, d2, c2]
     exact k2 (by omega)
 | .cp t x off, v, h => by
   simp only [Ak] at h ⊢
   obtain ⟨b, o, cs, h1, h2, h3⟩ := h
   exact ⟨b, o, cs, h1, Br.later X.later _ _ h2, h3.later X.later⟩
 | .bs ls, v, h => by
   simp only [Ak] at h ⊢
   obtain ⟨b, vs, c, e, h1, h2, h3, h4, h5⟩ := h
   exact ⟨b, vs, c, e, h1, X.later.may _ h2, by rw [X.later.heap _ h2]; exact h3, h4, Bx.ext X ls vs h5⟩
 | .clo f caps, v, h => by
   simp only [Ak] at h ⊢
   obtain ⟨vs, h1, h2⟩ := h
   exact ⟨vs, h1, Bx.ext X caps _ h2⟩
 | .mp id, v, h => by
   simp only [Ak] at h ⊢
   refine ⟨h.1, ?_⟩
   have h2 := h.2
   cases hb : A6 id bx with
   | none => rw [hb] at h2; exact h2.elim
   | some b =>
     obtain ⟨b', hb', hc⟩ := X.box id b hb
     rw [hb] at h2; rw [hb']
     cases b <;> cases b' <;> simp only [Fy] at hc h2 ⊢
     rw [hc.2.2]; exact h2
 | .nptr, _, h => h
 | .nfn, _, h => h
 | .nmp, _, h => h
theorem Bx.ext (X : Ext T bx β ok w bx' β' ok' w') : ∀ (ls : List (A7 T.E)) (vs : List Value), Bx T bx β ok w ls vs -> Bx T bx' β' ok' w' ls vs
 | [], _, h => h
 | l :: ls, vs, h => by
   simp only [Bx] at h ⊢
   obtain ⟨v, r, rfl, h1, h2⟩ := h
   exact ⟨v, r, rfl, Ak.ext X l v h1, Bx.ext X ls r h2⟩
end
theorem Bk.ext (X : Ext T bx β ok w bx' β' ok' w') {ls : List (A7 T.E)} {vs : List Value} (h : Bk (Ak T bx β ok w) ls vs) : Bk (Ak T bx' β' ok' w') ls vs :=
 h.imp λ l v k => Ak.ext X l v k
theorem A3.ext (X : Ext T bx β ok w bx' β' ok' w') {c : CV T.E} {v : Value} (h : A3 T bx β ok w c v) : A3 T bx' β' ok' w' c v := by
 cases c with
 | one l => exact Ak.ext X l v h
 | ag ls => obtain ⟨cs, rfl, h⟩ := h; exact ⟨cs, rfl, Bk.ext X h⟩
theorem Bb.ext (X : Ext T bx β ok w bx' β' ok' w') {c : SV T.E} {v : Value} (h : Bb T bx β ok w c v) : Bb T bx' β' ok' w' c v := by
 cases c with
 | cv c => exact A3.ext X h
 | tup cs => obtain ⟨vs, rfl, h⟩ := h; exact ⟨vs, rfl, h.imp λ _ _ k => A3.ext X k⟩
theorem Afq {l : A7 T.E} {v : Value} (h : Ak T bx β ok w l v) : v.oneCell' = true := by
 cases l <;> simp only [Ak] at h
 case sl => obtain ⟨a, cap, h, _⟩ := h; simp at h; subst h; rfl
 case cp => obtain ⟨b, o, cs, rfl, _⟩ := h; rfl
 case bs => obtain ⟨b, vs, c, e, rfl, _⟩ := h; rfl
 case clo => obtain ⟨vs, rfl, _⟩ := h; rfl
 all_goals first | exact h.1 | (subst h; rfl)
theorem Q9 {v : Value} (h : v.oneCell' = true) : v.cells = #[v] := by
 cases v <;> simp_all [Value.oneCell', Value.cells]
theorem S8 {l : A7 T.E} {v : Value} (h : Ak T bx β ok w l v) : v.cells = #[v] := Q9 (Afq h)
theorem A3.cells {c : CV T.E} {v : Value} (h : A3 T bx β ok w c v) : Bk (Ak T bx β ok w) c.leaves v.cells.toList := by
 cases c with
 | one l => rw [S8 h]; exact .cons h .nil
 | ag ls => obtain ⟨cs, rfl, h⟩ := h; exact h
theorem Lh {agg : Bool} {ls : List (A7 T.E)} {c : CV T.E} (h : B2 agg ls = some c) {vs : List Value} (k : Bk (Ak T bx β ok w) ls vs) :
   (agg = true /\ c = .ag ls /\ A3 T bx β ok w c (.agg vs.toArray)) \/ (agg = false /\ ∃ l v, ls = [l] /\ c = .one l /\ vs = [v] /\ A3 T bx β ok w c v) := by
 cases agg with
 | true => simp [B2] at h; subst h; exact .inl ⟨rfl, rfl, _, rfl, by simpa using k⟩
 | false =>
   match ls, h with
   | [l], h =>
     simp [B2] at h; subst h
     cases k with
     | cons k1 k2 => cases k2; exact .inr ⟨rfl, _, _, rfl, rfl, rfl, k1⟩
   | [], h => simp [B2] at h
   | _ :: _ :: _, h => simp [B2] at h
theorem Lj {base : Nat} {e : TypeId} {sz : Nat} {v : Value} {n : Nat} {xs : List Value} (h : w.ownsRow base e sz v n xs) (hh : ∀ b, v.ownBlock = some b -> w'.heap[b]? = w.heap[b]?) :
   w'.ownsRow base e sz v n xs := by
 obtain ⟨h1, h2⟩ := h
 refine ⟨h1, ?_⟩
 rcases h2 with h2 | ⟨g, cap, cur, rfl, k1, k2, k3⟩
 · exact .inl h2
 · exact .inr ⟨g, cap, cur, rfl, k1, by rw [hh g rfl]; exact k2, k3⟩
theorem Hh.later (L : Fb ok w ok' w') {e : TypeId} {t : Ty} {xs : List (t.den T.E)} {hdr : Value} (h : Hh T ok w e t xs hdr) (hh : ∀ b, hdr.ownBlock = some b -> w'.heap[b]? = w.heap[b]?) :
   Hh T ok' w' e t xs hdr := by
 obtain ⟨css, h1, h2⟩ := h
 exact ⟨css, Lj h1 hh, h2.imp λ x cs k => ⟨Br.later L _ _ k.1, k.2⟩⟩
theorem Sc.later (L : Fb ok w ok' w') {t : Ty} {x : t.den T.E} {v : Value} (h : Sc T ok w t x v) : Sc T ok' w' t x v := by
 unfold Sc at h ⊢
 split
 · rename_i hn; rw [if_pos hn] at h; obtain ⟨cs, h1, h2⟩ := h; exact ⟨cs, h1, Br.later L _ _ h2⟩
 · rename_i hn; rw [if_neg hn] at h; exact Br.later L _ _ h
theorem Abp.later (L : Fb ok w ok' w') {k t : Ty} {l : List (k.den T.E × t.den T.E)} {b : Nat} (h : Abp T ok w k t l b) (hh : w'.heap[b]? = w.heap[b]?) : Abp T ok' w' k t l b := by
 obtain ⟨es, cl, h1, h2⟩ := h
 exact ⟨es, cl, by rw [hh]; exact h1, h2.imp λ x e k => ⟨Br.later L _ _ k.1, k.2.later L⟩⟩
theorem C5.ext (X : Ext T bx β ok w bx' β' ok' w') {id : Nat} {b : Box T.E} (h : C5 T bx β ok w id b) (hβ : β' id = β id) (hh : ∀ x ∈ (β id).own, w'.heap[x]? = w.heap[x]?) :
   C5 T bx' β' ok' w' id b := by
 cases b with
 | cells ls =>
   obtain ⟨c, e, h1, h2, h3⟩ := h
   refine ⟨c, e, by rw [hβ]; exact h1, by rw [hβ, hh _ (by rw [h1]; simp)]; exact h2, Bk.ext X h3⟩
 | arr e t xs v fz =>
   cases fz with
   | false =>
     obtain ⟨h1, h2⟩ := h
     refine ⟨by rw [hβ]; exact h1, ?_⟩
     rw [hβ]
     exact h2.later X.later λ b hb => hh b (by rw [h1, hb]; simp)
   | true => obtain ⟨h1, h2, h3⟩ := h; exact ⟨by rw [hβ]; exact h1, by rw [hβ]; exact Br.later X.later _ _ h2, by rw [hβ]; exact h3⟩
 | rows e e2 t xss v rv fz =>
   cases fz with
   | opn =>
     obtain ⟨h1, h2, h3⟩ := h
     simp only [C5, Ld]
     rw [hβ]
     refine ⟨Lj h1 λ b hb => hh b (by rw [h2, hb]; simp), h2, Bk.imp_mem' (λ xs v hv k => k.later X.later λ b hb => hh b (by rw [h2]; exact List.mem_append.2 (.inr (List.mem_flatMap.2 ⟨v, hv, by rw [hb]; simp⟩)))) h3⟩
   | shut => obtain ⟨h1, h2, h3⟩ := h; exact ⟨by rw [hβ]; exact h1, by rw [hβ]; exact Br.later X.later _ _ h2, by rw [hβ]; exact h3⟩
   | mix p q =>
     obtain ⟨k1, k2, k3, k4, rb, k5, h1, h2, h3⟩ := h
     simp only [C5, Acu]
     rw [hβ]
     refine ⟨k1, k2, k3, k4, rb, k5, Lj h1 λ b hb => hh b (by rw [h2, hb]; simp), h2, Bk.imp_mem' (λ xs v hv k => k.later X.later λ b hb => hh b (by rw [h2]; exact List.mem_append.2 (.inr (List.mem_flatMap.2 ⟨v, hv, by rw [hb]; simp⟩)))) h3⟩
 | map k t l =>
   obtain ⟨h1, h2⟩ := h
   exact ⟨by rw [hβ]; exact h1, by rw [hβ]; exact h2.later X.later (hh _ (by rw [h1]; simp))⟩
 | gone => trivial
end
theorem Jx {a b : Nat} (h : a ≠ b) : Nat.beq a b = false := by
 cases hb : Nat.beq a b with
 | false => rfl
 | true => exact absurd (Nat.eq_of_beq_eq_true hb) h
theorem Aq {a b : Nat} (h : Nat.beq a b = true) : a = b := Nat.eq_of_beq_eq_true h
theorem A2 {α : Type} (k : Nat) (x : α) : ∀ l : List (Nat × α), A6 k (put k x l) = some x
 | [] => by simp [put, A6]
 | (j, y) :: r => by
   unfold put
   split
   · simp [A6]
   · split
     · simp [A6]
     · rename_i h _
       have h' : Nat.beq j k = false := by cases hb : Nat.beq j k <;> simp_all
       unfold A6
       simp only [h']
       exact A2 k x r
theorem A4 {α : Type} {k i : Nat} (h : i ≠ k) (x : α) : ∀ l : List (Nat × α), A6 i (put k x l) = A6 i l
 | [] => by simp [put, A6, Jx (Ne.symm h)]
 | (j, y) :: r => by
   unfold put
   split
   · rename_i e
     have := Aq e; subst this
     simp [A6, Jx (Ne.symm h)]
   · split
     · simp only [A6, Jx (Ne.symm h)]; simp
     · unfold A6
       rw [A4 h x r]
theorem Tz {α : Type} {k : Nat} {x : α} : ∀ {l : List (Nat × α)}, A6 k l = some x -> (k, x) ∈ l
 | [], h => by simp [A6] at h
 | (j, y) :: r, h => by
   unfold A6 at h
   split at h
   · rename_i e
     cases h; have := Aq e; subst this; simp
   · exact List.mem_cons_of_mem _ (Tz h)
section
variable {T : Tab} {C : Ctx} {bx bx' : List (Nat × Box T.E)} {β β' : Nat -> BI} {w w' : World}
theorem Bq.step (M : Bq T C bx β w) (S : Nat -> Prop)
   (hos : w'.os = w.os) (htape : w'.tape = w.tape) (hout : w'.output = w.output) (hsize : w.heap.size <= w'.heap.size)
   (hβ : ∀ j, ¬ S j -> β' j = β j /\ A6 j bx' = A6 j bx)
   (hheap : ∀ x, x < w.heap.size -> (∀ j, S j -> x ∉ (β j).own) -> w'.heap[x]? = w.heap[x]?)
   (hown : ∀ j, S j -> ∀ x ∈ (β' j).own, (∃ j', S j' /\ x ∈ (β j').own) \/ (w.heap.size <= x /\ x < w'.heap.size))
   (hnodup : ∀ j, S j -> (β' j).own.Nodup)
   (hapart : ∀ j j' x, S j -> S j' -> x ∈ (β' j).own -> x ∈ (β' j').own -> j = j')
   (hnone : ∀ j, S j -> A6 j bx' = none -> (β' j).own = [])
   (hcompat : ∀ j b, S j -> A6 j bx = some b -> ∃ b', A6 j bx' = some b' /\ Fy T (β j) (β' j) b b')
   (hrep : Ext T bx β (Bc C β w) w bx' β' (Bc C β' w') w' -> ∀ j b, S j -> A6 j bx' = some b -> C5 T bx' β' (Bc C β' w') w' j b) :
   Bq T C bx' β' w' /\ Ext T bx β (Bc C β w) w bx' β' (Bc C β' w') w' := by
 have hX : Ext T bx β (Bc C β w) w bx' β' (Bc C β' w') w' := by
   refine ⟨⟨λ b hb => ⟨Nat.lt_of_lt_of_le hb.1 hsize, hb.2.1, λ id hid => ?_⟩, λ b hb => hheap b hb.1 λ j _ => hb.2.2 j⟩, λ id b hb => ?_⟩
   · by_cases hS : S id
     · rcases hown id hS b hid with ⟨j', _, hj⟩ | ⟨h1, _⟩
       · exact hb.2.2 j' hj
       · have := hb.1; omega
     · rw [(hβ id hS).1] at hid; exact hb.2.2 id hid
   · by_cases hS : S id
     · exact hcompat id b hS hb
     · refine ⟨b, by rw [(hβ id hS).2]; exact hb, ?_⟩
       rw [(hβ id hS).1]; exact Fy.refl T _ _
 refine ⟨⟨λ id b hb => ?_, λ id hid => ?_, λ id => ?_, λ id id' x hx hx' => ?_, λ id x hx => ?_, ?_⟩, hX⟩
 · by_cases hS : S id
   · exact hrep hX id b hS hb
   · have hb' : A6 id bx = some b := by rw [<- (hβ id hS).2]; exact hb
     exact (M.boxes id b hb').ext hX (hβ id hS).1 λ x hx => hheap x (M.mine id x hx).1 λ j hj hxj => by
       have := M.apart id j x hx hxj; subst this; exact hS hj
 · by_cases hS : S id
   · exact hnone id hS hid
   · rw [(hβ id hS).1]; exact M.nones id (by rw [<- (hβ id hS).2]; exact hid)
 · by_cases hS : S id
   · exact hnodup id hS
   · rw [(hβ id hS).1]; exact M.nodup id
 · have old : ∀ j k, S j -> ¬ S k -> x ∈ (β' j).own -> x ∈ (β k).own -> False := by
     intro j k hj hk h1 h2
     rcases hown j hj x h1 with ⟨j', hj', hx'⟩ | ⟨h3, _⟩
     · have := M.apart j' k x hx' h2; subst this; exact hk hj'
     · have := (M.mine k x h2).1; omega
   by_cases hS : S id <;> by_cases hS' : S id'
   · exact hapart id id' x hS hS' hx hx'
   · rw [(hβ id' hS').1] at hx'; exact (old id id' hS hS' hx hx').elim
   · rw [(hβ id hS).1] at hx; exact (old id' id hS' hS hx' hx).elim
   · rw [(hβ id hS).1] at hx; rw [(hβ id' hS').1] at hx'; exact M.apart id id' x hx hx'
 · by_cases hS : S id
   · rcases hown id hS x hx with ⟨j', _, hj⟩ | ⟨h1, h2⟩
     · exact ⟨Nat.lt_of_lt_of_le (M.mine j' x hj).1 hsize, (M.mine j' x hj).2⟩
     · exact ⟨h2, .inl (Nat.le_trans M.kept.size h1)⟩
   · rw [(hβ id hS).1] at hx; exact ⟨Nat.lt_of_lt_of_le (M.mine id x hx).1 hsize, (M.mine id x hx).2⟩
 · refine ⟨hos.trans M.kept.os, htape.trans M.kept.tape, hout.trans M.kept.output, Nat.le_trans M.kept.size hsize, λ b hb hc => ?_⟩
   rw [hheap b (Nat.lt_of_lt_of_le hb M.kept.size) λ j _ hj => ?_]
   · exact M.kept.heap b hb hc
   · rcases (M.mine j b hj).2 with h | h
     · omega
     · exact hc h
theorem Bq.grow (M : Bq T C bx β w) (G : Rr w w') : Bq T C bx β w' /\ Ext T bx β (Bc C β w) w bx β (Bc C β w') w' :=
 M.step (λ _ => False) G.os G.tape G.output G.size (λ _ _ => ⟨rfl, rfl⟩) (λ x hx _ => G.heap x hx) (λ _ h => h.elim) (λ _ h => h.elim)
   (λ _ _ _ h => h.elim) (λ _ h => h.elim) (λ _ _ h => h.elim) (λ _ _ _ h => h.elim)
def upd (β : Nat -> BI) (id : Nat) (i : BI) : Nat -> BI := λ j => if j = id then i else β j
@[simp] theorem Ba (β : Nat -> BI) (id : Nat) (i : BI) : upd β id i id = i := by simp [upd]
theorem Cl (β : Nat -> BI) {id j : Nat} (i : BI) (h : j ≠ id) : upd β id i j = β j := by simp [upd, h]
theorem Bq.set (M : Bq T C bx β w) (id : Nat) (b' : Box T.E) (i' : BI)
   (hos : w'.os = w.os) (htape : w'.tape = w.tape) (hout : w'.output = w.output) (hsize : w.heap.size <= w'.heap.size)
   (hheap : ∀ x, x < w.heap.size -> x ∉ (β id).own -> w'.heap[x]? = w.heap[x]?)
   (hown : ∀ x ∈ i'.own, x ∈ (β id).own \/ (w.heap.size <= x /\ x < w'.heap.size)) (hnodup : i'.own.Nodup)
   (hcompat : ∀ b, A6 id bx = some b -> Fy T (β id) i' b b')
   (hrep : Ext T bx β (Bc C β w) w (put id b' bx) (upd β id i') (Bc C (upd β id i') w') w' -> C5 T (put id b' bx) (upd β id i') (Bc C (upd β id i') w') w' id b') :
   Bq T C (put id b' bx) (upd β id i') w' /\ Ext T bx β (Bc C β w) w (put id b' bx) (upd β id i') (Bc C (upd β id i') w') w' := by
 refine M.step (λ j => j = id) hos htape hout hsize (λ j hj => ⟨Cl β i' hj, A4 hj _ _⟩) (λ x hx h => hheap x hx (h id rfl)) ?_ ?_ ?_ ?_ ?_ ?_
 · rintro j rfl x hx; rw [Ba] at hx
   rcases hown x hx with h | h
   · exact .inl ⟨_, rfl, h⟩
   · exact .inr h
 · rintro j rfl; rw [Ba]; exact hnodup
 · rintro j j' x rfl rfl _ _; rfl
 · rintro j rfl h; rw [A2] at h; cases h
 · rintro j b rfl h; exact ⟨b', A2 _ _ _, by rw [Ba]; exact hcompat b h⟩
 · rintro X j b rfl h; rw [A2] at h; cases h; exact hrep X
theorem Bq.frozen (M : Bq T C bx β w) (id : Nat) (b b' : Box T.E) (hb : A6 id bx = some b) (hc : Fy T (β id) { β id with own := [] } b b')
   (hrep : Ext T bx β (Bc C β w) w (put id b' bx) (upd β id { β id with own := [] }) (Bc C (upd β id { β id with own := [] }) w) w ->
     C5 T (put id b' bx) (upd β id { β id with own := [] }) (Bc C (upd β id { β id with own := [] }) w) w id b') :
   Bq T C (put id b' bx) (upd β id { β id with own := [] }) w /\
     Ext T bx β (Bc C β w) w (put id b' bx) (upd β id { β id with own := [] }) (Bc C (upd β id { β id with own := [] }) w) w :=
 M.set id b' _ rfl rfl rfl (Nat.le_refl _) (λ _ _ _ => rfl) (λ x hx => by simp at hx) (by simp) (λ b0 h0 => by rw [hb] at h0; cases h0; exact hc) hrep
end
def F5 : TK -> TypeDesc -> Bool
 | .int k, .int k' => decide (k = k')
 | .bool, .bool => true
 | .str, .string => true
 | .slice e, .slice e' => Nat.beq e e'
 | .struct fs, .struct fields => decide (fields.toList.map (λ f => (f.offset, f.type)) = fs)
 | .array n e, .array n' e' => Nat.beq n n' && Nat.beq e e'
 | .ptr e, .pointer e' => Nat.beq e e'
 | .map k e, .map k' e' => Nat.beq k k' && Nat.beq e e'
 | .func, .func .. => true
 | _, _ => false
def zl {E : Nat -> Type} : A7 E -> Value -> Bool
 | .int k n, .int k' m => decide (k = k') && decide (n = m)
 | .bool b, .bool b' => b == b'
 | .str s, .string s' => s.isEmpty && decide (s'.data.toList = [])
 | .sl _ true xs, .slice a l c => xs.isEmpty && a.isNone && Nat.beq l 0 && Nat.beq c 0
 | .nptr, .pointer a => a.isNone
 | .nfn, .nilFunc => true
 | .nmp, .map a => a.isNone
 | _, _ => false
def zls {E : Nat -> Type} : List (A7 E) -> List Value -> Bool
 | [], [] => true
 | l :: ls, v :: vs => zl l v && zls ls vs
 | _, _ => false
def Ac9 : Value -> Bool
 | .agg _ => true
 | _ => false
def Atd (V : Env) (P : Program) (t : TypeId) (i : TI V.E) : Bool :=
 match P.info? t, P.underlying t with
 | some info, some d =>
   F5 i.kind d && Nat.beq info.size i.size && Nat.beq info.bytes i.bytes && Nat.beq (i.ty.sz V.T) i.size && Nat.blt 0 i.size && Nat.blt 0 i.bytes &&
     (match info.zero with | some z => zls i.zero z.cells.toList && Nat.beq z.cells.size i.size && (Ac9 z == i.kind.agg) | none => false)
 | _, _ => false
structure C6 (V : Env) (P : Program) (t : TypeId) (i : TI V.E) (info : TypeInfo) (d : TypeDesc) (z : Value) : Prop where
 inf : P.info? t = some info
 under : P.underlying t = some d
 kind : F5 i.kind d = true
 size : info.size = i.size
 bytes : info.bytes = i.bytes
 ty : i.ty.sz V.T = i.size
 pos : 0 < i.size
 bpos : 0 < i.bytes
 zero : info.zero = some z
 zeros : zls i.zero z.cells.toList = true
 zcells : z.cells.size = i.size
 zagg : Ac9 z = i.kind.agg
theorem An8 {V : Env} {P : Program} {t : TypeId} {i : TI V.E} (h : Atd V P t i = true) : ∃ info d z, C6 V P t i info d z := by
 unfold Atd at h
 split at h
 · rename_i info d h1 h2
   simp only [Bool.and_eq_true] at h
   obtain ⟨⟨⟨⟨⟨⟨k1, k2⟩, k3⟩, k4⟩, k5⟩, k7⟩, k6⟩ := h
   split at k6
   · rename_i z hz
     simp only [Bool.and_eq_true] at k6
     exact ⟨info, d, z, ⟨h1, h2, k1, Aq k2, Aq k3, Aq k4, Nat.le_of_ble_eq_true k5, Nat.le_of_ble_eq_true k7, hz, k6.1.1, Aq k6.1.2, eq_of_beq k6.2⟩⟩
   · cases k6
 · cases h
def Tt (V : Env) (P : Program) : Prop := ∀ t i, V.ti t = some i -> ∃ info d z, C6 V P t i info d z
theorem Aey {V : Env} {P : Program} (tab : List (TypeId × TI V.E)) (hti : V.ti = λ t => A6 t tab) (h : (tab.all λ x => Atd V P x.1 x.2) = true) : Tt V P := by
 intro t i ht
 rw [hti] at ht
 have := List.all_eq_true.1 h _ (Tz ht)
 exact An8 this
theorem A7r {T : Tab} {bx : List (Nat × Box T.E)} {β : Nat -> BI} {ok : Nat -> Prop} {w : World} {l : A7 T.E} {v : Value} (h : zl l v = true) : Ak T bx β ok w l v := by
 unfold zl at h
 split at h
 · simp only [Bool.and_eq_true, decide_eq_true_eq] at h; rw [h.1, h.2]; simp only [Ak]
 · simp at h; rw [h]; simp only [Ak]
 · rename_i s s'
   simp only [Bool.and_eq_true, List.isEmpty_iff, decide_eq_true_eq] at h
   obtain ⟨rfl, h⟩ := h
   simp only [Ak]
   congr 1
   cases s' with
   | mk a => simp at h; subst h; rfl
 · rename_i t xs a l c
   simp only [Bool.and_eq_true, List.isEmpty_iff] at h
   obtain ⟨⟨⟨rfl, h1⟩, h2⟩, h3⟩ := h
   have h1 := Option.isNone_iff_eq_none.1 h1
   have h2 := Aq h2
   have h3 := Aq h3
   subst h1 h2 h3
   simp only [Ak]
   exact ⟨none, 0, by simp, by simp, λ _ => rfl, λ _ _ => rfl, λ ad h => by cases h⟩
 · have := Option.isNone_iff_eq_none.1 h; subst this; simp only [Ak]
 · simp only [Ak]
 · have := Option.isNone_iff_eq_none.1 h; subst this; simp only [Ak]
 · cases h
theorem Oz {T : Tab} {bx : List (Nat × Box T.E)} {β : Nat -> BI} {ok : Nat -> Prop} {w : World} : ∀ {ls : List (A7 T.E)} {vs : List Value}, zls ls vs = true -> Bk (Ak T bx β ok w) ls vs
 | [], [], _ => .nil
 | [], _ :: _, h => by simp [zls] at h
 | _ :: _, [], h => by simp [zls] at h
 | l :: ls, v :: vs, h => by
   simp only [zls, Bool.and_eq_true] at h
   exact .cons (A7r h.1) (Oz h.2)
theorem Ah2 {P : Program} {t : TypeId} {d : TypeDesc} {k : TK} (hu : P.underlying t = some d) (hk : F5 k d = true) (w : World) : (isAgg t).run P w = .ok k.agg w := by
 simp only [isAgg, Sem.run_bind, run_underlying hu, Result.andThen_ok]
 cases k <;> cases d <;> simp [F5] at hk <;> rfl
section
variable {V : Env} {P : Program} {t : TypeId} {i : TI V.E} {info : TypeInfo} {d : TypeDesc} {z : Value} (I : C6 V P t i info d z) (w : World)
include I
theorem C6.run_size : (sizeOf t).run P w = .ok i.size w := by simp [sizeOf, typeInfo, I.inf, I.size]
theorem C6.run_under : (underlying t).run P w = .ok d w := run_underlying I.under w
theorem C6.run_zero : (zeroValue t).run P w = .ok z w := by simp [zeroValue, typeInfo, I.inf, I.zero]
theorem C6.run_agg : (isAgg t).run P w = .ok i.kind.agg w := Ah2 I.under I.kind w
end
theorem Ju (b o n : Nat) : (⟨b, o, none⟩ : Addr).add n = ⟨b, o + n, none⟩ := by
 unfold Addr.add; split <;> simp_all
theorem Afs {ad : Addr} (h : ad.spot = none) (n : Nat) : ad.add n = ⟨ad.block, ad.off + n, none⟩ := by
 cases ad; simp at h; subst h; exact Ju _ _ _
def VOk (T : Tab) (C : Ctx) (bx : List (Nat × Box T.E)) (β : Nat -> BI) (w : World) (res : Option (SV T.E)) (bx' : List (Nat × Box T.E)) (r : Result Value) : Prop :=
 ∃ β' w' v x, res = some x /\ r = .ok v w' /\ Bb T bx' β' (Bc C β' w') w' x v /\ Bq T C bx' β' w' /\ Ext T bx β (Bc C β w) w bx' β' (Bc C β' w') w'
theorem Ext.refl (T : Tab) (bx : List (Nat × Box T.E)) (β : Nat -> BI) (ok : Nat -> Prop) (w : World) : Ext T bx β ok w bx β ok w :=
 ⟨Fb.refl _ _, λ _ b h => ⟨b, h, Fy.refl T _ _⟩⟩
theorem Ext.trans {T : Tab} {b1 b2 b3 : List (Nat × Box T.E)} {β1 β2 β3 : Nat -> BI} {o1 o2 o3 : Nat -> Prop} {w1 w2 w3 : World}
   (h : Ext T b1 β1 o1 w1 b2 β2 o2 w2) (k : Ext T b2 β2 o2 w2 b3 β3 o3 w3) : Ext T b1 β1 o1 w1 b3 β3 o3 w3 := by
 refine ⟨h.later.trans k.later, λ id b hb => ?_⟩
 obtain ⟨b', hb', c1⟩ := h.box id b hb
 obtain ⟨b'', hb'', c2⟩ := k.box id b' hb'
 refine ⟨b'', hb'', ?_⟩
 cases b <;> cases b' <;> simp only [Fy] at c1 <;> cases b'' <;> simp only [Fy] at c2 ⊢
 · rw [c2, c1]
 · obtain ⟨rfl, v1, c1⟩ := c1
   obtain ⟨rfl, v2, c2⟩ := c2
   refine ⟨rfl, Nat.le_trans v1 v2, λ e => ?_⟩
   have a1 := c1 (by omega)
   have a2 := c2 (by omega)
   exact ⟨a2.1.trans a1.1, a2.2.trans a1.2⟩
 · obtain ⟨rfl, v1, c1⟩ := c1
   obtain ⟨rfl, v2, c2⟩ := c2
   refine ⟨rfl, Nat.le_trans v1 v2, λ e => ?_⟩
   obtain ⟨a1, a2, a3, a4⟩ := c1 (by omega)
   obtain ⟨d1, d2, d3, d4⟩ := c2 (by omega)
   refine ⟨d1.trans a1, d2.trans a2, Nat.le_trans a3 d3, λ e2 => ?_⟩
   have x1 := a4 (by omega)
   have x2 := d4 (by omega)
   exact ⟨x2.1.trans x1.1, λ k => (x2.2 k).trans (x1.2 k)⟩
 · exact ⟨c2.1.trans c1.1, c2.2.1.trans c1.2.1, c2.2.2.trans c1.2.2⟩
section
variable {T : Tab} {C : Ctx} {bx : List (Nat × Box T.E)} {β : Nat -> BI} {w : World}
theorem VOk.pure (M : Bq T C bx β w) {x : SV T.E} {v : Value} (h : Bb T bx β (Bc C β w) w x v) : VOk T C bx β w (some x) bx (.ok v w) :=
 ⟨β, w, v, x, rfl, rfl, h, M, Ext.refl _ _ _ _ _⟩
theorem VOk.grown (M : Bq T C bx β w) {w' : World} (G : Rr w w') {x : SV T.E} {v : Value} (h : Bq T C bx β w' -> Bb T bx β (Bc C β w') w' x v) : VOk T C bx β w (some x) bx (.ok v w') :=
 ⟨β, w', v, x, rfl, rfl, h (M.grow G).1, (M.grow G).1, (M.grow G).2⟩
end
section
variable {V : Env} {P : Program} {C : Ctx} {bx : List (Nat × Box V.E)} {β : Nat -> BI} {w : World}
theorem Az {bs : List (Nat × Box V.E)} {v v' : Option (SV V.E)} {c c' : List Prop} {bs' : List (Nat × Box V.E)} {rs ws : List Nat} {a : Acc} (h : Aj V bs (.ret v c) rs ws = some (v', c', bs', a)) :
   v = v' /\ c = c' /\ bs = bs' := by
 simp only [Aj, Option.some.injEq, Prod.mk.injEq] at h
 exact ⟨h.1, h.2.1, h.2.2.1⟩
theorem P6 {t : TypeId} {i : TI V.E} {info : TypeInfo} {d : TypeDesc} {z : Value} (I : C6 V P t i info d z) (b o : Nat) (vs : List Value) (hl : vs.length = i.size)
   (hc : ∀ j v, vs[j]? = some v -> w.cell? ⟨b, o + j, none⟩ = some v) :
   (i.kind.agg = true -> (loadVar t ⟨b, o, none⟩).run P w = .ok (.agg vs.toArray) w) /\
   (i.kind.agg = false -> ∀ v, vs = [v] -> (loadVar t ⟨b, o, none⟩).run P w = .ok v w) := by
 constructor
 · intro ha
   have hr := run_loadCells_list (P := P) (w := w) ⟨b, o, none⟩ vs (λ j v h => by rw [Ju]; exact hc j v h)
   rw [hl] at hr
   simp only [loadVar, Sem.run_bind, I.run_agg, Result.andThen_ok, ha, if_true, I.run_size, hr, Sem.run_pure]
 · rintro ha v rfl
   have h0 := hc 0 v rfl
   rw [Nat.add_zero] at h0
   simp only [loadVar, Sem.run_bind, I.run_agg, Result.andThen_ok, ha, Bool.false_eq_true, if_false, run_load, h0]
theorem W4 {agg : Bool} {ls : List (A7 V.E)} {res : Option (SV V.E)} {cs : List Prop} {bx' : List (Nat × Box V.E)} {rs ws : List Nat} {a : Acc} (h : Aj V bx (tcv (B2 agg ls)) rs ws = some (res, cs, bx', a)) :
   ∃ c, B2 agg ls = some c /\ res = some (.cv c) /\ bx' = bx := by
 cases hc : B2 agg ls with
 | none => rw [hc] at h; simp [tcv, Aj] at h
 | some c =>
   rw [hc] at h
   simp only [tcv, Er.cv] at h
   obtain ⟨h1, _, h3⟩ := Az h
   exact ⟨c, rfl, h1.symm, h3.symm⟩
theorem O9 {t : TypeId} {i : TI V.E} {info : TypeInfo} {d : TypeDesc} {z : Value} (I : C6 V P t i info d z) (M : Bq V.T C bx β w) {b o : Nat} {ls : List (A7 V.E)} {vs : List Value}
   (hl : ls.length = i.size) (hr : Bk (Ak V.T bx β (Bc C β w) w) ls vs) (hc : ∀ j v, vs[j]? = some v -> w.cell? ⟨b, o + j, none⟩ = some v)
   {c : CV V.E} (h : B2 i.kind.agg ls = some c) : VOk V.T C bx β w (some (.cv c)) bx ((loadVar t ⟨b, o, none⟩).run P w) := by
 obtain ⟨h1, h2⟩ := P6 (w := w) I b o vs (by rw [<- hr.length, hl]) hc
 rcases Lh h hr with ⟨ha, rfl, k⟩ | ⟨ha, l, v, rfl, rfl, rfl, k⟩
 · rw [h1 ha]; exact .pure M k
 · rw [h2 ha v rfl]; exact .pure M k
theorem Tf {ok : Nat -> Prop} {e : TypeId} {t : Ty} {xs : List (t.den V.E)} {hdr : Value} (h : Hh V.T ok w e t xs hdr) {i : Nat} (hi : i < xs.length) :
   ∃ b cap cur cs, hdr = .slice (some ⟨b, 0, none⟩) xs.length cap /\ w.heap[b]? = some (.cells cur e (0, 0)) /\ Br ok w (t.av V.T (xs.getD i (t.df V.T))) cs /\ cs.length = t.sz V.T /\
     (i + 1) * t.sz V.T <= cur.size /\ ∀ j v, cs[j]? = some v -> cur[i * t.sz V.T + j]? = some v := by
 obtain ⟨css, ⟨h1, h2⟩, h3⟩ := h
 rcases h2 with ⟨rfl, h0⟩ | ⟨b, cap, cur, rfl, _, k2, k3, k4, k5, k6⟩
 · omega
 · obtain ⟨cs, hcs, h4, h5⟩ := h3.get i (xs.getD i (t.df V.T)) (by rw [List.getD_eq_getElem?_getD, List.getElem?_eq_getElem hi]; rfl)
   have hle : (i + 1) * t.sz V.T <= cur.size := by
     rw [k5]; exact Nat.mul_le_mul_right _ (by omega)
   refine ⟨b, cap, cur, cs, rfl, k2, h4, h5, hle, λ j v hv => ?_⟩
   have hj : j < t.sz V.T := by
     rw [<- h5]
     exact (List.getElem?_eq_some_iff.1 hv).1
   have flat : ∀ (css : List (List Value)) (i : Nat) (cs : List Value), (∀ c ∈ css, c.length = t.sz V.T) -> css[i]? = some cs -> ∀ j v, j < t.sz V.T -> cs[j]? = some v -> css.flatten[i * t.sz V.T + j]? = some v := by
     intro css
     induction css with
     | nil => intro i cs _ h; simp at h
     | cons c css ih =>
       intro i cs hall h j v hj hv
       have hc := hall c (by simp)
       cases i with
       | zero =>
         simp at h; subst h
         rw [List.flatten_cons, Nat.zero_mul, Nat.zero_add, List.getElem?_append_left (by omega)]; exact hv
       | succ i =>
         rw [List.flatten_cons, List.getElem?_append_right (by rw [hc, Nat.add_mul]; omega), hc]
         have : (i + 1) * t.sz V.T + j - t.sz V.T = i * t.sz V.T + j := by rw [Nat.add_mul]; omega
         rw [this]
         exact ih i cs (λ c hc => hall c (by simp [hc])) (by simpa using h) j v hj hv
   have hall : ∀ c ∈ css, c.length = t.sz V.T := by
     intro c hc
     obtain ⟨n, hn⟩ := List.getElem?_of_mem hc
     obtain ⟨_, _, hh⟩ := h3.get' n c hn
     exact hh.2
   have hf := flat css i cs hall hcs j v hj hv
   rw [<- k6] at hf
   rw [List.getElem?_take] at hf
   split at hf
   · rw [<- Array.getElem?_toList]; exact hf
   · cases hf
theorem Cm {b : Nat} {c : Array Value} {e : TypeId} {fr : Nat × Nat} (h : w.heap[b]? = some (.cells c e fr)) (j : Nat) : w.cell? ⟨b, j, none⟩ = c[j]? := by
 simp [World.cell?, h]
theorem A2x (HT : V.T.Ok) (M : Bq V.T C bx β w) {t : TypeId} {i : TI V.E} {info : TypeInfo} {d : TypeDesc} {z : Value} (I : C6 V P t i info d z)
   {a : SV V.E} {va : Value} (ha : Bb V.T bx β (Bc C β w) w a va) {res : Option (SV V.E)} {cs : List Prop} {bx' : List (Nat × Box V.E)} {rs ws : List Nat} {ac : Acc}
   (h : Aj V bx (Xq V i a) rs ws = some (res, cs, bx', ac)) : VOk V.T C bx β w res bx' ((Instr.loadAt t va).run P w) := by
 unfold Xq at h
 split at h
 · -- a box of cells
   rename_i id off
   simp only [Bb, A3, Ak] at ha
   simp only [Aj] at h
   split at h
   · rename_i ls hb
     rw [hb] at ha
     obtain ⟨_, rfl⟩ := ha
     obtain ⟨c, e, hown, hheap, hall⟩ := M.boxes id _ hb
     unfold part at h
     split at h
     · rename_i hle
       have hle := Nat.le_of_ble_eq_true hle
       obtain ⟨cv, h1, rfl, rfl⟩ := W4 h
       simp only [Instr.loadAt, Instr.sureAddr, Sem.run_bind, Sem.run_pure, Result.andThen_ok]
       refine O9 (vs := (c.toList.drop off).take i.size) I M (by simp; omega) ((hall.drop off).take i.size) (λ j v hv => ?_) h1
       rw [Cm hheap]
       rw [List.getElem?_take] at hv
       split at hv
       · rw [List.getElem?_drop] at hv; simpa using hv
       · cases hv
     · simp [Aj] at h
   · simp [Aj] at h
 · -- memory that nobody writes
   rename_i u x off
   simp only [Bb, A3, Ak] at ha
   obtain ⟨b, o, vs, rfl, h1, h2⟩ := ha
   split at h
   · rename_i hle
     have hle := Nat.le_of_ble_eq_true hle
     obtain ⟨cv, h3, rfl, rfl⟩ := W4 h
     have hall := (Ka HT (bx := bx') (β := β) (ok := Bc C β w) (w := w) u x vs).2 h1
     simp only [Instr.loadAt, Instr.sureAddr, Sem.run_bind, Sem.run_pure, Result.andThen_ok]
     refine O9 (vs := (vs.drop off).take i.size) I M (by have := Ou HT u x; simp; omega) ((hall.drop off).take i.size) (λ j v hv => ?_) h3
     rw [List.getElem?_take] at hv
     split at hv
     · rw [List.getElem?_drop] at hv
       have := h2.2 _ _ hv
       rw [<- Nat.add_assoc] at this; exact this
     · cases hv
   · simp [Aj] at h
 · -- an element of a box
   rename_i id ver j off
   simp only [Bb, A3, Ak] at ha
   simp only [Aj] at h
   split at h
   · rename_i e u xs v fz hb
     rw [hb] at ha
     obtain ⟨_, hle, ha⟩ := ha
     split at h
     · rename_i hc
       simp only [Bool.and_eq_true] at hc
       obtain ⟨hv, hs⟩ := hc
       have hs := Nat.le_of_ble_eq_true hs
       obtain ⟨h0, hlt, b, n, cap, hh, rfl⟩ := ha (Aq hv)
       obtain ⟨cv, h3, rfl, rfl⟩ := W4 h
       have hB := M.boxes id _ hb
       have hj : j.toNat < xs.length := by omega
       have key : ∃ vs : List Value, Br (Bc C β w) w (u.av V.T (xs.getD j.toNat (u.df V.T))) vs /\ ∀ k v, vs[k]? = some v -> w.cell? ⟨b, j.toNat * u.sz V.T + k, none⟩ = some v := by
         cases fz with
         | false =>
           obtain ⟨_, hA⟩ := hB
           obtain ⟨b', cap', cur, vs, e1, e2, e3, _, _, e6⟩ := Tf hA hj
           rw [hh] at e1; cases e1
           exact ⟨vs, e3, λ k v hv => by rw [Cm e2]; exact e6 k v hv⟩
         | true =>
           obtain ⟨_, ⟨a, cap', e1, _, _, _, e5⟩, _⟩ := hB
           rw [hh] at e1; simp only [List.cons.injEq, Value.slice.injEq, and_true] at e1
           obtain ⟨e1, _, _⟩ := e1
           obtain ⟨_, e6⟩ := e5 _ e1.symm
           obtain ⟨vs, k1, _, k3⟩ := Fr.get _ _ _ e6 j.toNat (u.av V.T (xs.getD j.toNat (u.df V.T))) (by rw [List.getElem?_map, List.getD_eq_getElem?_getD, List.getElem?_eq_getElem hj]; rfl)
           refine ⟨vs, k1, λ k v hv => ?_⟩
           have := k3.2 k v hv
           simpa using this
       obtain ⟨vs, k1, k2⟩ := key
       have hall := (Ka HT (bx := bx') (β := β) (ok := Bc C β w) (w := w) u _ vs).2 k1
       simp only [Instr.loadAt, Instr.sureAddr, Sem.run_bind, Sem.run_pure, Result.andThen_ok]
       refine O9 (vs := (vs.drop off).take i.size) I M (by have := Ou HT u (xs.getD j.toNat (u.df V.T)); simp only [List.length_take, List.length_drop]; omega) ((hall.drop off).take i.size) (λ k v hv => ?_) h3
       rw [List.getElem?_take] at hv
       split at hv
       · rw [List.getElem?_drop] at hv
         have := k2 _ _ hv
         rw [<- Nat.add_assoc] at this; exact this
       · cases hv
     · simp [Aj] at h
   · rename_i e e2 u xss v rv fz hb
     rw [hb] at ha
     obtain ⟨_, hle, ha⟩ := ha
     split at h
     · rename_i hc
       simp only [Bool.and_eq_true, Bool.not_eq_true'] at hc
       obtain ⟨⟨hv, h0⟩, hag⟩ := hc
       obtain ⟨hj0, hlt, b, n, cap, hh, rfl⟩ := ha (Aq hv)
       obtain rfl : off = 0 := (Aq h0)
       have hj : j.toNat < xss.length := by omega
       have hB := M.boxes id _ hb
       have hrun : ∀ x, w.cell? ⟨b, j.toNat, none⟩ = some x -> (Instr.loadAt t (.pointer (some ⟨b, j.toNat + 0, none⟩))).run P w = .ok x w := by
         intro x hx
         simp only [Instr.loadAt, Instr.sureAddr, loadVar, Sem.run_bind, Sem.run_pure, Result.andThen_ok, I.run_agg, hag, Bool.false_eq_true, if_false, run_load, Nat.add_zero, hx]
       cases fz with
       | mix p q => simp [Aj] at h
       | shut =>
         simp only at h
         obtain ⟨rfl, _, rfl⟩ := Az h
         obtain ⟨_, ⟨a, cap', e1, _, _, _, e5⟩, _⟩ := hB
         rw [hh] at e1; simp only [List.cons.injEq, Value.slice.injEq, and_true] at e1
         obtain ⟨e1, _, _⟩ := e1
         obtain ⟨_, e6⟩ := e5 _ e1.symm
         obtain ⟨vs, k1, k2, k3⟩ := Fr.get _ _ _ e6 j.toNat (.sl (u.sz V.T) false ((xss.getD j.toNat []).map (u.av V.T))) (by rw [List.getElem?_map, List.getD_eq_getElem?_getD, List.getElem?_eq_getElem hj]; rfl)
         simp only [Ty.sz] at k2 k3
         obtain ⟨x, rfl⟩ : ∃ x, vs = [x] := by
           match vs, k2 with
           | [x], _ => exact ⟨x, rfl⟩
         have hx := k3.2 0 x rfl
         simp only [Nat.mul_one, Nat.zero_add, Nat.add_zero] at hx
         rw [hrun x hx]
         exact .pure M k1
       | opn =>
         simp only at h
         obtain ⟨rfl, _, rfl⟩ := Az h
         obtain ⟨⟨e1, e2⟩, _, e4⟩ := hB
         rcases e2 with ⟨e2, _⟩ | ⟨g, cap', cur, e2, _, e5, _, _, _, e6⟩
         · rw [hh] at e2; cases e2
         · rw [hh] at e2; cases e2
           obtain ⟨x, hx, hA⟩ := e4.get j.toNat (xss.getD j.toNat []) (by rw [List.getD_eq_getElem?_getD, List.getElem?_eq_getElem hj]; rfl)
           have hx' : w.cell? ⟨b, j.toNat, none⟩ = some x := by
             rw [Cm e5, <- Array.getElem?_toList]
             rw [<- e6, List.getElem?_take] at hx
             split at hx
             · exact hx
             · cases hx
           rw [hrun x hx']
           have hone : x.oneCell' = true := by
             obtain ⟨css, ⟨_, q⟩, _⟩ := hA
             rcases q with ⟨q, _⟩ | ⟨_, _, _, q, _⟩ <;> rw [q] <;> rfl
           refine .pure M ⟨hone, ?_⟩
           rw [hb]
           have := Aq hv
           exact ⟨hle, λ _ => ⟨Nat.le_refl _, λ _ => ⟨hj0, hlt, hx⟩⟩⟩
     · simp [Aj] at h
   · simp [Aj] at h
 · -- an element of a row
   rename_i id ver rv j k off
   simp only [Bb, A3, Ak] at ha
   simp only [Aj] at h
   split at h
   · rename_i e e2 u xss v rv' hb
     rw [hb] at ha
     obtain ⟨_, _, ha⟩ := ha
     split at h
     · rename_i hc
       simp only [Bool.and_eq_true] at hc
       obtain ⟨⟨hv, hrv⟩, hs⟩ := hc
       have hs := Nat.le_of_ble_eq_true hs
       obtain ⟨hj0, hjl, hk0, hkl, b, n, cap, hr, rfl⟩ := (ha (Aq hv)).2 (Aq hrv)
       obtain ⟨cv, h3, rfl, rfl⟩ := W4 h
       obtain ⟨_, _, e4⟩ := M.boxes id _ hb
       have hj : j.toNat < xss.length := by omega
       obtain ⟨x, hx, hA⟩ := e4.get j.toNat (xss.getD j.toNat []) (by rw [List.getD_eq_getElem?_getD, List.getElem?_eq_getElem hj]; rfl)
       rw [hr] at hx; cases hx
       obtain ⟨b', cap', cur, vs, q1, q2, q3, _, _, q6⟩ := Tf hA (i := k.toNat) (by omega)
       cases q1
       have hall := (Ka HT (bx := bx') (β := β) (ok := Bc C β w) (w := w) u _ vs).2 q3
       simp only [Instr.loadAt, Instr.sureAddr, Sem.run_bind, Sem.run_pure, Result.andThen_ok]
       refine O9 (vs := (vs.drop off).take i.size) I M (by have := Ou HT u ((xss.getD j.toNat []).getD k.toNat (u.df V.T)); simp only [List.length_take, List.length_drop]; omega) ((hall.drop off).take i.size) (λ m v hv => ?_) h3
       rw [List.getElem?_take] at hv
       split at hv
       · rw [List.getElem?_drop] at hv
         have := q6 _ _ hv
         rw [Cm q2, Nat.add_assoc]; exact this
       · cases hv
     · simp [Aj] at h
   · simp [Aj] at h
 · simp [Aj] at h
end
def Gw : List Prop -> Prop
 | [] => True
 | p :: ps => p /\ Gw ps
theorem Gw.append : ∀ {l m : List Prop}, Gw (l ++ m) -> Gw l /\ Gw m
 | [], _, h => ⟨trivial, h⟩
 | _ :: _, _, h => ⟨⟨h.1, (Gw.append h.2).1⟩, (Gw.append h.2).2⟩
section
variable {V : Env} {P : Program} {C : Ctx} {bx : List (Nat × Box V.E)} {β : Nat -> BI} {w : World}
variable {res : Option (SV V.E)} {cs : List Prop} {bx' : List (Nat × Box V.E)} {rs ws : List Nat} {ac : Acc}
abbrev SR (V : Env) (C : Ctx) (bx : List (Nat × Box V.E)) (β : Nat -> BI) (w : World) : SV V.E -> Value -> Prop := Bb V.T bx β (Bc C β w) w
theorem J9 {s t : TypeId} {d : TypeDesc} {fs : List (Nat × TypeId)} {f off : Nat} {j : TI V.E} (hu : P.underlying s = some d) (hk : F5 (.struct fs) d = true)
   {info : TypeInfo} {d' : TypeDesc} {z : Value} (J : C6 V P t j info d' z) (hf : fs[f]? = some (off, t)) (b o : Nat) :
   (Instr.fieldAt s (.pointer (some ⟨b, o, none⟩)) f).run P w = .ok (.pointer (some ⟨b, o + off, none⟩)) w := by
 cases d <;> simp [F5] at hk
 rename_i fields
 subst hk
 rw [List.getElem?_map] at hf
 cases hfl : fields.toList[f]? with
 | none => rw [hfl] at hf; simp at hf
 | some fl =>
   rw [hfl] at hf; simp at hf
   obtain ⟨rfl, rfl⟩ := hf
   have hfa : fields[f]? = some fl := by rw [<- hfl, Array.getElem?_toList]
   have hs : j.size ≠ 0 := by have := J.pos; omega
   simp [Instr.fieldAt, run_underlying hu, hfa, Instr.sureAddr, Go.fieldPlace, J.run_size, hs, Ju]
theorem Ac0 (M : Bq V.T C bx β w) {s t : TypeId} {d : TypeDesc} {fs : List (Nat × TypeId)} {f off : Nat} {j : TI V.E} (hu : P.underlying s = some d) (hk : F5 (.struct fs) d = true)
   {info : TypeInfo} {d' : TypeDesc} {z : Value} (J : C6 V P t j info d' z) (hf : fs[f]? = some (off, t)) {a : SV V.E} {va : Value} (ha : SR V C bx β w a va)
   (h : Aj V bx (Nr V off a) rs ws = some (res, cs, bx', ac)) : VOk V.T C bx β w res bx' ((Instr.fieldAt s va f).run P w) := by
 unfold Nr at h
 split at h
 · rename_i id o
   simp only [Aj] at h
   split at h
   · rename_i ls hb
     obtain ⟨rfl, _, rfl⟩ := Az h
     simp only [SR, Bb, A3, Ak, hb] at ha
     obtain ⟨_, rfl⟩ := ha
     rw [J9 hu hk J hf]
     refine .pure M ?_
     simp only [Bb, A3, Ak, hb]
     exact ⟨rfl, trivial⟩
   · simp [Aj] at h
 · obtain ⟨rfl, _, rfl⟩ := Az h
   simp only [SR, Bb, A3, Ak] at ha
   obtain ⟨b, o, vs, rfl, h1, h2⟩ := ha
   rw [J9 hu hk J hf]
   refine .pure M ?_
   simp only [Bb, A3, Ak]
   exact ⟨b, o, vs, by rw [Nat.add_assoc], h1, h2⟩
 · rename_i id ver i o
   simp only [Aj] at h
   split at h
   · rename_i e u xs v fz hb
     split at h
     · rename_i hv
       obtain ⟨rfl, _, rfl⟩ := Az h
       simp only [SR, Bb, A3, Ak, hb] at ha
       obtain ⟨_, hle, ha⟩ := ha
       obtain ⟨h0, hlt, b, n, cap, hh, rfl⟩ := ha (Aq hv)
       rw [J9 hu hk J hf]
       refine .pure M ?_
       simp only [Bb, A3, Ak, hb]
       exact ⟨rfl, hle, λ _ => ⟨h0, hlt, b, n, cap, hh, by rw [Nat.add_assoc]⟩⟩
     · simp [Aj] at h
   · simp [Aj] at h
 · rename_i id ver rv i k o
   simp only [Aj] at h
   split at h
   · rename_i e e2 u xss v rv' fz hb
     split at h
     · rename_i hv
       simp only [Bool.and_eq_true] at hv
       obtain ⟨rfl, _, rfl⟩ := Az h
       simp only [SR, Bb, A3, Ak, hb] at ha
       obtain ⟨_, hle, ha⟩ := ha
       obtain ⟨hle2, ha⟩ := ha (Aq hv.1)
       obtain ⟨h0, hlt, k0, klt, b, n, cap, hh, rfl⟩ := ha (Aq hv.2)
       rw [J9 hu hk J hf]
       refine .pure M ?_
       simp only [Bb, A3, Ak, hb]
       exact ⟨rfl, hle, λ _ => ⟨hle2, λ _ => ⟨h0, hlt, k0, klt, b, n, cap, hh, by rw [Nat.add_assoc]⟩⟩⟩
     · simp [Aj] at h
   · simp [Aj] at h
 · simp [Aj] at h
theorem Ic {t e : TypeId} {j : TI V.E} (hu : P.underlying t = some (.slice e)) {info : TypeInfo} {d' : TypeDesc} {z : Value} (J : C6 V P e j info d' z)
   (b o len cap : Nat) (k : IntKind) (i : Int) (hi : 0 <= i /\ i < len) :
   (Instr.indexAt t (.slice (some ⟨b, o, none⟩) len cap) (.int k i)).run P w = .ok (.pointer (some ⟨b, o + i.toNat * j.size, none⟩)) w := by
 simp [Instr.indexAt, asIntOf, run_underlying hu, hi, J.run_size, Ju]
theorem Ade (M : Bq V.T C bx β w) {t e : TypeId} {j : TI V.E} (hu : P.underlying t = some (.slice e)) {info : TypeInfo} {d' : TypeDesc} {z : Value} (J : C6 V P e j info d' z)
   {a ix : SV V.E} {va vi : Value} (ha : SR V C bx β w a va) (hi : SR V C bx β w ix vi)
   (h : Aj V bx (No V j.ty a ix) rs ws = some (res, cs, bx', ac)) (hc : Gw cs) : VOk V.T C bx β w res bx' ((Instr.indexAt t va vi).run P w) := by
 unfold No at h
 split at h
 · rename_i u st xs k i
   split at h
   · rename_i hu'
     obtain ⟨rfl, rfl, rfl⟩ := Az h
     have hc := hc.1
     simp only [SR, Bb, A3, Ak] at ha hi
     subst hi
     obtain ⟨ao, cap, hv, hcap, hn, _, hm⟩ := ha
     simp only [List.cons.injEq, and_true, List.length_map] at hv hcap
     subst hv
     obtain ⟨h0, hlt⟩ := hc
     have hlt' : i.toNat < xs.length := by omega
     cases ao with
     | none => have := hn rfl; omega
     | some ad =>
       obtain ⟨hs, hm2⟩ := hm ad rfl
       have hs := hs (by intro h; have := congrArg List.length h; simp only [List.length_map, List.length_nil] at this; omega)
       obtain ⟨b, o, sp⟩ := ad
       simp only at hs hm2; subst hs
       obtain ⟨vs, k1, k2, k3⟩ := Fr.get _ _ _ hm2 i.toNat (u.av V.T (xs.getD i.toNat (u.df V.T))) (by rw [List.getElem?_map, List.getD_eq_getElem?_getD, List.getElem?_eq_getElem hlt']; rfl)
       rw [Ic hu J _ _ _ _ _ _ ⟨h0, hlt⟩]
       refine .pure M ?_
       simp only [Bb, A3, Ak]
       have hsz : u.sz V.T = j.size := by rw [hu']; exact J.ty
       exact ⟨b, _, vs, by rw [Nat.add_zero, <- hsz], k1, k3⟩
   · simp [Aj] at h
 · rename_i id ver k i
   simp only [SR, Bb, A3, Ak] at ha hi
   subst hi
   simp only [Aj] at h
   split at h
   · rename_i e' u xs v fz hb
     split at h
     · rename_i hv
       simp only [Bool.and_eq_true, decide_eq_true_eq] at hv
       obtain ⟨hv, rfl⟩ := hv
       obtain ⟨rfl, rfl, rfl⟩ := Az h
       have hc := hc.1
       rw [hb] at ha
       obtain ⟨_, hle, ha⟩ := ha
       have ha := ha (Aq hv)
       obtain ⟨h0, hlt⟩ := hc
       have hB := M.boxes id _ hb
       have key : ∃ b cap, (β id).hdr = .slice (some ⟨b, 0, none⟩) xs.length cap := by
         cases fz with
         | false =>
           obtain ⟨_, hA⟩ := hB
           obtain ⟨b', cap', _, _, e1, _⟩ := Tf hA (i := i.toNat) (by omega)
           exact ⟨b', cap', e1⟩
         | true => exact hB.2.2 (by rintro rfl; simp at hlt; omega)
       obtain ⟨b, cap, hh⟩ := key
       rw [ha, hh, Ic hu J _ _ _ _ _ _ ⟨h0, hlt⟩]
       refine .pure M ?_
       simp only [Bb, A3, Ak, hb]
       exact ⟨rfl, hle, λ _ => ⟨h0, hlt, b, _, cap, hh, by rw [Nat.zero_add, Nat.add_zero, J.ty]⟩⟩
     · simp [Aj] at h
   · rename_i e' e2 u xss v rv fz hb
     split at h
     · rename_i hv
       simp only [Bool.and_eq_true] at hv
       obtain ⟨hv, hs1⟩ := hv
       obtain ⟨rfl, rfl, rfl⟩ := Az h
       have hc := hc.1
       rw [hb] at ha
       obtain ⟨_, hle, ha⟩ := ha
       have ha := ha (Aq hv)
       obtain ⟨h0, hlt⟩ := hc
       have hB := M.boxes id _ hb
       have key : ∃ b cap, (β id).hdr = .slice (some ⟨b, 0, none⟩) xss.length cap := by
         cases fz with
         | opn =>
           obtain ⟨⟨_, e2⟩, _, _⟩ := hB
           rcases e2 with ⟨_, e2⟩ | ⟨g, cap', cur, e2, _⟩
           · omega
           · exact ⟨g, cap', e2⟩
         | shut => exact hB.2.2 (by rintro rfl; simp at hlt; omega)
         | mix p q =>
           obtain ⟨_, _, _, _, _, _, ⟨_, e2⟩, _, _⟩ := hB
           rcases e2 with ⟨_, e2⟩ | ⟨g, cap', cur, e2, _⟩
           · omega
           · exact ⟨g, cap', e2⟩
       obtain ⟨b, cap, hh⟩ := key
       have hs1 : j.size = 1 := J.ty ▸ Aq hs1
       rw [ha, hh, Ic hu J _ _ _ _ _ _ ⟨h0, hlt⟩]
       refine .pure M ?_
       simp only [Bb, A3, Ak, hb]
       exact ⟨rfl, hle, λ _ => ⟨h0, hlt, b, _, cap, hh, by rw [hs1]; simp⟩⟩
     · simp [Aj] at h
   · simp [Aj] at h
 · rename_i id ver o n k i
   simp only [SR, Bb, A3, Ak] at ha hi
   subst hi
   simp only [Aj] at h
   split at h
   · rename_i e' u xs v fz hb
     split at h
     · rename_i hv
       simp only [Bool.and_eq_true, decide_eq_true_eq] at hv
       obtain ⟨hv, rfl⟩ := hv
       obtain ⟨rfl, rfl, rfl⟩ := Az h
       obtain ⟨c1, c2, _⟩ := hc
       rw [hb] at ha
       obtain ⟨_, hle, ha⟩ := ha
       obtain ⟨i0, n0, hin, b, cap, hh, hic, rfl⟩ := ha (Aq hv)
       rw [Ic hu J _ _ _ _ _ _ ⟨c1, by omega⟩]
       refine .pure M ?_
       simp only [Bb, A3, Ak, hb]
       exact ⟨rfl, hle, λ _ => ⟨by omega, by omega, b, _, cap, hh, by rw [Nat.add_zero, J.ty, Int.toNat_add i0 c1, Nat.add_mul]⟩⟩
     · simp [Aj] at h
   · simp [Aj] at h
 · rename_i id ver rv jj k i
   simp only [SR, Bb, A3, Ak] at ha hi
   subst hi
   simp only [Aj] at h
   split at h
   · rename_i e' e2 u xss v rv' hb
     split at h
     · rename_i hv
       simp only [Bool.and_eq_true, decide_eq_true_eq] at hv
       obtain ⟨⟨hv, hrv⟩, rfl⟩ := hv
       obtain ⟨rfl, rfl, rfl⟩ := Az h
       have hc := hc.1
       rw [hb] at ha
       obtain ⟨_, hle, ha⟩ := ha
       obtain ⟨hle2, ha⟩ := ha (Aq hv)
       obtain ⟨j0, jl, hr⟩ := ha (Aq hrv)
       obtain ⟨h0, hlt⟩ := hc
       obtain ⟨_, _, e4⟩ := M.boxes id _ hb
       have hj : jj.toNat < xss.length := by omega
       obtain ⟨x, hx, hA⟩ := e4.get jj.toNat (xss.getD jj.toNat []) (by rw [List.getD_eq_getElem?_getD, List.getElem?_eq_getElem hj]; rfl)
       rw [hr] at hx; cases hx
       obtain ⟨b', cap', cur, vs, q1, _⟩ := Tf hA (i := i.toNat) (by omega)
       subst q1
       rw [Ic hu J _ _ _ _ _ _ ⟨h0, hlt⟩]
       refine .pure M ?_
       simp only [Bb, A3, Ak, hb]
       exact ⟨rfl, hle, λ _ => ⟨hle2, λ _ => ⟨j0, jl, h0, hlt, b', _, cap', hr, by rw [Nat.zero_add, Nat.add_zero, J.ty]⟩⟩⟩
     · simp [Aj] at h
   · simp [Aj] at h
 · simp [Aj] at h
end
end Go.Ab
