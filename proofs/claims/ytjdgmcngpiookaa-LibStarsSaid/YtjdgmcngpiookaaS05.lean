/- The results of a call, some of which become boxes of the caller's. A call of a function that writes into a piece of an array. A call does what the abstract one tells. Conditions: none beyond those that each theorem names. -/
import Derived.Test.YtjdgmcngpiookaaS04
namespace Go.Ab
open Go
structure NB (E : Nat -> Type) where
 id : Nat
 b : Box E
 bi : BI
def Ru {E : Nat -> Type} : List (NB E) -> List (Nat × Box E) -> List (Nat × Box E)
 | [], bx => bx
 | n :: N, bx => Ru N (put n.id n.b bx)
def Ou {E : Nat -> Type} (N : List (NB E)) (j : Nat) : Option (NB E) := N.find? λ n => n.id == j
theorem Vo {E : Nat -> Type} {N : List (NB E)} {j : Nat} {n : NB E} (h : Ou N j = some n) : n ∈ N /\ n.id = j := by
 unfold Ou at h
 exact ⟨List.mem_of_find?_eq_some h, by simpa using List.find?_some h⟩
theorem Um {E : Nat -> Type} : ∀ {N : List (NB E)} {n : NB E}, (N.map (·.id)).Nodup -> n ∈ N -> Ou N n.id = some n
 | [], _, _, h => by simp at h
 | m :: N, n, hd, h => by
   simp only [List.map_cons, List.nodup_cons] at hd
   rcases List.mem_cons.1 h with rfl | h
   · simp [Ou]
   · have hne : m.id ≠ n.id := λ e => hd.1 (e ▸ List.mem_map.2 ⟨n, h, rfl⟩)
     have := Um hd.2 h
     unfold Ou at this ⊢
     rw [List.find?_cons]
     have : (m.id == n.id) = false := by simpa using hne
     rw [this]
     assumption
theorem Mo {E : Nat -> Type} : ∀ (N : List (NB E)) (bx : List (Nat × Box E)) (j : Nat), (N.map (·.id)).Nodup -> A3 j (Ru N bx) = match Ou N j with | some n => some n.b | none => A3 j bx
 | [], bx, j, _ => rfl
 | m :: N, bx, j, hd => by
   simp only [List.map_cons, List.nodup_cons] at hd
   rw [Ru, Mo N _ j hd.2]
   by_cases hj : m.id = j
   · subst hj
     have h1 : Ou N m.id = none := by
       unfold Ou
       rw [List.find?_eq_none]
       intro n hn
       simp only [beq_iff_eq]
       exact λ e => hd.1 (e ▸ List.mem_map.2 ⟨n, hn, rfl⟩)
     have h2 : Ou (m :: N) m.id = some m := by simp [Ou]
     rw [h1, h2, A1]
   · have h2 : Ou (m :: N) j = Ou N j := by
       unfold Ou
       rw [List.find?_cons]
       have : (m.id == j) = false := by simpa using hj
       rw [this]
     rw [h2, A4 (Ne.symm hj)]
section
variable {V : Env} {P : Program} {C : Ctx} {w : World}
variable {res : Option (SV V.E)} {cs : List Prop} {bx' : List (Nat × Box V.E)} {ac : Acc}
def X3 (V : Env) (ok : Nat -> Prop) (w : World) (n : NB V.E) : Prop :=
 match n.b with
 | .arr e t xs 0 false => n.bi.own = n.bi.hdr.ownBlock.toList /\ Fy V.T ok w e t xs n.bi.hdr
 | .rows e e2 t xss 0 0 .opn => Ju V.T ok w e e2 t xss n.bi
 | _ => False
def Q0 (V : Env) (ok : Nat -> Prop) (w : World) (N : List (NB V.E)) (l : A5 V.E) (v : Value) : Prop :=
 (∀ bx β, Ak V.T bx β ok w l v) \/ ∃ n ∈ N, l = .ar n.id 0 /\ v = n.bi.hdr /\ v.oneCell' = true
theorem Q0.mono {ok : Nat -> Prop} {N M : List (NB V.E)} (h : ∀ n ∈ N, n ∈ M) {l : A5 V.E} {v : Value} (k : Q0 V ok w N l v) : Q0 V ok w M l v := by
 rcases k with k | ⟨n, hn, k⟩
 · exact .inl k
 · exact .inr ⟨n, h n hn, k⟩
theorem Ata {ok : Nat -> Prop} {e : TypeId} {t : Ty} {xs : List (t.den V.E)} {v : Value} (h : Fy V.T ok w e t xs v) : v.oneCell' = true := by
 obtain ⟨_, ⟨_, q⟩, _⟩ := h
 rcases q with ⟨q, _⟩ | ⟨_, _, _, q, _⟩ <;> rw [q] <;> rfl
theorem Wn {ok : Nat -> Prop} : ∀ {os : List (TypeId × TypeId)} {ls : List (A5 V.E)} {vs : List Value} {ow : List Nat}, Cy V.T ok w os ls vs ow ->
   ∀ (id : Nat) (bx : List (Nat × Box V.E)) (k : List (A5 V.E) -> D0 V.E) (rs ws : List Nat), Al V bx (Dz V id os ls k) rs ws = some (res, cs, bx', ac) ->
   ∃ (N : List (NB V.E)) (ls' : List (A5 V.E)) (rs' ws' : List Nat), Al V (Ru N bx) (k ls') rs' ws' = some (res, cs, bx', ac) /\ (N.map (·.id)).Nodup /\ (∀ n ∈ N, A3 n.id bx = none) /\ (∀ n ∈ N, X3 V ok w n) /\
     ow = N.flatMap (·.bi.own) /\ Bj (Q0 V ok w N) ls' vs
 | os, _, _, _, .nil, id, bx, k, rs, ws, h => by
   have h : Al V bx (k []) rs ws = some (res, cs, bx', ac) := by
     cases os with
     | nil => exact h
     | cons o os => obtain ⟨e, e2⟩ := o; exact h
   exact ⟨[], [], rs, ws, h, by simp, by simp, by simp, rfl, .nil⟩
 | _, _, _, _, .more h1 h2, id, bx, k, rs, ws, h => by
   have h : Al V bx (Dz V (id + 1000) [] _ λ ls => k (_ :: ls)) rs ws = some (res, cs, bx', ac) := h
   obtain ⟨N, ls', rs', ws', a1, a2, a3, a4, a5, a6⟩ := Wn h2 _ _ _ _ _ h
   exact ⟨N, _, rs', ws', a1, a2, a3, a4, a5, .cons (.inl h1) a6⟩
 | _, _, _, _, .data h1 h2, id, bx, k, rs, ws, h => by
   have h : Al V bx (Dz V (id + 1000) _ _ λ ls => k (_ :: ls)) rs ws = some (res, cs, bx', ac) := h
   obtain ⟨N, ls', rs', ws', a1, a2, a3, a4, a5, a6⟩ := Wn h2 _ _ _ _ _ h
   exact ⟨N, _, rs', ws', a1, a2, a3, a4, a5, .cons (.inl h1) a6⟩
 | _, _, _, _, @Cy.arr _ _ _ e os t st xs ls v vs ow he hA h2, id, bx, k, rs, ws, h => by
   obtain ⟨e, rfl⟩ := Nat.exists_eq_add_one_of_ne_zero he
   have h : Al V bx (Ik V id (.arr (e + 1) t xs 0 false) (Dz V (id + 1000) os ls λ ls => k (.ar id 0 :: ls))) rs ws = some (res, cs, bx', ac) := by
     cases t <;> exact h
   obtain ⟨hid, rs1, ws1, h⟩ := Gy h
   obtain ⟨N, ls', rs', ws', a1, a2, a3, a4, a5, a6⟩ := Wn h2 _ _ _ _ _ h
   have hne : ∀ n ∈ N, n.id ≠ id := by
     intro n hn e
     have := a3 n hn
     rw [e, A1] at this; cases this
   refine ⟨⟨id, .arr (e + 1) t xs 0 false, ⟨0, v, v.ownBlock.toList, []⟩⟩ :: N, .ar id 0 :: ls', rs', ws', a1, ?_, ?_, ?_, by rw [a5]; simp, .cons (.inr ⟨_, List.mem_cons_self, rfl, rfl, Ata hA⟩) (a6.imp λ _ _ k => k.mono λ n hn => List.mem_cons_of_mem _ hn)⟩
   · simp only [List.map_cons, List.nodup_cons]
     exact ⟨λ hm => by obtain ⟨n, hn, e⟩ := List.mem_map.1 hm; exact hne n hn e, a2⟩
   · intro n hn
     rcases List.mem_cons.1 hn with rfl | hn
     · exact hid
     · have := a3 n hn
       rw [A4 (hne n hn)] at this; exact this
   · intro n hn
     rcases List.mem_cons.1 hn with rfl | hn
     · exact ⟨rfl, hA⟩
     · exact a4 n hn
 | _, _, _, _, @Cy.rows _ _ _ e e2 os t st xss ls v vs ow rows own he he2 hA h2, id, bx, k, rs, ws, h => by
   obtain ⟨e, rfl⟩ := Nat.exists_eq_add_one_of_ne_zero he
   obtain ⟨e2, rfl⟩ := Nat.exists_eq_add_one_of_ne_zero he2
   have h : Al V bx (Ik V id (.rows (e + 1) (e2 + 1) t xss 0 0 .opn) (Dz V (id + 1000) os ls λ ls => k (.ar id 0 :: ls))) rs ws = some (res, cs, bx', ac) := h
   obtain ⟨hid, rs1, ws1, h⟩ := Gy h
   obtain ⟨N, ls', rs', ws', a1, a2, a3, a4, a5, a6⟩ := Wn h2 _ _ _ _ _ h
   have hne : ∀ n ∈ N, n.id ≠ id := by
     intro n hn e
     have := a3 n hn
     rw [e, A1] at this; cases this
   have hone : v.oneCell' = true := by
     obtain ⟨⟨_, q⟩, _⟩ := hA
     rcases q with ⟨q, _⟩ | ⟨_, _, _, q, _⟩ <;> (simp only at q; rw [q]; rfl)
   refine ⟨⟨id, .rows (e + 1) (e2 + 1) t xss 0 0 .opn, ⟨0, v, own, rows⟩⟩ :: N, .ar id 0 :: ls', rs', ws', a1, ?_, ?_, ?_, by rw [a5]; simp, .cons (.inr ⟨_, List.mem_cons_self, rfl, rfl, hone⟩) (a6.imp λ _ _ k => k.mono λ n hn => List.mem_cons_of_mem _ hn)⟩
   · simp only [List.map_cons, List.nodup_cons]
     exact ⟨λ hm => by obtain ⟨n, hn, e⟩ := List.mem_map.1 hm; exact hne n hn e, a2⟩
   · intro n hn
     rcases List.mem_cons.1 hn with rfl | hn
     · exact hid
     · have := a3 n hn
       rw [A4 (hne n hn)] at this; exact this
   · intro n hn
     rcases List.mem_cons.1 hn with rfl | hn
     · exact hA
     · exact a4 n hn
def Am3 (V : Env) (ok : Nat -> Prop) (w : World) (N : List (NB V.E)) : CV V.E -> Value -> Prop
 | .one l, v => Q0 V ok w N l v
 | .ag ls, v => ∃ cs, v = .agg cs /\ Bj (Q0 V ok w N) ls cs.toList
theorem Am3.mono {ok : Nat -> Prop} {N M : List (NB V.E)} (h : ∀ n ∈ N, n ∈ M) {c : CV V.E} {v : Value} (k : Am3 V ok w N c v) : Am3 V ok w M c v := by
 cases c with
 | one l => exact Q0.mono h k
 | ag ls => obtain ⟨cs, rfl, k⟩ := k; exact ⟨cs, rfl, k.imp λ _ _ k => Q0.mono h k⟩
theorem Tv {E : Nat -> Type} : ∀ (N M : List (NB E)) (bx : List (Nat × Box E)), Ru (N ++ M) bx = Ru M (Ru N bx)
 | [], _, _ => rfl
 | _ :: N, M, _ => Tv N M _
theorem Ar7 {ok : Nat -> Prop} : ∀ (os : List (List (TypeId × TypeId))) (ts : List Ty) (y : HL V.E ts) (vs : List Value) (ow : List Nat), Lz V.T ok w os ts y vs ow ->
   ∀ (id : Nat) (bx : List (Nat × Box V.E)) (k : List (CV V.E) -> D0 V.E) (rs ws : List Nat), Al V bx (Nw V id os ts y k) rs ws = some (res, cs, bx', ac) ->
   ∃ (N : List (NB V.E)) (cvs : List (CV V.E)) (rs' ws' : List Nat), Al V (Ru N bx) (k cvs) rs' ws' = some (res, cs, bx', ac) /\ (N.map (·.id)).Nodup /\ (∀ n ∈ N, A3 n.id bx = none) /\ (∀ n ∈ N, X3 V ok w n) /\
     ow = N.flatMap (·.bi.own) /\ Bj (Am3 V ok w N) cvs vs
 | os, [], y, vs, ow, ⟨h1, h2⟩, id, bx, k, rs, ws, h => by
   subst h1 h2
   exact ⟨[], [], rs, ws, h, by simp, by simp, by simp, rfl, .nil⟩
 | os, t :: ts, (y, r), _, _, ⟨v, vr, o1, o2, rfl, rfl, h1, h2⟩, id, bx, k, rs, ws, h => by
   simp only [Nw] at h
   obtain ⟨ls, hl, hv⟩ := h1
   obtain ⟨N, ls', rs1, ws1, a1, a2, a3, a4, a5, a6⟩ := Wn hl _ _ _ _ _ h
   cases hc : B5 (Mh t) ls' with
   | none => rw [hc] at a1; simp [Al] at a1
   | some c =>
     rw [hc] at a1
     simp only at a1
     have hos : os.drop 1 = os.tail := by cases os <;> rfl
     rw [hos] at a1
     obtain ⟨M, cvs, rs2, ws2, b1, b2, b3, b4, b5, b6⟩ := Ar7 _ _ _ _ _ h2 _ _ _ _ _ a1
     have hval : Am3 V ok w N c v := by
       cases hn : Mh t with
       | true =>
         rw [hn] at hc hv
         simp [B5] at hc
         subst hc
         simp at hv
         exact ⟨ls.toArray, hv, by simpa using a6⟩
       | false =>
         rw [hn] at hc hv
         simp at hv
         subst hv
         cases a6 with
         | cons q1 q2 =>
           cases q2
           simp [B5] at hc
           subst hc
           exact q1
     refine ⟨N ++ M, c :: cvs, rs2, ws2, by rw [Tv]; exact b1, ?_, ?_, ?_, by rw [a5, b5, List.flatMap_append], .cons (hval.mono λ n hn => List.mem_append.2 (.inl hn)) (b6.imp λ _ _ k => k.mono λ n hn => List.mem_append.2 (.inr hn))⟩
     · rw [List.map_append]
       refine List.nodup_append.2 ⟨a2, b2, λ x hx y hy e => ?_⟩
       subst e
       obtain ⟨n, hn, rfl⟩ := List.mem_map.1 hx
       obtain ⟨m, hm, e⟩ := List.mem_map.1 hy
       have := b3 m hm
       rw [e, Mo _ _ _ a2, Um a2 hn] at this
       cases this
     · intro n hn
       rcases List.mem_append.1 hn with hn | hn
       · exact a3 n hn
       · have := b3 n hn
         rw [Mo _ _ _ a2] at this
         split at this
         · cases this
         · exact this
     · intro n hn
       rcases List.mem_append.1 hn with hn | hn
       · exact a4 n hn
       · exact b4 n hn
end
section
variable {V : Env} {P : Program} {C : Ctx} {w : World}
variable {res : Option (SV V.E)} {cs : List Prop} {bx' : List (Nat × Box V.E)} {ac : Acc}
theorem Ap7 (β : Nat -> BI) (id : Nat) : upd β id (β id) = β := by
 funext j; unfold upd; split
 · rename_i h; rw [h]
 · rfl
theorem Ol {ok : Nat -> Prop} : ∀ (ts : List Ty) (x : HL V.E ts) (vs : List Value) (own : List Nat), Hl V.T ok w [] ts x vs own -> own = []
 | [], _, _, _, h => h.2
 | t :: ts, (x, r), _, _, ⟨v, vr, o1, o2, rfl, rfl, h1, h2⟩ => by
   have h1 : Of V.T ok w 0 t x v o1 := h1
   cases h1 with
   | data _ => rw [Ol ts r vr o2 h2]; rfl
theorem Lq : ∀ (ls : List (A5 V.E)) (id : Nat) (k : List (A5 V.E) -> D0 V.E), Dz V id [] ls k = k ls
 | [], _, _ => rfl
 | l :: ls, id, k => by
   show Dz V (id + 1000) [] ls (λ ls => k (l :: ls)) = _
   rw [Lq ls]
theorem Aer {ok : Nat -> Prop} : ∀ {ls : List (A5 V.E)} {vs : List Value} {ow : List Nat}, Cy V.T ok w [] ls vs ow -> Bj (λ l v => ∀ bx β, Ak V.T bx β ok w l v) ls vs
 | _, _, _, .nil => .nil
 | _, _, _, .more h1 h2 => .cons h1 (Aer h2)
theorem Va {ok : Nat -> Prop} : ∀ (ts : List Ty) (y : HL V.E ts) (vs : List Value) (ow : List Nat), Lz V.T ok w [] ts y vs ow ->
   ∀ (id : Nat) (bx : List (Nat × Box V.E)) (k : List (CV V.E) -> D0 V.E) (rs ws : List Nat), Al V bx (Nw V id [] ts y k) rs ws = some (res, cs, bx', ac) ->
   ∃ cvs, Al V bx (k cvs) rs ws = some (res, cs, bx', ac) /\ Bj (λ c v => ∀ bx β, A2 V.T bx β ok w c v) cvs vs
 | [], y, vs, ow, ⟨h1, _⟩, id, bx, k, rs, ws, h => by subst h1; exact ⟨[], h, .nil⟩
 | t :: ts, (y, r), _, _, ⟨v, vr, o1, o2, rfl, _, h1, h2⟩, id, bx, k, rs, ws, h => by
   obtain ⟨ls, hl, hv⟩ := h1
   have hall := Aer (V := V) (w := w) hl
   simp only [Nw, List.headD_nil, Lq] at h
   cases hc : B5 (Mh t) (t.toL V.T y) with
   | none => rw [hc] at h; simp [Al] at h
   | some c =>
     rw [hc] at h
     simp only [List.drop_nil] at h
     obtain ⟨cvs, b1, b2⟩ := Va ts r vr o2 h2 _ _ _ _ _ h
     refine ⟨c :: cvs, b1, .cons (λ bx β => ?_) b2⟩
     cases hn : Mh t with
     | true =>
       rw [hn] at hc hv
       simp [B5] at hc
       subst hc
       simp at hv
       exact ⟨ls.toArray, hv, by simpa using hall.imp λ _ _ k => k bx β⟩
     | false =>
       rw [hn] at hc hv
       simp at hv
       subst hv
       generalize Ty.toL V.T t y = q at *
       cases hall with
       | cons q1 q2 =>
         cases q2
         simp [B5] at hc
         subst hc
         exact q1 bx β
theorem Qn {c0 : List Prop} : ∀ (ts : List Ty) (id : Nat) (y : HL V.E ts) (k : List (CV V.E) -> D0 V.E),
   (∀ l bx rs ws res cs bx' ac, Al V bx (k l) rs ws = some (res, cs, bx', ac) -> cs = c0) ->
   ∀ bx rs ws res cs bx' ac, Al V bx (Nw V id [] ts y k) rs ws = some (res, cs, bx', ac) -> cs = c0
 | [], id, y, k, hk, bx, rs, ws, res, cs, bx', ac, h => hk _ _ _ _ _ _ _ _ h
 | t :: ts, id, (y, r), k, hk, bx, rs, ws, res, cs, bx', ac, h => by
   simp only [Nw, List.headD_nil, Lq] at h
   split at h
   · exact Qn ts _ r _ (λ l => hk _) _ _ _ _ _ _ _ h
   · simp [Al] at h
def Abu (V : Env) (P : Program) (C : Ctx) (bx : List (Nat × Box V.E)) (β : Nat -> BI) (w : World) (f : FuncId) (vs : List Value) (res : Option (SV V.E)) (bx' : List (Nat × Box V.E)) : Prop :=
 (∃ fn, P.funcs[f]? = some fn /\ fn.body.isSome = true /\ (fn.name == "runtime.NumGoroutine") = false) /\
 Calls P f vs.toArray w λ e w' => ∃ v, e = .returned v /\ ∃ β' x, res = some x /\ A8 V.T bx' β' (Bb C β' w') w' x v /\ Bo V.T C bx' β' w' /\ Ext V.T bx β (Bb C β w) w bx' β' (Bb C β' w') w'
theorem Ts {α : Type} : ∀ {l i : List α} {a : α}, Tg l = some (i, a) -> l = i ++ [a]
 | [], _, _, h => by simp [Tg] at h
 | [b], _, _, h => by simp [Tg] at h; obtain ⟨rfl, rfl⟩ := h; rfl
 | b :: c :: r, _, _, h => by
   unfold Tg at h
   split at h
   · rename_i i l hl
     cases h
     rw [Ts hl]; rfl
   · cases h
theorem P4 {ok ok' : Nat -> Prop} (L : D8 ok w ok' w) : ∀ (ts : List Ty) (x : HL V.E ts) (vs : List Value) (own : List Nat) {os : List TypeId}, Hl V.T ok w os ts x vs own -> Hl V.T ok' w os ts x vs own
 | [], _, _, _, _, h => h
 | _ :: ts, (_, r), _, _, _, ⟨v, vr, o1, o2, e1, e2, h1, h2⟩ => ⟨v, vr, o1, o2, e1, e2, h1.later L, P4 L ts r vr o2 h2⟩
theorem W9 {ok ok' : Nat -> Prop} {w w' : World} : ∀ (ts : List Ty) (y : HL V.E ts) (vs : List Value) (ow : List Nat), ts.all S0 = true -> Lz V.T ok w [] ts y vs ow -> Lz V.T ok' w' [] ts y vs ow
 | [], _, _, _, _, h => h
 | t :: ts, (y, r), _, _, hf, ⟨v, vr, o1, o2, e1, e2, ⟨ls, hl, hv⟩, h2⟩ => by
   simp only [List.all_cons, Bool.and_eq_true] at hf
   refine ⟨v, vr, o1, o2, e1, e2, ⟨ls, ?_, hv⟩, W9 ts r vr o2 hf.2 h2⟩
   have hl : Cy V.T ok w [] (t.toL V.T y) ls o1 := hl
   show Cy V.T ok' w' [] (t.toL V.T y) ls o1
   cases t with
   | int k => cases hl with
     | more a b => cases b; exact .more (λ bx β => a bx β) .nil
   | bool => cases hl with
     | more a b => cases b; exact .more (λ bx β => a bx β) .nil
   | str => cases hl with
     | more a b => cases b; exact .more (λ bx β => a bx β) .nil
   | sl t => simp [S0] at hf
   | nm n => simp [S0] at hf
theorem Aot (HT : V.T.Ok) {f : FuncId} {S : FC V.E} (HW : S4 V P f S) {bx : List (Nat × Box V.E)} {β : Nat -> BI} (M : Bo V.T C bx β w) {dst : Nat} {args : List (CV V.E)} {vs : List Value} (ha : Bj (A2 V.T bx β (Bb C β w) w) args vs)
   {d : Dyn V.E} {rs ws : List Nat} (h : Al V bx (Pb V dst (some S) args d) rs ws = some (res, cs, bx', ac)) (hc : Ff cs) : Abu V P C bx β w f vs res bx' := by
 unfold Pb at h
 split at h
 · rename_i S' rest id off e1 heq
   cases e1
   have hargs0 := Ts heq
   subst hargs0
   obtain ⟨vr, vp, rfl, ha1, ha2⟩ := ha.split
   cases ha2 with
   | cons h1 h2 =>
     cases h2
     rename_i pv
     obtain ⟨bx1, β1, ls, rs1, ws1, gs, M1, X1, h, _, _, _, _, hargs⟩ := Q4 HT [] rest vr bx β M ha1 _ _ _ h
     simp only [Al] at h
     split at h
     · rename_i cl hb
       split at h
       · rename_i x y c hx hy hcl
         split at h
         · rename_i hflat
           have h1' := A2.ext X1 h1
           simp only [A2, Ak, hb] at h1'
           obtain ⟨_, rfl⟩ := h1'
           have hk : ∀ l bx rs ws res cs bx' ac, Al V bx (Nz V [S.f c x = some y] l) rs ws = some (res, cs, bx', ac) -> cs = [S.f c x = some y] := by
             intro l bx rs ws res cs bx' ac h
             unfold Nz at h
             split at h <;> exact (Ax h).2.1.symm
           have hcs := Qn _ _ _ _ hk _ _ _ _ _ _ _ h
           rw [hcs] at hc
           have hargs := hargs S.args x hx
           rw [Ol _ _ _ _ hargs] at hargs
           obtain ⟨ca, ce, hown, hheap, hrep⟩ := M1.boxes id _ hb
           let okp : Nat -> Prop := λ b => Bb C β1 w b \/ b = (β1 id).blk
           have L : D8 (Bb C β1 w) w okp w := ⟨λ b hb => .inl hb, λ _ _ => rfl⟩
           have hmem : (β1 id).blk < w.heap.size := (M1.mine id _ (by rw [hown]; simp)).1
           have hcells : Bj (Ak V.T bx1 β1 (Bb C β1 w) w) (S.c.toL V.T c) ((ca.toList.drop off).take (S.c.sz V.T)) := Mj (O1 HT hcl) ((hrep.drop off).take _)
           have hav := (Kn HT S.c c _).1 hcells
           refine ⟨HW.1, (HW.2 c x y hc.1 okp w vr (.pointer (some ⟨(β1 id).blk, off, none⟩)) (P4 L _ _ _ _ hargs) ⟨_, off, _, rfl, Bx.later L _ _ hav, .inr rfl, λ j v hv => ?_⟩ (λ b hb => ?_)).mono ?_⟩
           · have hj : ca.toList[off + j]? = some v := by
               rw [List.getElem?_take] at hv
               split at hv
               · rw [List.getElem?_drop] at hv; exact hv
               · cases hv
             unfold World.cell?
             simp only [hheap]
             simpa using hj
           · rcases hb with hb | hb
             · exact hb.1
             · rw [hb]; exact hmem
           · rintro e w' ⟨rv, rfl, hbut, hres⟩
             have hres' := W9 (ok' := Bb C β1 w') (w' := w') _ _ _ _ hflat hres
             obtain ⟨cvs, b1, b2⟩ := Va _ _ _ _ hres' _ _ _ _ _ h
             obtain ⟨M2, X2⟩ := M1.grow (w' := w') ⟨hbut.os, hbut.tape, hbut.output, hbut.size, λ x hx => hbut.heap x hx (by simp)⟩
             refine ⟨_, rfl, β1, ?_⟩
             unfold Nz at b1
             split at b1
             · rename_i c0
               obtain ⟨rfl, _, rfl⟩ := Ax b1
               cases b2 with
               | cons q1 q2 => cases q2; exact ⟨_, rfl, q1 _ _, M2, X1.trans X2⟩
             · rename_i hne
               obtain ⟨rfl, _, rfl⟩ := Ax b1
               refine ⟨_, rfl, ?_, M2, X1.trans X2⟩
               simp only [A8]
               refine ⟨rv.toArray, ?_, by simpa using b2.imp λ _ _ k => k _ _⟩
               have hl := b2.length
               cases rv with
               | nil => rfl
               | cons v rv =>
                 cases rv with
                 | cons _ _ => rfl
                 | nil =>
                   match cvs, hl, hne with
                   | [c], _, hne => exact (hne c rfl).elim
         · simp [Al] at h
       · simp [Al] at h
     · simp [Al] at h
 · simp [Al] at h
theorem Asj (HT : V.T.Ok) {f : FuncId} {S : FW V.E} (HW : Aby V P f S) {bx : List (Nat × Box V.E)} {β : Nat -> BI} (M : Bo V.T C bx β w) {dst : Nat} {args : List (CV V.E)} {vs : List Value} (ha : Bj (A2 V.T bx β (Bb C β w) w) args vs)
   {d : Dyn V.E} {rs ws : List Nat} (h : Al V bx (Ss V dst (some S) args d) rs ws = some (res, cs, bx', ac)) (hc : Ff cs) : Abu V P C bx β w f vs res bx' := by
 unfold Ss at h
 split at h
 · rename_i S' id ver i n rest heq
   cases heq
   cases ha with
   | cons h1 h2 =>
     rename_i v vr
     obtain ⟨bx1, β1, ls, rs1, ws1, gs, M1, X1, h, _, _, _, _, hargs⟩ := Q4 HT [] rest vr bx β M h2 _ _ _ h
     simp only [Al] at h
     split at h
     · rename_i e t xs v0 hb
       split at h
       · rename_i hv
         simp only [Bool.and_eq_true] at hv
         have he := Ap hv.2
         split at h
         · rename_i ht
           subst ht
           subst he
           split at h
           · rename_i x y hx hy
             have h1' := A2.ext X1 h1
             simp only [A2, Ak, hb] at h1'
             obtain ⟨_, _, h1'⟩ := h1'
             obtain ⟨i0, n0, hin, b, cap, hh, hic, hveq⟩ := h1' (Ap hv.1)
             have hk : ∀ l bx rs ws res cs bx' ac, Al V bx (.write id (.arr S.e S.t y.1 v0 false) (Nz V [S.f xs i n x = some (y.1, y.2), y.1.length = xs.length] l)) rs ws = some (res, cs, bx', ac) -> cs = [S.f xs i n x = some (y.1, y.2), y.1.length = xs.length] := by
               intro l bx rs ws res cs bx' ac h
               simp only [Al] at h
               unfold Nz at h
               split at h <;> exact (Ax h).2.1.symm
             have hcs := Qn _ _ _ _ hk _ _ _ _ _ _ _ h
             rw [hcs] at hc
             obtain ⟨hf, hlen, _⟩ := hc
             have hargs := hargs S.args x hx
             rw [Ol _ _ _ _ hargs] at hargs
             obtain ⟨hown, hA⟩ := M1.boxes id _ hb
             have hown' : (β1 id).own = [b] := by rw [hown, hh]; rfl
             have hbo : b ∈ (β1 id).own := by rw [hown']; simp
             refine ⟨HW.1, (HW.2 xs i n x y.1 y.2 hf hlen (Bb C β1 w) w v vr (β1 id).hdr b ⟨cap, hh, i0, n0, hin, hic, hveq⟩ hA hargs (M1.mine id b hbo).1 (λ hk => hk.2.2 id hbo) (λ c hc => hc.1)).mono ?_⟩
             rintro e w' ⟨rv, rfl, hbut, hA', hres⟩
             obtain ⟨cvs, b1, b2⟩ := Va _ _ _ _ hres _ _ _ _ _ h
             simp only [Al] at b1
             have hβ : upd β1 id (β1 id) = β1 := Ap7 β1 id
             have hokR : ∀ c, okW (Bb C β1 w) w b w' c -> Bb C (upd β1 id (β1 id)) w' c := by
               rintro c ⟨k1, k2, k3⟩
               rw [hβ]
               refine ⟨k1, ?_, λ j hj => ?_⟩
               · rcases k2 with k2 | k2
                 · exact k2.2.1
                 · exact .inr (.inl (Nat.le_trans M1.kept.size k2))
               · rcases k2 with k2 | k2
                 · exact k2.2.2 j hj
                 · have := (M1.mine j c hj).1; omega
             have LR : D8 (okW (Bb C β1 w) w b w') w' (Bb C (upd β1 id (β1 id)) w') w' := ⟨hokR, λ _ _ => rfl⟩
             obtain ⟨M2, X2⟩ := M1.set (w' := w') id (.arr S.e S.t y.1 v0 false) (β1 id) hbut.os hbut.tape hbut.output hbut.size
               (λ x hx hn => hbut.heap x hx (by rw [hown'] at hn; exact hn)) (λ x hx => .inl hx) (M1.nodup id)
               (λ b0 h0 => by rw [hb] at h0; cases h0; exact ⟨rfl, Nat.le_refl _, λ _ => ⟨rfl, hlen⟩⟩)
               (λ _ => ⟨by rw [A9]; exact hown, by rw [A9]; exact hA'.later LR λ _ _ => rfl⟩)
             have hval : ∀ c v, (∀ bx β, A2 V.T bx β (okW (Bb C β1 w) w b w') w' c v) -> A2 V.T (put id (.arr S.e S.t y.1 v0 false) bx1) (upd β1 id (β1 id)) (Bb C (upd β1 id (β1 id)) w') w' c v :=
               λ c v k => A2.ext ⟨LR, λ _ b h => ⟨b, h, E2.refl _ _ _⟩⟩ (k _ (upd β1 id (β1 id)))
             refine ⟨_, rfl, upd β1 id (β1 id), ?_⟩
             unfold Nz at b1
             split at b1
             · rename_i c
               obtain ⟨rfl, _, rfl⟩ := Ax b1
               cases b2 with
               | cons q1 q2 => cases q2; exact ⟨_, rfl, hval _ _ q1, M2, X1.trans X2⟩
             · rename_i hne
               obtain ⟨rfl, _, rfl⟩ := Ax b1
               refine ⟨_, rfl, ?_, M2, X1.trans X2⟩
               simp only [A8]
               refine ⟨rv.toArray, ?_, by simpa using b2.imp λ _ _ k => hval _ _ k⟩
               have hl := b2.length
               cases rv with
               | nil => rfl
               | cons v rv =>
                 cases rv with
                 | cons _ _ => rfl
                 | nil =>
                   match cvs, hl, hne with
                   | [c], _, hne => exact (hne c rfl).elim
           · simp [Al] at h
         · simp [Al] at h
       · simp [Al] at h
     · simp [Al] at h
 · simp [Al] at h
end
section
variable {V : Env} {P : Program} {C : Ctx} {w : World}
variable {res : Option (SV V.E)} {cs : List Prop} {bx' : List (Nat × Box V.E)} {ac : Acc}
theorem Yp {c0 : List Prop} : ∀ (ls : List (A5 V.E)) (id : Nat) (os : List (TypeId × TypeId)) (k : List (A5 V.E) -> D0 V.E),
   (∀ l bx rs ws res cs bx' ac, Al V bx (k l) rs ws = some (res, cs, bx', ac) -> cs = c0) ->
   ∀ bx rs ws res cs bx' ac, Al V bx (Dz V id os ls k) rs ws = some (res, cs, bx', ac) -> cs = c0
 | [], id, os, k, hk, bx, rs, ws, res, cs, bx', ac, h => by
   have h : Al V bx (k []) rs ws = some (res, cs, bx', ac) := by
     cases os with
     | nil => exact h
     | cons o os => obtain ⟨e, e2⟩ := o; exact h
   exact hk _ _ _ _ _ _ _ _ h
 | l :: ls, id, os, k, hk, bx, rs, ws, res, cs, bx', ac, h => by
   have rec1 : ∀ os' id' (f : List (A5 V.E) -> List (A5 V.E)) bx rs ws, Al V bx (Dz V id' os' ls λ l => k (f l)) rs ws = some (res, cs, bx', ac) -> cs = c0 :=
     λ os' id' f bx rs ws h => Yp ls id' os' (λ l => k (f l)) (λ l => hk _) _ _ _ _ _ _ _ h
   unfold Dz at h
   split at h
   · rename_i heq; cases heq
   · rename_i heq; cases heq; exact rec1 _ _ (l :: ·) _ _ _ h
   · rename_i heq; cases heq
     obtain ⟨_, rs', ws', h⟩ := Gy h
     exact rec1 _ _ (A5.ar id 0 :: ·) _ _ _ h
   · rename_i heq; cases heq
     obtain ⟨_, rs', ws', h⟩ := Gy h
     exact rec1 _ _ (A5.ar id 0 :: ·) _ _ _ h
   · rename_i heq; cases heq; exact rec1 _ _ (l :: ·) _ _ _ h
   · simp [Al] at h
theorem Ym {c0 : List Prop} : ∀ (ts : List Ty) (id : Nat) (os : List (List (TypeId × TypeId))) (y : HL V.E ts) (k : List (CV V.E) -> D0 V.E),
   (∀ l bx rs ws res cs bx' ac, Al V bx (k l) rs ws = some (res, cs, bx', ac) -> cs = c0) ->
   ∀ bx rs ws res cs bx' ac, Al V bx (Nw V id os ts y k) rs ws = some (res, cs, bx', ac) -> cs = c0
 | [], id, os, y, k, hk, bx, rs, ws, res, cs, bx', ac, h => hk _ _ _ _ _ _ _ _ h
 | t :: ts, id, os, (y, r), k, hk, bx, rs, ws, res, cs, bx', ac, h => by
   simp only [Nw] at h
   refine Yp _ _ _ _ (λ l bx rs ws res cs bx' ac h => ?_) _ _ _ _ _ _ _ h
   split at h
   · exact Ym ts _ _ r _ (λ l => hk _) _ _ _ _ _ _ _ h
   · simp [Al] at h
theorem X3.later {ok ok' : Nat -> Prop} (L : D8 ok w ok' w) {n : NB V.E} (h : X3 V ok w n) : X3 V ok' w n := by
 unfold X3 at h ⊢
 split at h
 · exact ⟨h.1, h.2.later L λ _ _ => rfl⟩
 · obtain ⟨h1, h2, h3⟩ := h
   exact ⟨h1, h2, h3.imp λ _ _ k => k.later L λ _ _ => rfl⟩
 · exact h.elim
theorem X3.boxRep {ok : Nat -> Prop} {n : NB V.E} (h : X3 V ok w n) {bx : List (Nat × Box V.E)} {β : Nat -> BI} (hβ : β n.id = n.bi) : Cu V.T bx β ok w n.id n.b := by
 unfold X3 at h
 split at h
 · rename_i hb; rw [hb]; simp only [Cu]; rw [hβ]; exact h
 · rename_i hb; rw [hb]; simp only [Cu]; rw [hβ]; exact h
 · exact h.elim
theorem V3 {α β : Type} {f : α -> List β} : ∀ {N : List α}, (N.flatMap f).Nodup -> ∀ n ∈ N, (f n).Nodup
 | [], _, n, h => by simp at h
 | m :: N, hd, n, h => by
   rw [List.flatMap_cons] at hd
   have h1 := List.nodup_append.1 hd
   rcases List.mem_cons.1 h with rfl | h
   · exact h1.1
   · exact V3 h1.2.1 n h
theorem Vk {α β : Type} {f : α -> List β} : ∀ {N : List α}, (N.flatMap f).Nodup -> ∀ n ∈ N, ∀ m ∈ N, ∀ x, x ∈ f n -> x ∈ f m -> n = m
 | [], _, n, h, _, _, _, _, _ => by simp at h
 | k :: N, hd, n, hn, m, hm, x, h1, h2 => by
   rw [List.flatMap_cons] at hd
   have hd := List.nodup_append.1 hd
   rcases List.mem_cons.1 hn with e | hn' <;> rcases List.mem_cons.1 hm with e' | hm'
   · rw [e, e']
   · rw [e] at h1; exact (hd.2.2 x h1 x (List.mem_flatMap.2 ⟨m, hm', h2⟩) rfl).elim
   · rw [e'] at h2; exact (hd.2.2 x h2 x (List.mem_flatMap.2 ⟨n, hn', h1⟩) rfl).elim
   · exact Vk hd.2.1 n hn' m hm' x h1 h2
theorem Lv {α β : Type} {f : α -> List β} : ∀ {N : List α}, N.Nodup -> (∀ n ∈ N, (f n).Nodup) -> (∀ n ∈ N, ∀ m ∈ N, ∀ x, x ∈ f n -> x ∈ f m -> n = m) -> (N.flatMap f).Nodup
 | [], _, _, _ => by simp
 | k :: N, hd, h1, h2 => by
   rw [List.flatMap_cons]
   have hd := List.nodup_cons.1 hd
   refine List.nodup_append.2 ⟨h1 k (by simp), Lv hd.2 (λ n hn => h1 n (by simp [hn])) (λ n hn m hm => h2 n (by simp [hn]) m (by simp [hm])), λ x hx y hy e => ?_⟩
   subst e
   obtain ⟨m, hm, hxm⟩ := List.mem_flatMap.1 hy
   have := h2 k (by simp) m (by simp [hm]) x hx hxm
   subst this
   exact hd.1 hm
theorem Att (HT : V.T.Ok) (HF : Ait V P) {bx : List (Nat × Box V.E)} {β : Nat -> BI} (M : Bo V.T C bx β w) {dst : Nat} {f : FuncId} {args : List (CV V.E)} {vs : List Value} (ha : Bj (A2 V.T bx β (Bb C β w) w) args vs)
   {o : Orc V.E} {rs ws : List Nat} (h : Al V bx (U9 V dst f args o) rs ws = some (res, cs, bx', ac)) (hc : Ff cs) : Abu V P C bx β w f vs res bx' := by
 unfold U9 at h
 split at h
 · rename_i S d hS
   obtain ⟨hfn, hM⟩ := HF.fs f S hS
   obtain ⟨bx1, β1, ls, rs1, ws1, gs, M1, X1, h, g1, _, g3, _, hargs⟩ := Q4 HT _ _ _ _ _ M ha _ _ _ h
   split at h
   · rename_i x y hx hy
     have hk : ∀ l bx rs ws res cs bx' ac, Al V bx (Nz V [S.f x = some y] l) rs ws = some (res, cs, bx', ac) -> cs = [S.f x = some y] := by
       intro l bx rs ws res cs bx' ac h
       unfold Nz at h
       split at h <;> exact (Ax h).2.1.symm
     have hcs := Ym _ _ _ _ _ hk _ _ _ _ _ _ _ h
     rw [hcs] at hc
     have hxy := hc.1
     have hargs := hargs S.args x hx
     have hgown : ∀ b, b ∈ (gs.flatMap λ id => (β1 id).own) ↔ ∃ id ∈ gs, b ∈ (β1 id).own := λ b => List.mem_flatMap
     refine ⟨hfn, ?_⟩
     refine (hM x y hxy (Bb C β1 w) w vs _ hargs (Lv g3 (λ id _ => M1.nodup id) λ id _ id' _ x h1 h2 => M1.apart id id' x h1 h2) ?_ (λ b hb => hb.1)).mono ?_
     · intro b hb
       obtain ⟨id, _, hb⟩ := (hgown b).1 hb
       exact ⟨(M1.mine id b hb).1, λ hk => hk.2.2 id hb⟩
     · rintro e w' ⟨rv, own', rfl, hbut, hnd, hown', hres⟩
       obtain ⟨N, cvs, rs2, ws2, b1, b2, b3, b4, b5, b6⟩ := Ar7 _ _ _ _ _ hres _ _ _ _ _ h
       let β' : Nat -> BI := λ j => match Ou N j with | some n => n.bi | none => if j ∈ gs then { β1 j with own := [] } else β1 j
       have hβN : ∀ n ∈ N, β' n.id = n.bi := by
         intro n hn
         show (match Ou N n.id with | some n => n.bi | none => _) = _
         rw [Um b2 hn]
       have hNg : ∀ n ∈ N, n.id ∉ gs := by
         intro n hn hg
         have := g1 _ hg
         rw [b3 n hn] at this; cases this
       have hβg : ∀ j ∈ gs, β' j = { β1 j with own := [] } := by
         intro j hj
         show (match Ou N j with | some n => n.bi | none => _) = _
         split
         · rename_i n hn
           obtain ⟨hm, rfl⟩ := Vo hn
           exact (hNg n hm hj).elim
         · rw [if_pos hj]
       have hβo : ∀ j, (¬ ∃ n ∈ N, n.id = j) -> j ∉ gs -> β' j = β1 j := by
         intro j hj hg
         show (match Ou N j with | some n => n.bi | none => _) = _
         split
         · rename_i n hn
           obtain ⟨hm, e⟩ := Vo hn
           exact (hj ⟨n, hm, e⟩).elim
         · rw [if_neg hg]
       have hlookN : ∀ n ∈ N, A3 n.id (Ru N bx1) = some n.b := by
         intro n hn; rw [Mo _ _ _ b2, Um b2 hn]
       have hlooko : ∀ j, (¬ ∃ n ∈ N, n.id = j) -> A3 j (Ru N bx1) = A3 j bx1 := by
         intro j hj
         rw [Mo _ _ _ b2]
         split
         · rename_i n hn
           obtain ⟨hm, e⟩ := Vo hn
           exact (hj ⟨n, hm, e⟩).elim
         · rfl
       have hmemN : ∀ n ∈ N, ∀ x ∈ n.bi.own, x ∈ own' := by
         intro n hn x hx; rw [b5]; exact List.mem_flatMap.2 ⟨n, hn, hx⟩
       have hokR : ∀ b, (b < w'.heap.size /\ (Bb C β1 w b \/ w.heap.size <= b \/ b ∈ gs.flatMap λ id => (β1 id).own) /\ b ∉ own') -> Bb C β' w' b := by
         rintro b ⟨k1, k2, k3⟩
         refine ⟨k1, ?_, λ id hid => ?_⟩
         · rcases k2 with k2 | k2 | k2
           · exact k2.2.1
           · exact .inr (.inl (Nat.le_trans M1.kept.size k2))
           · obtain ⟨id, _, hb⟩ := (hgown b).1 k2
             rcases (M1.mine id b hb).2 with h | h
             · exact .inr (.inl h)
             · exact .inr (.inr h)
         · by_cases hN : ∃ n ∈ N, n.id = id
           · obtain ⟨n, hn, rfl⟩ := hN
             rw [hβN n hn] at hid
             exact k3 (hmemN n hn b hid)
           · by_cases hg : id ∈ gs
             · rw [hβg id hg] at hid; simp at hid
             · rw [hβo id hN hg] at hid
               rcases k2 with k2 | k2 | k2
               · exact k2.2.2 id hid
               · have := (M1.mine id b hid).1; omega
               · obtain ⟨id', hid', hb⟩ := (hgown b).1 k2
                 have := M1.apart id id' b hid hb
                 subst this; exact hg hid'
       have LR : D8 (λ b => b < w'.heap.size /\ (Bb C β1 w b \/ w.heap.size <= b \/ b ∈ gs.flatMap λ id => (β1 id).own) /\ b ∉ own') w' (Bb C β' w') w' := ⟨hokR, λ _ _ => rfl⟩
       obtain ⟨M2, X2⟩ := M1.step (bx' := Ru N bx1) (β' := β') (w' := w') (λ j => j ∈ gs \/ ∃ n ∈ N, n.id = j) hbut.os hbut.tape hbut.output hbut.size
         (λ j hj => ⟨hβo j (λ h => hj (.inr h)) (λ h => hj (.inl h)), hlooko j λ h => hj (.inr h)⟩)
         (λ x hx hn => hbut.heap x hx λ hm => by
           obtain ⟨id, hid, hb⟩ := (hgown x).1 hm
           exact hn id (.inl hid) hb)
         (λ j hj x hx => by
           by_cases hN : ∃ n ∈ N, n.id = j
           · obtain ⟨n, hn, rfl⟩ := hN
             rw [hβN n hn] at hx
             obtain ⟨q1, q2⟩ := hown' x (hmemN n hn x hx)
             rcases q2 with q2 | q2
             · exact .inr ⟨q2, q1⟩
             · obtain ⟨id, hid, hb⟩ := (hgown x).1 q2
               exact .inl ⟨id, .inl hid, hb⟩
           · rcases hj with hj | hj
             · rw [hβg j hj] at hx; simp at hx
             · exact (hN hj).elim)
         (λ j hj => by
           by_cases hN : ∃ n ∈ N, n.id = j
           · obtain ⟨n, hn, rfl⟩ := hN
             rw [hβN n hn]
             rw [b5] at hnd
             exact V3 hnd n hn
           · rcases hj with hj | hj
             · rw [hβg j hj]; simp
             · exact (hN hj).elim)
         (λ j j' x hj hj' hx hx' => by
           by_cases hN : ∃ n ∈ N, n.id = j
           · by_cases hN' : ∃ n ∈ N, n.id = j'
             · obtain ⟨n, hn, rfl⟩ := hN
               obtain ⟨m, hm, rfl⟩ := hN'
               rw [hβN n hn] at hx
               rw [hβN m hm] at hx'
               rw [b5] at hnd
               rw [Vk hnd n hn m hm x hx hx']
             · rcases hj' with hj' | hj'
               · rw [hβg j' hj'] at hx'; simp at hx'
               · exact (hN' hj').elim
           · rcases hj with hj | hj
             · rw [hβg j hj] at hx; simp at hx
             · exact (hN hj).elim)
         (λ j hj hn => by
           by_cases hN : ∃ n ∈ N, n.id = j
           · obtain ⟨n, hn', rfl⟩ := hN
             rw [hlookN n hn'] at hn; cases hn
           · rcases hj with hj | hj
             · rw [hβg j hj]
             · exact (hN hj).elim)
         (λ j b hj hb => by
           by_cases hN : ∃ n ∈ N, n.id = j
           · obtain ⟨n, hn, rfl⟩ := hN
             rw [b3 n hn] at hb; cases hb
           · rcases hj with hj | hj
             · rw [g1 j hj] at hb; cases hb
               exact ⟨.gone, by rw [hlooko j hN]; exact g1 j hj, trivial⟩
             · exact (hN hj).elim)
         (λ X j b hj hb => by
           by_cases hN : ∃ n ∈ N, n.id = j
           · obtain ⟨n, hn, rfl⟩ := hN
             rw [hlookN n hn] at hb; cases hb
             exact ((b4 n hn).later LR).boxRep (hβN n hn)
           · rcases hj with hj | hj
             · rw [hlooko j hN, g1 j hj] at hb; cases hb
               trivial
             · exact (hN hj).elim)
       have hleaf : ∀ l v, Q0 V (λ b => b < w'.heap.size /\ (Bb C β1 w b \/ w.heap.size <= b \/ b ∈ gs.flatMap λ id => (β1 id).own) /\ b ∉ own') w' N l v -> Ak V.T (Ru N bx1) β' (Bb C β' w') w' l v := by
         intro l v hl
         rcases hl with hl | ⟨n, hn, rfl, rfl, hone⟩
         · exact Ak.ext ⟨LR, λ _ b h => ⟨b, h, E2.refl _ _ _⟩⟩ _ _ (hl (Ru N bx1) β')
         · simp only [Ak]
           refine ⟨hone, ?_⟩
           rw [hlookN n hn]
           have := b4 n hn
           unfold X3 at this
           split at this
           · rename_i hb; rw [hb]; exact ⟨Nat.le_refl _, λ _ => by rw [hβN n hn]⟩
           · rename_i hb; rw [hb]; exact ⟨Nat.le_refl _, λ _ => by rw [hβN n hn]⟩
           · exact this.elim
       have hval : ∀ c v, Am3 V (λ b => b < w'.heap.size /\ (Bb C β1 w b \/ w.heap.size <= b \/ b ∈ gs.flatMap λ id => (β1 id).own) /\ b ∉ own') w' N c v -> A2 V.T (Ru N bx1) β' (Bb C β' w') w' c v := by
         intro c v hcv
         cases c with
         | one l => exact hleaf _ _ hcv
         | ag ls => obtain ⟨cs, rfl, hcv⟩ := hcv; exact ⟨cs, rfl, hcv.imp λ _ _ k => hleaf _ _ k⟩
       refine ⟨_, rfl, β', ?_⟩
       unfold Nz at b1
       split at b1
       · rename_i c
         obtain ⟨rfl, _, rfl⟩ := Ax b1
         cases b6 with
         | cons q1 q2 => cases q2; exact ⟨_, rfl, hval _ _ q1, M2, X1.trans X2⟩
       · rename_i hne
         obtain ⟨rfl, _, rfl⟩ := Ax b1
         refine ⟨_, rfl, ?_, M2, X1.trans X2⟩
         simp only [A8]
         refine ⟨rv.toArray, ?_, by simpa using b6.imp λ _ _ k => hval _ _ k⟩
         have hl := b6.length
         cases rv with
         | nil => rfl
         | cons v rv =>
           cases rv with
           | cons _ _ => rfl
           | nil =>
             match cvs, hl, hne with
             | [c], _, hne => exact (hne c rfl).elim
   · simp [Al] at h
 · rename_i d hS
   cases hW : V.ws f with
   | none =>
     rw [hW] at h
     cases hC : V.cs f with
     | none => rw [hC] at h; simp [Pb, Al] at h
     | some S =>
       rw [hC] at h
       exact Aot HT (HF.cs f S hC) M ha h hc
   | some S =>
     rw [hW] at h
     exact Asj HT (HF.ws f S hW) M ha h hc
 · simp [Al] at h
end
end Go.Ab
