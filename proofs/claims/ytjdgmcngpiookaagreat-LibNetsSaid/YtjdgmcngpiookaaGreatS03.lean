/- What a store does to arrays, and rows put into a slice of rows. Stores. Made slices, appends, what is frozen. Conditions: none beyond those that each theorem names. -/
import Derived.Test.YtjdgmcngpiookaaGreatS02
namespace Go.Ab
open Go
section
variable {V : Env} {P : Program} {C : Ctx} {bx : List (Nat × Box V.E)} {β : Nat -> BI} {w : World}
variable {res : Option (SV V.E)} {cs : List Prop} {bx' : List (Nat × Box V.E)} {rs ws : List Nat} {ac : Acc}
theorem Bk.getD_set {α β : Type} {R : α -> β -> Prop} : ∀ {l : List α} {m : List β}, Bk R l m -> ∀ (i : Nat) (a : α) (b : β), R a b -> Bk R (l.set i a) (m.set i b)
 | _, _, .nil, i, a, b, _ => by simp; exact .nil
 | _, _, .cons h t, 0, a, b, k => by simpa using .cons k t
 | _, _, .cons h t, i + 1, a, b, k => by simpa using .cons h (t.getD_set i a b k)
theorem Qj {α : Type} (l : List α) (p : Nat) (ys : List α) (N : Nat) (h : p + ys.length <= N) (hl : p <= l.length) :
   (l.take p ++ ys ++ l.drop (p + ys.length)).take N = (l.take N).take p ++ ys ++ (l.take N).drop (p + ys.length) := by
 have e : (l.take p ++ ys).length = p + ys.length := by rw [List.length_append, List.length_take]; omega
 rw [List.take_append, e, List.take_of_length_le (by omega), List.take_take, Nat.min_eq_left (by omega), List.drop_take]
theorem Abf (HT : V.T.Ok) {ok : Nat -> Prop} {e : TypeId} {t : Ty} {xs : List (t.den V.E)} {hdr : Value} (h : Hh V.T ok w e t xs hdr) {i : Nat} (hi : i < xs.length) {b n cap : Nat}
   (hh : hdr = .slice (some ⟨b, 0, none⟩) n cap)
   {off : Nat} {ls ls' : List (A7 V.E)} {ys : List Value} (hpos : 0 < ls.length) (hy : Bk (Ak V.T bx β ok w) ls ys)
   (hs : Ma (t.toL V.T (xs.getD i (t.df V.T))) off ls = some ls') {y : t.den V.E} (ho : t.ofL V.T ls' = some y) :
   ∃ c, w.heap[b]? = some (.cells c e (0, 0)) /\ i * t.sz V.T + off + ys.length <= c.size /\ ∀ w' ok', Fb ok w ok' w' ->
     w'.heap[b]? = some (.cells (c.toList.take (i * t.sz V.T + off) ++ ys ++ c.toList.drop (i * t.sz V.T + off + ys.length)).toArray e (0, 0)) ->
     Hh V.T ok' w' e t (xs.set i y) hdr := by
 obtain ⟨css, ⟨h1, h2⟩, h3⟩ := h
 rcases h2 with ⟨h2, h0⟩ | ⟨b', cap', cur, h2, k1, k2, k3, k4, k5, k6⟩
 · omega
 · rw [hh] at h2; cases h2
   obtain ⟨cz, hcz, r1, r2⟩ := h3.get i (xs.getD i (t.df V.T)) (by rw [List.getD_eq_getElem?_getD, List.getElem?_eq_getElem hi]; rfl)
   have hall : ∀ c ∈ css, c.length = t.sz V.T := by
     intro c hc
     obtain ⟨m, hm⟩ := List.getElem?_of_mem hc
     obtain ⟨_, _, q⟩ := h3.get' m c hm
     exact q.2
   obtain ⟨hnew, hle⟩ := Vj ((Ka HT (bx := bx) (β := β) (ok := ok) (w := w) t _ cz).2 r1) hy hs hpos
   rw [r2] at hle
   have hle2 : i * t.sz V.T + off + ys.length <= xs.length * t.sz V.T := by
     have : (i + 1) * t.sz V.T <= xs.length * t.sz V.T := Nat.mul_le_mul_right _ (by omega)
     rw [Nat.add_mul] at this; omega
   have hle3 : xs.length * t.sz V.T <= cap * t.sz V.T := Nat.mul_le_mul_right _ k3
   refine ⟨cur, k2, by rw [k5]; omega, λ w' ok' L hw' => ?_⟩
   refine ⟨css.set i (cz.take off ++ ys ++ cz.drop (off + ys.length)), ⟨?_, .inr ⟨b, cap, _, by rw [hh, List.length_set], Nat.zero_le _, hw', by rw [List.length_set]; exact k3, k4, ?_, ?_⟩⟩, ?_⟩
   · rw [List.length_set, <- Qh css i cz hall hcz off ys hle]
     simp only [List.length_append, List.length_take, List.length_drop]
     rw [h1]; omega
   · simp only [List.size_toArray, List.length_append, List.length_take, List.length_drop, Array.length_toList]
     rw [k5]; omega
   · rw [<- Qh css i cz hall hcz off ys hle, <- k6, List.length_set]
     exact Qj _ _ _ _ hle2 (by rw [Array.length_toList, k5]; omega)
   · refine Bk.getD_set (h3.imp λ x c q => ⟨Br.later L _ _ q.1, q.2⟩) i y _ ⟨?_, ?_⟩
     · refine Br.later L _ _ ((Ka HT (bx := bx) (β := β) t y _).1 ?_)
       exact L9 (Oi HT ho) hnew
     · simp only [List.length_append, List.length_take, List.length_drop]; omega
def obs (rows : List Value) : List Nat := rows.flatMap λ v => v.ownBlock.toList
theorem Kr {rows : List Value} {b : Nat} : b ∈ obs rows ↔ ∃ v ∈ rows, v.ownBlock = some b := by
 simp [obs, List.mem_flatMap, Option.mem_toList]
theorem Abk : ∀ {rows : List Value}, (obs rows).Nodup -> ∀ (m k : Nat) (x y : Value) (b : Nat), rows[m]? = some x -> rows[k]? = some y -> x.ownBlock = some b -> y.ownBlock = some b -> m = k
 | [], _, m, k, x, y, b, h, _, _, _ => by simp at h
 | r :: rows, hnd, m, k, x, y, b, hm, hk, hx, hy => by
   simp only [obs, List.flatMap_cons] at hnd
   obtain ⟨n1, n2, n3⟩ := List.nodup_append.1 hnd
   cases m <;> cases k
   · rfl
   · simp at hm hk; subst hm
     exact (n3 b (by rw [hx]; simp) b (Kr.2 ⟨y, List.mem_of_getElem? hk, hy⟩) rfl).elim
   · simp at hm hk; subst hk
     exact (n3 b (by rw [hy]; simp) b (Kr.2 ⟨x, List.mem_of_getElem? hm, hx⟩) rfl).elim
   · rename_i m k
     exact congrArg (· + 1) (Abk n2 m k x y b (by simpa using hm) (by simpa using hk) hx hy)
theorem Akx : ∀ {rows : List Value} {j : Nat} {x : Value}, (obs rows).Nodup -> (∀ b, x.ownBlock = some b -> b ∉ obs rows) -> (obs (rows.set j x)).Nodup /\ ∀ b ∈ obs (rows.set j x), b ∈ obs rows \/ x.ownBlock = some b
 | [], j, x, h, _ => by simp [obs]
 | r :: rows, 0, x, h, hx => by
   simp only [obs, List.set_cons_zero, List.flatMap_cons] at h hx ⊢
   obtain ⟨n1, n2, n3⟩ := List.nodup_append.1 h
   refine ⟨List.nodup_append.2 ⟨by cases x.ownBlock <;> simp, n2, λ b hb c hc e => ?_⟩, λ b hb => ?_⟩
   · subst e
     have := hx b (by simpa using hb)
     exact this (List.mem_append.2 (.inr hc))
   · rcases List.mem_append.1 hb with hb | hb
     · exact .inr (by simpa using hb)
     · exact .inl (List.mem_append.2 (.inr hb))
 | r :: rows, j + 1, x, h, hx => by
   have eo : ∀ l : List Value, obs (r :: l) = r.ownBlock.toList ++ obs l := λ l => rfl
   rw [List.set_cons_succ, eo]
   simp only [eo] at h hx
   obtain ⟨n1, n2, n3⟩ := List.nodup_append.1 h
   obtain ⟨q1, q2⟩ := Akx (j := j) (x := x) n2 (λ b hb hc => hx b hb (List.mem_append.2 (.inr hc)))
   refine ⟨List.nodup_append.2 ⟨n1, q1, λ b hb c hc e => ?_⟩, λ b hb => ?_⟩
   · subst e
     rcases q2 b hc with hc | hc
     · exact n3 b hb b hc rfl
     · exact hx b hc (List.mem_append.2 (.inl hb))
   · rcases List.mem_append.1 hb with hb | hb
     · exact .inl (List.mem_append.2 (.inl hb))
     · rcases q2 b hb with hb | hb
       · exact .inl (List.mem_append.2 (.inr hb))
       · exact .inr hb
theorem Bk.of_get {α β : Type} {R : α -> β -> Prop} : ∀ {l : List α} {m : List β}, l.length = m.length -> (∀ (i : Nat) a b, l[i]? = some a -> m[i]? = some b -> R a b) -> Bk R l m
 | [], [], _, _ => .nil
 | [], _ :: _, h, _ => by simp at h
 | _ :: _, [], h, _ => by simp at h
 | a :: l, b :: m, h, f => .cons (f 0 a b rfl rfl) (Bk.of_get (by simpa using h) λ i a b ha hb => f (i + 1) a b (by simpa using ha) (by simpa using hb))
theorem Ot {α : Type} {l : List α} {i : Nat} (h : i < l.length) (d : α) : l[i]? = some (l.getD i d) := by
 rw [List.getD_eq_getElem?_getD, List.getElem?_eq_getElem h]; rfl
theorem Aaw (M : Bq V.T C bx β w) {t : TypeId} {i : TI V.E} {info : TypeInfo} {d : TypeDesc} {z : Value} (I : C6 V P t i info d z) (q6 : i.size = 1)
   {id id2 : Nat} {e e2 : TypeId} {u : Ty} {xss : List (List (u.den V.E))} {v rv : Nat} (hb : A6 id bx = some (.rows e e2 u xss v rv .opn)) (hne : id ≠ id2)
   {j : Int} {b n cap : Nat} (h0 : 0 <= j) (hlt : j < xss.length) (hh : (β id).hdr = .slice (some ⟨b, 0, none⟩) n cap) {vv : Value} (hv1 : vv.oneCell' = true)
   (fresh2 : ∀ b', vv.ownBlock = some b' -> b' ∈ (β id2).own) {ys : List (u.den V.E)} (hA2 : Hh V.T (Bc C β w) w e2 u ys vv) :
   UOk V.T C bx β w none (put id (.rows e e2 u (xss.set j.toNat ys) v (rv + 1) .opn) (put id2 .gone bx)) ((Instr.storeAt t (.pointer (some ⟨b, j.toNat + 0, none⟩)) vv).run P w) := by
 obtain ⟨hO, hown, hA⟩ := M.boxes id _ hb
 have hj : j.toNat < xss.length := by omega
 have hO' := hO
 obtain ⟨l1, l2⟩ := hO'
 rcases l2 with ⟨l2, _⟩ | ⟨g, cap', cur, l2, _, l3, l4, l5, l6, l7⟩
 · rw [hh] at l2; cases l2
 · rw [hh] at l2; cases l2
   have hrl : (β id).rows.length = xss.length := by rw [l1]; simp
   have hvc : vv.cells = #[vv] := Q9 hv1
   have hsz : j.toNat + i.size <= cur.size := by rw [l6, q6]; omega
   have e0 : j.toNat + 0 = j.toNat := rfl
   rw [e0, Hb I l3 (by rw [hvc, q6]; rfl) hsz (by rw [hvc]; intro x hx; simp at hx; subst hx; exact hv1), hvc]
   have hbo : b ∈ (β id).own := by rw [hown, hh]; simp [Value.ownBlock]
   have hnd := M.nodup id
   rw [hown] at hnd
   have hnd1 := List.nodup_append.1 hnd
   have hset := Akx (rows := (β id).rows) (j := j.toNat) (x := vv) hnd1.2.1 (λ b' hb' hc => hne (M.apart id id2 b' (by rw [hown]; exact List.mem_append.2 (.inr hc)) (fresh2 b' hb')))
   let i' : BI := ⟨(β id).blk, (β id).hdr, (β id).hdr.ownBlock.toList ++ obs ((β id).rows.set j.toNat vv), (β id).rows.set j.toNat vv⟩
   let β' : Nat -> BI := upd (upd β id2 { β id2 with own := [] }) id i'
   have hβid : β' id = i' := Ba _ _ _
   have hβid2 : β' id2 = { β id2 with own := [] } := by rw [show β' id2 = upd β id2 { β id2 with own := [] } id2 from Cl _ _ hne.symm, Ba]
   have hmem : ∀ x ∈ i'.own, x ∈ (β id).own \/ x ∈ (β id2).own := by
     intro x hx
     rcases List.mem_append.1 hx with hx | hx
     · exact .inl (by rw [hown]; exact List.mem_append.2 (.inl hx))
     · rcases hset.2 x hx with hx | hx
       · exact .inl (by rw [hown]; exact List.mem_append.2 (.inr hx))
       · exact .inr (fresh2 x hx)
   have hbx : ∀ b'', b'' ∈ obs ((β id).rows.set j.toNat vv) -> b'' ≠ b := by
     intro b'' hb'' e
     subst e
     rcases hset.2 b'' hb'' with hx | hx
     · exact hnd1.2.2 b'' (by rw [hh]; simp [Value.ownBlock]) b'' hx rfl
     · exact hne (M.apart id id2 b'' hbo (fresh2 b'' hx))
   obtain ⟨M', X⟩ := M.step (bx' := put id (.rows e e2 u (xss.set j.toNat ys) v (rv + 1) .opn) (put id2 .gone bx)) (β' := β')
     (w' := w.setRow b (cur.toList.take j.toNat ++ [vv] ++ cur.toList.drop (j.toNat + [vv].length)).toArray) (λ m => m = id \/ m = id2) rfl rfl rfl (by simp)
     (λ m hm => ⟨by
         rw [show β' m = upd β id2 { β id2 with own := [] } m from Cl _ _ (λ e => hm (.inl e)), Cl _ _ (λ e => hm (.inr e))],
       by rw [A4 (λ e => hm (.inl e)), A4 (λ e => hm (.inr e))]⟩)
     (λ x _ hx => setRow_other _ _ _ _ (by rintro rfl; exact hx id (.inl rfl) hbo))
     (λ m hm x hx => by
       rcases hm with rfl | rfl
       · rw [hβid] at hx
         rcases hmem x hx with hx | hx
         · exact .inl ⟨_, .inl rfl, hx⟩
         · exact .inl ⟨_, .inr rfl, hx⟩
       · rw [hβid2] at hx; simp at hx)
     (λ m hm => by
       rcases hm with rfl | rfl
       · rw [hβid]
         refine List.nodup_append.2 ⟨hnd1.1, hset.1, λ x hx y hy e => ?_⟩
         subst e
         rw [hh] at hx; simp [Value.ownBlock] at hx; subst hx
         exact hbx _ hy rfl
       · rw [hβid2]; simp)
     (λ m m' x hm hm' hx hx' => by
       rcases hm with rfl | rfl <;> rcases hm' with rfl | rfl
       · rfl
       · rw [hβid2] at hx'; simp at hx'
       · rw [hβid2] at hx; simp at hx
       · rfl)
     (λ m hm hn => by
       rcases hm with rfl | rfl
       · rw [A2] at hn; cases hn
       · rw [hβid2])
     (λ m b0 hm h0 => by
       rcases hm with rfl | rfl
       · rw [hb] at h0; cases h0
         refine ⟨_, A2 _ _ _, ?_⟩
         rw [hβid]
         refine ⟨rfl, Nat.le_refl _, λ _ => ⟨rfl, by simp, by omega, λ e => by omega⟩⟩
       · exact ⟨.gone, by rw [A4 hne.symm, A2], by cases b0 <;> trivial⟩)
     (λ X m b0 hm h0 => by
       rcases hm with rfl | rfl
       · rw [A2] at h0; cases h0
         have hX := X
         refine ⟨?_, by rw [hβid]; rfl, ?_⟩
         · rw [hβid, List.length_set]
           show (w.setRow b _).ownsRow 0 e 1 (β m).hdr xss.length ((β m).rows.set j.toNat vv)
           refine ⟨by rw [List.length_set, l1], .inr ⟨b, cap, _, hh, Nat.zero_le _, setRow_heap _ _ _ _ _ _ l3, l4, l5, ?_, ?_⟩⟩
           · simp only [List.size_toArray, List.length_append, List.length_take, List.length_drop, Array.length_toList, List.length_cons, List.length_nil]
             omega
           · rw [Qj _ _ _ _ (by simp; omega) (by rw [Array.length_toList]; omega), l7]
             rw [List.set_eq_take_append_cons_drop, if_pos (by omega)]
             simp
         · rw [hβid]
           show Bk _ _ ((β m).rows.set j.toNat vv)
           refine Bk.of_get (by rw [List.length_set, List.length_set]; exact hA.length) λ n' xs x hm hx => ?_
           by_cases hmj : n' = j.toNat
           · subst hmj
             rw [List.getElem?_set_self hj] at hm; cases hm
             rw [List.getElem?_set_self (by omega)] at hx; cases hx
             exact hA2.later X.later λ b' hb' => setRow_other _ _ _ _ (hbx b' (Kr.2 ⟨vv, List.mem_of_getElem? (List.getElem?_set_self (by omega)), hb'⟩))
           · rw [List.getElem?_set_ne (by omega)] at hm hx
             obtain ⟨x', hx', hr⟩ := hA.get n' xs hm
             rw [hx] at hx'; cases hx'
             exact hr.later X.later λ b' hb' => setRow_other _ _ _ _ (hbx b' (Kr.2 ⟨x, List.mem_of_getElem? (i := n') (by rw [List.getElem?_set_ne (by omega)]; exact hx), hb'⟩))
       · rw [A4 hne.symm, A2] at h0; cases h0
         trivial)
   exact ⟨_, _, rfl, rfl, M', X⟩
theorem Abb {e : TypeId} {hdr vv : Value} {N : Nat} {rows : List Value} (h : w.ownsRow 0 e 1 hdr N rows) {b n cap : Nat} (hh : hdr = .slice (some ⟨b, 0, none⟩) n cap) {j : Nat} (hj : j < N) :
   ∃ cur : Array Value, w.heap[b]? = some (.cells cur e (0, 0)) /\ j + 1 <= cur.size /\ ∀ w' : World,
     w'.heap[b]? = some (.cells (cur.toList.take j ++ [vv] ++ cur.toList.drop (j + [vv].length)).toArray e (0, 0)) -> w'.ownsRow 0 e 1 hdr N (rows.set j vv) := by
 obtain ⟨l1, l2⟩ := h
 rcases l2 with ⟨l2, _⟩ | ⟨g, cap', cur, l2, _, l3, l4, l5, l6, l7⟩
 · rw [hh] at l2; cases l2
 · rw [hh] at l2; cases l2
   refine ⟨cur, l3, by omega, λ w' hw' => ⟨by rw [List.length_set, l1], .inr ⟨b, cap, _, hh, Nat.zero_le _, hw', l4, l5, ?_, ?_⟩⟩⟩
   · simp only [List.size_toArray, List.length_append, List.length_take, List.length_drop, Array.length_toList, List.length_cons, List.length_nil]
     omega
   · rw [Qj _ _ _ _ (by simp; omega) (by rw [Array.length_toList]; omega), l7]
     rw [List.set_eq_take_append_cons_drop, if_pos (by rw [<- l7]; simp; omega)]
     simp
theorem Anq {α : Type} {l : List α} {i j : Nat} {x y : α} (hi : l[i]? = some x) (hj : l[j]? = some y) : ((l.set i y).set j x).Perm l := by
 obtain ⟨h1, e1⟩ := List.getElem?_eq_some_iff.1 hi
 obtain ⟨h2, e2⟩ := List.getElem?_eq_some_iff.1 hj
 have := List.set_set_perm h1 h2
 rw [e1, e2] at this
 exact this
theorem Ah8 (M : Bq V.T C bx β w) {t : TypeId} {i : TI V.E} {info : TypeInfo} {d : TypeDesc} {z : Value} (I : C6 V P t i info d z) (q6 : i.size = 1)
   {id : Nat} {e e2 : TypeId} {u : Ty} {xss : List (List (u.den V.E))} {v rv : Nat} (hb : A6 id bx = some (.rows e e2 u xss v rv .opn))
   {j k : Int} {b n cap : Nat} (h0 : 0 <= j) (hlt : j < xss.length) (hh : (β id).hdr = .slice (some ⟨b, 0, none⟩) n cap) {vv : Value} (hv1 : vv.oneCell' = true)
   (k0 : 0 <= k) (klt : k < xss.length) (hk : (β id).rows[k.toNat]? = some vv) :
   UOk V.T C bx β w none (put id (.rows e e2 u xss v rv (.mix j k)) bx) ((Instr.storeAt t (.pointer (some ⟨b, j.toNat + 0, none⟩)) vv).run P w) := by
 obtain ⟨hO, hown, hA⟩ := M.boxes id _ hb
 obtain ⟨cur, l3, hsz, fin⟩ := Abb (vv := vv) hO hh (j := j.toNat) (by omega)
 have hvc : vv.cells = #[vv] := Q9 hv1
 have e0 : j.toNat + 0 = j.toNat := rfl
 rw [e0, Hb I l3 (by rw [hvc, q6]; rfl) (by rw [q6]; exact hsz) (by rw [hvc]; intro x hx; simp at hx; subst hx; exact hv1), hvc]
 have hbo : b ∈ (β id).own := by rw [hown, hh]; simp [Value.ownBlock]
 have hnd := M.nodup id
 rw [hown] at hnd
 have hnd1 := List.nodup_append.1 hnd
 obtain ⟨M', X⟩ := M.set (w' := w.setRow b (cur.toList.take j.toNat ++ [vv] ++ cur.toList.drop (j.toNat + [vv].length)).toArray)
   id (.rows e e2 u xss v rv (.mix j k)) (β id) rfl rfl rfl (by simp)
   (λ x _ hx => setRow_other _ _ _ _ (by rintro rfl; exact hx hbo)) (λ x hx => .inl hx) (M.nodup id)
   (λ b0 h0 => by rw [hb] at h0; cases h0; exact ⟨rfl, Nat.le_refl _, λ _ => ⟨rfl, rfl, Nat.le_refl _, λ _ => ⟨rfl, λ _ => rfl⟩⟩⟩)
   (λ X => by
     simp only [C5, Acu]
     rw [Ba]
     refine ⟨h0, hlt, k0, klt, vv, hk, fin _ (setRow_heap _ _ _ _ _ _ l3), hown, ?_⟩
     refine Bk.imp_mem' (λ xs x hx hr => hr.later X.later λ b' hb' => setRow_other _ _ _ _ ?_) hA
     rintro rfl
     exact hnd1.2.2 b' (by rw [hh]; simp [Value.ownBlock]) b' (List.mem_flatMap.2 ⟨x, hx, by rw [hb']; simp⟩) rfl)
 exact ⟨_, _, rfl, rfl, M', X⟩
theorem Aho (M : Bq V.T C bx β w) {t : TypeId} {i : TI V.E} {info : TypeInfo} {d : TypeDesc} {z : Value} (I : C6 V P t i info d z) (q6 : i.size = 1)
   {id : Nat} {e e2 : TypeId} {u : Ty} {xss : List (List (u.den V.E))} {v rv : Nat} {a c : Int} (hb : A6 id bx = some (.rows e e2 u xss v rv (.mix a c)))
   {b n cap : Nat} (hh : (β id).hdr = .slice (some ⟨b, 0, none⟩) n cap) {vv : Value} (hv1 : vv.oneCell' = true)
   (hk : (β id).rows[a.toNat]? = some vv) :
   UOk V.T C bx β w none (put id (.rows e e2 u ((xss.set a.toNat (xss.getD c.toNat [])).set c.toNat (xss.getD a.toNat [])) v (rv + 1) .opn) bx)
     ((Instr.storeAt t (.pointer (some ⟨b, c.toNat + 0, none⟩)) vv).run P w) := by
 obtain ⟨a0, alt, c0, clt, rb, hrb, hO, hown, hA⟩ := M.boxes id _ hb
 obtain ⟨cur, l3, hsz, fin⟩ := Abb (vv := vv) hO hh (j := c.toNat) (by omega)
 have hvc : vv.cells = #[vv] := Q9 hv1
 have e0 : c.toNat + 0 = c.toNat := rfl
 rw [e0, Hb I l3 (by rw [hvc, q6]; rfl) (by rw [q6]; exact hsz) (by rw [hvc]; intro x hx; simp at hx; subst hx; exact hv1), hvc]
 have hbo : b ∈ (β id).own := by rw [hown, hh]; simp [Value.ownBlock]
 have hnd := M.nodup id
 rw [hown] at hnd
 have hnd1 := List.nodup_append.1 hnd
 have hp : (((β id).rows.set a.toNat rb).set c.toNat vv).Perm (β id).rows := Anq hk hrb
 have hpo : (obs (((β id).rows.set a.toNat rb).set c.toNat vv)).Perm (obs (β id).rows) := hp.flatMap_right _
 let i' : BI := ⟨(β id).blk, (β id).hdr, (β id).hdr.ownBlock.toList ++ obs (((β id).rows.set a.toNat rb).set c.toNat vv), ((β id).rows.set a.toNat rb).set c.toNat vv⟩
 have hall : ((β id).hdr.ownBlock.toList ++ obs (((β id).rows.set a.toNat rb).set c.toNat vv)).Perm ((β id).hdr.ownBlock.toList ++ obs (β id).rows) := hpo.append_left _
 obtain ⟨M', X⟩ := M.set (w' := w.setRow b (cur.toList.take c.toNat ++ [vv] ++ cur.toList.drop (c.toNat + [vv].length)).toArray)
   id (.rows e e2 u ((xss.set a.toNat (xss.getD c.toNat [])).set c.toNat (xss.getD a.toNat [])) v (rv + 1) .opn) i' rfl rfl rfl (by simp)
   (λ x _ hx => setRow_other _ _ _ _ (by rintro rfl; exact hx hbo)) (λ x hx => .inl (by rw [hown]; exact hall.subset hx)) (hall.symm.nodup hnd)
   (λ b0 h0 => by rw [hb] at h0; cases h0; exact ⟨rfl, Nat.le_refl _, λ _ => ⟨rfl, by simp, by omega, λ e => by omega⟩⟩)
   (λ X => by
     simp only [C5, Ld]
     rw [Ba]
     refine ⟨?_, rfl, ?_⟩
     · have := fin _ (setRow_heap _ _ _ _ _ _ l3)
       simpa [i'] using this
     · refine Bk.of_get (by simp [i', hA.length]) λ m xs x hm hx => ?_
       have hl := hA.length
       have key : ∃ m' : Nat, ((β id).rows[m']? = some x) /\ (xss[m']? = some xs) := by
         simp only [i'] at hx
         by_cases h1 : m = c.toNat
         · subst h1
           rw [List.getElem?_set_self (by simp; omega)] at hm hx
           cases hm; cases hx
           exact ⟨a.toNat, hk, Ot (by omega) _⟩
         · rw [List.getElem?_set_ne (by omega)] at hm hx
           by_cases h2 : m = a.toNat
           · subst h2
             rw [List.getElem?_set_self (by omega)] at hm hx
             cases hm; cases hx
             exact ⟨c.toNat, hrb, Ot (by omega) _⟩
           · rw [List.getElem?_set_ne (by omega)] at hm hx
             exact ⟨m, hx, hm⟩
       obtain ⟨m', g1, g2⟩ := key
       obtain ⟨x', hx', hr⟩ := hA.get m' xs g2
       rw [g1] at hx'; cases hx'
       refine hr.later X.later λ b' hb' => setRow_other _ _ _ _ ?_
       rintro rfl
       exact hnd1.2.2 b' (by rw [hh]; simp [Value.ownBlock]) b' (Kr.2 ⟨x, List.mem_of_getElem? g1, hb'⟩) rfl)
 exact ⟨_, _, rfl, rfl, M', X⟩
end
section
variable {V : Env} {P : Program} {C : Ctx} {bx : List (Nat × Box V.E)} {β : Nat -> BI} {w : World}
variable {res : Option (SV V.E)} {cs : List Prop} {bx' : List (Nat × Box V.E)} {rs ws : List Nat} {ac : Acc}
theorem As2 (HT : V.T.Ok) (M : Bq V.T C bx β w) {t : TypeId} {i : TI V.E} {info : TypeInfo} {d : TypeDesc} {z : Value} (I : C6 V P t i info d z)
   {a v : SV V.E} {va vv : Value} (ha : SR V C bx β w a va) (hv : SR V C bx β w v vv)
   (h : Aj V bx (Va V i a v) rs ws = some (res, cs, bx', ac)) (hc : Gw cs) : UOk V.T C bx β w res bx' ((Instr.storeAt t va vv).run P w) := by
 unfold Va at h
 split at h
 · -- into a box of cells
   rename_i id off c
   simp only [Aj] at h
   split at h
   · rename_i ls hb
     split at h
     · rename_i hlen
       split at h
       · rename_i ls' hs
         simp only [Aj, done, Option.some.injEq, Prod.mk.injEq] at h
         obtain ⟨rfl, _, rfl, _⟩ := h
         have hlen := Aq hlen
         simp only [SR, Bb, A3, Ak, hb] at ha
         obtain ⟨_, rfl⟩ := ha
         have hvc := A3.cells hv
         obtain ⟨cc, e, hown, hheap, hall⟩ := M.boxes id _ hb
         have hpos : 0 < c.leaves.length := by rw [hlen]; exact I.pos
         obtain ⟨hnew, hle⟩ := Vj hall hvc hs hpos
         have hvl : vv.cells.toList.length = i.size := by rw [<- hvc.length, hlen]
         have hvs : vv.cells.size = i.size := by rw [<- Array.length_toList]; exact hvl
         rw [Hb I hheap hvs (by rw [hvl] at hle; simpa using hle) (Yv hvc)]
         obtain ⟨M', X⟩ := M.set (w' := w.setRow (β id).blk (cc.toList.take off ++ vv.cells.toList ++ cc.toList.drop (off + vv.cells.toList.length)).toArray) id (.cells ls') (β id) rfl rfl rfl (by simp)
           (λ x _ hx => setRow_other _ _ _ _ (by rintro rfl; rw [hown] at hx; simp at hx)) (λ x hx => .inl hx) (M.nodup id)
           (λ b0 h0 => by rw [hb] at h0; cases h0; exact Adf _ _ rfl _ _)
           (λ X => ⟨_, e, by rw [Ba]; exact hown, by rw [Ba]; exact setRow_heap _ _ _ _ _ _ hheap, Bk.ext X (by simpa using hnew)⟩)
         exact ⟨_, _, rfl, rfl, M', X⟩
       · simp [Aj] at h
     · simp [Aj] at h
   · simp [Aj] at h
 · -- into an element of a box
   rename_i id ver j off c
   simp only [Aj] at h
   split at h
   · rename_i e u xs v hb
     split at h
     · rename_i hlen
       simp only [Bool.and_eq_true] at hlen
       split at h
       · rename_i ls' hs
         split at h
         · rename_i y hy
           simp only [Aj, done, Option.some.injEq, Prod.mk.injEq] at h
           obtain ⟨rfl, _, rfl, _⟩ := h
           have hl := Aq hlen.2
           simp only [SR, Bb, A3, Ak, hb] at ha
           obtain ⟨_, hle, ha⟩ := ha
           obtain ⟨h0, hlt, b, n, cap, hh, rfl⟩ := ha (Aq hlen.1)
           have hvc := A3.cells hv
           obtain ⟨hown, hA⟩ := M.boxes id _ hb
           have hbo : b ∈ (β id).own := by rw [hown, hh]; simp [Value.ownBlock]
           have hpos : 0 < c.leaves.length := by rw [hl]; exact I.pos
           have hvl : vv.cells.toList.length = i.size := by rw [<- hvc.length, hl]
           have hvs : vv.cells.size = i.size := by rw [<- Array.length_toList]; exact hvl
           obtain ⟨cc, hheap, hsz, fin⟩ := Abf HT hA (i := j.toNat) (by omega) hh hpos hvc hs hy
           rw [Hb I hheap hvs (by rw [hvl] at hsz; exact hsz) (Yv hvc)]
           obtain ⟨M', X⟩ := M.set (w' := w.setRow b (cc.toList.take (j.toNat * u.sz V.T + off) ++ vv.cells.toList ++ cc.toList.drop (j.toNat * u.sz V.T + off + vv.cells.toList.length)).toArray)
             id (.arr e u (xs.set j.toNat y) v false) (β id) rfl rfl rfl (by simp)
             (λ x _ hx => setRow_other _ _ _ _ (by rintro rfl; exact hx hbo)) (λ x hx => .inl hx) (M.nodup id)
             (λ b0 h0 => by rw [hb] at h0; cases h0; exact ⟨rfl, Nat.le_refl _, λ _ => ⟨rfl, by simp⟩⟩)
             (λ X => ⟨by rw [Ba]; exact hown, by rw [Ba]; exact fin _ _ X.later (setRow_heap _ _ _ _ _ _ hheap)⟩)
           exact ⟨_, _, rfl, rfl, M', X⟩
         · simp [Aj] at h
       · simp [Aj] at h
     · simp [Aj] at h
   · -- a row
     rename_i e e2 u xss v rv hb
     split at h
     · rename_i id2 ver2
       simp only [Aj] at h
       split at h
       · rename_i e3 u2 ys v2 hb2
         split at h
         · rename_i hlen
           simp only [Bool.and_eq_true, Bool.not_eq_true'] at hlen
           obtain ⟨⟨⟨⟨⟨q1, q2⟩, q3⟩, q4⟩, q5⟩, q6⟩ := hlen
           have q3 := Aq q3
           have q5 := Aq q5
           have q6 := Aq q6
           have hne : id ≠ id2 := by rintro rfl; simp at q4
           subst q3 q5
           split at h
           · rename_i hu
             subst hu
             simp only [Aj, done, Mg, Option.some.injEq, Prod.mk.injEq] at h
             obtain ⟨rfl, _, rfl, _⟩ := h
             simp only [SR, Bb, A3, Ak, hb] at ha
             simp only [SR, Bb, A3, Ak, hb2] at hv
             obtain ⟨_, hle, ha⟩ := ha
             obtain ⟨h0, hlt, b, n, cap, hh, rfl⟩ := ha (Aq q1)
             have hvv := hv.2.2 (Aq q2)
             obtain ⟨hown2, hA2⟩ := M.boxes id2 _ hb2
             exact Aaw M I q6 hb hne h0 hlt hh hv.1 (by intro b' hb'; rw [hown2, <- hvv, hb']; simp) (by rw [hvv]; exact hA2)
           · simp [Aj] at h
         · simp [Aj] at h
       · simp [Aj] at h
     · -- a row of rows
       rename_i id2 ver2 rv2 k
       split at h
       · rename_i hlen
         simp only [Bool.and_eq_true] at hlen
         obtain ⟨⟨q1, q3⟩, q6⟩ := hlen
         have q3 := Aq q3
         have q6 := Aq q6
         subst q3
         simp only [SR, Bb, A3, Ak, hb] at ha
         obtain ⟨_, hle, ha⟩ := ha
         obtain ⟨h0, hlt, b, n, cap, hh, rfl⟩ := ha (Aq q1)
         split at h
         · rename_i hid
           have hid := Aq hid
           subst hid
           split at h
           · rename_i hr
             simp only [Bool.and_eq_true] at hr
             simp only [Aj, done, Option.some.injEq, Prod.mk.injEq] at h
             obtain ⟨rfl, _, rfl, _⟩ := h
             simp only [SR, Bb, A3, Ak, hb] at hv
             obtain ⟨hv1, _, hv⟩ := hv
             obtain ⟨_, hv⟩ := hv (Aq hr.1)
             obtain ⟨k0, klt, hk⟩ := hv (Aq hr.2)
             exact Ah8 M I q6 hb h0 hlt hh hv1 k0 klt hk
           · simp [Aj] at h
         · rename_i hid
           have hne : id ≠ id2 := by rintro rfl; simp at hid
           simp only [Aj] at h
           split at h
           · rename_i e3 e4 u2 yss v2 rv3 hb2
             split at h
             · rename_i hlen2
               simp only [Bool.and_eq_true] at hlen2
               obtain ⟨⟨p1, p2⟩, p3⟩ := hlen2
               have p3 := Aq p3
               subst p3
               split at h
               · rename_i hu
                 subst hu
                 simp only [Aj, done, Mg, Option.some.injEq, Prod.mk.injEq] at h
                 obtain ⟨rfl, _, rfl, _⟩ := h
                 simp only [SR, Bb, A3, Ak, hb2] at hv
                 obtain ⟨hv1, _, hv⟩ := hv
                 obtain ⟨_, hv⟩ := hv (Aq p1)
                 obtain ⟨k0, klt, hk⟩ := hv (Aq p2)
                 obtain ⟨_, hown2, hA2⟩ := M.boxes id2 _ hb2
                 obtain ⟨x', hx', hr⟩ := hA2.get k.toNat (yss.getD k.toNat []) (Ot (by omega) _)
                 rw [hk] at hx'; cases hx'
                 exact Aaw M I q6 hb hne h0 hlt hh hv1 (λ b' hb' => by rw [hown2]; exact List.mem_append.2 (.inr (List.mem_flatMap.2 ⟨vv, List.mem_of_getElem? hk, by rw [hb']; simp⟩))) hr
               · simp [Aj] at h
             · simp [Aj] at h
           · simp [Aj] at h
       · simp [Aj] at h
     · simp [Aj] at h
   · -- the second of two rows that turn places
     rename_i e e2 u xss v rv p q hb
     split at h
     · rename_i id2 ver2 rv2 k
       split at h
       · rename_i hlen
         simp only [Bool.and_eq_true] at hlen
         obtain ⟨⟨⟨⟨⟨q1, q2⟩, q3⟩, q4⟩, q5⟩, q6⟩ := hlen
         have q3 := Aq q3
         have q4 := Aq q4
         have q6 := Aq q6
         subst q3 q4
         simp only [Aj, Option.some.injEq, Prod.mk.injEq] at h
         obtain ⟨rfl, rfl, rfl, _⟩ := h
         obtain ⟨c1, c2, _⟩ := hc
         subst c1 c2
         simp only [SR, Bb, A3, Ak, hb] at ha hv
         obtain ⟨_, hle, ha⟩ := ha
         obtain ⟨h0, hlt, b, n, cap, hh, rfl⟩ := ha (Aq q1)
         obtain ⟨hv1, _, hv⟩ := hv
         obtain ⟨_, hv⟩ := hv (Aq q2)
         obtain ⟨k0, klt, hk⟩ := hv (Aq q5)
         exact Aho M I q6 hb hh hv1 hk
       · simp [Aj] at h
     · simp [Aj] at h
   · simp [Aj] at h
 · -- into an element of a row
   rename_i id ver rv j k off c
   simp only [Aj] at h
   split at h
   · rename_i e e2 u xss v rv' hb
     split at h
     · rename_i hlen
       simp only [Bool.and_eq_true] at hlen
       split at h
       · rename_i ls' hs
         split at h
         · rename_i y hy
           simp only [Aj, done, Option.some.injEq, Prod.mk.injEq] at h
           obtain ⟨rfl, _, rfl, _⟩ := h
           have hl := Aq hlen.2
           simp only [SR, Bb, A3, Ak, hb] at ha
           obtain ⟨_, hle, ha⟩ := ha
           obtain ⟨hle2, ha⟩ := ha (Aq hlen.1.1)
           obtain ⟨j0, jl, k0, kl, b, n, cap, hh, rfl⟩ := ha (Aq hlen.1.2)
           have hvc := A3.cells hv
           obtain ⟨hO, hown, hA⟩ := M.boxes id _ hb
           have hj : j.toNat < xss.length := by omega
           obtain ⟨x, hx, hrow⟩ := hA.get j.toNat (xss.getD j.toNat []) (by rw [List.getD_eq_getElem?_getD, List.getElem?_eq_getElem hj]; rfl)
           rw [hh] at hx; cases hx
           have hbo : b ∈ (β id).own := by
             rw [hown]
             exact List.mem_append.2 (.inr (List.mem_flatMap.2 ⟨_, List.mem_of_getElem? hh, by simp [Value.ownBlock]⟩))
           have hpos : 0 < c.leaves.length := by rw [hl]; exact I.pos
           have hvl : vv.cells.toList.length = i.size := by rw [<- hvc.length, hl]
           have hvs : vv.cells.size = i.size := by rw [<- Array.length_toList]; exact hvl
           obtain ⟨cc, hheap, hsz, fin⟩ := Abf HT hrow (i := k.toNat) (by omega) rfl hpos hvc hs hy
           rw [Hb I hheap hvs (by rw [hvl] at hsz; exact hsz) (Yv hvc)]
           have hnd := M.nodup id
           rw [hown] at hnd
           have hnd1 := List.nodup_append.1 hnd
           have hbnot : ∀ b', (β id).hdr.ownBlock = some b' -> b' ≠ b := by
             intro b' hb' e
             subst e
             exact hnd1.2.2 b' (by rw [hb']; simp) b' (List.mem_flatMap.2 ⟨_, List.mem_of_getElem? hh, by simp [Value.ownBlock]⟩) rfl
           have hrows : ∀ m x, m ≠ j.toNat -> (β id).rows[m]? = some x -> ∀ b', x.ownBlock = some b' -> b' ≠ b := by
             intro m x hm hx b' hb' e
             subst e
             exact hm (Abk hnd1.2.1 m j.toNat x _ b' hx hh hb' rfl)
           obtain ⟨M', X⟩ := M.set (w' := w.setRow b (cc.toList.take (k.toNat * u.sz V.T + off) ++ vv.cells.toList ++ cc.toList.drop (k.toNat * u.sz V.T + off + vv.cells.toList.length)).toArray)
             id (.rows e e2 u (xss.set j.toNat ((xss.getD j.toNat []).set k.toNat y)) v rv .opn) (β id) rfl rfl rfl (by simp)
             (λ x _ hx => setRow_other _ _ _ _ (by rintro rfl; exact hx hbo)) (λ x hx => .inl hx) (M.nodup id)
             (λ b0 h0 => by
               rw [hb] at h0; cases h0
               have e' := Aq hlen.1.2
               refine ⟨rfl, Nat.le_refl _, λ _ => ⟨rfl, by simp, by omega, λ _ => ⟨rfl, λ m => ?_⟩⟩⟩
               by_cases hm : m = j.toNat
               · subst hm
                 rw [List.getD_eq_getElem?_getD, List.getElem?_set_self hj]; simp
               · rw [List.getD_eq_getElem?_getD, List.getElem?_set_ne (by omega), <- List.getD_eq_getElem?_getD])
             (λ X => by
               refine ⟨?_, by rw [Ba]; exact hown, ?_⟩
               · rw [Ba, List.length_set]
                 exact Lj hO λ b' hb' => setRow_other _ _ _ _ (hbnot b' hb')
               · rw [Ba]
                 refine Bk.of_get (by rw [List.length_set]; exact hA.length) λ m xs x hm hx => ?_
                 by_cases hmj : m = j.toNat
                 · subst hmj
                   rw [List.getElem?_set_self hj] at hm; cases hm
                   rw [hh] at hx; cases hx
                   exact fin _ _ X.later (setRow_heap _ _ _ _ _ _ hheap)
                 · rw [List.getElem?_set_ne (by omega)] at hm
                   obtain ⟨x', hx', hr⟩ := hA.get m xs hm
                   rw [hx] at hx'; cases hx'
                   exact hr.later X.later λ b' hb' => setRow_other _ _ _ _ (hrows m x hmj hx b' hb'))
           have e' := Aq hlen.1.2
           subst e'
           exact ⟨_, _, rfl, rfl, M', X⟩
         · simp [Aj] at h
       · simp [Aj] at h
     · simp [Aj] at h
   · simp [Aj] at h
 · simp [Aj] at h
end
section
variable {V : Env} {P : Program} {C : Ctx} {bx : List (Nat × Box V.E)} {β : Nat -> BI} {w : World}
variable {res : Option (SV V.E)} {cs : List Prop} {bx' : List (Nat × Box V.E)} {rs ws : List Nat} {ac : Acc}
theorem Aq4 {ok : Nat -> Prop} {e : TypeId} {t : Ty} {xs : List (t.den V.E)} {hdr : Value} (h : Hh V.T ok w e t xs hdr) (hok : ∀ b, hdr.ownBlock = some b -> ok b) :
   R2 V.T ok w t false xs hdr /\ (xs ≠ [] -> ∃ b cap, hdr = .slice (some ⟨b, 0, none⟩) xs.length cap) := by
 have h' := h
 obtain ⟨css, ⟨h1, h2⟩, h3⟩ := h
 rcases h2 with ⟨rfl, h0⟩ | ⟨b, cap, cur, rfl, k1, k2, k3, k4, k5, k6⟩
 · have : xs = [] := List.eq_nil_of_length_eq_zero h0
   subst this
   exact ⟨⟨none, 0, by simp, by simp, λ _ => rfl, λ _ _ => rfl, λ ad h => by cases h⟩, λ h => (h rfl).elim⟩
 · refine ⟨⟨some ⟨b, 0, none⟩, cap, by simp, by simpa using k3, (λ h => by cases h), (λ h => by cases h), λ ad had => ?_⟩, λ _ => ⟨b, cap, rfl⟩⟩
   cases had
   refine ⟨λ _ => rfl, Fr.mk _ _ _ λ i x hx => ?_⟩
   rw [List.getElem?_map] at hx
   have hi : i < xs.length := by
     rcases Nat.lt_or_ge i xs.length with h | h
     · exact h
     · rw [List.getElem?_eq_none h] at hx; simp at hx
   rw [Ot hi (t.df V.T)] at hx
   simp at hx; subst hx
   obtain ⟨b', cap', cur', cz, e1, e2, e3, e4, _, e6⟩ := Tf h' hi
   cases e1
   rw [k2] at e2; cases e2
   exact ⟨cz, e3, e4, hok b rfl, λ j v hv => by rw [Nat.zero_add, Cm k2]; exact e6 j v hv⟩
theorem Y9 (M : Bq V.T C bx β w) {id : Nat} {x : Nat} (hx : x ∈ (β id).own) (i' : BI) (hi : i'.own = []) : Bc C (upd β id i') w x := by
 obtain ⟨h1, h2⟩ := M.mine id x hx
 refine ⟨h1, ?_, λ j hj => ?_⟩
 · rcases h2 with h | h
   · exact .inr (.inl h)
   · exact .inr (.inr h)
 · by_cases hji : j = id
   · subst hji; rw [Ba, hi] at hj; simp at hj
   · rw [Cl _ _ hji] at hj; exact hji (M.apart j id x hj hx)
theorem Afx (M : Bq V.T C bx β w) {id : Nat} {e : TypeId} {t : Ty} {xs : List (t.den V.E)} {v : Nat} (hb : A6 id bx = some (.arr e t xs v false)) :
   ∃ β', Bq V.T C (put id (.arr e t xs v true) bx) β' w /\ Ext V.T bx β (Bc C β w) w (put id (.arr e t xs v true) bx) β' (Bc C β' w) w /\ (β' id).hdr = (β id).hdr /\ ∀ j, j ≠ id -> β' j = β j := by
 obtain ⟨hown, hA⟩ := M.boxes id _ hb
 obtain ⟨M', X⟩ := M.frozen id _ (.arr e t xs v true) hb ⟨rfl, Nat.le_refl _, λ _ => ⟨rfl, rfl⟩⟩ λ X => by
   refine ⟨by rw [Ba], ?_⟩
   rw [Ba]
   exact Aq4 (hA.later X.later λ _ _ => rfl) λ b hb => Y9 M (by rw [hown, hb]; simp) _ rfl
 exact ⟨_, M', X, by rw [Ba], λ j hj => Cl _ _ hj⟩
theorem Aby (M : Bq V.T C bx β w) {id : Nat} {e e2 : TypeId} {t : Ty} {xss : List (List (t.den V.E))} {v rv : Nat} (hb : A6 id bx = some (.rows e e2 t xss v rv .opn)) :
   ∃ β', Bq V.T C (put id (.rows e e2 t xss v rv .shut) bx) β' w /\ Ext V.T bx β (Bc C β w) w (put id (.rows e e2 t xss v rv .shut) bx) β' (Bc C β' w) w /\ (β' id).hdr = (β id).hdr /\ ∀ j, j ≠ id -> β' j = β j := by
 obtain ⟨hO, hown, hA⟩ := M.boxes id _ hb
 obtain ⟨M', X⟩ := M.frozen id _ (.rows e e2 t xss v rv .shut) hb ⟨rfl, Nat.le_refl _, λ _ => ⟨rfl, rfl, Nat.le_refl _, λ _ => ⟨rfl, λ _ => rfl⟩⟩⟩ λ X => by
   refine ⟨by rw [Ba], ?_⟩
   rw [Ba]
   show R2 V.T _ w (.sl t) false xss (β id).hdr /\ _
   obtain ⟨l1, l2⟩ := hO
   rcases l2 with ⟨l2, l3⟩ | ⟨g, cap, cur, l2, _, l3, l4, l5, l6, l7⟩
   · have : xss = [] := List.eq_nil_of_length_eq_zero l3
     subst this
     rw [l2]
     exact ⟨⟨none, 0, by simp, by simp, λ _ => rfl, λ _ _ => rfl, λ ad h => by cases h⟩, λ h => (h rfl).elim⟩
   · refine ⟨⟨some ⟨g, 0, none⟩, cap, by rw [l2]; simp, by simpa using l4, (λ h => by cases h), (λ h => by cases h), λ ad had => ?_⟩, λ _ => ⟨g, cap, l2⟩⟩
     cases had
     refine ⟨λ _ => rfl, Fr.mk _ _ _ λ i x hx => ?_⟩
     rw [List.getElem?_map] at hx
     cases hxs : xss[i]? with
     | none => rw [hxs] at hx; simp at hx
     | some xs =>
       rw [hxs] at hx; simp at hx; subst hx
       obtain ⟨y, hy, hr⟩ := hA.get i xs hxs
       refine ⟨[y], (Aq4 (hr.later X.later λ _ _ => rfl) λ b hb => Y9 M (by rw [hown]; exact List.mem_append.2 (.inr (Kr.2 ⟨y, List.mem_of_getElem? hy, hb⟩))) _ rfl).1, rfl, Y9 M (by rw [hown, l2]; simp [Value.ownBlock]) _ rfl, λ j u hu => ?_⟩
       have hj : j = 0 := by
         have := (List.getElem?_eq_some_iff.1 hu).1; simp at this; exact this
       subst hj
       simp at hu; subst hu
       show w.cell? ⟨g, 0 + i * 1 + 0, none⟩ = some y
       rw [Cm l3]
       rw [<- l7, List.getElem?_take] at hy
       split at hy
       · rw [<- Array.getElem?_toList]; simpa using hy
       · cases hy
 exact ⟨_, M', X, by rw [Ba], λ j hj => Cl _ _ hj⟩
theorem Th {bx bx1 : List (Nat × Box V.E)} {β β1 : Nat -> BI} (X : Ext V.T bx β (Bc C β w) w bx1 β1 (Bc C β1 w) w) {t : Ty} {st : Bool} {xs : List (t.den V.E)} {v : Value} (h : R2 V.T (Bc C β w) w t st xs v) :
   Ak V.T bx1 β1 (Bc C β1 w) w (.sl t st xs) v := Br.later X.later _ _ h
def N9 (bx : List (Nat × Box V.E)) (β : Nat -> BI) (bx1 : List (Nat × Box V.E)) (β1 : Nat -> BI) : Prop :=
 ∀ j, A6 j bx = some .gone -> A6 j bx1 = some .gone /\ β1 j = β j
theorem O1 : ∀ (ls : List (A7 V.E)) (vs : List Value) (bx : List (Nat × Box V.E)) (β : Nat -> BI), Bq V.T C bx β w -> Bk (Ak V.T bx β (Bc C β w) w) ls vs ->
   ∀ (k : List (A7 V.E) -> Er V.E) (rs ws : List Nat), Aj V bx (frz V ls k) rs ws = some (res, cs, bx', ac) ->
   ∃ bx1 β1 ls' rs' ws', Bq V.T C bx1 β1 w /\ Ext V.T bx β (Bc C β w) w bx1 β1 (Bc C β1 w) w /\ Bk (Ak V.T bx1 β1 (Bc C β1 w) w) ls' vs /\
     Aj V bx1 (k ls') rs' ws' = some (res, cs, bx', ac) /\ N9 bx β bx1 β1
 | [], _, bx, β, M, .nil, k, rs, ws, h => ⟨bx, β, [], rs, ws, M, Ext.refl _ _ _ _ _, .nil, h, λ j hj => ⟨hj, rfl⟩⟩
 | l :: ls, x :: vs, bx, β, M, .cons h1 h2, k, rs, ws, h => by
   have plain : ∀ (h : Aj V bx (frz V ls λ r => k (l :: r)) rs ws = some (res, cs, bx', ac)), ∃ bx1 β1 ls' rs' ws', Bq V.T C bx1 β1 w /\ Ext V.T bx β (Bc C β w) w bx1 β1 (Bc C β1 w) w /\ Bk (Ak V.T bx1 β1 (Bc C β1 w) w) ls' (x :: vs) /\
       Aj V bx1 (k ls') rs' ws' = some (res, cs, bx', ac) /\ N9 bx β bx1 β1 := by
     intro h
     obtain ⟨bx1, β1, ls', rs', ws', M1, X1, R1, I1, G1⟩ := O1 ls _ bx β M h2 _ _ _ h
     exact ⟨bx1, β1, l :: ls', rs', ws', M1, X1, .cons (Ak.ext X1 _ _ h1) R1, I1, G1⟩
   have kept : ∀ {id : Nat} {b b' : Box V.E} {β2 : Nat -> BI} {bx1 : List (Nat × Box V.E)} {β1 : Nat -> BI}, A6 id bx = some b -> b ≠ .gone -> (∀ j, j ≠ id -> β2 j = β j) -> N9 (put id b' bx) β2 bx1 β1 -> N9 bx β bx1 β1 := by
     intro id b b' β2 bx1 β1 hb hng hβ G j hj
     have hne : j ≠ id := by rintro rfl; rw [hb] at hj; exact hng (by cases hj; rfl)
     obtain ⟨g1, g2⟩ := G j (by rw [A4 hne]; exact hj)
     exact ⟨g1, by rw [g2, hβ j hne]⟩
   cases l with
   | ar id ver =>
     simp only [frz, Aj] at h
     split at h
     · rename_i e t xs v fz hb
       split at h
       · rename_i hv
         have h1' := h1
         simp only [Ak, hb] at h1'
         have hh := h1'.2.2 (Aq hv)
         subst hh
         split at h
         · rename_i hf
           subst hf
           obtain ⟨bx1, β1, ls', rs', ws', M1, X1, R1, I1, G1⟩ := O1 ls _ bx β M h2 _ _ _ h
           obtain ⟨_, hB, _⟩ := M.boxes id _ hb
           exact ⟨bx1, β1, _, rs', ws', M1, X1, .cons (Th X1 hB) R1, I1, G1⟩
         · rename_i hf
           simp only [Bool.not_eq_true] at hf
           subst hf
           simp only [Aj] at h
           obtain ⟨β2, M2, X2, e2, e3⟩ := Afx M hb
           obtain ⟨bx1, β1, ls', rs', ws', M1, X1, R1, I1, G1⟩ := O1 ls _ _ β2 M2 (Bk.ext X2 h2) _ _ _ h
           obtain ⟨_, hB, _⟩ := M2.boxes id _ (A2 _ _ _)
           rw [e2] at hB
           exact ⟨bx1, β1, _, rs', ws', M1, X2.trans X1, .cons (Th X1 hB) R1, I1, kept hb (by simp) e3 G1⟩
       · simp [Aj] at h
     · rename_i e e2 t xss v rv fz hb
       split at h
       · rename_i hv
         have h1' := h1
         simp only [Ak, hb] at h1'
         have hh := h1'.2.2 (Aq hv)
         subst hh
         split at h
         · obtain ⟨bx1, β1, ls', rs', ws', M1, X1, R1, I1, G1⟩ := O1 ls _ bx β M h2 _ _ _ h
           obtain ⟨_, hB, _⟩ := M.boxes id _ hb
           exact ⟨bx1, β1, _, rs', ws', M1, X1, .cons (Th X1 hB) R1, I1, G1⟩
         · simp only [Aj] at h
           obtain ⟨β2, M2, X2, e2, e3⟩ := Aby M hb
           obtain ⟨bx1, β1, ls', rs', ws', M1, X1, R1, I1, G1⟩ := O1 ls _ _ β2 M2 (Bk.ext X2 h2) _ _ _ h
           obtain ⟨_, hB, _⟩ := M2.boxes id _ (A2 _ _ _)
           rw [e2] at hB
           exact ⟨bx1, β1, _, rs', ws', M1, X2.trans X1, .cons (Th X1 hB) R1, I1, kept hb (by simp) e3 G1⟩
         · simp [Aj] at h
       · simp [Aj] at h
     · simp [Aj] at h
   | _ => exact plain h
theorem A1c (HT : V.T.Ok) {t : TypeId} {i : TI V.E} {info : TypeInfo} {d : TypeDesc} {z : Value} (I : C6 V P t i info d z) {x : i.ty.den V.E} (hx : i.ty.ofL V.T i.zero = some x) (ok : Nat -> Prop) (w : World) :
   Br ok w (i.ty.av V.T x) z.cells.toList := by
 have h1 := Oz (T := V.T) (bx := []) (β := λ _ => ⟨0, .nilIface, [], []⟩) (ok := ok) (w := w) I.zeros
 exact (Ka HT _ _ _).1 (L9 (Oi HT hx) h1)
theorem L8 {α β : Type} {R : α -> β -> Prop} {a : α} {b : β} (h : R a b) : ∀ n, Bk R (List.replicate n a) (List.replicate n b)
 | 0 => .nil
 | n + 1 => .cons h (L8 h n)
theorem Azz (n : Nat) : obs (List.replicate n (.slice none 0 0)) = [] := by
 induction n with
 | zero => rfl
 | succ n ih => rw [List.replicate_succ]; exact ih
theorem Axq {ty : Ty} {u : Ty} (hty : ty = .sl u) {x : ty.den V.E} {zz : List (u.den V.E)} (hz : HEq x zz) {zero : List (A7 V.E)} (h : ty.ofL V.T zero = some x) {zs : List Value} (hzs : zls zero zs = true) : zz = [] := by
 subst hty
 have := eq_of_heq hz; subst this
 simp only [Ty.ofL] at h
 split at h
 · rename_i t' st xs
   split at h
   · rename_i e; subst e
     cases h
     cases zs with
     | nil => simp [zls] at hzs
     | cons v vs =>
       simp only [zls, Bool.and_eq_true] at hzs
       obtain ⟨hz, _⟩ := hzs
       cases st <;> cases v <;> simp [zl] at hz
       simp [Mg, hz.1.1.1]
   · cases h
 · cases h
theorem Arc {ty : Ty} {u : Ty} (hty : ty = .sl u) {x : ty.den V.E} {zero : List (A7 V.E)} (h : ty.ofL V.T zero = some x) {zs : List Value} (hzs : zls zero zs = true) : zs = [.slice none 0 0] := by
 subst hty
 simp only [Ty.ofL] at h
 split at h
 · rename_i t' st xs
   cases zs with
   | nil => simp [zls] at hzs
   | cons v vs =>
     simp only [zls, Bool.and_eq_true] at hzs
     obtain ⟨hz, hr⟩ := hzs
     cases vs with
     | cons _ _ => simp [zls] at hr
     | nil =>
       cases st <;> cases v <;> simp [zl] at hz
       obtain ⟨⟨⟨_, rfl⟩, rfl⟩, rfl⟩ := hz
       rfl
 · cases h
theorem Bq.newR (M : Bq V.T C bx β w) {id : Nat} (hid : A6 id bx = none) (b : Box V.E) (o : Obj) (hdr : Value) (rows : List Value)
   (hrep : Ext V.T bx β (Bc C β w) w (put id b bx) (upd β id ⟨w.heap.size, hdr, [w.heap.size], rows⟩) (Bc C (upd β id ⟨w.heap.size, hdr, [w.heap.size], rows⟩) (w.alloc o)) (w.alloc o) ->
     C5 V.T (put id b bx) (upd β id ⟨w.heap.size, hdr, [w.heap.size], rows⟩) (Bc C (upd β id ⟨w.heap.size, hdr, [w.heap.size], rows⟩) (w.alloc o)) (w.alloc o) id b) :
   Bq V.T C (put id b bx) (upd β id ⟨w.heap.size, hdr, [w.heap.size], rows⟩) (w.alloc o) /\
     Ext V.T bx β (Bc C β w) w (put id b bx) (upd β id ⟨w.heap.size, hdr, [w.heap.size], rows⟩) (Bc C (upd β id ⟨w.heap.size, hdr, [w.heap.size], rows⟩) (w.alloc o)) (w.alloc o) := by
 have G := Rr.alloc w o
 refine M.set id b _ G.os G.tape G.output G.size (λ x hx _ => G.heap x hx) ?_ (by simp) ?_ hrep
 · intro x hx; simp at hx; subst hx; exact .inr ⟨Nat.le_refl _, by simp⟩
 · intro b0 h0; rw [hid] at h0; cases h0
theorem Ayx (HT : V.T.Ok) (M : Bq V.T C bx β w) {t e : TypeId} (hu : P.underlying t = some (.slice e)) {i : TI V.E} {info : TypeInfo} {d : TypeDesc} {z : Value} (I : C6 V P e i info d z)
   {dst : Nat} {own : Bool} {kl kc : IntKind} {l c : Int} (h : Aj V bx (X3 V dst e i own l c) rs ws = some (res, cs, bx', ac)) (hc : Gw cs) :
   VOk V.T C bx β w res bx' ((Instr.makeSlice t (.int kl l) (.int kc c)).run P w) := by
 have bound : 0 <= l -> l <= c -> c * i.bytes <= Ap -> (Instr.makeSlice t (.int kl l) (.int kc c)).run P w = .ok (.slice (some ⟨w.heap.size, 0, none⟩) l.toNat c.toNat) (w.alloc (.cells (madeCells z.cells (c.toNat * i.size)) e)) /\ c.toNat <= maxLen := by
   intro h0 h1 h2
   unfold Ap at h2
   have hb := I.bpos
   have hc0 : 0 <= c := by omega
   have h3 : c <= c * i.bytes := by
     have : c * 1 <= c * (i.bytes : Int) := Int.mul_le_mul_of_nonneg_left (by omega) hc0
     omega
   have := run_make (P := P) w t e info z hu I.inf I.zero kl kc l c h0 h1 (by rw [I.bytes, Int.mul_comm]; omega) (by omega)
   rw [I.size] at this
   exact ⟨this, by unfold maxLen; omega⟩
 unfold X3 at h
 split at h
 · rename_i x hx
   split at h
   · rename_i e2 u zz hk hty hz
     have hz0 : zz = [] := Axq hty hz hx I.zeros
     subst hz0
     obtain ⟨hid, rs', ws', h⟩ := H2 h
     obtain ⟨rfl, rfl, rfl⟩ := Az h
     obtain ⟨c1, c2, c3, _⟩ := hc
     obtain ⟨hrun, hml⟩ := bound c1 c2 c3
     rw [hrun]
     have hsz : i.size = 1 := by rw [<- I.ty, hty]; rfl
     have hzv : z.cells.toList = [.slice none 0 0] := Arc hty hx I.zeros
     have hzs : z.cells.size = 1 := by rw [I.zcells, hsz]
     have hrows : (madeCells z.cells (c.toNat * i.size)).toList.take l.toNat = List.replicate l.toNat (.slice none 0 0) := by
       rw [<- I.zcells, Lc _ (by rw [hzs]; omega), hzv]
       obtain ⟨m, hm⟩ : ∃ m, c.toNat = l.toNat + m := ⟨c.toNat - l.toNat, by omega⟩
       rw [hm, <- List.replicate_append_replicate, List.flatten_append, List.take_left' (by simp)]
       simp [List.flatten_replicate_singleton]
     obtain ⟨M', X⟩ := M.newR hid (.rows e e2 u (List.replicate l.toNat []) 0 0 .opn) (.cells (madeCells z.cells (c.toNat * i.size)) e) (.slice (some ⟨w.heap.size, 0, none⟩) l.toNat c.toNat) (List.replicate l.toNat (.slice none 0 0)) λ X => by
       refine ⟨?_, ?_, ?_⟩
       · rw [Ba]
         refine ⟨by simp, .inr ⟨w.heap.size, c.toNat, _, by simp, Nat.zero_le _, heap_alloc_new _ _, by simp; omega, hml, ?_, ?_⟩⟩
         · rw [size_madeCells, hsz]
         · rw [List.length_replicate, Nat.mul_one]; exact hrows
       · rw [Ba]
         show [w.heap.size] = [w.heap.size] ++ obs (List.replicate l.toNat (.slice none 0 0))
         rw [Azz]; rfl
       · rw [Ba]
         exact L8 ⟨[], ⟨by simp, .inl ⟨rfl, rfl⟩⟩, .nil⟩ _
     refine ⟨_, _, _, _, rfl, rfl, ?_, M', X⟩
     simp only [Bb, A3, Ak, A2, Ba]
     exact ⟨rfl, Nat.le_refl _, λ _ => trivial⟩
   · rename_i x _
     obtain ⟨hid, rs', ws', h⟩ := H2 h
     obtain ⟨rfl, rfl, rfl⟩ := Az h
     obtain ⟨c1, c2, c3, _⟩ := hc
     obtain ⟨hrun, hml⟩ := bound c1 c2 c3
     rw [hrun]
     have hzs : z.cells.size = i.ty.sz V.T := by rw [I.zcells, I.ty]
     obtain ⟨M', X⟩ := M.new hid (.arr e i.ty (List.replicate l.toNat x) 0 false) (.cells (madeCells z.cells (c.toNat * i.size)) e) (.slice (some ⟨w.heap.size, 0, none⟩) l.toNat c.toNat) [w.heap.size] (.inl rfl) λ X => by
       refine ⟨by rw [Ba]; rfl, ?_⟩
       rw [Ba]
       refine ⟨List.replicate l.toNat z.cells.toList, ⟨?_, .inr ⟨w.heap.size, c.toNat, _, by simp, Nat.zero_le _, heap_alloc_new _ _, by simp; omega, hml, ?_, ?_⟩⟩, ?_⟩
       · simp [hzs]
       · rw [size_madeCells, I.ty]
       · rw [<- I.zcells, Lc _ (by rw [I.zcells]; exact I.pos), List.length_replicate, <- hzs]
         obtain ⟨m, hm⟩ : ∃ m, c.toNat = l.toNat + m := ⟨c.toNat - l.toNat, by omega⟩
         rw [hm, <- List.replicate_append_replicate, List.flatten_append, List.take_left' (by simp)]
       · exact L8 ⟨A1c HT I hx _ _, by rw [Array.length_toList]; exact hzs⟩ _
     refine ⟨_, _, _, _, rfl, rfl, ?_, M', X⟩
     simp only [Bb, A3, Ak, A2, Ba]
     exact ⟨rfl, Nat.le_refl _, λ _ => trivial⟩
 · simp [Aj] at h
end
end Go.Ab
