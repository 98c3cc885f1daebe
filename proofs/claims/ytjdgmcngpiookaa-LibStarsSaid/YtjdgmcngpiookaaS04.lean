/- What append comes to, with the block that it leaves. Appends to arrays of one's own. Built structs and slices, the lesser and the greater one, function values. Built slices, the lesser and the greater one, function values. What is known of a function, and what a call comes to. Conditions: none beyond those that each theorem names. -/
import Derived.Test.YtjdgmcngpiookaaS03
namespace Go.Ab
open Go
section
variable {P : Program} (w : World)
theorem Mu (t t2 ty e e2 : TypeId) (i : TypeInfo) (z : Value) (ht : P.underlying t = some (.slice e)) (ht2 : P.underlying t2 = some (.slice e2)) (hi : P.info? e = some i) (hz : i.zero = some z)
   (hzs : z.cells.size = i.size) (v : Value) (n : Nat) (xs : List Value) (hown : w.ownsRow 0 e i.size v n xs)
   (ao : Option Addr) (m c : Nat) (news : List Value) (hnil : ao = none -> m = 0) (hl : news.length = m * i.size) (hnews : ∀ a, ao = some a -> ∀ j u, news[j]? = some u -> w.cell? (a.add j) = some u)
   (h1 : ∀ u ∈ news, u.oneCell' = true) (hbytes : (n + m) * i.bytes <= 140737488355328) (hbp : 0 < i.bytes) :
   ∃ v' w', (Builtin.append_ #[t, t2] ty #[v, .slice ao m c]).run P w = .ok v' w' /\ w'.ownsRow 0 e i.size v' (n + m) (xs ++ news) /\ w.grownBy w' v.ownBlock /\
     (v'.ownBlock = v.ownBlock \/ (v'.ownBlock = some w.heap.size /\ w.heap.size < w'.heap.size)) := by
 have h63 : n + m <= 140737488355328 := Nat.le_trans (Nat.le_mul_of_pos_right _ hbp) hbytes
 have h63' : n + m <= maxLen := by unfold maxLen; omega
 have hlen : (xs ++ news).length = (n + m) * i.size := by rw [List.length_append, hown.1, hl, Nat.add_mul]
 cases ao with
 | none =>
   obtain rfl := hnil rfl
   have hn : news = [] := List.eq_nil_of_length_eq_zero (by simpa using hl)
   subst hn
   have hv : ∃ a cap, v = .slice a n cap /\ n <= cap := by
     rcases hown.2 with ⟨rfl, rfl⟩ | ⟨g, cap, cur, rfl, _, _, h, _⟩
     · exact ⟨_, _, rfl, Nat.le_refl _⟩
     · exact ⟨_, _, rfl, h⟩
   obtain ⟨a, cap, rfl, hcap⟩ := hv
   refine ⟨.slice a n cap, w, ?_, by simpa using hown, ⟨rfl, rfl, rfl, Nat.le_refl _, λ _ _ _ => rfl⟩, .inl rfl⟩
   cases a <;> simp [Builtin.append_, run_underlying ht, run_underlying ht2, sizeOf, typeInfo, hi, Builtin.lenOf, Builtin.firstCells, hcap, storeCells]
 | some ad =>
   have hnews := hnews ad rfl
   have grown : ∀ (old : Nat), old < n + m -> ∀ (row : Option Nat),
       (w.drew.alloc (.cells (xs.toArray ++ news.toArray ++ Builtin.zeroCells z.cells (grownCap w (n + m) old e - (n + m))) e)).ownsRow 0 e i.size
         (.slice (some ⟨w.heap.size, 0, none⟩) (n + m) (grownCap w (n + m) old e)) (n + m) (xs ++ news) /\
       w.grownBy (w.drew.alloc (.cells (xs.toArray ++ news.toArray ++ Builtin.zeroCells z.cells (grownCap w (n + m) old e - (n + m))) e)) row := by
     intro old ho row
     have hge := grownCap_ge w (n + m) old e
     have hcm : grownCap w (n + m) old e <= maxLen := grownCap_le_maxLen w (n + m) old e h63'
     refine ⟨⟨hlen, .inr ⟨w.heap.size, _, _, rfl, Nat.zero_le _, heap_alloc_new w.drew _, hge, hcm, ?_, ?_⟩⟩, ⟨rfl, rfl, rfl, by simp, λ k hk _ => heap_alloc_old w.drew _ k hk⟩⟩
     · simp only [Array.size_append, List.size_toArray, size_zeroCells, hzs, hown.1, hl, <- Nat.add_mul]
       congr 1
       omega
     · simp only [Array.toList_append, List.append_assoc]
       rw [<- List.append_assoc, <- hlen]
       exact List.take_left
   have hfresh : ∀ o : Obj, w.heap.size < (w.drew.alloc o).heap.size := by intro o; simp
   have hf := run_firstCells_some (P := P) w i.size m ad m c news hl hnews
   have hf' := run_firstCells_some (P := P) w.drew i.size m ad m c news hl (by simpa using hnews)
   rcases hown.2 with ⟨rfl, rfl⟩ | ⟨g, cap, cur, rfl, hbg, hg, hnc, hcm, hcs, htake⟩
   · have hx : xs = [] := List.eq_nil_of_length_eq_zero (by simpa using hown.1)
     subst hx
     by_cases hm : m = 0
     · subst hm
       have hn : news = [] := List.eq_nil_of_length_eq_zero (by simpa using hl)
       subst hn
       refine ⟨.slice none 0 0, w, ?_, World.ownsRow_nil w 0 e i.size, ⟨rfl, rfl, rfl, Nat.le_refl _, λ _ _ _ => rfl⟩, .inl rfl⟩
       simp [Builtin.append_, run_underlying ht, run_underlying ht2, sizeOf, typeInfo, hi, Builtin.lenOf, Builtin.firstCells, loadCells, loadCellsFrom]
     · have h63'' : ¬ (9223372036854775807 < (m : Int)) := by omega
       have h48' : ¬ (281474976710656 < Builtin.nextslicecap m 0 * i.bytes) := by rw [nextslicecap_zero (by omega)]; simp only [Nat.zero_add] at hbytes; omega
       have hr : (Builtin.append_ #[t, t2] ty #[.slice none 0 0, .slice (some ad) m c]).run P w =
           .ok (.slice (some ⟨w.heap.size, 0, none⟩) m (grownCap w m 0 e)) (w.drew.alloc (.cells (news.toArray ++ Builtin.zeroCells z.cells (grownCap w m 0 e - m)) e)) := by
         simp [Builtin.append_, run_underlying ht, run_underlying ht2, sizeOf, typeInfo, zeroValue, hi, hz, Builtin.lenOf, hm, h63'', h48', Question.forced, run_firstCells_none, hf', newRow, grownCap]
       have hgr := grown 0 (by omega) (Value.ownBlock (.slice none 0 0))
       simp only [Nat.zero_add, List.nil_append, Array.empty_append] at hgr ⊢
       exact ⟨_, _, hr, hgr.1, hgr.2, .inr ⟨rfl, hfresh _⟩⟩
   · by_cases hroom : n + m <= cap
     · have hfit : n * i.size + news.length <= cur.size := by rw [hl, hcs, <- Nat.add_mul]; exact Nat.mul_le_mul_right _ hroom
       have hst := run_storeCells_at (P := P) g (n * i.size) e news 0 cur w hg (by simpa using hfit) h1
       simp only [Nat.add_zero] at hst
       have hr : (Builtin.append_ #[t, t2] ty #[.slice (some ⟨g, 0, none⟩) n cap, .slice (some ad) m c]).run P w =
           .ok (.slice (some ⟨g, 0, none⟩) (n + m) cap) (w.setRow g (cur.toList.take (n * i.size) ++ news ++ cur.toList.drop (n * i.size + news.length)).toArray) := by
         simp [Builtin.append_, run_underlying ht, run_underlying ht2, sizeOf, typeInfo, hi, Builtin.lenOf, hroom, hf, Addr.add_lit, hst]
       refine ⟨_, _, hr, ⟨hlen, .inr ⟨g, cap, _, rfl, hbg, setRow_heap w g cur _ e _ hg, hroom, hcm, ?_, ?_⟩⟩, ⟨rfl, rfl, rfl, by simp, λ k _ hk => setRow_other w g k _ (λ e => hk (by simp [Value.ownBlock, e]))⟩, .inl rfl⟩
       · simp only [List.size_toArray, List.length_append, List.length_take, List.length_drop, Array.length_toList]
         omega
       · rw [htake, <- hlen]
         exact List.take_left
     · have holds : ∀ j u, xs[j]? = some u -> w.cell? ((⟨g, 0, none⟩ : Addr).add j) = some u := hown.cells (g := g) rfl
       have hn : ¬ (n + m <= cap) := hroom
       have h63'' : ¬ (9223372036854775807 < ((n : Int) + (m : Int))) := by omega
       have h48' : ¬ (281474976710656 < Builtin.nextslicecap (n + m) cap * i.bytes) := by have := growslice_fits (need := n + m) (old := cap) (bytes := i.bytes) (by omega) hbytes; omega
       have hfo := run_firstCells_some (P := P) w.drew i.size n ⟨g, 0, none⟩ n cap xs hown.1 (by simpa using holds)
       have hr : ∃ cells, (Builtin.append_ #[t, t2] ty #[.slice (some ⟨g, 0, none⟩) n cap, .slice (some ad) m c]).run P w =
           .ok (.slice (some ⟨w.heap.size, 0, none⟩) (n + m) (grownCap w (n + m) cap e)) (w.drew.alloc (.cells cells e)) /\
           cells = xs.toArray ++ news.toArray ++ Builtin.zeroCells z.cells (grownCap w (n + m) cap e - (n + m)) := by
         refine ⟨_, ?_, rfl⟩
         simp [Builtin.append_, run_underlying ht, run_underlying ht2, sizeOf, typeInfo, zeroValue, hi, hz, Builtin.lenOf, hn, h63'', h48', Question.forced, hf', hfo, newRow, grownCap]
         congr 2
         apply Array.ext'
         simp
       obtain ⟨cells, hr, hcells⟩ := hr
       subst hcells
       have hgr := grown cap (by omega) (Value.ownBlock (.slice (some ⟨g, 0, none⟩) n cap))
       exact ⟨_, _, hr, hgr.1, hgr.2, .inr ⟨rfl, hfresh _⟩⟩
end
mutual
theorem Bx.one {ok : Nat -> Prop} {w : World} : ∀ (x : AV) (cs : List Value), Bx ok w x cs -> ∀ v ∈ cs, v.oneCell' = true
 | .int _ _, cs, h, v, hv => by simp only [Bx] at h; subst h; simp at hv; subst hv; rfl
 | .bool _, cs, h, v, hv => by simp only [Bx] at h; subst h; simp at hv; subst hv; rfl
 | .str _, cs, h, v, hv => by simp only [Bx] at h; subst h; simp at hv; subst hv; rfl
 | .sl _ _ _, cs, h, v, hv => by simp only [Bx] at h; obtain ⟨a, cap, h, _⟩ := h; subst h; simp at hv; subst hv; rfl
 | .ag xs, cs, h, v, hv => Gt.one xs cs h v hv
theorem Gt.one {ok : Nat -> Prop} {w : World} : ∀ (xs : List AV) (cs : List Value), Gt ok w xs cs -> ∀ v ∈ cs, v.oneCell' = true
 | [], cs, h, v, hv => by simp only [Gt] at h; subst h; simp at hv
 | x :: xs, cs, h, v, hv => by
   simp only [Gt] at h
   obtain ⟨c1, c2, rfl, h1, h2⟩ := h
   rcases List.mem_append.1 hv with hv | hv
   · exact Bx.one x c1 h1 v hv
   · exact Gt.one xs c2 h2 v hv
end
section
variable {V : Env} {P : Program} {C : Ctx} {bx : List (Nat × Box V.E)} {β : Nat -> BI} {w : World}
variable {res : Option (SV V.E)} {cs : List Prop} {bx' : List (Nat × Box V.E)} {rs ws : List Nat} {ac : Acc}
theorem Yo {ok : Nat -> Prop} {t : Ty} : ∀ (xs : List (t.den V.E)) (blk off : Nat), Eo ok w (t.sz V.T) (xs.map (t.av V.T)) blk off ->
   ∃ css : List (List Value), Bj (λ x cs => Bx ok w (t.av V.T x) cs /\ cs.length = t.sz V.T) xs css /\ ∀ j u, css.flatten[j]? = some u -> w.cell? ⟨blk, off + j, none⟩ = some u
 | [], _, _, _ => ⟨[], .nil, λ j u h => by simp at h⟩
 | x :: xs, blk, off, h => by
   obtain ⟨⟨cs, h1, h2, h3⟩, h4⟩ := h
   obtain ⟨css, k1, k2⟩ := Yo xs blk (off + t.sz V.T) h4
   refine ⟨cs :: css, .cons ⟨h1, h2⟩ k1, λ j u hj => ?_⟩
   rw [List.flatten_cons] at hj
   by_cases hl : j < cs.length
   · rw [List.getElem?_append_left hl] at hj; exact h3.2 j u hj
   · rw [List.getElem?_append_right (by omega)] at hj
     have := k2 _ _ hj
     rw [show off + t.sz V.T + (j - cs.length) = off + j by omega] at this
     exact this
theorem Ad5 {ok : Nat -> Prop} {t : Ty} {st : Bool} {xs : List (t.den V.E)} {v : Value} (h : P6 V.T ok w t st xs v) :
   ∃ ao c css, v = .slice ao xs.length c /\ (ao = none -> xs.length = 0) /\ Bj (λ x cs => Bx ok w (t.av V.T x) cs /\ cs.length = t.sz V.T) xs css /\
     ∀ a, ao = some a -> ∀ j u, css.flatten[j]? = some u -> w.cell? (a.add j) = some u := by
 obtain ⟨a, cap, hv, hcap, hn, _, hm⟩ := h
 simp only [List.cons.injEq, and_true, List.length_map] at hv hcap
 subst hv
 cases a with
 | none =>
   have hx : xs = [] := List.eq_nil_of_length_eq_zero (by have := hn rfl; omega)
   subst hx
   exact ⟨none, cap, [], rfl, λ _ => rfl, .nil, λ a h => by cases h⟩
 | some ad =>
   obtain ⟨hs, hm2⟩ := hm ad rfl
   obtain ⟨css, k1, k2⟩ := Yo xs _ _ hm2
   refine ⟨some ad, cap, css, rfl, (λ h => by cases h), k1, λ a ha j u hj => ?_⟩
   cases ha
   rw [Acy (hs λ h => ?_)]
   · exact k2 j u hj
   · have hx : xs = [] := by simpa using h
     subst hx
     cases k1
     simp at hj
theorem Vi {t : Ty} {ok : Nat -> Prop} : ∀ {xs : List (t.den V.E)} {css : List (List Value)}, Bj (λ x cs => Bx ok w (t.av V.T x) cs /\ cs.length = t.sz V.T) xs css -> css.flatten.length = xs.length * t.sz V.T
 | _, _, .nil => by simp
 | _, _, .cons h k => by rw [List.flatten_cons, List.length_append, Vi k, h.2, List.length_cons, Nat.add_mul]; omega
theorem Adr {t : Ty} {ok : Nat -> Prop} {xs : List (t.den V.E)} {css : List (List Value)} (h : Bj (λ x cs => Bx ok w (t.av V.T x) cs /\ cs.length = t.sz V.T) xs css) : ∀ u ∈ css.flatten, u.oneCell' = true := by
 intro u hu
 obtain ⟨cs, hcs, hu⟩ := List.mem_flatten.1 hu
 obtain ⟨n, hn⟩ := List.getElem?_of_mem hcs
 obtain ⟨x, _, hx⟩ := h.get' n cs hn
 exact Bx.one _ _ hx.1 u hu
theorem Bo.appended (M : Bo V.T C bx β w) {id : Nat} (b' : Box V.E) {w' : World} (hg : w.grownBy w' (β id).hdr.ownBlock) (hown : ∀ x, (β id).hdr.ownBlock = some x -> x ∈ (β id).own)
   (i' : BI) (hi : ∀ x ∈ i'.own, x ∈ (β id).own \/ (w.heap.size <= x /\ x < w'.heap.size)) (hnd : i'.own.Nodup)
   (hcompat : ∀ b, A3 id bx = some b -> E2 V.T (β id) i' b b')
   (hrep : Ext V.T bx β (Bb C β w) w (put id b' bx) (upd β id i') (Bb C (upd β id i') w') w' -> Cu V.T (put id b' bx) (upd β id i') (Bb C (upd β id i') w') w' id b') :
   Bo V.T C (put id b' bx) (upd β id i') w' /\ Ext V.T bx β (Bb C β w) w (put id b' bx) (upd β id i') (Bb C (upd β id i') w') w' :=
 M.set id b' i' hg.os hg.tape hg.output hg.size (λ x hx hn => hg.block x hx (λ e => hn (hown x e.symm))) hi hnd hcompat hrep
theorem No (v : Value) : v.ownBlock.toList.Nodup := by cases v.ownBlock <;> simp
theorem Amu (M : Bo V.T C bx β w) {t u e e' : TypeId} (hu : P.underlying t = some (.slice e)) (hu2 : P.underlying u = some (.slice e')) {i : TI V.E} {info : TypeInfo} {d : TypeDesc} {z : Value} (I : Dc V P e i info d z)
   {dst : Nat} {a b : SV V.E} {va vb : Value} (ha : SR V C bx β w a va) (hb : SR V C bx β w b vb) (ty : TypeId)
   (h : Al V bx (Qc V dst e i a b) rs ws = some (res, cs, bx', ac)) (hc : Ff cs) :
   VOk V.T C bx β w res bx' ((Builtin.append_ #[t, u] ty #[va, vb]).run P w) := by
 have hzs : z.cells.size = info.size := by rw [I.zcells, I.size]
 unfold Qc at h
 split at h
 · -- nothing yet, and a slice
   rename_i t0 t1 st ys
   split at h
   · rename_i ht
     subst ht
     split at h
     · rename_i hty
       obtain ⟨hid, rs', ws', h⟩ := Gy h
       obtain ⟨rfl, rfl, rfl⟩ := Ax h
       have hc := hc.1
       simp only [SR, A8, A2, Ak] at ha hb
       obtain ⟨a0, cap0, hv, _, hn0, hs0, _⟩ := ha
       have := hs0 rfl (by simp)
       subst this
       have := hn0 rfl
       subst this
       simp only [List.map_nil, List.length_nil, List.cons.injEq, and_true] at hv
       subst hv
       obtain ⟨ao, c, css, rfl, k1, k2, k3⟩ := Ad5 hb
       have hsz : t1.sz V.T = info.size := by rw [hty, I.ty, I.size]
       obtain ⟨v', w', hr, ho, hg, hf⟩ := Mu (P := P) w t u ty e e' info z hu hu2 I.inf I.zero hzs (.slice none 0 0) 0 [] (World.ownsRow_nil w 0 e info.size) ao ys.length c css.flatten k1
         (by rw [Vi k2, hsz]) k3 (Adr k2) (by rw [Nat.zero_add, I.bytes]; exact hc) (by rw [I.bytes]; exact I.bpos)
       rw [hr]
       simp only [List.nil_append, Nat.zero_add] at ho
       have hlt : ∀ x, v'.ownBlock = some x -> w.heap.size <= x /\ x < w'.heap.size := by
         intro x hx
         rcases hf with hf | ⟨hf, hlt⟩
         · rw [hf] at hx; cases hx
         · rw [hf] at hx; cases hx; exact ⟨Nat.le_refl _, hlt⟩
       have hnone : (β dst).own = [] := M.nones dst hid
       obtain ⟨M', X⟩ := M.set dst (.arr e t1 (K0 rfl ys) 0 false) ⟨0, v', v'.ownBlock.toList, []⟩ hg.os hg.tape hg.output hg.size (λ x hx _ => hg.block x hx (by simp [Value.ownBlock]))
         (λ x hx => .inr (hlt x (by simpa using hx))) (No _) (λ b0 h0 => by rw [hid] at h0; cases h0)
         (λ X => ⟨by rw [A9], by
           rw [A9]
           refine ⟨css, ?_, k2.imp λ x cs q => ⟨Bx.later X.later _ _ q.1, q.2⟩⟩
           rw [hsz]; exact ho⟩)
       refine ⟨_, _, _, _, rfl, rfl, ?_, M', X⟩
       simp only [A8, A2, Ak, A1, A9]
       refine ⟨?_, Nat.le_refl _, λ _ => trivial⟩
       obtain ⟨_, q⟩ := ho
       rcases q with ⟨q, _⟩ | ⟨_, _, _, q, _⟩ <;> rw [q] <;> rfl
     · simp [Al] at h
   · simp [Al] at h
 · -- an array, and a slice
   rename_i id ver t1 st ys
   simp only [Al] at h
   split at h
   · rename_i e0 t0 xs v hb0
     split at h
     · rename_i hv
       simp only [Bool.and_eq_true, decide_eq_true_eq] at hv
       obtain ⟨⟨hv1, hv2⟩, hty⟩ := hv
       have hv2 := Ap hv2
       subst hv2
       split at h
       · rename_i ht
         subst ht
         simp only [Al, D0.one, Option.some.injEq, Prod.mk.injEq] at h
         obtain ⟨rfl, rfl, rfl, _⟩ := h
         have hc := hc.1
         simp only [SR, A8, A2, Ak] at ha hb
         rw [hb0] at ha
         have hva := ha.2.2 (Ap hv1)
         obtain ⟨hown, css0, hO, hA⟩ := M.boxes id _ hb0
         obtain ⟨ao, c, css, rfl, k1, k2, k3⟩ := Ad5 hb
         have hsz : t1.sz V.T = info.size := by rw [hty, I.ty, I.size]
         rw [hsz] at hO
         obtain ⟨v', w', hr, ho, hg, hf⟩ := Mu (P := P) w t u ty e0 e' info z hu hu2 I.inf I.zero hzs va xs.length css0.flatten (by rw [hva]; exact hO) ao ys.length c css.flatten k1
           (by rw [Vi k2, hsz]) k3 (Adr k2) (by rw [I.bytes]; exact hc) (by rw [I.bytes]; exact I.bpos)
         rw [hr]
         obtain ⟨M', X⟩ := M.appended (id := id) (.arr e0 t1 (xs ++ K0 rfl ys) (v + 1) false) (by rw [<- hva]; exact hg) (λ x hx => by rw [hown, hx]; simp) ⟨0, v', v'.ownBlock.toList, []⟩
           (λ x hx => by
             have hx : v'.ownBlock = some x := by simpa using hx
             rcases hf with hf | ⟨hf, hlt⟩
             · left; rw [hown, <- hva, <- hf, hx]; simp
             · right; rw [hf] at hx; cases hx; exact ⟨Nat.le_refl _, hlt⟩) (No _)
           (λ b0 h0 => by rw [hb0] at h0; cases h0; exact ⟨rfl, by omega, λ e => by omega⟩)
           (λ X => ⟨by rw [A9], by
             rw [A9]
             refine ⟨css0 ++ css, ?_, Bj.append (hA.imp λ x cs q => ⟨Bx.later X.later _ _ q.1, q.2⟩) (k2.imp λ x cs q => ⟨Bx.later X.later _ _ q.1, q.2⟩)⟩
             rw [hsz, List.flatten_append, List.length_append]; exact ho⟩)
         refine ⟨_, _, _, _, rfl, rfl, ?_, M', X⟩
         simp only [A8, A2, Ak, A1, A9]
         refine ⟨?_, Nat.le_refl _, λ _ => trivial⟩
         obtain ⟨_, q⟩ := ho
         rcases q with ⟨q, _⟩ | ⟨_, _, _, q, _⟩ <;> rw [q] <;> rfl
       · simp [Al] at h
     · simp [Al] at h
   · simp [Al] at h
 · -- rows, and one row more
   rename_i id ver id2 ver2
   simp only [Al] at h
   split at h
   · rename_i e0 e2 t0 xss v rv hb0
     simp only [Al] at h
     split at h
     · rename_i e3 t2 ys v2 hb2
       split at h
       · rename_i hv
         simp only [Bool.and_eq_true, Bool.not_eq_true'] at hv
         obtain ⟨⟨⟨⟨⟨q1, q2⟩, q3⟩, q4⟩, q5⟩, q6⟩ := hv
         have q4 := Ap q4
         have q5 := Ap q5
         have q6 := Ap q6
         have hne : id ≠ id2 := by rintro rfl; simp at q3
         subst q4 q5
         split at h
         · rename_i ht
           subst ht
           simp only [Al, D0.one, K0, Option.some.injEq, Prod.mk.injEq] at h
           obtain ⟨rfl, rfl, rfl, _⟩ := h
           have hc := hc.1
           simp only [SR, A8, A2, Ak, Bs] at ha hb
           rw [hb0] at ha
           have hva := ha.2.2 (Ap q1)
           obtain ⟨bb, vs, cc, ee, rfl, hokb, hheapb, hcc, vv, r, rfl, hvv, rfl⟩ := hb
           rw [hb2] at hvv
           obtain ⟨hone, _, hvv⟩ := hvv
           have hvv := hvv (Ap q2)
           obtain ⟨hO, hown, hA⟩ := M.boxes id _ hb0
           obtain ⟨hown2, hA2⟩ := M.boxes id2 _ hb2
           have hsz : info.size = 1 := by rw [I.size, q6]
           obtain ⟨v', w', hr, ho, hg, hf⟩ := Mu (P := P) w t u ty e0 e' info z hu hu2 I.inf I.zero hzs va xss.length (β id).rows (by rw [hva, hsz]; exact hO) (some ⟨bb, 0, none⟩) 1 1 [vv] (λ h => by cases h)
             (by simp [hsz]) (λ a ha j x hx => by
               cases ha
               rw [Hy, B9 hheapb, <- Array.getElem?_toList, hcc, Nat.zero_add]; exact hx) (λ x hx => by simp at hx; subst hx; exact hone) (by rw [I.bytes]; exact hc) (by rw [I.bytes]; exact I.bpos)
           simp only [List.length_cons, List.length_nil, Nat.zero_add]
           rw [hr]
           have hnd := M.nodup id
           rw [hown] at hnd
           have hnd1 := List.nodup_append.1 hnd
           have fresh2 : ∀ b', vv.ownBlock = some b' -> b' ∈ (β id2).own := by intro b' hb'; rw [hown2, <- hvv, hb']; simp
           have hmemR : ∀ b', b' ∈ obs ((β id).rows ++ [vv]) -> b' ∈ obs (β id).rows \/ vv.ownBlock = some b' := by
             intro b' hb'
             obtain ⟨x, hx, hxb⟩ := I6.1 hb'
             rcases List.mem_append.1 hx with hx | hx
             · exact .inl (I6.2 ⟨x, hx, hxb⟩)
             · simp at hx; subst hx; exact .inr hxb
           have hobs : obs ((β id).rows ++ [vv]) = obs (β id).rows ++ vv.ownBlock.toList := by simp [obs]
           have hndR : (obs ((β id).rows ++ [vv])).Nodup := by
             rw [hobs]
             refine List.nodup_append.2 ⟨hnd1.2.1, No _, λ x hx y hy e => ?_⟩
             subst e
             exact hne (M.apart id id2 x (by rw [hown]; exact List.mem_append.2 (.inr hx)) (fresh2 x (by simpa using hy)))
           let i' : BI := ⟨0, v', v'.ownBlock.toList ++ obs ((β id).rows ++ [vv]), (β id).rows ++ [vv]⟩
           let β' : Nat -> BI := upd (upd β id2 { β id2 with own := [] }) id i'
           have hβid : β' id = i' := A9 _ _ _
           have hβid2 : β' id2 = { β id2 with own := [] } := by rw [show β' id2 = upd β id2 { β id2 with own := [] } id2 from B8 _ _ hne.symm, A9]
           have hlt : ∀ x, x ∈ (β id).own \/ x ∈ (β id2).own -> x < w.heap.size := by
             rintro x (hx | hx)
             · exact (M.mine _ x hx).1
             · exact (M.mine _ x hx).1
           have hmem : ∀ x ∈ i'.own, (x ∈ (β id).own \/ x ∈ (β id2).own) \/ (w.heap.size <= x /\ x < w'.heap.size) := by
             intro x hx
             rcases List.mem_append.1 hx with hx | hx
             · have hx : v'.ownBlock = some x := by simpa using hx
               rcases hf with hf | ⟨hf, hl⟩
               · left; left; rw [hown, <- hva, <- hf, hx]; simp
               · right; rw [hf] at hx; cases hx; exact ⟨Nat.le_refl _, hl⟩
             · rcases hmemR x hx with hx | hx
               · left; left; rw [hown]; exact List.mem_append.2 (.inr hx)
               · left; right; exact fresh2 x hx
           have hdis : ∀ x, v'.ownBlock = some x -> x ∉ obs ((β id).rows ++ [vv]) := by
             intro x hx hx2
             have hin : x ∈ (β id).own \/ x ∈ (β id2).own := by
               rcases hmemR x hx2 with h | h
               · left; rw [hown]; exact List.mem_append.2 (.inr h)
               · right; exact fresh2 x h
             rcases hf with hf | ⟨hf, _⟩
             · have hxo : (β id).hdr.ownBlock = some x := by rw [<- hva, <- hf, hx]
               rcases hmemR x hx2 with h | h
               · exact hnd1.2.2 x (by rw [hxo]; simp) x h rfl
               · exact hne (M.apart id id2 x (by rw [hown, hxo]; simp) (fresh2 x h))
             · rw [hf] at hx; cases hx
               exact Nat.lt_irrefl _ (hlt _ hin)
           have hrowheap : ∀ b', b' ∈ obs ((β id).rows ++ [vv]) -> w'.heap[b']? = w.heap[b']? := by
             intro b' hb'
             have hin : b' ∈ (β id).own \/ b' ∈ (β id2).own := by
               rcases hmemR b' hb' with h | h
               · left; rw [hown]; exact List.mem_append.2 (.inr h)
               · right; exact fresh2 b' h
             refine hg.block b' (hlt _ hin) λ e => ?_
             have hxo : (β id).hdr.ownBlock = some b' := by rw [<- hva]; exact e.symm
             rcases hmemR b' hb' with h | h
             · exact hnd1.2.2 b' (by rw [hxo]; simp) b' h rfl
             · exact hne (M.apart id id2 b' (by rw [hown, hxo]; simp) (fresh2 b' h))
           obtain ⟨M', X⟩ := M.step (bx' := put id (.rows e0 e3 t2 (xss ++ [ys]) (v + 1) rv .opn) (put id2 .gone bx)) (β' := β') (w' := w') (λ m => m = id \/ m = id2) hg.os hg.tape hg.output hg.size
             (λ m hm => ⟨by
                 rw [show β' m = upd β id2 { β id2 with own := [] } m from B8 _ _ (λ e => hm (.inl e)), B8 _ _ (λ e => hm (.inr e))],
               by rw [A4 (λ e => hm (.inl e)), A4 (λ e => hm (.inr e))]⟩)
             (λ x hx hn => hg.block x hx λ e => hn id (.inl rfl) (by rw [hown, <- hva, <- e]; simp))
             (λ m hm x hx => by
               rcases hm with rfl | rfl
               · rw [hβid] at hx
                 rcases hmem x hx with (hx | hx) | hx
                 · exact .inl ⟨_, .inl rfl, hx⟩
                 · exact .inl ⟨_, .inr rfl, hx⟩
                 · exact .inr hx
               · rw [hβid2] at hx; simp at hx)
             (λ m hm => by
               rcases hm with rfl | rfl
               · rw [hβid]
                 refine List.nodup_append.2 ⟨No _, hndR, λ x hx y hy e => ?_⟩
                 subst e
                 exact hdis x (by simpa using hx) hy
               · rw [hβid2]; simp)
             (λ m m' x hm hm' hx hx' => by
               rcases hm with rfl | rfl <;> rcases hm' with rfl | rfl
               · rfl
               · rw [hβid2] at hx'; simp at hx'
               · rw [hβid2] at hx; simp at hx
               · rfl)
             (λ m hm hn => by
               rcases hm with rfl | rfl
               · rw [A1] at hn; cases hn
               · rw [hβid2])
             (λ m b0 hm h0 => by
               rcases hm with rfl | rfl
               · rw [hb0] at h0; cases h0
                 refine ⟨_, A1 _ _ _, ?_⟩
                 exact ⟨rfl, by omega, λ e => by omega⟩
               · rw [hb2] at h0; cases h0
                 exact ⟨.gone, by rw [A4 hne.symm, A1], trivial⟩)
             (λ X m b0 hm h0 => by
               rcases hm with rfl | rfl
               · rw [A1] at h0; cases h0
                 refine ⟨?_, by rw [hβid]; rfl, ?_⟩
                 · rw [hβid, List.length_append]
                   rw [hsz] at ho
                   exact ho
                 · rw [hβid]
                   refine Bj.append (Bj.imp_mem' (λ xs x hx hr => hr.later X.later λ b' hb' => hrowheap b' (I6.2 ⟨x, List.mem_append.2 (.inl hx), hb'⟩)) hA) (.cons ?_ .nil)
                   rw [<- hvv] at hA2
                   exact hA2.later X.later λ b' hb' => hrowheap b' (I6.2 ⟨vv, by simp, hb'⟩)
               · rw [A4 hne.symm, A1] at h0; cases h0
                 trivial)
           refine ⟨_, _, _, _, rfl, rfl, ?_, M', X⟩
           simp only [A8, A2, Ak, A1, hβid]
           refine ⟨?_, Nat.le_refl _, λ _ => rfl⟩
           obtain ⟨_, q⟩ := ho
           rcases q with ⟨q, _⟩ | ⟨_, _, _, q, _⟩ <;> rw [q] <;> rfl
         · simp [Al] at h
       · simp [Al] at h
     · simp [Al] at h
   · simp [Al] at h
 · simp [Al] at h
end
section
variable {V : Env} {P : Program} {C : Ctx} {bx : List (Nat × Box V.E)} {β : Nat -> BI} {w : World}
variable {res : Option (SV V.E)} {cs : List Prop} {bx' : List (Nat × Box V.E)} {rs ws : List Nat} {ac : Acc}
abbrev Ve (V : Env) (C : Ctx) (bx : List (Nat × Box V.E)) (β : Nat -> BI) (w : World) : List (Option (SV V.E)) -> List Value -> Prop :=
 Bj λ o v => ∀ x, o = some x -> SR V C bx β w x v
theorem Amk (cells : Array Value) (off : Nat) : ∀ (vs : List Value) (k : Nat), off + k + vs.length <= cells.size ->
   ((vs.zipIdx k).foldl (λ cs (x : Value × Nat) => cs.setIfInBounds (off + x.2) x.1) cells).toList = cells.toList.take (off + k) ++ vs ++ cells.toList.drop (off + k + vs.length) := by
 intro vs
 induction vs generalizing cells with
 | nil => intro k _; simp
 | cons v vs ih =>
   intro k hk
   simp only [List.zipIdx_cons, List.foldl_cons]
   rw [ih _ (k + 1) (by simp at hk ⊢; omega)]
   have e := list_seg_step cells.toList (off + k) v vs (by simp at hk ⊢; omega)
   simpa [Array.toList_setIfInBounds, Nat.add_assoc] using e
theorem Abr {place : Nat -> Option (Nat × Nat)} : ∀ (ps : List (Nat × Operand)) (vs : List (Option (SV V.E))) (ds : List Value) (ls : List (A5 V.E)) (cells : Array Value) (ls' : List (A5 V.E)),
   Ve V C bx β w vs ds -> vs.length = ps.length -> Bj (Ak V.T bx β (Bb C β w) w) ls cells.toList -> P3 place ls (I7 V ps vs) = some ls' ->
   (∀ i off size, place i = some (off, size) -> 0 < size) ->
   ∃ cells', Instr.fill place cells ((ps.map (·.1)).zip ds) = some cells' /\ Bj (Ak V.T bx β (Bb C β w) w) ls' cells'.toList /\ cells'.size = cells.size
 | [], [], ds, ls, cells, ls', hv, _, hr, h, _ => by
   cases hv
   simp only [I7, P3, Option.some.injEq] at h
   subst h
   exact ⟨cells, by simp [Instr.fill], hr, rfl⟩
 | [], _ :: _, _, _, _, _, _, h, _, _, _ => by simp at h
 | _ :: _, [], _, _, _, _, _, h, _, _, _ => by simp at h
 | (i, o) :: ps, v :: vs, d :: ds, ls, cells, ls', .cons hv hvs, hl, hr, h, hpos => by
   simp only [I7] at h
   match v, hv, h with
   | some (.cv c), hv, h =>
     simp only [P3] at h
     split at h
     · rename_i off size hp
       split at h
       · rename_i hsz
         have hsz := Ap hsz
         split at h
         · rename_i ls1 hs
           have hc := A2.cells (hv _ rfl)
           have hpz := hpos i off size hp
           obtain ⟨hnew, hle⟩ := Sk hr hc hs (by omega)
           have hcl : d.cells.toList.length = size := by rw [<- hc.length, hsz]
           have hcl' : d.cells.size = size := by rw [<- Array.length_toList]; exact hcl
           have hle' : off + size <= cells.size := by rw [<- Array.length_toList, <- hcl]; exact hle
           have e := Amk cells off d.cells.toList 0 (by rw [hcl]; omega)
           simp only [Nat.add_zero] at e
           rw [<- e] at hnew
           have hz : (d.cells.zipIdx.foldl (λ cs (x : Value × Nat) => cs.setIfInBounds (off + x.2) x.1) cells) = (d.cells.toList.zipIdx 0).foldl (λ cs (x : Value × Nat) => cs.setIfInBounds (off + x.2) x.1) cells := by
             rw [<- Array.foldl_toList, Array.toList_zipIdx]
           rw [<- hz] at hnew
           obtain ⟨cells', h1, h2, h3⟩ := Abr ps vs ds ls1 _ ls' hvs (by simpa using hl) hnew h hpos
           refine ⟨cells', ?_, h2, ?_⟩
           · simp only [List.map_cons, List.zip_cons_cons, Instr.fill, hp]
             rw [if_neg (by simp [hcl']; omega)]
             exact h1
           · rw [h3, <- Array.length_toList, hz, e]
             simp only [List.length_append, List.length_take, List.length_drop, Array.length_toList]
             omega
         · cases h
       · cases h
     · cases h
   | some (.tup _), _, h => simp [P3] at h
   | none, _, h => simp [P3] at h
theorem Ade (ρ : Operand -> Value) (ps : List (Nat × Operand)) : (ps.map λ x => (x.1, ρ x.2)) = (ps.map (·.1)).zip (ps.map λ x => ρ x.2) := by
 induction ps with
 | nil => rfl
 | cons p ps ih => simp [ih]
theorem N1 {α γ : Type} (f : α -> Sem γ) (g : α -> γ) : ∀ (l : List α) (acc : Array γ), (∀ x ∈ l, (f x).run P w = .ok (g x) w) ->
   (l.foldlM (λ bs a => bs.push <$> f a) acc : Sem (Array γ)).run P w = .ok (acc ++ (l.map g).toArray) w
 | [], acc, _ => by simp
 | x :: l, acc, h => by
   simp only [List.foldlM_cons, Sem.run_bind, Sem.run_map, h x (by simp), Result.andThen_ok]
   rw [N1 f g l _ (λ y hy => h y (by simp [hy]))]
   simp
theorem Aq0 {α γ : Type} (f : α -> Sem γ) (g : α -> γ) (l : Array α) (h : ∀ x ∈ l.toList, (f x).run P w = .ok (g x) w) : (l.mapM f).run P w = .ok (l.map g) w := by
 rw [Array.mapM_eq_foldlM, <- Array.foldlM_toList, N1 f g _ _ h]
 congr 1
 apply Array.ext'
 simp
theorem Ap5 (HE : Sg V P) (M : Bo V.T C bx β w) {t : TypeId} {i : TI V.E} {info : TypeInfo} {d : TypeDesc} {z : Value} (I : Dc V P t i info d z) {fs : List (Nat × TypeId)} (hk : i.kind = .struct fs)
   (hall : fs.all (λ x => (V.ti x.2).isSome) = true) (ρ : Operand -> Value) (ps : Array (Nat × Operand)) {vs : List (Option (SV V.E))} (hv : Ve V C bx β w vs (ps.toList.map λ x => ρ x.2))
   {ls : List (A5 V.E)} (h : P3 (fieldPlace V fs) i.zero (I7 V ps.toList vs) = some ls) :
   VOk V.T C bx β w (some (.cv (.ag ls))) bx ((Instr.build t (ps.map λ x => (x.1, ρ x.2))).run P w) := by
 have hkd := I.kind
 rw [hk] at hkd
 cases d <;> simp [F1] at hkd
 rename_i fields
 subst hkd
 let g : Field -> Nat × Nat := λ f => (f.offset, ((V.ti f.type).map (·.size)).getD 0)
 have hm := Aq0 (P := P) (w := w) (λ f : Field => (do pure (f.offset, <- sizeOf f.type) : Sem (Nat × Nat))) g fields λ f hf => by
   have h1 := List.all_eq_true.1 hall (f.offset, f.type) (List.mem_map.2 ⟨f, hf, rfl⟩)
   obtain ⟨j, hj⟩ := Option.isSome_iff_exists.1 h1
   obtain ⟨_, _, _, J⟩ := HE _ _ hj
   simp only [Sem.run_bind, J.run_size, Result.andThen_ok, Sem.run_pure, g, hj, Option.map_some, Option.getD_some]
 have hplace : ∀ n : Nat, (fields.map g)[n]? = fieldPlace V (fields.toList.map λ f => (f.offset, f.type)) n := by
   intro n
   unfold fieldPlace
   rw [Array.getElem?_map, List.getElem?_map, <- Array.getElem?_toList]
   cases hn : fields.toList[n]? with
   | none => rfl
   | some f =>
     have h1 := List.all_eq_true.1 hall (f.offset, f.type) (List.mem_map.2 ⟨f, List.mem_of_getElem? hn, rfl⟩)
     obtain ⟨j, hj⟩ := Option.isSome_iff_exists.1 h1
     simp [g, hj]
 have hpos : ∀ n off size, fieldPlace V (fields.toList.map λ f => (f.offset, f.type)) n = some (off, size) -> 0 < size := by
   intro n off size hn
   unfold fieldPlace at hn
   split at hn
   · split at hn
     · rename_i j hj
       obtain ⟨_, _, _, J⟩ := HE _ _ hj
       cases hn
       exact J.pos
     · cases hn
   · cases hn
 obtain ⟨cells', h1, h2, h3⟩ := Abr (w := w) ps.toList vs _ i.zero z.cells ls hv (by rw [hv.length, List.length_map]) (Pm I.zeros) h hpos
 have hr : (Instr.build t (ps.map λ x => (x.1, ρ x.2))).run P w = .ok (.agg cells') w := by
   unfold Instr.build
   simp only [Sem.run_bind, I.run_zero, Result.andThen_ok, I.run_under, hm]
   have : (λ n => (fields.map g)[n]?) = fieldPlace V (fields.toList.map λ f => (f.offset, f.type)) := funext hplace
   rw [this, Array.toList_map, Ade, h1]
   simp
 rw [hr]
 exact .pure M ⟨cells', rfl, h2⟩
end
section
variable {V : Env} {P : Program} {C : Ctx} {bx : List (Nat × Box V.E)} {β : Nat -> BI} {w : World}
variable {res : Option (SV V.E)} {cs : List Prop} {bx' : List (Nat × Box V.E)} {rs ws : List Nat} {ac : Acc}
theorem Wu {R : A5 V.E -> Value -> Prop} {l : List (A5 V.E)} {vs : List Value} (h : Bj R l vs) : ∀ n, Bj R (O0 l n) (List.replicate n vs).flatten
 | 0 => by simp [O0]; exact .nil
 | n + 1 => by rw [O0, List.replicate_succ, List.flatten_cons]; exact h.append (Wu h n)
theorem S8 (HT : V.T.Ok) {t : Ty} {sz : Nat} (hsz : t.sz V.T = sz) : ∀ (n : Nat) (ls : List (A5 V.E)) (vs : List Value) (xs : List (t.den V.E)), Qd V t sz n ls = some xs -> Bj (Ak V.T bx β (Bb C β w) w) ls vs ->
   xs.length = n /\ ∃ css : List (List Value), vs = css.flatten /\ Bj (λ x cs => Bx (Bb C β w) w (t.av V.T x) cs /\ cs.length = t.sz V.T) xs css
 | 0, [], _, xs, h, .nil => by
   simp only [Qd, Option.some.injEq] at h
   subst h
   exact ⟨rfl, [], rfl, .nil⟩
 | 0, _ :: _, _, xs, h, _ => by simp [Qd] at h
 | n + 1, ls, vs, xs, h, hr => by
   simp only [Qd] at h
   split at h
   · rename_i x hx
     split at h
     · rename_i r hrr
       cases h
       obtain ⟨h1, css, h2, h3⟩ := S8 HT hsz n _ _ r hrr (hr.drop sz)
       have hc := O1 HT hx
       have hrep := Mj hc (hr.take sz)
       have hl := hrep.length
       rw [Na HT] at hl
       refine ⟨by simp [h1], vs.take sz :: css, ?_, .cons ⟨(Kn HT t x _).1 hrep, hl.symm⟩ h3⟩
       rw [List.flatten_cons, <- h2, List.take_append_drop]
     · cases h
   · cases h
theorem Tq {ok : Nat -> Prop} {t : Ty} {b : Nat} {c : Array Value} {e : TypeId} (hok : ok b) (hh : w.heap[b]? = some (.cells c e (0, 0))) : ∀ (xs : List (t.den V.E)) (css : List (List Value)) (pre : List Value),
   c.toList = pre ++ css.flatten -> Bj (λ x cs => Bx ok w (t.av V.T x) cs /\ cs.length = t.sz V.T) xs css -> Eo ok w (t.sz V.T) (xs.map (t.av V.T)) b pre.length
 | [], _, _, _, .nil => trivial
 | x :: xs, cs :: css, pre, hc, .cons h1 h2 => by
   refine ⟨⟨cs, h1.1, h1.2, hok, λ j v hj => ?_⟩, ?_⟩
   · rw [B9 hh, <- Array.getElem?_toList, hc, List.flatten_cons, List.getElem?_append_right (by omega), Nat.add_sub_cancel_left]
     rw [List.getElem?_append_left (List.getElem?_eq_some_iff.1 hj).1]; exact hj
   · have := Tq hok hh xs css (pre ++ cs) (by rw [hc, List.flatten_cons, List.append_assoc]) h2
     rw [List.length_append, h1.2] at this
     exact this
theorem R2 {t e : TypeId} (hu : P.underlying t = some (.slice e)) {i : TI V.E} {info : TypeInfo} {d : TypeDesc} {z : Value} (I : Dc V P e i info d z) (n : Nat) (hn : n * i.size <= 16777216) (parts : Array (Nat × Value)) {cells : Array Value}
   (h : Instr.fill (λ k => some (k * i.size, i.size)) (madeCells z.cells (n * i.size)) parts.toList = some cells) :
   (Instr.buildSlice t n parts).run P w = .ok (.slice (some ⟨w.heap.size, 0, none⟩) n n) (w.alloc (.cells cells e)) := by
 unfold Instr.buildSlice
 simp only [Sem.run_bind, run_underlying hu, Result.andThen_ok, I.run_size]
 rw [if_neg (by omega)]
 by_cases hz : n * i.size = 0
 · have h1 : (Array.range (n * i.size)).map (λ x => (#[] : Array Value)[x % (#[] : Array Value).size]!) = madeCells z.cells (n * i.size) := by rw [hz]; simp [madeCells]
   rw [if_pos hz]
   simp only [Sem.run_bind, Sem.run_pure, Result.andThen_ok, h1, h]
   rfl
 · rw [if_neg hz]
   have h1 : (Array.range (n * i.size)).map (λ x => z.cells[x % z.cells.size]!) = madeCells z.cells (n * i.size) := rfl
   simp only [Sem.run_bind, I.run_zero, Sem.run_pure, Result.andThen_ok, h1, h]
   rfl
theorem Xr (HT : V.T.Ok) (M : Bo V.T C bx β w) {t e : TypeId} (hu : P.underlying t = some (.slice e)) {i : TI V.E} {info : TypeInfo} {d : TypeDesc} {z : Value} (I : Dc V P e i info d z)
   (n : Nat) (hn : Nat.ble (n * i.size) 16777216 = true) (ρ : Operand -> Value) (ps : Array (Nat × Operand)) {vs : List (Option (SV V.E))} (hv : Ve V C bx β w vs (ps.toList.map λ x => ρ x.2))
   {ls : List (A5 V.E)} (hf : P3 (λ k => some (k * i.size, i.size)) (O0 i.zero n) (I7 V ps.toList vs) = some ls) (q : Orc V.E) {dst : Nat}
   (h : Al V bx (S6 V dst e i n q ls) rs ws = some (res, cs, bx', ac)) :
   VOk V.T C bx β w res bx' ((Instr.buildSlice t n (ps.map λ x => (x.1, ρ x.2))).run P w) := by
 have hz := Wu (Pm (T := V.T) (bx := bx) (β := β) (ok := Bb C β w) (w := w) I.zeros) n
 rw [<- Jq _ (by rw [I.zcells]; exact I.pos), I.zcells] at hz
 obtain ⟨cells', h1, h2, h3⟩ := Abr (w := w) ps.toList vs _ _ (madeCells z.cells (n * i.size)) ls hv (by rw [hv.length, List.length_map]) hz hf (λ _ _ _ h => by cases h; exact I.pos)
 rw [R2 hu I n (Nat.le_of_ble_eq_true hn) _ (by rw [Array.toList_map, Ade]; exact h1)]
 rw [size_madeCells] at h3
 have later : ∀ {bx1 : List (Nat × Box V.E)} {β1 : Nat -> BI}, Bo V.T C bx1 β1 w -> Bo V.T C bx1 β1 (w.alloc (.cells cells' e)) /\ Ext V.T bx1 β1 (Bb C β1 w) w bx1 β1 (Bb C β1 (w.alloc (.cells cells' e))) (w.alloc (.cells cells' e)) /\
     Bb C β1 (w.alloc (.cells cells' e)) w.heap.size := by
   intro bx1 β1 M1
   obtain ⟨M2, X2⟩ := M1.grow (P0.alloc w (.cells cells' e))
   exact ⟨M2, X2, by simp, .inr (.inl M1.kept.size), λ id hid => Nat.lt_irrefl _ (M1.mine id _ hid).1⟩
 unfold S6 at h
 split at h
 · rename_i l
   obtain ⟨rfl, _, rfl⟩ := Ax h
   obtain ⟨M2, X2, hok⟩ := later M
   have hn1 : n = 1 := by
     have hl := h2.length
     simp [h3] at hl
     exact Nat.eq_one_of_mul_eq_one_right hl.symm
   subst hn1
   refine ⟨β, _, _, _, rfl, rfl, ?_, M2, X2⟩
   simp only [A8, A2, Ak]
   exact ⟨w.heap.size, cells'.toList, cells', e, rfl, hok, heap_alloc_new _ _, rfl, (Bs.iff V.T _ _).2 (Bj.ext X2 h2)⟩
 · rename_i ls
   split at h
   · rename_i xs hx
     obtain ⟨hid, rs1, ws1, h⟩ := Gy h
     obtain ⟨rfl, _, rfl⟩ := Ax h
     have hnm : n <= maxLen := by
       have h1 := Nat.le_of_ble_eq_true hn
       have h2 : n * 1 <= n * i.size := Nat.mul_le_mul_left _ I.pos
       unfold maxLen; omega
     obtain ⟨M', X⟩ := M.new hid (.arr e i.ty xs 0 false) (.cells cells' e) (.slice (some ⟨w.heap.size, 0, none⟩) n n) [w.heap.size] (.inl rfl) λ X => by
       obtain ⟨hxl, css, hcss, hA⟩ := S8 HT I.ty n _ _ xs hx (Bj.ext X h2)
       refine ⟨by rw [A9]; rfl, ?_⟩
       rw [A9]
       refine ⟨css, ⟨?_, .inr ⟨w.heap.size, n, _, by rw [hxl], Nat.zero_le _, heap_alloc_new _ _, by rw [hxl]; exact Nat.le_refl _, hnm, ?_, ?_⟩⟩, hA⟩
       · rw [<- hcss, hxl, Array.length_toList, h3, I.ty]
       · rw [h3, I.ty]
       · rw [hxl, hcss, I.ty]
         exact List.take_of_length_le (by rw [<- hcss, Array.length_toList, h3]; exact Nat.le_refl _)
     refine ⟨_, _, _, _, rfl, rfl, ?_, M', X⟩
     simp only [A8, A2, Ak, A1, A9]
     exact ⟨rfl, Nat.le_refl _, λ _ => trivial⟩
   · simp [Al] at h
 · obtain ⟨bx1, β1, ls', rs', ws', M1, X1, R1, h, _⟩ := On _ _ bx β M h2 _ _ _ h
   split at h
   · rename_i xs hx
     obtain ⟨rfl, _, rfl⟩ := Ax h
     obtain ⟨M2, X2, hok⟩ := later M1
     obtain ⟨hxl, css, hcss, hA⟩ := S8 HT I.ty n _ _ xs hx (Bj.ext X2 R1)
     refine ⟨β1, _, _, _, rfl, rfl, ?_, M2, X1.trans X2⟩
     simp only [A8, A2, Ak]
     refine ⟨some ⟨w.heap.size, 0, none⟩, n, by rw [List.length_map, hxl], by rw [List.length_map, hxl]; exact Nat.le_refl _, (λ h => by cases h), (λ h => by cases h), λ ad had => ?_⟩
     cases had
     exact ⟨λ _ => rfl, Tq hok (heap_alloc_new _ _) xs css [] (by simpa using hcss) hA⟩
   · simp [Al] at h
theorem A3r (M : Bo V.T C bx β w) (ats : Array TypeId) (ty : TypeId) (k : IntKind) (a b : Int) :
   VOk V.T C bx β w (some (.cv (.one (.int k (if b < a then b else a))))) bx ((Builtin.min_ ats ty #[.int k a, .int k b]).run P w) := by
 have : (Builtin.min_ ats ty #[.int k a, .int k b]).run P w = .ok (.int k (if b < a then b else a)) w := by
   simp [Builtin.min_, Builtin.min2]
 rw [this]; exact .pure M rfl
theorem A3c (M : Bo V.T C bx β w) (ats : Array TypeId) (ty : TypeId) (k : IntKind) (a b : Int) :
   VOk V.T C bx β w (some (.cv (.one (.int k (if a < b then b else a))))) bx ((Builtin.max_ ats ty #[.int k a, .int k b]).run P w) := by
 have : (Builtin.max_ ats ty #[.int k a, .int k b]).run P w = .ok (.int k (if a < b then b else a)) w := by
   simp [Builtin.max_, Builtin.max2]
 rw [this]; exact .pure M rfl
theorem Yj : ∀ (vs : List (Option (SV V.E))) (ds : List Value) (ls : List (A5 V.E)), Ve V C bx β w vs ds -> Nr V vs = some ls -> Bj (Ak V.T bx β (Bb C β w) w) ls ds
 | [], _, ls, .nil, h => by simp only [Nr, Option.some.injEq] at h; subst h; exact .nil
 | v :: vs, _, ls, .cons h1 h2, h => by
   match v, h1, h with
   | some (.cv (.one l)), h1, h =>
     simp only [Nr] at h
     split at h
     · rename_i r hr
       cases h
       exact .cons (h1 _ rfl) (Yj vs _ r h2 hr)
     · cases h
   | some (.cv (.ag _)), _, h => simp [Nr] at h
   | some (.tup _), _, h => simp [Nr] at h
   | none, _, h => simp [Nr] at h
theorem Aet (M : Bo V.T C bx β w) (f : FuncId) (ρ : Operand -> Value) (fi ca : Array Operand) (hfi : fi.isEmpty = true) {vs : List (Option (SV V.E))} (hv : Ve V C bx β w vs ((fi ++ ca).toList.map ρ))
   {ls : List (A5 V.E)} (h : Nr V vs = some ls) : VOk V.T C bx β w (some (.cv (.one (.clo f ls)))) bx ((Instr.makeFunc (.func f) (fi.map ρ) (ca.map ρ)).run P w) := by
 have hfi : fi = #[] := by simpa using hfi
 subst hfi
 have hr : (Instr.makeFunc (.func f) ((#[] : Array Operand).map ρ) (ca.map ρ)).run P w = .ok (.func (.func f) #[] (ca.map ρ)) w := by
   simp [Instr.makeFunc]
 rw [hr]
 refine .pure M ?_
 simp only [A8, A2, Ak]
 refine ⟨_, rfl, (Bs.iff V.T _ _).2 ?_⟩
 have := Yj _ _ _ hv h
 simpa using this
end
section
variable (T : Tab)
def Aec (ok : Nat -> Prop) (w : World) (t : Ty) (x : t.den T.E) (v : Value) : Prop :=
 if Mh t then ∃ cs, v = .agg cs /\ Bx ok w (t.av T x) cs.toList else Bx ok w (t.av T x) [v]
inductive Of (ok : Nat -> Prop) (w : World) : TypeId -> (t : Ty) -> t.den T.E -> Value -> List Nat -> Prop where
 | data {t x v} : Aec T ok w t x v -> Of ok w 0 t x v []
 | own {e t xs v} : Fy T ok w (e + 1) t xs v -> Of ok w (e + 1) (.sl t) xs v v.ownBlock.toList
def Hl (ok : Nat -> Prop) (w : World) : List TypeId -> (ts : List Ty) -> HL T.E ts -> List Value -> List Nat -> Prop
 | _, [], _, vs, own => vs = [] /\ own = []
 | os, t :: ts, (x, r), vs, own => ∃ v vr o1 o2, vs = v :: vr /\ own = o1 ++ o2 /\ Of T ok w (os.headD 0) t x v o1 /\ Hl ok w os.tail ts r vr o2
inductive Cy (ok : Nat -> Prop) (w : World) : List (TypeId × TypeId) -> List (A5 T.E) -> List Value -> List Nat -> Prop where
 | nil {os} : Cy ok w os [] [] []
 | more {l ls v vs ow} : (∀ bx β, Ak T bx β ok w l v) -> Cy ok w [] ls vs ow -> Cy ok w [] (l :: ls) (v :: vs) ow
 | data {e os l ls v vs ow} : (∀ bx β, Ak T bx β ok w l v) -> Cy ok w os ls vs ow -> Cy ok w ((0, e) :: os) (l :: ls) (v :: vs) ow
 | arr {e os t st xs ls v vs ow} : e ≠ 0 -> Fy T ok w e t xs v -> Cy ok w os ls vs ow -> Cy ok w ((e, 0) :: os) (.sl t st xs :: ls) (v :: vs) (v.ownBlock.toList ++ ow)
 | rows {e e2 os t st xss ls v vs ow rows own} : e ≠ 0 -> e2 ≠ 0 -> Ju T ok w e e2 t xss ⟨0, v, own, rows⟩ -> Cy ok w os ls vs ow -> Cy ok w ((e, e2) :: os) (.sl (.sl t) st xss :: ls) (v :: vs) (own ++ ow)
def Avv (ok : Nat -> Prop) (w : World) (os : List (TypeId × TypeId)) (t : Ty) (y : t.den T.E) (v : Value) (own : List Nat) : Prop :=
 ∃ vs, Cy T ok w os (t.toL T y) vs own /\ if Mh t then v = .agg vs.toArray else vs = [v]
def Lz (ok : Nat -> Prop) (w : World) : List (List (TypeId × TypeId)) -> (ts : List Ty) -> HL T.E ts -> List Value -> List Nat -> Prop
 | _, [], _, vs, own => vs = [] /\ own = []
 | os, t :: ts, (y, r), vs, own => ∃ v vr o1 o2, vs = v :: vr /\ own = o1 ++ o2 /\ Avv T ok w (os.headD []) t y v o1 /\ Lz ok w os.tail ts r vr o2
end
def Yi : List Value -> Value
 | [v] => v
 | vs => .tuple vs.toArray
structure But (own : List Nat) (w w' : World) : Prop where
 os : w'.os = w.os
 tape : w'.tape = w.tape
 output : w'.output = w.output
 size : w.heap.size <= w'.heap.size
 heap : ∀ b, b < w.heap.size -> b ∉ own -> w'.heap[b]? = w.heap[b]?
def Bh (V : Env) (P : Program) (f : FuncId) (S : FS V.E) : Prop :=
 (∃ fn, P.funcs[f]? = some fn /\ fn.body.isSome = true /\ (fn.name == "runtime.NumGoroutine") = false) /\
 ∀ x y, S.f x = some y -> ∀ (okp : Nat -> Prop) (w : World) (vs : List Value) (own : List Nat), Hl V.T okp w S.argOwn S.args x vs own -> own.Nodup -> (∀ b ∈ own, b < w.heap.size /\ ¬ okp b) -> (∀ b, okp b -> b < w.heap.size) ->
   Calls P f vs.toArray w λ e w' => ∃ rs own', e = .returned (Yi rs) /\ But own w w' /\ own'.Nodup /\ (∀ b ∈ own', b < w'.heap.size /\ (w.heap.size <= b \/ b ∈ own)) /\
     Lz V.T (λ b => b < w'.heap.size /\ (okp b \/ w.heap.size <= b \/ b ∈ own) /\ b ∉ own') w' S.resOwn S.res y rs own'
def A3u (sz : Nat) (hdr v : Value) (b N : Nat) (i n : Int) : Prop :=
 ∃ cap, hdr = .slice (some ⟨b, 0, none⟩) N cap /\ 0 <= i /\ 0 <= n /\ i + n <= N /\ i.toNat <= cap /\ v = .slice (some ⟨b, i.toNat * sz, none⟩) n.toNat (cap - i.toNat)
def okW (okp : Nat -> Prop) (w : World) (b : Nat) (w' : World) (c : Nat) : Prop := c < w'.heap.size /\ (okp c \/ w.heap.size <= c) /\ c ≠ b
def Aby (V : Env) (P : Program) (f : FuncId) (S : FW V.E) : Prop :=
 (∃ fn, P.funcs[f]? = some fn /\ fn.body.isSome = true /\ (fn.name == "runtime.NumGoroutine") = false) /\
 ∀ xs i n x ys y, S.f xs i n x = some (ys, y) -> ys.length = xs.length -> ∀ (okp : Nat -> Prop) (w : World) (v : Value) (vs : List Value) (hdr : Value) (b : Nat), A3u (S.t.sz V.T) hdr v b xs.length i n ->
   Fy V.T okp w S.e S.t xs hdr -> Hl V.T okp w [] S.args x vs [] -> b < w.heap.size -> ¬ okp b -> (∀ c, okp c -> c < w.heap.size) ->
   Calls P f (v :: vs).toArray w λ e w' => ∃ rs, e = .returned (Yi rs) /\ But [b] w w' /\ Fy V.T (okW okp w b w') w' S.e S.t ys hdr /\ Lz V.T (okW okp w b w') w' [] S.res y rs []
def S4 (V : Env) (P : Program) (f : FuncId) (S : FC V.E) : Prop :=
 (∃ fn, P.funcs[f]? = some fn /\ fn.body.isSome = true /\ (fn.name == "runtime.NumGoroutine") = false) /\
 ∀ c x y, S.f c x = some y -> ∀ (okp : Nat -> Prop) (w : World) (vs : List Value) (pv : Value), Hl V.T okp w [] S.args x vs [] -> (∃ b o cs, pv = .pointer (some ⟨b, o, none⟩) /\ Bx okp w (S.c.av V.T c) cs /\ Mem okp w b o cs) ->
   (∀ b, okp b -> b < w.heap.size) ->
   Calls P f (vs ++ [pv]).toArray w λ e w' => ∃ rs, e = .returned (Yi rs) /\ But [] w w' /\ Lz V.T (λ b => b < w'.heap.size /\ (okp b \/ w.heap.size <= b)) w' [] S.res y rs []
structure Ait (V : Env) (P : Program) : Prop where
 fs : ∀ f S, V.fs f = some S -> Bh V P f S
 ws : ∀ f S, V.ws f = some S -> Aby V P f S
 cs : ∀ f S, V.cs f = some S -> S4 V P f S
section
variable {V : Env} {P : Program} {C : Ctx} {w : World}
variable {res : Option (SV V.E)} {cs : List Prop} {bx' : List (Nat × Box V.E)} {ac : Acc}
theorem Of.later {ok ok' : Nat -> Prop} {e : TypeId} {t : Ty} {x : t.den V.E} {v : Value} {own : List Nat} (L : D8 ok w ok' w) (h : Of V.T ok w e t x v own) : Of V.T ok' w e t x v own := by
 cases h with
 | data h =>
   refine .data ?_
   unfold Aec at h ⊢
   split at h
   · rename_i hn
     rw [if_pos hn]
     obtain ⟨cs, rfl, h⟩ := h
     exact ⟨cs, rfl, Bx.later L _ _ h⟩
   · rename_i hn
     rw [if_neg hn]
     exact Bx.later L _ _ h
 | own h => exact .own (h.later L λ _ _ => rfl)
theorem A2i {bx : List (Nat × Box V.E)} {β : Nat -> BI} {ok : Nat -> Prop} (HT : V.T.Ok) {c : CV V.E} {v : Value} {ls : List (A5 V.E)} {vs : List Value} (hv : v.cells.toList = vs) (hc : c.isAg = true -> ∃ cs, v = .agg cs) (hc' : c.isAg = false -> v.cells = #[v])
   (hr : Bj (Ak V.T bx β ok w) ls vs) {t : Ty} (ha : (c.isAg == Mh t) = true) {x : t.den V.E} (hx : t.ofL V.T ls = some x) : Aec V.T ok w t x v := by
 have h := (Kn HT t x vs).1 (Mj (O1 HT hx) hr)
 unfold Aec
 have ha : c.isAg = Mh t := by simpa using ha
 split
 · rename_i hn
   rw [hn] at ha
   obtain ⟨cs, rfl⟩ := hc ha
   refine ⟨cs, rfl, ?_⟩
   have : vs = cs.toList := by rw [<- hv]; rfl
   rw [<- this]; exact h
 · rename_i hn
   simp only [Bool.not_eq_true] at hn
   rw [hn] at ha
   have := hc' ha
   rw [this] at hv
   have : vs = [v] := by rw [<- hv]
   rw [<- this]; exact h
theorem A2.isAg {bx : List (Nat × Box V.E)} {β : Nat -> BI} {ok : Nat -> Prop} {c : CV V.E} {v : Value} (h : A2 V.T bx β ok w c v) : (c.isAg = true -> ∃ cs, v = .agg cs) /\ (c.isAg = false -> v.cells = #[v]) := by
 cases c with
 | one l => exact ⟨(λ k => by cases k), λ _ => W7 h⟩
 | ag ls => obtain ⟨cs, rfl, _⟩ := h; exact ⟨(λ _ => ⟨cs, rfl⟩), (λ k => by cases k)⟩
theorem Q4 (HT : V.T.Ok) : ∀ (os : List TypeId) (args : List (CV V.E)) (vs : List Value) (bx : List (Nat × Box V.E)) (β : Nat -> BI), Bo V.T C bx β w -> Bj (A2 V.T bx β (Bb C β w) w) args vs ->
   ∀ (k : List (Bool × List (A5 V.E)) -> D0 V.E) (rs ws : List Nat), Al V bx (Ib V os args k) rs ws = some (res, cs, bx', ac) ->
   ∃ (bx1 : List (Nat × Box V.E)) (β1 : Nat -> BI) (ls : List (Bool × List (A5 V.E))) (rs' ws' gs : List Nat), Bo V.T C bx1 β1 w /\ Ext V.T bx β (Bb C β w) w bx1 β1 (Bb C β1 w) w /\ Al V bx1 (k ls) rs' ws' = some (res, cs, bx', ac) /\
     (∀ id ∈ gs, A3 id bx1 = some .gone) /\ (∀ id ∈ gs, A3 id bx ≠ some .gone) /\ gs.Nodup /\ Ma bx β bx1 β1 /\
     ∀ (ts : List Ty) (x : HL V.E ts), Ki V.T ts ls = some x -> Hl V.T (Bb C β1 w) w os ts x vs (gs.flatMap λ id => (β1 id).own)
 | os, [], _, bx, β, M, .nil, k, rs, ws, h => by
   have h : Al V bx (k []) rs ws = some (res, cs, bx', ac) := by cases os <;> exact h
   exact ⟨bx, β, [], rs, ws, [], M, Ext.refl _ _ _ _ _, h, by simp, by simp, by simp, λ j hj => ⟨hj, rfl⟩, λ ts x hx => by cases ts with
     | nil => exact ⟨rfl, rfl⟩
     | cons t ts => simp [Ki] at hx⟩
 | os, c :: args, v :: vs, bx, β, M, .cons h1 h2, k, rs, ws, h => by
   have data : ∀ (os' : List TypeId) (h : Al V bx (frz V c.leaves λ l => Ib V os' args λ r' => k ((c.isAg, l) :: r')) rs ws = some (res, cs, bx', ac)), os.headD 0 = 0 -> os.tail = os' ->
       ∃ (bx1 : List (Nat × Box V.E)) (β1 : Nat -> BI) (ls : List (Bool × List (A5 V.E))) (rs' ws' gs : List Nat), Bo V.T C bx1 β1 w /\ Ext V.T bx β (Bb C β w) w bx1 β1 (Bb C β1 w) w /\ Al V bx1 (k ls) rs' ws' = some (res, cs, bx', ac) /\
         (∀ id ∈ gs, A3 id bx1 = some .gone) /\ (∀ id ∈ gs, A3 id bx ≠ some .gone) /\ gs.Nodup /\ Ma bx β bx1 β1 /\
         ∀ (ts : List Ty) (x : HL V.E ts), Ki V.T ts ls = some x -> Hl V.T (Bb C β1 w) w os ts x (v :: vs) (gs.flatMap λ id => (β1 id).own) := by
     intro os' h ho ht
     obtain ⟨bx1, β1, ls', rs1, ws1, M1, X1, R1, I1, G1⟩ := On _ _ bx β M (A2.cells h1) _ _ _ h
     obtain ⟨bx2, β2, ls2, rs2, ws2, gs, M2, X2, I2, a1, a2, a3, G2, F2⟩ := Q4 HT os' args vs bx1 β1 M1 (h2.imp λ _ _ k => A2.ext X1 k) _ _ _ I1
     refine ⟨bx2, β2, (c.isAg, ls') :: ls2, rs2, ws2, gs, M2, X1.trans X2, I2, a1, λ id hid hg => a2 id hid (G1 id hg).1, a3, λ j hj => ?_, λ ts x hx => ?_⟩
     · obtain ⟨g1, g2⟩ := G1 j hj
       obtain ⟨g3, g4⟩ := G2 j g1
       exact ⟨g3, g4.trans g2⟩
     · cases ts with
       | nil => simp [Ki] at hx
       | cons t ts =>
         simp only [Ki] at hx
         split at hx
         · rename_i hag
           split at hx
           · rename_i x1 hx1
             split at hx
             · rename_i r hr
               cases hx
               refine ⟨v, vs, [], _, rfl, rfl, ?_, by rw [ht]; exact F2 ts r hr⟩
               rw [ho]
               have hci := A2.isAg h1
               exact (Of.data (A2i HT rfl hci.1 hci.2 R1 hag hx1)).later X2.later
             · cases hx
           · cases hx
         · cases hx
   match os, c, h with
   | [], c, h => exact data [] h rfl rfl
   | 0 :: os, c, h => exact data os h rfl rfl
   | (e + 1) :: os, .ag _, h => simp [Ib, Al] at h
   | (e + 1) :: os, .one l, h =>
     cases l with
     | ar id ver =>
       simp only [Ib, Al] at h
       split at h
       · rename_i e' t xs v0 hb
         split at h
         · rename_i hv
           simp only [Bool.and_eq_true] at hv
           have he := Ap hv.2
           subst he
           simp only [Al] at h
           simp only [A2, Ak, hb] at h1
           have hvv := h1.2.2 (Ap hv.1)
           obtain ⟨hown, hA⟩ := M.boxes id _ hb
           obtain ⟨M1, X1⟩ := M.set (w' := w) id .gone (β id) rfl rfl rfl (Nat.le_refl _) (λ _ _ _ => rfl) (λ x hx => .inl hx) (M.nodup id) (λ b0 h0 => by rw [hb] at h0; cases h0; trivial) (λ _ => trivial)
           have hβ : upd β id (β id) = β := by funext j; unfold upd; split <;> simp_all
           rw [hβ] at M1 X1
           obtain ⟨bx2, β2, ls2, rs2, ws2, gs, M2, X2, I2, a1, a2, a3, G2, F2⟩ := Q4 HT os args vs _ β M1 (h2.imp λ _ _ k => A2.ext X1 k) _ _ _ h
           obtain ⟨g1, g2⟩ := G2 id (A1 _ _ _)
           refine ⟨bx2, β2, _, rs2, ws2, id :: gs, M2, X1.trans X2, I2, ?_, ?_, ?_, ?_, λ ts x hx => ?_⟩
           · intro j hj
             rcases List.mem_cons.1 hj with rfl | hj
             · exact g1
             · exact a1 j hj
           · intro j hj
             rcases List.mem_cons.1 hj with rfl | hj
             · rw [hb]; simp
             · intro hg
               by_cases hji : j = id
               · subst hji; rw [hb] at hg; cases hg
               · exact a2 j hj (by rw [A4 hji]; exact hg)
           · refine List.nodup_cons.2 ⟨λ hid => a2 id hid (A1 _ _ _), a3⟩
           · intro j hj
             have hji : j ≠ id := by rintro rfl; rw [hb] at hj; cases hj
             exact G2 j (by rw [A4 hji]; exact hj)
           · cases ts with
             | nil => simp [Ki] at hx
             | cons t' ts =>
               simp only [Ki] at hx
               split at hx
               · rename_i hag
                 split at hx
                 · rename_i x1 hx1
                   split at hx
                   · rename_i r hr
                     cases hx
                     refine ⟨v, vs, (β2 id).own, gs.flatMap λ id => (β2 id).own, rfl, rfl, ?_, F2 ts r hr⟩
                     cases t' with
                     | sl t' =>
                       simp only [Ty.ofL] at hx1
                       split at hx1
                       · rename_i hu
                         subst hu
                         cases hx1
                         rw [g2, hown, <- hvv]
                         rw [<- hvv] at hA
                         exact .own ((hA.later X1.later λ _ _ => rfl).later X2.later λ _ _ => rfl)
                       · cases hx1
                     | nm n => simp [Mh] at hag
                     | _ => simp [Ty.ofL] at hx1
                   · cases hx
                 · cases hx
               · cases hx
         · simp [Al] at h
       · simp [Al] at h
     | _ => simp [Ib, Al] at h
end
end Go.Ab
