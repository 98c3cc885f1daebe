/- What append comes to, with the block that it leaves. Appends to arrays of one's own. Built structs and slices, the lesser and the greater one, function values. Built slices, the lesser and the greater one, function values. Conditions: none beyond those that each theorem names. -/
import Derived.Test.YtjdgmcngpiookaaGreatS03
namespace Go.Ab
open Go
section
variable {P : Program} (w : World)
theorem Oo (t t2 ty e e2 : TypeId) (i : TypeInfo) (z : Value) (ht : P.underlying t = some (.slice e)) (ht2 : P.underlying t2 = some (.slice e2)) (hi : P.info? e = some i) (hz : i.zero = some z)
   (hzs : z.cells.size = i.size) (v : Value) (n : Nat) (xs : List Value) (hown : w.ownsRow 0 e i.size v n xs)
   (ao : Option Addr) (m c : Nat) (news : List Value) (hnil : ao = none -> m = 0) (hl : news.length = m * i.size) (hnews : ∀ a, ao = some a -> ∀ j u, news[j]? = some u -> w.cell? (a.add j) = some u)
   (h1 : ∀ u ∈ news, u.oneCell' = true) (hbytes : (n + m) * i.bytes <= 140737488355328) (hbp : 0 < i.bytes) :
   ∃ v' w', (Builtin.append_ #[t, t2] ty #[v, .slice ao m c]).run P w = .ok v' w' /\ w'.ownsRow 0 e i.size v' (n + m) (xs ++ news) /\ w.grownBy w' v.ownBlock /\
     (v'.ownBlock = v.ownBlock \/ (v'.ownBlock = some w.heap.size /\ w.heap.size < w'.heap.size)) := by
 have h63 : n + m <= 140737488355328 := Nat.le_trans (Nat.le_mul_of_pos_right _ hbp) hbytes
 have h63' : n + m <= maxLen := by unfold maxLen; omega
 have hlen : (xs ++ news).length = (n + m) * i.size := by rw [List.length_append, hown.1, hl, Nat.add_mul]
 cases ao with
 | none =>
   obtain rfl := hnil rfl
   have hn : news = [] := List.eq_nil_of_length_eq_zero (by simpa using hl)
   subst hn
   have hv : ∃ a cap, v = .slice a n cap /\ n <= cap := by
     rcases hown.2 with ⟨rfl, rfl⟩ | ⟨g, cap, cur, rfl, _, _, h, _⟩
     · exact ⟨_, _, rfl, Nat.le_refl _⟩
     · exact ⟨_, _, rfl, h⟩
   obtain ⟨a, cap, rfl, hcap⟩ := hv
   refine ⟨.slice a n cap, w, ?_, by simpa using hown, ⟨rfl, rfl, rfl, Nat.le_refl _, λ _ _ _ => rfl⟩, .inl rfl⟩
   cases a <;> simp [Builtin.append_, run_underlying ht, run_underlying ht2, sizeOf, typeInfo, hi, Builtin.lenOf, Builtin.firstCells, hcap, storeCells]
 | some ad =>
   have hnews := hnews ad rfl
   have grown : ∀ (old : Nat), old < n + m -> ∀ (row : Option Nat),
       (w.drew.alloc (.cells (xs.toArray ++ news.toArray ++ Builtin.zeroCells z.cells (grownCap w (n + m) old e - (n + m))) e)).ownsRow 0 e i.size
         (.slice (some ⟨w.heap.size, 0, none⟩) (n + m) (grownCap w (n + m) old e)) (n + m) (xs ++ news) /\
       w.grownBy (w.drew.alloc (.cells (xs.toArray ++ news.toArray ++ Builtin.zeroCells z.cells (grownCap w (n + m) old e - (n + m))) e)) row := by
     intro old ho row
     have hge := grownCap_ge w (n + m) old e
     have hcm : grownCap w (n + m) old e <= maxLen := grownCap_le_maxLen w (n + m) old e h63'
     refine ⟨⟨hlen, .inr ⟨w.heap.size, _, _, rfl, Nat.zero_le _, heap_alloc_new w.drew _, hge, hcm, ?_, ?_⟩⟩, ⟨rfl, rfl, rfl, by simp, λ k hk _ => heap_alloc_old w.drew _ k hk⟩⟩
     · simp only [Array.size_append, List.size_toArray, size_zeroCells, hzs, hown.1, hl, <- Nat.add_mul]
       congr 1
       omega
     · simp only [Array.toList_append, List.append_assoc]
       rw [<- List.append_assoc, <- hlen]
       exact List.take_left
   have hfresh : ∀ o : Obj, w.heap.size < (w.drew.alloc o).heap.size := by intro o; simp
   have hf := run_firstCells_some (P := P) w i.size m ad m c news hl hnews
   have hf' := run_firstCells_some (P := P) w.drew i.size m ad m c news hl (by simpa using hnews)
   rcases hown.2 with ⟨rfl, rfl⟩ | ⟨g, cap, cur, rfl, hbg, hg, hnc, hcm, hcs, htake⟩
   · have hx : xs = [] := List.eq_nil_of_length_eq_zero (by simpa using hown.1)
     subst hx
     by_cases hm : m = 0
     · subst hm
       have hn : news = [] := List.eq_nil_of_length_eq_zero (by simpa using hl)
       subst hn
       refine ⟨.slice none 0 0, w, ?_, World.ownsRow_nil w 0 e i.size, ⟨rfl, rfl, rfl, Nat.le_refl _, λ _ _ _ => rfl⟩, .inl rfl⟩
       simp [Builtin.append_, run_underlying ht, run_underlying ht2, sizeOf, typeInfo, hi, Builtin.lenOf, Builtin.firstCells, loadCells, loadCellsFrom]
     · have h63'' : ¬ (9223372036854775807 < (m : Int)) := by omega
       have h48' : ¬ (281474976710656 < Builtin.nextslicecap m 0 * i.bytes) := by rw [nextslicecap_zero (by omega)]; simp only [Nat.zero_add] at hbytes; omega
       have hr : (Builtin.append_ #[t, t2] ty #[.slice none 0 0, .slice (some ad) m c]).run P w =
           .ok (.slice (some ⟨w.heap.size, 0, none⟩) m (grownCap w m 0 e)) (w.drew.alloc (.cells (news.toArray ++ Builtin.zeroCells z.cells (grownCap w m 0 e - m)) e)) := by
         simp [Builtin.append_, run_underlying ht, run_underlying ht2, sizeOf, typeInfo, zeroValue, hi, hz, Builtin.lenOf, hm, h63'', h48', Question.forced, run_firstCells_none, hf', newRow, grownCap]
       have hgr := grown 0 (by omega) (Value.ownBlock (.slice none 0 0))
       simp only [Nat.zero_add, List.nil_append, Array.empty_append] at hgr ⊢
       exact ⟨_, _, hr, hgr.1, hgr.2, .inr ⟨rfl, hfresh _⟩⟩
   · by_cases hroom : n + m <= cap
     · have hfit : n * i.size + news.length <= cur.size := by rw [hl, hcs, <- Nat.add_mul]; exact Nat.mul_le_mul_right _ hroom
       have hst := run_storeCells_at (P := P) g (n * i.size) e news 0 cur w hg (by simpa using hfit) h1
       simp only [Nat.add_zero] at hst
       have hr : (Builtin.append_ #[t, t2] ty #[.slice (some ⟨g, 0, none⟩) n cap, .slice (some ad) m c]).run P w =
           .ok (.slice (some ⟨g, 0, none⟩) (n + m) cap) (w.setRow g (cur.toList.take (n * i.size) ++ news ++ cur.toList.drop (n * i.size + news.length)).toArray) := by
         simp [Builtin.append_, run_underlying ht, run_underlying ht2, sizeOf, typeInfo, hi, Builtin.lenOf, hroom, hf, Addr.add_lit, hst]
       refine ⟨_, _, hr, ⟨hlen, .inr ⟨g, cap, _, rfl, hbg, setRow_heap w g cur _ e _ hg, hroom, hcm, ?_, ?_⟩⟩, ⟨rfl, rfl, rfl, by simp, λ k _ hk => setRow_other w g k _ (λ e => hk (by simp [Value.ownBlock, e]))⟩, .inl rfl⟩
       · simp only [List.size_toArray, List.length_append, List.length_take, List.length_drop, Array.length_toList]
         omega
       · rw [htake, <- hlen]
         exact List.take_left
     · have holds : ∀ j u, xs[j]? = some u -> w.cell? ((⟨g, 0, none⟩ : Addr).add j) = some u := hown.cells (g := g) rfl
       have hn : ¬ (n + m <= cap) := hroom
       have h63'' : ¬ (9223372036854775807 < ((n : Int) + (m : Int))) := by omega
       have h48' : ¬ (281474976710656 < Builtin.nextslicecap (n + m) cap * i.bytes) := by have := growslice_fits (need := n + m) (old := cap) (bytes := i.bytes) (by omega) hbytes; omega
       have hfo := run_firstCells_some (P := P) w.drew i.size n ⟨g, 0, none⟩ n cap xs hown.1 (by simpa using holds)
       have hr : ∃ cells, (Builtin.append_ #[t, t2] ty #[.slice (some ⟨g, 0, none⟩) n cap, .slice (some ad) m c]).run P w =
           .ok (.slice (some ⟨w.heap.size, 0, none⟩) (n + m) (grownCap w (n + m) cap e)) (w.drew.alloc (.cells cells e)) /\
           cells = xs.toArray ++ news.toArray ++ Builtin.zeroCells z.cells (grownCap w (n + m) cap e - (n + m)) := by
         refine ⟨_, ?_, rfl⟩
         simp [Builtin.append_, run_underlying ht, run_underlying ht2, sizeOf, typeInfo, zeroValue, hi, hz, Builtin.lenOf, hn, h63'', h48', Question.forced, hf', hfo, newRow, grownCap]
         congr 2
         apply Array.ext'
         simp
       obtain ⟨cells, hr, hcells⟩ := hr
       subst hcells
       have hgr := grown cap (by omega) (Value.ownBlock (.slice (some ⟨g, 0, none⟩) n cap))
       exact ⟨_, _, hr, hgr.1, hgr.2, .inr ⟨rfl, hfresh _⟩⟩
end
mutual
theorem Br.one {ok : Nat -> Prop} {w : World} : ∀ (x : AV) (cs : List Value), Br ok w x cs -> ∀ v ∈ cs, v.oneCell' = true
 | .int _ _, cs, h, v, hv => by simp only [Br] at h; subst h; simp at hv; subst hv; rfl
 | .bool _, cs, h, v, hv => by simp only [Br] at h; subst h; simp at hv; subst hv; rfl
 | .str _, cs, h, v, hv => by simp only [Br] at h; subst h; simp at hv; subst hv; rfl
 | .sl _ _ _, cs, h, v, hv => by simp only [Br] at h; obtain ⟨a, cap, h, _⟩ := h; subst h; simp at hv; subst hv; rfl
 | .ag xs, cs, h, v, hv => H9.one xs cs h v hv
theorem H9.one {ok : Nat -> Prop} {w : World} : ∀ (xs : List AV) (cs : List Value), H9 ok w xs cs -> ∀ v ∈ cs, v.oneCell' = true
 | [], cs, h, v, hv => by simp only [H9] at h; subst h; simp at hv
 | x :: xs, cs, h, v, hv => by
   simp only [H9] at h
   obtain ⟨c1, c2, rfl, h1, h2⟩ := h
   rcases List.mem_append.1 hv with hv | hv
   · exact Br.one x c1 h1 v hv
   · exact H9.one xs c2 h2 v hv
end
section
variable {V : Env} {P : Program} {C : Ctx} {bx : List (Nat × Box V.E)} {β : Nat -> BI} {w : World}
variable {res : Option (SV V.E)} {cs : List Prop} {bx' : List (Nat × Box V.E)} {rs ws : List Nat} {ac : Acc}
theorem Aak {ok : Nat -> Prop} {t : Ty} : ∀ (xs : List (t.den V.E)) (blk off : Nat), Fr ok w (t.sz V.T) (xs.map (t.av V.T)) blk off ->
   ∃ css : List (List Value), Bk (λ x cs => Br ok w (t.av V.T x) cs /\ cs.length = t.sz V.T) xs css /\ ∀ j u, css.flatten[j]? = some u -> w.cell? ⟨blk, off + j, none⟩ = some u
 | [], _, _, _ => ⟨[], .nil, λ j u h => by simp at h⟩
 | x :: xs, blk, off, h => by
   obtain ⟨⟨cs, h1, h2, h3⟩, h4⟩ := h
   obtain ⟨css, k1, k2⟩ := Aak xs blk (off + t.sz V.T) h4
   refine ⟨cs :: css, .cons ⟨h1, h2⟩ k1, λ j u hj => ?_⟩
   rw [List.flatten_cons] at hj
   by_cases hl : j < cs.length
   · rw [List.getElem?_append_left hl] at hj; exact h3.2 j u hj
   · rw [List.getElem?_append_right (by omega)] at hj
     have := k2 _ _ hj
     rw [show off + t.sz V.T + (j - cs.length) = off + j by omega] at this
     exact this
theorem Ag8 {ok : Nat -> Prop} {t : Ty} {st : Bool} {xs : List (t.den V.E)} {v : Value} (h : R2 V.T ok w t st xs v) :
   ∃ ao c css, v = .slice ao xs.length c /\ (ao = none -> xs.length = 0) /\ Bk (λ x cs => Br ok w (t.av V.T x) cs /\ cs.length = t.sz V.T) xs css /\
     ∀ a, ao = some a -> ∀ j u, css.flatten[j]? = some u -> w.cell? (a.add j) = some u := by
 obtain ⟨a, cap, hv, hcap, hn, _, hm⟩ := h
 simp only [List.cons.injEq, and_true, List.length_map] at hv hcap
 subst hv
 cases a with
 | none =>
   have hx : xs = [] := List.eq_nil_of_length_eq_zero (by have := hn rfl; omega)
   subst hx
   exact ⟨none, cap, [], rfl, λ _ => rfl, .nil, λ a h => by cases h⟩
 | some ad =>
   obtain ⟨hs, hm2⟩ := hm ad rfl
   obtain ⟨css, k1, k2⟩ := Aak xs _ _ hm2
   refine ⟨some ad, cap, css, rfl, (λ h => by cases h), k1, λ a ha j u hj => ?_⟩
   cases ha
   rw [Afs (hs λ h => ?_)]
   · exact k2 j u hj
   · have hx : xs = [] := by simpa using h
     subst hx
     cases k1
     simp at hj
theorem Zs {t : Ty} {ok : Nat -> Prop} : ∀ {xs : List (t.den V.E)} {css : List (List Value)}, Bk (λ x cs => Br ok w (t.av V.T x) cs /\ cs.length = t.sz V.T) xs css -> css.flatten.length = xs.length * t.sz V.T
 | _, _, .nil => by simp
 | _, _, .cons h k => by rw [List.flatten_cons, List.length_append, Zs k, h.2, List.length_cons, Nat.add_mul]; omega
theorem Agm {t : Ty} {ok : Nat -> Prop} {xs : List (t.den V.E)} {css : List (List Value)} (h : Bk (λ x cs => Br ok w (t.av V.T x) cs /\ cs.length = t.sz V.T) xs css) : ∀ u ∈ css.flatten, u.oneCell' = true := by
 intro u hu
 obtain ⟨cs, hcs, hu⟩ := List.mem_flatten.1 hu
 obtain ⟨n, hn⟩ := List.getElem?_of_mem hcs
 obtain ⟨x, _, hx⟩ := h.get' n cs hn
 exact Br.one _ _ hx.1 u hu
theorem Bq.appended (M : Bq V.T C bx β w) {id : Nat} (b' : Box V.E) {w' : World} (hg : w.grownBy w' (β id).hdr.ownBlock) (hown : ∀ x, (β id).hdr.ownBlock = some x -> x ∈ (β id).own)
   (i' : BI) (hi : ∀ x ∈ i'.own, x ∈ (β id).own \/ (w.heap.size <= x /\ x < w'.heap.size)) (hnd : i'.own.Nodup)
   (hcompat : ∀ b, A6 id bx = some b -> Fy V.T (β id) i' b b')
   (hrep : Ext V.T bx β (Bc C β w) w (put id b' bx) (upd β id i') (Bc C (upd β id i') w') w' -> C5 V.T (put id b' bx) (upd β id i') (Bc C (upd β id i') w') w' id b') :
   Bq V.T C (put id b' bx) (upd β id i') w' /\ Ext V.T bx β (Bc C β w) w (put id b' bx) (upd β id i') (Bc C (upd β id i') w') w' :=
 M.set id b' i' hg.os hg.tape hg.output hg.size (λ x hx hn => hg.block x hx (λ e => hn (hown x e.symm))) hi hnd hcompat hrep
theorem Ow (v : Value) : v.ownBlock.toList.Nodup := by cases v.ownBlock <;> simp
theorem Anx (M : Bq V.T C bx β w) {t u e e' : TypeId} (hu : P.underlying t = some (.slice e)) (hu2 : P.underlying u = some (.slice e')) {i : TI V.E} {info : TypeInfo} {d : TypeDesc} {z : Value} (I : C6 V P e i info d z)
   {dst : Nat} {a b : SV V.E} {va vb : Value} (ha : SR V C bx β w a va) (hb : SR V C bx β w b vb) (ty : TypeId)
   (h : Aj V bx (Sj V dst e i a b) rs ws = some (res, cs, bx', ac)) (hc : Gw cs) :
   VOk V.T C bx β w res bx' ((Builtin.append_ #[t, u] ty #[va, vb]).run P w) := by
 have hzs : z.cells.size = info.size := by rw [I.zcells, I.size]
 unfold Sj at h
 split at h
 · -- nothing yet, and a slice
   rename_i t0 t1 st ys
   split at h
   · rename_i ht
     subst ht
     split at h
     · rename_i hty
       obtain ⟨hid, rs', ws', h⟩ := H2 h
       obtain ⟨rfl, rfl, rfl⟩ := Az h
       have hc := hc.1
       simp only [SR, Bb, A3, Ak] at ha hb
       obtain ⟨a0, cap0, hv, _, hn0, hs0, _⟩ := ha
       have := hs0 rfl (by simp)
       subst this
       have := hn0 rfl
       subst this
       simp only [List.map_nil, List.length_nil, List.cons.injEq, and_true] at hv
       subst hv
       obtain ⟨ao, c, css, rfl, k1, k2, k3⟩ := Ag8 hb
       have hsz : t1.sz V.T = info.size := by rw [hty, I.ty, I.size]
       obtain ⟨v', w', hr, ho, hg, hf⟩ := Oo (P := P) w t u ty e e' info z hu hu2 I.inf I.zero hzs (.slice none 0 0) 0 [] (World.ownsRow_nil w 0 e info.size) ao ys.length c css.flatten k1
         (by rw [Zs k2, hsz]) k3 (Agm k2) (by rw [Nat.zero_add, I.bytes]; exact hc) (by rw [I.bytes]; exact I.bpos)
       rw [hr]
       simp only [List.nil_append, Nat.zero_add] at ho
       have hlt : ∀ x, v'.ownBlock = some x -> w.heap.size <= x /\ x < w'.heap.size := by
         intro x hx
         rcases hf with hf | ⟨hf, hlt⟩
         · rw [hf] at hx; cases hx
         · rw [hf] at hx; cases hx; exact ⟨Nat.le_refl _, hlt⟩
       have hnone : (β dst).own = [] := M.nones dst hid
       obtain ⟨M', X⟩ := M.set dst (.arr e t1 (Mg rfl ys) 0 false) ⟨0, v', v'.ownBlock.toList, []⟩ hg.os hg.tape hg.output hg.size (λ x hx _ => hg.block x hx (by simp [Value.ownBlock]))
         (λ x hx => .inr (hlt x (by simpa using hx))) (Ow _) (λ b0 h0 => by rw [hid] at h0; cases h0)
         (λ X => ⟨by rw [Ba], by
           rw [Ba]
           refine ⟨css, ?_, k2.imp λ x cs q => ⟨Br.later X.later _ _ q.1, q.2⟩⟩
           rw [hsz]; exact ho⟩)
       refine ⟨_, _, _, _, rfl, rfl, ?_, M', X⟩
       simp only [Bb, A3, Ak, A2, Ba]
       refine ⟨?_, Nat.le_refl _, λ _ => trivial⟩
       obtain ⟨_, q⟩ := ho
       rcases q with ⟨q, _⟩ | ⟨_, _, _, q, _⟩ <;> rw [q] <;> rfl
     · simp [Aj] at h
   · simp [Aj] at h
 · -- an array, and a slice
   rename_i id ver t1 st ys
   simp only [Aj] at h
   split at h
   · rename_i e0 t0 xs v hb0
     split at h
     · rename_i hv
       simp only [Bool.and_eq_true, decide_eq_true_eq] at hv
       obtain ⟨⟨hv1, hv2⟩, hty⟩ := hv
       have hv2 := Aq hv2
       subst hv2
       split at h
       · rename_i ht
         subst ht
         simp only [Aj, Er.one, Option.some.injEq, Prod.mk.injEq] at h
         obtain ⟨rfl, rfl, rfl, _⟩ := h
         have hc := hc.1
         simp only [SR, Bb, A3, Ak] at ha hb
         rw [hb0] at ha
         have hva := ha.2.2 (Aq hv1)
         obtain ⟨hown, css0, hO, hA⟩ := M.boxes id _ hb0
         obtain ⟨ao, c, css, rfl, k1, k2, k3⟩ := Ag8 hb
         have hsz : t1.sz V.T = info.size := by rw [hty, I.ty, I.size]
         rw [hsz] at hO
         obtain ⟨v', w', hr, ho, hg, hf⟩ := Oo (P := P) w t u ty e0 e' info z hu hu2 I.inf I.zero hzs va xs.length css0.flatten (by rw [hva]; exact hO) ao ys.length c css.flatten k1
           (by rw [Zs k2, hsz]) k3 (Agm k2) (by rw [I.bytes]; exact hc) (by rw [I.bytes]; exact I.bpos)
         rw [hr]
         obtain ⟨M', X⟩ := M.appended (id := id) (.arr e0 t1 (xs ++ Mg rfl ys) (v + 1) false) (by rw [<- hva]; exact hg) (λ x hx => by rw [hown, hx]; simp) ⟨0, v', v'.ownBlock.toList, []⟩
           (λ x hx => by
             have hx : v'.ownBlock = some x := by simpa using hx
             rcases hf with hf | ⟨hf, hlt⟩
             · left; rw [hown, <- hva, <- hf, hx]; simp
             · right; rw [hf] at hx; cases hx; exact ⟨Nat.le_refl _, hlt⟩) (Ow _)
           (λ b0 h0 => by rw [hb0] at h0; cases h0; exact ⟨rfl, by omega, λ e => by omega⟩)
           (λ X => ⟨by rw [Ba], by
             rw [Ba]
             refine ⟨css0 ++ css, ?_, Bk.append (hA.imp λ x cs q => ⟨Br.later X.later _ _ q.1, q.2⟩) (k2.imp λ x cs q => ⟨Br.later X.later _ _ q.1, q.2⟩)⟩
             rw [hsz, List.flatten_append, List.length_append]; exact ho⟩)
         refine ⟨_, _, _, _, rfl, rfl, ?_, M', X⟩
         simp only [Bb, A3, Ak, A2, Ba]
         refine ⟨?_, Nat.le_refl _, λ _ => trivial⟩
         obtain ⟨_, q⟩ := ho
         rcases q with ⟨q, _⟩ | ⟨_, _, _, q, _⟩ <;> rw [q] <;> rfl
       · simp [Aj] at h
     · simp [Aj] at h
   · simp [Aj] at h
 · -- rows, and one row more
   rename_i id ver id2 ver2
   simp only [Aj] at h
   split at h
   · rename_i e0 e2 t0 xss v rv hb0
     simp only [Aj] at h
     split at h
     · rename_i e3 t2 ys v2 hb2
       split at h
       · rename_i hv
         simp only [Bool.and_eq_true, Bool.not_eq_true'] at hv
         obtain ⟨⟨⟨⟨⟨q1, q2⟩, q3⟩, q4⟩, q5⟩, q6⟩ := hv
         have q4 := Aq q4
         have q5 := Aq q5
         have q6 := Aq q6
         have hne : id ≠ id2 := by rintro rfl; simp at q3
         subst q4 q5
         split at h
         · rename_i ht
           subst ht
           simp only [Aj, Er.one, Mg, Option.some.injEq, Prod.mk.injEq] at h
           obtain ⟨rfl, rfl, rfl, _⟩ := h
           have hc := hc.1
           simp only [SR, Bb, A3, Ak, Bx] at ha hb
           rw [hb0] at ha
           have hva := ha.2.2 (Aq q1)
           obtain ⟨bb, vs, cc, ee, rfl, hokb, hheapb, hcc, vv, r, rfl, hvv, rfl⟩ := hb
           rw [hb2] at hvv
           obtain ⟨hone, _, hvv⟩ := hvv
           have hvv := hvv (Aq q2)
           obtain ⟨hO, hown, hA⟩ := M.boxes id _ hb0
           obtain ⟨hown2, hA2⟩ := M.boxes id2 _ hb2
           have hsz : info.size = 1 := by rw [I.size, q6]
           obtain ⟨v', w', hr, ho, hg, hf⟩ := Oo (P := P) w t u ty e0 e' info z hu hu2 I.inf I.zero hzs va xss.length (β id).rows (by rw [hva, hsz]; exact hO) (some ⟨bb, 0, none⟩) 1 1 [vv] (λ h => by cases h)
             (by simp [hsz]) (λ a ha j x hx => by
               cases ha
               rw [Ju, Cm hheapb, <- Array.getElem?_toList, hcc, Nat.zero_add]; exact hx) (λ x hx => by simp at hx; subst hx; exact hone) (by rw [I.bytes]; exact hc) (by rw [I.bytes]; exact I.bpos)
           simp only [List.length_cons, List.length_nil, Nat.zero_add]
           rw [hr]
           have hnd := M.nodup id
           rw [hown] at hnd
           have hnd1 := List.nodup_append.1 hnd
           have fresh2 : ∀ b', vv.ownBlock = some b' -> b' ∈ (β id2).own := by intro b' hb'; rw [hown2, <- hvv, hb']; simp
           have hmemR : ∀ b', b' ∈ obs ((β id).rows ++ [vv]) -> b' ∈ obs (β id).rows \/ vv.ownBlock = some b' := by
             intro b' hb'
             obtain ⟨x, hx, hxb⟩ := Kr.1 hb'
             rcases List.mem_append.1 hx with hx | hx
             · exact .inl (Kr.2 ⟨x, hx, hxb⟩)
             · simp at hx; subst hx; exact .inr hxb
           have hobs : obs ((β id).rows ++ [vv]) = obs (β id).rows ++ vv.ownBlock.toList := by simp [obs]
           have hndR : (obs ((β id).rows ++ [vv])).Nodup := by
             rw [hobs]
             refine List.nodup_append.2 ⟨hnd1.2.1, Ow _, λ x hx y hy e => ?_⟩
             subst e
             exact hne (M.apart id id2 x (by rw [hown]; exact List.mem_append.2 (.inr hx)) (fresh2 x (by simpa using hy)))
           let i' : BI := ⟨0, v', v'.ownBlock.toList ++ obs ((β id).rows ++ [vv]), (β id).rows ++ [vv]⟩
           let β' : Nat -> BI := upd (upd β id2 { β id2 with own := [] }) id i'
           have hβid : β' id = i' := Ba _ _ _
           have hβid2 : β' id2 = { β id2 with own := [] } := by rw [show β' id2 = upd β id2 { β id2 with own := [] } id2 from Cl _ _ hne.symm, Ba]
           have hlt : ∀ x, x ∈ (β id).own \/ x ∈ (β id2).own -> x < w.heap.size := by
             rintro x (hx | hx)
             · exact (M.mine _ x hx).1
             · exact (M.mine _ x hx).1
           have hmem : ∀ x ∈ i'.own, (x ∈ (β id).own \/ x ∈ (β id2).own) \/ (w.heap.size <= x /\ x < w'.heap.size) := by
             intro x hx
             rcases List.mem_append.1 hx with hx | hx
             · have hx : v'.ownBlock = some x := by simpa using hx
               rcases hf with hf | ⟨hf, hl⟩
               · left; left; rw [hown, <- hva, <- hf, hx]; simp
               · right; rw [hf] at hx; cases hx; exact ⟨Nat.le_refl _, hl⟩
             · rcases hmemR x hx with hx | hx
               · left; left; rw [hown]; exact List.mem_append.2 (.inr hx)
               · left; right; exact fresh2 x hx
           have hdis : ∀ x, v'.ownBlock = some x -> x ∉ obs ((β id).rows ++ [vv]) := by
             intro x hx hx2
             have hin : x ∈ (β id).own \/ x ∈ (β id2).own := by
               rcases hmemR x hx2 with h | h
               · left; rw [hown]; exact List.mem_append.2 (.inr h)
               · right; exact fresh2 x h
             rcases hf with hf | ⟨hf, _⟩
             · have hxo : (β id).hdr.ownBlock = some x := by rw [<- hva, <- hf, hx]
               rcases hmemR x hx2 with h | h
               · exact hnd1.2.2 x (by rw [hxo]; simp) x h rfl
               · exact hne (M.apart id id2 x (by rw [hown, hxo]; simp) (fresh2 x h))
             · rw [hf] at hx; cases hx
               exact Nat.lt_irrefl _ (hlt _ hin)
           have hrowheap : ∀ b', b' ∈ obs ((β id).rows ++ [vv]) -> w'.heap[b']? = w.heap[b']? := by
             intro b' hb'
             have hin : b' ∈ (β id).own \/ b' ∈ (β id2).own := by
               rcases hmemR b' hb' with h | h
               · left; rw [hown]; exact List.mem_append.2 (.inr h)
               · right; exact fresh2 b' h
             refine hg.block b' (hlt _ hin) λ e => ?_
             have hxo : (β id).hdr.ownBlock = some b' := by rw [<- hva]; exact e.symm
             rcases hmemR b' hb' with h | h
             · exact hnd1.2.2 b' (by rw [hxo]; simp) b' h rfl
             · exact hne (M.apart id id2 b' (by rw [hown, hxo]; simp) (fresh2 b' h))
           obtain ⟨M', X⟩ := M.step (bx' := put id (.rows e0 e3 t2 (xss ++ [ys]) (v + 1) rv .opn) (put id2 .gone bx)) (β' := β') (w' := w') (λ m => m = id \/ m = id2) hg.os hg.tape hg.output hg.size
             (λ m hm => ⟨by
                 rw [show β' m = upd β id2 { β id2 with own := [] } m from Cl _ _ (λ e => hm (.inl e)), Cl _ _ (λ e => hm (.inr e))],
               by rw [A4 (λ e => hm (.inl e)), A4 (λ e => hm (.inr e))]⟩)
             (λ x hx hn => hg.block x hx λ e => hn id (.inl rfl) (by rw [hown, <- hva, <- e]; simp))
             (λ m hm x hx => by
               rcases hm with rfl | rfl
               · rw [hβid] at hx
                 rcases hmem x hx with (hx | hx) | hx
                 · exact .inl ⟨_, .inl rfl, hx⟩
                 · exact .inl ⟨_, .inr rfl, hx⟩
                 · exact .inr hx
               · rw [hβid2] at hx; simp at hx)
             (λ m hm => by
               rcases hm with rfl | rfl
               · rw [hβid]
                 refine List.nodup_append.2 ⟨Ow _, hndR, λ x hx y hy e => ?_⟩
                 subst e
                 exact hdis x (by simpa using hx) hy
               · rw [hβid2]; simp)
             (λ m m' x hm hm' hx hx' => by
               rcases hm with rfl | rfl <;> rcases hm' with rfl | rfl
               · rfl
               · rw [hβid2] at hx'; simp at hx'
               · rw [hβid2] at hx; simp at hx
               · rfl)
             (λ m hm hn => by
               rcases hm with rfl | rfl
               · rw [A2] at hn; cases hn
               · rw [hβid2])
             (λ m b0 hm h0 => by
               rcases hm with rfl | rfl
               · rw [hb0] at h0; cases h0
                 refine ⟨_, A2 _ _ _, ?_⟩
                 exact ⟨rfl, by omega, λ e => by omega⟩
               · rw [hb2] at h0; cases h0
                 exact ⟨.gone, by rw [A4 hne.symm, A2], trivial⟩)
             (λ X m b0 hm h0 => by
               rcases hm with rfl | rfl
               · rw [A2] at h0; cases h0
                 refine ⟨?_, by rw [hβid]; rfl, ?_⟩
                 · rw [hβid, List.length_append]
                   rw [hsz] at ho
                   exact ho
                 · rw [hβid]
                   refine Bk.append (Bk.imp_mem' (λ xs x hx hr => hr.later X.later λ b' hb' => hrowheap b' (Kr.2 ⟨x, List.mem_append.2 (.inl hx), hb'⟩)) hA) (.cons ?_ .nil)
                   rw [<- hvv] at hA2
                   exact hA2.later X.later λ b' hb' => hrowheap b' (Kr.2 ⟨vv, by simp, hb'⟩)
               · rw [A4 hne.symm, A2] at h0; cases h0
                 trivial)
           refine ⟨_, _, _, _, rfl, rfl, ?_, M', X⟩
           simp only [Bb, A3, Ak, A2, hβid]
           refine ⟨?_, Nat.le_refl _, λ _ => rfl⟩
           obtain ⟨_, q⟩ := ho
           rcases q with ⟨q, _⟩ | ⟨_, _, _, q, _⟩ <;> rw [q] <;> rfl
         · simp [Aj] at h
       · simp [Aj] at h
     · simp [Aj] at h
   · simp [Aj] at h
 · simp [Aj] at h
end
section
variable {V : Env} {P : Program} {C : Ctx} {bx : List (Nat × Box V.E)} {β : Nat -> BI} {w : World}
variable {res : Option (SV V.E)} {cs : List Prop} {bx' : List (Nat × Box V.E)} {rs ws : List Nat} {ac : Acc}
abbrev Zb (V : Env) (C : Ctx) (bx : List (Nat × Box V.E)) (β : Nat -> BI) (w : World) : List (Option (SV V.E)) -> List Value -> Prop :=
 Bk λ o v => ∀ x, o = some x -> SR V C bx β w x v
theorem Ana (cells : Array Value) (off : Nat) : ∀ (vs : List Value) (k : Nat), off + k + vs.length <= cells.size ->
   ((vs.zipIdx k).foldl (λ cs (x : Value × Nat) => cs.setIfInBounds (off + x.2) x.1) cells).toList = cells.toList.take (off + k) ++ vs ++ cells.toList.drop (off + k + vs.length) := by
 intro vs
 induction vs generalizing cells with
 | nil => intro k _; simp
 | cons v vs ih =>
   intro k hk
   simp only [List.zipIdx_cons, List.foldl_cons]
   rw [ih _ (k + 1) (by simp at hk ⊢; omega)]
   have e := list_seg_step cells.toList (off + k) v vs (by simp at hk ⊢; omega)
   simpa [Array.toList_setIfInBounds, Nat.add_assoc] using e
theorem Acx {place : Nat -> Option (Nat × Nat)} : ∀ (ps : List (Nat × Operand)) (vs : List (Option (SV V.E))) (ds : List Value) (ls : List (A7 V.E)) (cells : Array Value) (ls' : List (A7 V.E)),
   Zb V C bx β w vs ds -> vs.length = ps.length -> Bk (Ak V.T bx β (Bc C β w) w) ls cells.toList -> R6 place ls (K9 V ps vs) = some ls' ->
   (∀ i off size, place i = some (off, size) -> 0 < size) ->
   ∃ cells', Instr.fill place cells ((ps.map (·.1)).zip ds) = some cells' /\ Bk (Ak V.T bx β (Bc C β w) w) ls' cells'.toList /\ cells'.size = cells.size
 | [], [], ds, ls, cells, ls', hv, _, hr, h, _ => by
   cases hv
   simp only [K9, R6, Option.some.injEq] at h
   subst h
   exact ⟨cells, by simp [Instr.fill], hr, rfl⟩
 | [], _ :: _, _, _, _, _, _, h, _, _, _ => by simp at h
 | _ :: _, [], _, _, _, _, _, h, _, _, _ => by simp at h
 | (i, o) :: ps, v :: vs, d :: ds, ls, cells, ls', .cons hv hvs, hl, hr, h, hpos => by
   simp only [K9] at h
   match v, hv, h with
   | some (.cv c), hv, h =>
     simp only [R6] at h
     split at h
     · rename_i off size hp
       split at h
       · rename_i hsz
         have hsz := Aq hsz
         split at h
         · rename_i ls1 hs
           have hc := A3.cells (hv _ rfl)
           have hpz := hpos i off size hp
           obtain ⟨hnew, hle⟩ := Vj hr hc hs (by omega)
           have hcl : d.cells.toList.length = size := by rw [<- hc.length, hsz]
           have hcl' : d.cells.size = size := by rw [<- Array.length_toList]; exact hcl
           have hle' : off + size <= cells.size := by rw [<- Array.length_toList, <- hcl]; exact hle
           have e := Ana cells off d.cells.toList 0 (by rw [hcl]; omega)
           simp only [Nat.add_zero] at e
           rw [<- e] at hnew
           have hz : (d.cells.zipIdx.foldl (λ cs (x : Value × Nat) => cs.setIfInBounds (off + x.2) x.1) cells) = (d.cells.toList.zipIdx 0).foldl (λ cs (x : Value × Nat) => cs.setIfInBounds (off + x.2) x.1) cells := by
             rw [<- Array.foldl_toList, Array.toList_zipIdx]
           rw [<- hz] at hnew
           obtain ⟨cells', h1, h2, h3⟩ := Acx ps vs ds ls1 _ ls' hvs (by simpa using hl) hnew h hpos
           refine ⟨cells', ?_, h2, ?_⟩
           · simp only [List.map_cons, List.zip_cons_cons, Instr.fill, hp]
             rw [if_neg (by simp [hcl']; omega)]
             exact h1
           · rw [h3, <- Array.length_toList, hz, e]
             simp only [List.length_append, List.length_take, List.length_drop, Array.length_toList]
             omega
         · cases h
       · cases h
     · cases h
   | some (.tup _), _, h => simp [R6] at h
   | none, _, h => simp [R6] at h
theorem Aep (ρ : Operand -> Value) (ps : List (Nat × Operand)) : (ps.map λ x => (x.1, ρ x.2)) = (ps.map (·.1)).zip (ps.map λ x => ρ x.2) := by
 induction ps with
 | nil => rfl
 | cons p ps ih => simp [ih]
theorem Pt {α γ : Type} (f : α -> Sem γ) (g : α -> γ) : ∀ (l : List α) (acc : Array γ), (∀ x ∈ l, (f x).run P w = .ok (g x) w) ->
   (l.foldlM (λ bs a => bs.push <$> f a) acc : Sem (Array γ)).run P w = .ok (acc ++ (l.map g).toArray) w
 | [], acc, _ => by simp
 | x :: l, acc, h => by
   simp only [List.foldlM_cons, Sem.run_bind, Sem.run_map, h x (by simp), Result.andThen_ok]
   rw [Pt f g l _ (λ y hy => h y (by simp [hy]))]
   simp
theorem Aux {α γ : Type} (f : α -> Sem γ) (g : α -> γ) (l : Array α) (h : ∀ x ∈ l.toList, (f x).run P w = .ok (g x) w) : (l.mapM f).run P w = .ok (l.map g) w := by
 rw [Array.mapM_eq_foldlM, <- Array.foldlM_toList, Pt f g _ _ h]
 congr 1
 apply Array.ext'
 simp
theorem Av9 (HE : Tt V P) (M : Bq V.T C bx β w) {t : TypeId} {i : TI V.E} {info : TypeInfo} {d : TypeDesc} {z : Value} (I : C6 V P t i info d z) {fs : List (Nat × TypeId)} (hk : i.kind = .struct fs)
   (hall : fs.all (λ x => (V.ti x.2).isSome) = true) (ρ : Operand -> Value) (ps : Array (Nat × Operand)) {vs : List (Option (SV V.E))} (hv : Zb V C bx β w vs (ps.toList.map λ x => ρ x.2))
   {ls : List (A7 V.E)} (h : R6 (fieldPlace V fs) i.zero (K9 V ps.toList vs) = some ls) :
   VOk V.T C bx β w (some (.cv (.ag ls))) bx ((Instr.build t (ps.map λ x => (x.1, ρ x.2))).run P w) := by
 have hkd := I.kind
 rw [hk] at hkd
 cases d <;> simp [F5] at hkd
 rename_i fields
 subst hkd
 let g : Field -> Nat × Nat := λ f => (f.offset, ((V.ti f.type).map (·.size)).getD 0)
 have hm := Aux (P := P) (w := w) (λ f : Field => (do pure (f.offset, <- sizeOf f.type) : Sem (Nat × Nat))) g fields λ f hf => by
   have h1 := List.all_eq_true.1 hall (f.offset, f.type) (List.mem_map.2 ⟨f, hf, rfl⟩)
   obtain ⟨j, hj⟩ := Option.isSome_iff_exists.1 h1
   obtain ⟨_, _, _, J⟩ := HE _ _ hj
   simp only [Sem.run_bind, J.run_size, Result.andThen_ok, Sem.run_pure, g, hj, Option.map_some, Option.getD_some]
 have hplace : ∀ n : Nat, (fields.map g)[n]? = fieldPlace V (fields.toList.map λ f => (f.offset, f.type)) n := by
   intro n
   unfold fieldPlace
   rw [Array.getElem?_map, List.getElem?_map, <- Array.getElem?_toList]
   cases hn : fields.toList[n]? with
   | none => rfl
   | some f =>
     have h1 := List.all_eq_true.1 hall (f.offset, f.type) (List.mem_map.2 ⟨f, List.mem_of_getElem? hn, rfl⟩)
     obtain ⟨j, hj⟩ := Option.isSome_iff_exists.1 h1
     simp [g, hj]
 have hpos : ∀ n off size, fieldPlace V (fields.toList.map λ f => (f.offset, f.type)) n = some (off, size) -> 0 < size := by
   intro n off size hn
   unfold fieldPlace at hn
   split at hn
   · split at hn
     · rename_i j hj
       obtain ⟨_, _, _, J⟩ := HE _ _ hj
       cases hn
       exact J.pos
     · cases hn
   · cases hn
 obtain ⟨cells', h1, h2, h3⟩ := Acx (w := w) ps.toList vs _ i.zero z.cells ls hv (by rw [hv.length, List.length_map]) (Oz I.zeros) h hpos
 have hr : (Instr.build t (ps.map λ x => (x.1, ρ x.2))).run P w = .ok (.agg cells') w := by
   unfold Instr.build
   simp only [Sem.run_bind, I.run_zero, Result.andThen_ok, I.run_under, hm]
   have : (λ n => (fields.map g)[n]?) = fieldPlace V (fields.toList.map λ f => (f.offset, f.type)) := funext hplace
   rw [this, Array.toList_map, Aep, h1]
   simp
 rw [hr]
 exact .pure M ⟨cells', rfl, h2⟩
end
section
variable {V : Env} {P : Program} {C : Ctx} {bx : List (Nat × Box V.E)} {β : Nat -> BI} {w : World}
variable {res : Option (SV V.E)} {cs : List Prop} {bx' : List (Nat × Box V.E)} {rs ws : List Nat} {ac : Acc}
theorem X8 {R : A7 V.E -> Value -> Prop} {l : List (A7 V.E)} {vs : List Value} (h : Bk R l vs) : ∀ n, Bk R (Q6 l n) (List.replicate n vs).flatten
 | 0 => by simp [Q6]; exact .nil
 | n + 1 => by rw [Q6, List.replicate_succ, List.flatten_cons]; exact h.append (X8 h n)
theorem Vb (HT : V.T.Ok) {t : Ty} {sz : Nat} (hsz : t.sz V.T = sz) : ∀ (n : Nat) (ls : List (A7 V.E)) (vs : List Value) (xs : List (t.den V.E)), Sh V t sz n ls = some xs -> Bk (Ak V.T bx β (Bc C β w) w) ls vs ->
   xs.length = n /\ ∃ css : List (List Value), vs = css.flatten /\ Bk (λ x cs => Br (Bc C β w) w (t.av V.T x) cs /\ cs.length = t.sz V.T) xs css
 | 0, [], _, xs, h, .nil => by
   simp only [Sh, Option.some.injEq] at h
   subst h
   exact ⟨rfl, [], rfl, .nil⟩
 | 0, _ :: _, _, xs, h, _ => by simp [Sh] at h
 | n + 1, ls, vs, xs, h, hr => by
   simp only [Sh] at h
   split at h
   · rename_i x hx
     split at h
     · rename_i r hrr
       cases h
       obtain ⟨h1, css, h2, h3⟩ := Vb HT hsz n _ _ r hrr (hr.drop sz)
       have hc := Oi HT hx
       have hrep := L9 hc (hr.take sz)
       have hl := hrep.length
       rw [Ou HT] at hl
       refine ⟨by simp [h1], vs.take sz :: css, ?_, .cons ⟨(Ka HT t x _).1 hrep, hl.symm⟩ h3⟩
       rw [List.flatten_cons, <- h2, List.take_append_drop]
     · cases h
   · cases h
theorem Vv {ok : Nat -> Prop} {t : Ty} {b : Nat} {c : Array Value} {e : TypeId} (hok : ok b) (hh : w.heap[b]? = some (.cells c e (0, 0))) : ∀ (xs : List (t.den V.E)) (css : List (List Value)) (pre : List Value),
   c.toList = pre ++ css.flatten -> Bk (λ x cs => Br ok w (t.av V.T x) cs /\ cs.length = t.sz V.T) xs css -> Fr ok w (t.sz V.T) (xs.map (t.av V.T)) b pre.length
 | [], _, _, _, .nil => trivial
 | x :: xs, cs :: css, pre, hc, .cons h1 h2 => by
   refine ⟨⟨cs, h1.1, h1.2, hok, λ j v hj => ?_⟩, ?_⟩
   · rw [Cm hh, <- Array.getElem?_toList, hc, List.flatten_cons, List.getElem?_append_right (by omega), Nat.add_sub_cancel_left]
     rw [List.getElem?_append_left (List.getElem?_eq_some_iff.1 hj).1]; exact hj
   · have := Vv hok hh xs css (pre ++ cs) (by rw [hc, List.flatten_cons, List.append_assoc]) h2
     rw [List.length_append, h1.2] at this
     exact this
theorem Ui {t e : TypeId} (hu : P.underlying t = some (.slice e)) {i : TI V.E} {info : TypeInfo} {d : TypeDesc} {z : Value} (I : C6 V P e i info d z) (n : Nat) (hn : n * i.size <= 16777216) (parts : Array (Nat × Value)) {cells : Array Value}
   (h : Instr.fill (λ k => some (k * i.size, i.size)) (madeCells z.cells (n * i.size)) parts.toList = some cells) :
   (Instr.buildSlice t n parts).run P w = .ok (.slice (some ⟨w.heap.size, 0, none⟩) n n) (w.alloc (.cells cells e)) := by
 unfold Instr.buildSlice
 simp only [Sem.run_bind, run_underlying hu, Result.andThen_ok, I.run_size]
 rw [if_neg (by omega)]
 by_cases hz : n * i.size = 0
 · have h1 : (Array.range (n * i.size)).map (λ x => (#[] : Array Value)[x % (#[] : Array Value).size]!) = madeCells z.cells (n * i.size) := by rw [hz]; simp [madeCells]
   rw [if_pos hz]
   simp only [Sem.run_bind, Sem.run_pure, Result.andThen_ok, h1, h]
   rfl
 · rw [if_neg hz]
   have h1 : (Array.range (n * i.size)).map (λ x => z.cells[x % z.cells.size]!) = madeCells z.cells (n * i.size) := rfl
   simp only [Sem.run_bind, I.run_zero, Sem.run_pure, Result.andThen_ok, h1, h]
   rfl
theorem Z8 (HT : V.T.Ok) (M : Bq V.T C bx β w) {t e : TypeId} (hu : P.underlying t = some (.slice e)) {i : TI V.E} {info : TypeInfo} {d : TypeDesc} {z : Value} (I : C6 V P e i info d z)
   (n : Nat) (hn : Nat.ble (n * i.size) 16777216 = true) (ρ : Operand -> Value) (ps : Array (Nat × Operand)) {vs : List (Option (SV V.E))} (hv : Zb V C bx β w vs (ps.toList.map λ x => ρ x.2))
   {ls : List (A7 V.E)} (hf : R6 (λ k => some (k * i.size, i.size)) (Q6 i.zero n) (K9 V ps.toList vs) = some ls) (q : Orc V.E) {dst : Nat}
   (h : Aj V bx (U9 V dst e i n q ls) rs ws = some (res, cs, bx', ac)) :
   VOk V.T C bx β w res bx' ((Instr.buildSlice t n (ps.map λ x => (x.1, ρ x.2))).run P w) := by
 have hz := X8 (Oz (T := V.T) (bx := bx) (β := β) (ok := Bc C β w) (w := w) I.zeros) n
 rw [<- Lc _ (by rw [I.zcells]; exact I.pos), I.zcells] at hz
 obtain ⟨cells', h1, h2, h3⟩ := Acx (w := w) ps.toList vs _ _ (madeCells z.cells (n * i.size)) ls hv (by rw [hv.length, List.length_map]) hz hf (λ _ _ _ h => by cases h; exact I.pos)
 rw [Ui hu I n (Nat.le_of_ble_eq_true hn) _ (by rw [Array.toList_map, Aep]; exact h1)]
 rw [size_madeCells] at h3
 have later : ∀ {bx1 : List (Nat × Box V.E)} {β1 : Nat -> BI}, Bq V.T C bx1 β1 w -> Bq V.T C bx1 β1 (w.alloc (.cells cells' e)) /\ Ext V.T bx1 β1 (Bc C β1 w) w bx1 β1 (Bc C β1 (w.alloc (.cells cells' e))) (w.alloc (.cells cells' e)) /\
     Bc C β1 (w.alloc (.cells cells' e)) w.heap.size := by
   intro bx1 β1 M1
   obtain ⟨M2, X2⟩ := M1.grow (Rr.alloc w (.cells cells' e))
   exact ⟨M2, X2, by simp, .inr (.inl M1.kept.size), λ id hid => Nat.lt_irrefl _ (M1.mine id _ hid).1⟩
 unfold U9 at h
 split at h
 · rename_i l
   obtain ⟨rfl, _, rfl⟩ := Az h
   obtain ⟨M2, X2, hok⟩ := later M
   have hn1 : n = 1 := by
     have hl := h2.length
     simp [h3] at hl
     exact Nat.eq_one_of_mul_eq_one_right hl.symm
   subst hn1
   refine ⟨β, _, _, _, rfl, rfl, ?_, M2, X2⟩
   simp only [Bb, A3, Ak]
   exact ⟨w.heap.size, cells'.toList, cells', e, rfl, hok, heap_alloc_new _ _, rfl, (Bx.iff V.T _ _).2 (Bk.ext X2 h2)⟩
 · rename_i ls
   split at h
   · rename_i xs hx
     obtain ⟨hid, rs1, ws1, h⟩ := H2 h
     obtain ⟨rfl, _, rfl⟩ := Az h
     have hnm : n <= maxLen := by
       have h1 := Nat.le_of_ble_eq_true hn
       have h2 : n * 1 <= n * i.size := Nat.mul_le_mul_left _ I.pos
       unfold maxLen; omega
     obtain ⟨M', X⟩ := M.new hid (.arr e i.ty xs 0 false) (.cells cells' e) (.slice (some ⟨w.heap.size, 0, none⟩) n n) [w.heap.size] (.inl rfl) λ X => by
       obtain ⟨hxl, css, hcss, hA⟩ := Vb HT I.ty n _ _ xs hx (Bk.ext X h2)
       refine ⟨by rw [Ba]; rfl, ?_⟩
       rw [Ba]
       refine ⟨css, ⟨?_, .inr ⟨w.heap.size, n, _, by rw [hxl], Nat.zero_le _, heap_alloc_new _ _, by rw [hxl]; exact Nat.le_refl _, hnm, ?_, ?_⟩⟩, hA⟩
       · rw [<- hcss, hxl, Array.length_toList, h3, I.ty]
       · rw [h3, I.ty]
       · rw [hxl, hcss, I.ty]
         exact List.take_of_length_le (by rw [<- hcss, Array.length_toList, h3]; exact Nat.le_refl _)
     refine ⟨_, _, _, _, rfl, rfl, ?_, M', X⟩
     simp only [Bb, A3, Ak, A2, Ba]
     exact ⟨rfl, Nat.le_refl _, λ _ => trivial⟩
   · simp [Aj] at h
 · obtain ⟨bx1, β1, ls', rs', ws', M1, X1, R1, h, _⟩ := O1 _ _ bx β M h2 _ _ _ h
   split at h
   · rename_i xs hx
     obtain ⟨rfl, _, rfl⟩ := Az h
     obtain ⟨M2, X2, hok⟩ := later M1
     obtain ⟨hxl, css, hcss, hA⟩ := Vb HT I.ty n _ _ xs hx (Bk.ext X2 R1)
     refine ⟨β1, _, _, _, rfl, rfl, ?_, M2, X1.trans X2⟩
     simp only [Bb, A3, Ak]
     refine ⟨some ⟨w.heap.size, 0, none⟩, n, by rw [List.length_map, hxl], by rw [List.length_map, hxl]; exact Nat.le_refl _, (λ h => by cases h), (λ h => by cases h), λ ad had => ?_⟩
     cases had
     exact ⟨λ _ => rfl, Vv hok (heap_alloc_new _ _) xs css [] (by simpa using hcss) hA⟩
   · simp [Aj] at h
theorem A7n (M : Bq V.T C bx β w) (ats : Array TypeId) (ty : TypeId) (k : IntKind) (a b : Int) :
   VOk V.T C bx β w (some (.cv (.one (.int k (if b < a then b else a))))) bx ((Builtin.min_ ats ty #[.int k a, .int k b]).run P w) := by
 have : (Builtin.min_ ats ty #[.int k a, .int k b]).run P w = .ok (.int k (if b < a then b else a)) w := by
   simp [Builtin.min_, Builtin.min2]
 rw [this]; exact .pure M rfl
theorem A78 (M : Bq V.T C bx β w) (ats : Array TypeId) (ty : TypeId) (k : IntKind) (a b : Int) :
   VOk V.T C bx β w (some (.cv (.one (.int k (if a < b then b else a))))) bx ((Builtin.max_ ats ty #[.int k a, .int k b]).run P w) := by
 have : (Builtin.max_ ats ty #[.int k a, .int k b]).run P w = .ok (.int k (if a < b then b else a)) w := by
   simp [Builtin.max_, Builtin.max2]
 rw [this]; exact .pure M rfl
theorem Aaz : ∀ (vs : List (Option (SV V.E))) (ds : List Value) (ls : List (A7 V.E)), Zb V C bx β w vs ds -> Pm V vs = some ls -> Bk (Ak V.T bx β (Bc C β w) w) ls ds
 | [], _, ls, .nil, h => by simp only [Pm, Option.some.injEq] at h; subst h; exact .nil
 | v :: vs, _, ls, .cons h1 h2, h => by
   match v, h1, h with
   | some (.cv (.one l)), h1, h =>
     simp only [Pm] at h
     split at h
     · rename_i r hr
       cases h
       exact .cons (h1 _ rfl) (Aaz vs _ r h2 hr)
     · cases h
   | some (.cv (.ag _)), _, h => simp [Pm] at h
   | some (.tup _), _, h => simp [Pm] at h
   | none, _, h => simp [Pm] at h
theorem Af5 (M : Bq V.T C bx β w) (f : FuncId) (ρ : Operand -> Value) (fi ca : Array Operand) (hfi : fi.isEmpty = true) {vs : List (Option (SV V.E))} (hv : Zb V C bx β w vs ((fi ++ ca).toList.map ρ))
   {ls : List (A7 V.E)} (h : Pm V vs = some ls) : VOk V.T C bx β w (some (.cv (.one (.clo f ls)))) bx ((Instr.makeFunc (.func f) (fi.map ρ) (ca.map ρ)).run P w) := by
 have hfi : fi = #[] := by simpa using hfi
 subst hfi
 have hr : (Instr.makeFunc (.func f) ((#[] : Array Operand).map ρ) (ca.map ρ)).run P w = .ok (.func (.func f) #[] (ca.map ρ)) w := by
   simp [Instr.makeFunc]
 rw [hr]
 refine .pure M ?_
 simp only [Bb, A3, Ak]
 refine ⟨_, rfl, (Bx.iff V.T _ _).2 ?_⟩
 have := Aaz _ _ _ hv h
 simpa using this
end
end Go.Ab
