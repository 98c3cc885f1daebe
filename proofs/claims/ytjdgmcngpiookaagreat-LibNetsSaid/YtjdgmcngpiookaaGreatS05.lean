/- Maps: made, looked up, written. What is known of a function, and what a call comes to. The results of a call, some of which become boxes of the caller's. A call of a function that writes into a piece of an array. Conditions: none beyond those that each theorem names. -/
import Derived.Test.YtjdgmcngpiookaaGreatS04
import Derived.MapKept
namespace Go.Ab
open Go Go.MapKept
section
variable {V : Env} {P : Program} {C : Ctx} {bx : List (Nat × Box V.E)} {β : Nat -> BI} {w : World}
variable {res : Option (SV V.E)} {cs : List Prop} {bx' : List (Nat × Box V.E)} {rs ws : List Nat} {ac : Acc}
theorem Ad5 {t : TypeId} {i j : TI V.E} (h : Aej V t = some (i, j)) :
   ∃ it k e, V.ti t = some it /\ it.kind = .map k e /\ V.ti k = some i /\ V.ti e = some j /\ Jb i.kind i.ty = true /\ Kg j.ty = j.kind.agg := by
 unfold Aej at h
 split at h
 · rename_i k e _ _ _ _ ht
   split at h
   · rename_i i' j' h1 h2
     split at h
     · rename_i hc
       simp only [Bool.and_eq_true, beq_iff_eq] at hc
       cases h
       exact ⟨_, k, e, ht, rfl, h1, h2, hc.1, hc.2⟩
     · cases h
   · cases h
 · cases h
theorem Afu {t : TypeId} {i : TI V.E} {info : TypeInfo} {d : TypeDesc} {z : Value} (I : C6 V P t i info d z) {k e : TypeId} (h : i.kind = .map k e) : P.underlying t = some (.map k e) := by
 have hk := I.kind
 rw [h] at hk
 have hu := I.under
 cases d <;> simp [F5] at hk
 obtain ⟨rfl, rfl⟩ := hk
 exact hu
theorem Aq3 {ok : Nat -> Prop} {T : Tab} {κ : TK} {k : Ty} {d : TypeDesc} (hk : Jb κ k = true) (hd : F5 κ d = true) {x : k.den T.E} {v : Value} (h : Br ok w (k.av T x) [v]) : IsKey d v := by
 cases κ <;> cases k <;> simp [Jb] at hk <;> cases d <;> simp [F5] at hd <;> simp only [Ty.av, Br, List.cons.injEq, and_true] at h <;> subst h <;> simp_all [IsKey]
theorem Apl {ok : Nat -> Prop} {T : Tab} {κ : TK} {k : Ty} {d : TypeDesc} (hk : Jb κ k = true) (hd : F5 κ d = true) {x y : k.den T.E} {v u : Value} (h : Br ok w (k.av T x) [v]) (h' : Br ok w (k.av T y) [u]) :
   Instr.sameNow d v u = some (K4 k x y) := by
 cases κ <;> cases k <;> simp [Jb] at hk <;> cases d <;> simp [F5] at hd <;> simp only [Ty.av, Br, List.cons.injEq, and_true] at h h' <;> subst h h'
 · simp [Instr.sameNow, K4, kqI]
   exact Bool.eq_iff_iff.2 (by simp)
 · rfl
 · simp only [Instr.sameNow, K4, kqS, Option.some.injEq]
   refine Bool.eq_iff_iff.2 ?_
   rw [bytes_beq]
   simp
theorem A6f {ok : Nat -> Prop} {T : Tab} {κ : TK} {k : Ty} (hk : Jb κ k = true) {x y : k.den T.E} {v : Value} (h : Br ok w (k.av T x) [v]) (he : K4 k x y = true) : Br ok w (k.av T y) [v] := by
 cases κ <;> cases k <;> simp [Jb] at hk <;> simp [K4, kqI, kqB, kqS] at he <;> subst he <;> exact h
def A6l (T : Tab) (ok : Nat -> Prop) (w : World) (k t : Ty) (x : k.den T.E × t.den T.E) (e : MapEntry) : Prop := Br ok w (k.av T x.1) [e.key] /\ Sc T ok w t x.2 e.val
theorem Ack {ok : Nat -> Prop} {T : Tab} {κ : TK} {k t : Ty} {d : TypeDesc} (hk : Jb κ k = true) (hd : F5 κ d = true) {x : k.den T.E} {v : Value} (h : Br ok w (k.av T x) [v]) :
   ∀ {l : List (k.den T.E × t.den T.E)} {es : List MapEntry}, Bk (A6l T ok w k t) l es -> ∀ i,
     (Qb (K4 k) x l = none /\ Instr.findNow d v es i = some none /\ ∀ y, T6 (K4 k) x y l = l ++ [(x, y)]) \/
     ∃ j y e, Qb (K4 k) x l = some y /\ Instr.findNow d v es i = some (some (i + j, e.val)) /\ es[j]? = some e /\ Sc T ok w t y e.val /\ e.key = v /\
       ∀ (y' : t.den T.E) (f : MapEntry -> MapEntry), Br ok w (k.av T x) [(f e).key] -> Sc T ok w t y' (f e).val -> Bk (A6l T ok w k t) (T6 (K4 k) x y' l) (es.modify j f)
 | [], _, .nil, i => .inl ⟨rfl, rfl, λ _ => rfl⟩
 | (y, z) :: l, e :: es, .cons h1 h2, i => by
   have hs := Apl hk hd h h1.1
   cases he : K4 k x y with
   | true =>
     refine .inr ⟨0, z, e, by simp [Qb, he], by simp [Instr.findNow, hs, he], rfl, h1.2, ?_, λ y' f g1 g2 => ?_⟩
     · have := A6f hk h he
       have h3 := h1.1
       cases κ <;> cases k <;> simp [Jb] at hk <;> simp only [Ty.av, Br, List.cons.injEq, and_true] at this h3 <;> rw [this, h3]
     · simp only [T6, he, if_true, List.modify_zero_cons]
       exact .cons ⟨g1, g2⟩ h2
   | false =>
     rcases Ack hk hd h h2 (i + 1) with ⟨k1, k2, k3⟩ | ⟨j, y1, e1, k1, k2, k3, k4, k5, k6⟩
     · exact .inl ⟨by simp [Qb, he, k1], by simp [Instr.findNow, hs, he, k2], λ q => by simp [T6, he, k3 q]⟩
     · refine .inr ⟨j + 1, y1, e1, by simp [Qb, he, k1], by simp [Instr.findNow, hs, he, k2]; omega, by simpa using k3, k4, k5, λ y' f g1 g2 => ?_⟩
       simp only [T6, he, Bool.false_eq_true, if_false, List.modify_succ_cons]
       exact .cons h1 (k6 y' f g1 g2)
theorem Adp (HT : V.T.Ok) {ok : Nat -> Prop} {t : Ty} {ls : List (A7 V.E)} {x : t.den V.E} (h : t.ofL V.T ls = some x) {vs : List Value} (k : Bk (Ak V.T bx β ok w) ls vs) : Br ok w (t.av V.T x) vs :=
 (Ka HT t x vs).1 (L9 (Oi HT h) k)
theorem Ai8 (M : Bq V.T C bx β w) {dst : Nat} {k t : Ty} {mt : TypeId} (h : Aj V bx (Jh V dst (.map k t []) (.one (.mp dst))) rs ws = some (res, cs, bx', ac)) :
   VOk V.T C bx β w res bx' ((Instr.makeMap mt none).run P w) := by
 obtain ⟨hid, rs', ws', h⟩ := H2 h
 obtain ⟨rfl, _, rfl⟩ := Az h
 have hr : (Instr.makeMap mt none).run P w = .ok (.map (some w.heap.size)) (w.alloc (.map #[] 0)) := by
   simp only [Instr.makeMap, Sem.run_bind, run_newObj, Result.andThen_ok, Sem.run_pure]
   rfl
 rw [hr]
 obtain ⟨M', X⟩ := M.new hid (.map k t []) (.map #[] 0) .nilIface [w.heap.size] (.inl rfl) λ X => by
   refine ⟨by simp, #[], 0, ?_, .nil⟩
   rw [Ba]; exact heap_alloc_new _ _
 refine ⟨_, _, _, _, rfl, rfl, ?_, M', X⟩
 simp only [Bb, A3, Ak, A2, Ba]
 exact ⟨rfl, trivial⟩
theorem Awu (HT : V.T.Ok) {ok : Nat -> Prop} {t : Ty} {x : t.den V.E} {v : Value} (h : Sc V.T ok w t x v) {c : CV V.E} (hc : B2 (Kg t) (t.toL V.T x) = some c) : A3 V.T bx β ok w c v := by
 unfold Sc at h
 cases hn : Kg t with
 | true =>
   rw [hn] at h hc
   obtain ⟨cs, rfl, h⟩ := h
   simp [B2] at hc; subst hc
   exact ⟨cs, rfl, (Ka HT t x _).2 h⟩
 | false =>
   rw [hn] at h hc
   simp only [Bool.false_eq_true, if_false] at h
   have k := (Ka HT (bx := bx) (β := β) t x _).2 h
   rcases Lh hc k with ⟨h0, _⟩ | ⟨_, l, v', h1, rfl, h3, h4⟩
   · cases h0
   · cases h3; exact h4
theorem A7z {z : Value} (b : Bool) (h : Ac9 z = b) : (b = true -> z = .agg z.cells) /\ (b = false -> z.cells.size = 1 -> z.cells.toList = [z]) := by
 cases z <;> simp [Ac9] at h <;> subst h <;> simp [Value.cells]
theorem Ans (HT : V.T.Ok) (M : Bq V.T C bx β w) {i j : TI V.E} {mt kt et : TypeId} {ki ei : TypeInfo} {kd ed : TypeDesc} {kz ez : Value} (hm : P.underlying mt = some (.map kt et))
   (I : C6 V P kt i ki kd kz) (J : C6 V P et j ei ed ez) (hk : Jb i.kind i.ty = true) (hj : Kg j.ty = j.kind.agg) {a x : SV V.E} {va vx : Value} (ha : SR V C bx β w a va) (hx : SR V C bx β w x vx) {ok : Bool}
   (h : Aj V bx (S6 V i j a x ok) rs ws = some (res, cs, bx', ac)) : VOk V.T C bx β w res bx' ((Instr.lookup mt va vx ok).run P w) := by
 unfold S6 at h
 split at h
 · rename_i id key
   simp only [Aj] at h
   split at h
   · rename_i k t l hb
     split at h
     · rename_i hkt
       simp only [Bool.and_eq_true, decide_eq_true_eq] at hkt
       obtain ⟨rfl, rfl⟩ := hkt
       split at h
       · rename_i kx z hkx hz
         split at h
         · rename_i c hc
           have ha' := ha
           simp only [SR, Bb, A3, Ak, hb] at ha'
           obtain ⟨_, rfl⟩ := ha'
           obtain ⟨_, es, clock, h1, h2⟩ := M.boxes id _ hb
           have hx' : Ak V.T bx β (Bc C β w) w key vx := hx
           have hkv := Adp HT hkx (.cons hx' .nil)
           have hik := Aq3 hk I.kind hkv
           have hzv : Sc V.T (Bc C β w) w j.ty z ez := by
             have hz' := Adp HT (w := w) (ok := Bc C β w) hz (Oz (bx := bx) (β := β) J.zeros)
             obtain ⟨z1, z2⟩ := A7z _ J.zagg
             unfold Sc
             rw [hj]
             cases hg : j.kind.agg with
             | true => exact ⟨ez.cells, z1 hg, hz'⟩
             | false =>
               simp only [Bool.false_eq_true, if_false]
               have hsz : ez.cells.size = 1 := by
                 rw [J.zcells, <- J.ty]
                 rw [hg] at hj
                 cases hty : j.ty <;> rw [hty] at hj <;> simp [Kg] at hj <;> rfl
               rw [z2 hg hsz] at hz'
               exact hz'
           have fin : ∀ (y : j.ty.den V.E) (v : Value) (b : Bool), Sc V.T (Bc C β w) w j.ty y v -> B2 j.kind.agg (j.ty.toL V.T y) = some c -> (Qb (K4 i.ty) kx l).isSome = b ->
               (Instr.lookup mt (.map (some (β id).blk)) vx ok).run P w = .ok (if ok then .tuple #[v, .bool b] else v) w -> VOk V.T C bx β w res bx' ((Instr.lookup mt (.map (some (β id).blk)) vx ok).run P w) := by
             intro y v b hv hc' hb' hrun
             rw [hrun]
             rw [<- hj] at hc'
             have hcv := Awu HT (bx := bx) (β := β) hv hc'
             cases ok with
             | true =>
               simp only [if_true] at h ⊢
               obtain ⟨rfl, _, rfl⟩ := Az h
               refine VOk.pure M ⟨_, rfl, .cons hcv (.cons ?_ .nil)⟩
               rw [hb']; rfl
             | false =>
               simp only [Bool.false_eq_true, if_false] at h ⊢
               obtain ⟨rfl, _, rfl⟩ := Az h
               exact VOk.pure M hcv
           rcases Ack hk I.kind hkv h2 0 with ⟨k1, k2, _⟩ | ⟨jj, y, e, k1, k2, k3, k4, _⟩
           · refine fin z ez false hzv (by rw [k1] at hc; exact hc) (by rw [k1]; rfl) ?_
             cases ok <;> simp [Instr.lookup, run_underlying hm, MapKept.run_getObj_map h1, run_checkKey I.under hik, run_findKey I.under k2, J.run_zero, Result.andThen]
           · refine fin y e.val true k4 (by rw [k1] at hc; exact hc) (by rw [k1]; rfl) ?_
             cases ok <;> simp [Instr.lookup, run_underlying hm, MapKept.run_getObj_map h1, run_checkKey I.under hik, run_findKey I.under k2, Result.andThen]
         · simp [Aj] at h
       · simp [Aj] at h
     · simp [Aj] at h
   · simp [Aj] at h
 · simp [Aj] at h
theorem And (HT : V.T.Ok) (M : Bq V.T C bx β w) {i j : TI V.E} {mt kt et : TypeId} {ki : TypeInfo} {kd : TypeDesc} {kz : Value} (hm : P.underlying mt = some (.map kt et))
   (I : C6 V P kt i ki kd kz) (hk : Jb i.kind i.ty = true) (hj : Kg j.ty = j.kind.agg) {a x y : SV V.E} {va vx vy : Value} (ha : SR V C bx β w a va) (hx : SR V C bx β w x vx) (hy : SR V C bx β w y vy)
   (h : Aj V bx (Sy V i j a x y) rs ws = some (res, cs, bx', ac)) : UOk V.T C bx β w res bx' ((Instr.mapUpdate mt va vx vy).run P w) := by
 unfold Sy at h
 split at h
 · rename_i id key c
   have hcv : A3 V.T bx β (Bc C β w) w c vy := hy
   obtain ⟨bx1, β1, ls, rs1, ws1, M1, X1, R1, h, G1⟩ := O1 c.leaves _ bx β M (A3.cells hcv) _ _ _ h
   simp only [Aj] at h
   split at h
   · rename_i k t l hb
     split at h
     · rename_i hkt
       simp only [Bool.and_eq_true, decide_eq_true_eq, beq_iff_eq] at hkt
       obtain ⟨⟨rfl, rfl⟩, hag⟩ := hkt
       split at h
       · rename_i kx q hkx hq
         have ha' : Ak V.T bx1 β1 (Bc C β1 w) w (.mp id) va := Ak.ext X1 _ _ ha
         simp only [Ak, hb] at ha'
         obtain ⟨_, rfl⟩ := ha'
         obtain ⟨hown, es, clock, h1, h2⟩ := M1.boxes id _ hb
         have hx' : Ak V.T bx1 β1 (Bc C β1 w) w key vx := Ak.ext X1 _ _ hx
         have hkv := Adp HT hkx (.cons hx' .nil)
         have hik := Aq3 hk I.kind hkv
         have hqv := Adp HT hq R1
         have hv : Sc V.T (Bc C β1 w) w j.ty q vy := by
           unfold Sc
           rw [hj, <- hag]
           cases c with
           | one l0 =>
             simp only [CV.isAg, Bool.false_eq_true, if_false]
             rw [S8 (show Ak V.T bx β (Bc C β w) w l0 vy from hcv)] at hqv
             exact hqv
           | ag l0 =>
             obtain ⟨cs0, rfl, _⟩ := hcv
             exact ⟨cs0, rfl, hqv⟩
         simp only [Aj, done] at h
         obtain ⟨rfl, _, rfl⟩ := Az h
         have key : ∀ (es' : Array MapEntry) (cl' : Nat), (Instr.mapUpdate mt (.map (some (β1 id).blk)) vx vy).run P w = .ok () { w with heap := w.heap.setIfInBounds (β1 id).blk (.map es' cl') } ->
             Bk (A6l V.T (Bc C β1 w) w i.ty j.ty) (T6 (K4 i.ty) kx q l) es'.toList ->
             UOk V.T C bx β w none (put id (.map i.ty j.ty (T6 (K4 i.ty) kx q l)) bx1) ((Instr.mapUpdate mt (.map (some (β1 id).blk)) vx vy).run P w) := by
           intro es' cl' hrun hall
           rw [hrun]
           obtain ⟨g1, g2⟩ := heap_set (o' := .map es' cl') h1
           obtain ⟨M2, X2⟩ := M1.set (w' := { w with heap := w.heap.setIfInBounds (β1 id).blk (.map es' cl') }) id (.map i.ty j.ty (T6 (K4 i.ty) kx q l)) (β1 id) rfl rfl rfl (by simp) (λ b hb1 hb2 => g2 b (by rintro rfl; exact hb2 (by rw [hown]; simp)))
             (λ b hb => .inl hb) (M1.nodup id) (λ b0 hb0 => by rw [hb] at hb0; cases hb0; exact ⟨rfl, rfl, rfl⟩) (λ X => by
               refine ⟨by rw [Ba]; exact hown, es', cl', by rw [Ba]; exact g1, ?_⟩
               exact hall.imp λ p e hp => ⟨Br.later X.later _ _ hp.1, hp.2.later X.later⟩)
           exact ⟨_, _, rfl, rfl, M2, X1.trans X2⟩
         rcases Ack hk I.kind hkv h2 0 with ⟨k1, k2, k3⟩ | ⟨jj, y1, e, k1, k2, k3, k4, k5, k6⟩
         · refine key (es.push { key := vx, val := vy, born := clock }) (clock + 1) ?_ ?_
           · simp [Instr.mapUpdate, run_underlying hm, MapKept.run_getObj_map h1, run_checkKey I.under hik, run_findKey I.under k2, MapKept.run_setObj_map _ h1, Result.andThen]
           · rw [k3 q, Array.toList_push]
             exact h2.append (.cons ⟨hkv, hv⟩ .nil)
         · have hjj : es[jj]? = some e := by simpa using k3
           refine key (es.modify jj λ e => { e with key := vx, val := vy }) clock ?_ ?_
           · simp [Instr.mapUpdate, run_underlying hm, MapKept.run_getObj_map h1, run_checkKey I.under hik, run_findKey I.under k2, hjj, k5, run_keyThatStays hik, MapKept.run_setObj_map _ h1, Result.andThen]
           · rw [Array.toList_modify]
             exact k6 q _ hkv hv
       · simp [Aj] at h
     · simp [Aj] at h
   · simp [Aj] at h
 · simp [Aj] at h
end
section
variable (T : Tab)
def Afj (ok : Nat -> Prop) (w : World) (t : Ty) (x : t.den T.E) (v : Value) : Prop :=
 if Kg t then ∃ cs, v = .agg cs /\ Br ok w (t.av T x) cs.toList else Br ok w (t.av T x) [v]
inductive Qd (ok : Nat -> Prop) (w : World) : TypeId -> (t : Ty) -> t.den T.E -> Value -> List Nat -> Prop where
 | data {t x v} : Afj T ok w t x v -> Qd ok w 0 t x v []
 | own {e t xs v} : Hh T ok w (e + 1) t xs v -> Qd ok w (e + 1) (.sl t) xs v v.ownBlock.toList
def Jd (ok : Nat -> Prop) (w : World) : List TypeId -> (ts : List Ty) -> HL T.E ts -> List Value -> List Nat -> Prop
 | _, [], _, vs, own => vs = [] /\ own = []
 | os, t :: ts, (x, r), vs, own => ∃ v vr o1 o2, vs = v :: vr /\ own = o1 ++ o2 /\ Qd T ok w (os.headD 0) t x v o1 /\ Jd ok w os.tail ts r vr o2
inductive Df (ok : Nat -> Prop) (w : World) : List (TypeId × TypeId) -> List (A7 T.E) -> List Value -> List Nat -> Prop where
 | nil {os} : Df ok w os [] [] []
 | more {l ls v vs ow} : (∀ bx β, Ak T bx β ok w l v) -> Df ok w [] ls vs ow -> Df ok w [] (l :: ls) (v :: vs) ow
 | data {e os l ls v vs ow} : (∀ bx β, Ak T bx β ok w l v) -> Df ok w os ls vs ow -> Df ok w ((0, e) :: os) (l :: ls) (v :: vs) ow
 | arr {e os t st xs ls v vs ow} : e ≠ 0 -> Hh T ok w e t xs v -> Df ok w os ls vs ow -> Df ok w ((e, 0) :: os) (.sl t st xs :: ls) (v :: vs) (v.ownBlock.toList ++ ow)
 | rows {e e2 os t st xss ls v vs ow rows own} : e ≠ 0 -> e2 ≠ 0 -> Ld T ok w e e2 t xss ⟨0, v, own, rows⟩ -> Df ok w os ls vs ow -> Df ok w ((e, e2) :: os) (.sl (.sl t) st xss :: ls) (v :: vs) (own ++ ow)
def A1n (ok : Nat -> Prop) (w : World) (os : List (TypeId × TypeId)) (t : Ty) (y : t.den T.E) (v : Value) (own : List Nat) : Prop :=
 ∃ vs, Df T ok w os (t.toL T y) vs own /\ if Kg t then v = .agg vs.toArray else vs = [v]
def Nm (ok : Nat -> Prop) (w : World) : List (List (TypeId × TypeId)) -> (ts : List Ty) -> HL T.E ts -> List Value -> List Nat -> Prop
 | _, [], _, vs, own => vs = [] /\ own = []
 | os, t :: ts, (y, r), vs, own => ∃ v vr o1 o2, vs = v :: vr /\ own = o1 ++ o2 /\ A1n T ok w (os.headD []) t y v o1 /\ Nm ok w os.tail ts r vr o2
end
def Ag7 : List Value -> Value
 | [v] => v
 | vs => .tuple vs.toArray
structure But (own : List Nat) (w w' : World) : Prop where
 os : w'.os = w.os
 tape : w'.tape = w.tape
 output : w'.output = w.output
 size : w.heap.size <= w'.heap.size
 heap : ∀ b, b < w.heap.size -> b ∉ own -> w'.heap[b]? = w.heap[b]?
def Be (V : Env) (P : Program) (f : FuncId) (S : FS V.E) : Prop :=
 (∃ fn, P.funcs[f]? = some fn /\ fn.body.isSome = true /\ (fn.name == "runtime.NumGoroutine") = false) /\
 ∀ x y, S.f x = some y -> ∀ (okp : Nat -> Prop) (w : World) (vs : List Value) (own : List Nat), Jd V.T okp w S.argOwn S.args x vs own -> own.Nodup -> (∀ b ∈ own, b < w.heap.size /\ ¬ okp b) -> (∀ b, okp b -> b < w.heap.size) ->
   Calls P f vs.toArray w λ e w' => ∃ rs own', e = .returned (Ag7 rs) /\ But own w w' /\ own'.Nodup /\ (∀ b ∈ own', b < w'.heap.size /\ (w.heap.size <= b \/ b ∈ own)) /\
     Nm V.T (λ b => b < w'.heap.size /\ (okp b \/ w.heap.size <= b \/ b ∈ own) /\ b ∉ own') w' S.resOwn S.res y rs own'
def A8w (sz : Nat) (hdr v : Value) (b N : Nat) (i n : Int) : Prop :=
 ∃ cap, hdr = .slice (some ⟨b, 0, none⟩) N cap /\ 0 <= i /\ 0 <= n /\ i + n <= N /\ i.toNat <= cap /\ v = .slice (some ⟨b, i.toNat * sz, none⟩) n.toNat (cap - i.toNat)
def okW (okp : Nat -> Prop) (w : World) (b : Nat) (w' : World) (c : Nat) : Prop := c < w'.heap.size /\ (okp c \/ w.heap.size <= c) /\ c ≠ b
def Ac6 (V : Env) (P : Program) (f : FuncId) (S : FW V.E) : Prop :=
 (∃ fn, P.funcs[f]? = some fn /\ fn.body.isSome = true /\ (fn.name == "runtime.NumGoroutine") = false) /\
 ∀ xs i n x ys y, S.f xs i n x = some (ys, y) -> ys.length = xs.length -> ∀ (okp : Nat -> Prop) (w : World) (v : Value) (vs : List Value) (hdr : Value) (b : Nat), A8w (S.t.sz V.T) hdr v b xs.length i n ->
   Hh V.T okp w S.e S.t xs hdr -> Jd V.T okp w [] S.args x vs [] -> b < w.heap.size -> ¬ okp b -> (∀ c, okp c -> c < w.heap.size) ->
   Calls P f (v :: vs).toArray w λ e w' => ∃ rs, e = .returned (Ag7 rs) /\ But [b] w w' /\ Hh V.T (okW okp w b w') w' S.e S.t ys hdr /\ Nm V.T (okW okp w b w') w' [] S.res y rs []
def Ah5 (V : Env) (P : Program) (f : FuncId) (S : FC V.E) : Prop :=
 (∃ fn, P.funcs[f]? = some fn /\ fn.body.isSome = true /\ (fn.name == "runtime.NumGoroutine") = false) /\
 ∀ c x y, S.f c x = some y -> ∀ (okp : Nat -> Prop) (w : World) (vs : List Value) (pv : Value), Jd V.T okp w [] S.args x vs [] -> (∃ b o cs, pv = .pointer (some ⟨b, o, none⟩) /\ Br okp w (S.c.av V.T c) cs /\ Mem okp w b o cs) ->
   (∀ b, okp b -> b < w.heap.size) ->
   Calls P f (vs ++ [pv]).toArray w λ e w' => ∃ rs, e = .returned (Ag7 rs) /\ But [] w w' /\ Nm V.T (λ b => b < w'.heap.size /\ (okp b \/ w.heap.size <= b)) w' [] S.res y rs []
structure Aml (V : Env) (P : Program) : Prop where
 fs : ∀ f S, V.fs f = some S -> Be V P f S
 ws : ∀ f S, V.ws f = some S -> Ac6 V P f S
 cs : ∀ f S, V.cs f = some S -> Ah5 V P f S
section
variable {V : Env} {P : Program} {C : Ctx} {w : World}
variable {res : Option (SV V.E)} {cs : List Prop} {bx' : List (Nat × Box V.E)} {ac : Acc}
theorem Qd.later {ok ok' : Nat -> Prop} {e : TypeId} {t : Ty} {x : t.den V.E} {v : Value} {own : List Nat} (L : Fb ok w ok' w) (h : Qd V.T ok w e t x v own) : Qd V.T ok' w e t x v own := by
 cases h with
 | data h =>
   refine .data ?_
   unfold Afj at h ⊢
   split at h
   · rename_i hn
     rw [if_pos hn]
     obtain ⟨cs, rfl, h⟩ := h
     exact ⟨cs, rfl, Br.later L _ _ h⟩
   · rename_i hn
     rw [if_neg hn]
     exact Br.later L _ _ h
 | own h => exact .own (h.later L λ _ _ => rfl)
theorem A76 {bx : List (Nat × Box V.E)} {β : Nat -> BI} {ok : Nat -> Prop} (HT : V.T.Ok) {c : CV V.E} {v : Value} {ls : List (A7 V.E)} {vs : List Value} (hv : v.cells.toList = vs) (hc : c.isAg = true -> ∃ cs, v = .agg cs) (hc' : c.isAg = false -> v.cells = #[v])
   (hr : Bk (Ak V.T bx β ok w) ls vs) {t : Ty} (ha : (c.isAg == Kg t) = true) {x : t.den V.E} (hx : t.ofL V.T ls = some x) : Afj V.T ok w t x v := by
 have h := (Ka HT t x vs).1 (L9 (Oi HT hx) hr)
 unfold Afj
 have ha : c.isAg = Kg t := by simpa using ha
 split
 · rename_i hn
   rw [hn] at ha
   obtain ⟨cs, rfl⟩ := hc ha
   refine ⟨cs, rfl, ?_⟩
   have : vs = cs.toList := by rw [<- hv]; rfl
   rw [<- this]; exact h
 · rename_i hn
   simp only [Bool.not_eq_true] at hn
   rw [hn] at ha
   have := hc' ha
   rw [this] at hv
   have : vs = [v] := by rw [<- hv]
   rw [<- this]; exact h
theorem A3.isAg {bx : List (Nat × Box V.E)} {β : Nat -> BI} {ok : Nat -> Prop} {c : CV V.E} {v : Value} (h : A3 V.T bx β ok w c v) : (c.isAg = true -> ∃ cs, v = .agg cs) /\ (c.isAg = false -> v.cells = #[v]) := by
 cases c with
 | one l => exact ⟨(λ k => by cases k), λ _ => S8 h⟩
 | ag ls => obtain ⟨cs, rfl, _⟩ := h; exact ⟨(λ _ => ⟨cs, rfl⟩), (λ k => by cases k)⟩
theorem Tk (HT : V.T.Ok) : ∀ (os : List TypeId) (args : List (CV V.E)) (vs : List Value) (bx : List (Nat × Box V.E)) (β : Nat -> BI), Bq V.T C bx β w -> Bk (A3 V.T bx β (Bc C β w) w) args vs ->
   ∀ (k : List (Bool × List (A7 V.E)) -> Er V.E) (rs ws : List Nat), Aj V bx (J8 V os args k) rs ws = some (res, cs, bx', ac) ->
   ∃ (bx1 : List (Nat × Box V.E)) (β1 : Nat -> BI) (ls : List (Bool × List (A7 V.E))) (rs' ws' gs : List Nat), Bq V.T C bx1 β1 w /\ Ext V.T bx β (Bc C β w) w bx1 β1 (Bc C β1 w) w /\ Aj V bx1 (k ls) rs' ws' = some (res, cs, bx', ac) /\
     (∀ id ∈ gs, A6 id bx1 = some .gone) /\ (∀ id ∈ gs, A6 id bx ≠ some .gone) /\ gs.Nodup /\ N9 bx β bx1 β1 /\
     ∀ (ts : List Ty) (x : HL V.E ts), L7 V.T ts ls = some x -> Jd V.T (Bc C β1 w) w os ts x vs (gs.flatMap λ id => (β1 id).own)
 | os, [], _, bx, β, M, .nil, k, rs, ws, h => by
   have h : Aj V bx (k []) rs ws = some (res, cs, bx', ac) := by cases os <;> exact h
   exact ⟨bx, β, [], rs, ws, [], M, Ext.refl _ _ _ _ _, h, by simp, by simp, by simp, λ j hj => ⟨hj, rfl⟩, λ ts x hx => by cases ts with
     | nil => exact ⟨rfl, rfl⟩
     | cons t ts => simp [L7] at hx⟩
 | os, c :: args, v :: vs, bx, β, M, .cons h1 h2, k, rs, ws, h => by
   have data : ∀ (os' : List TypeId) (h : Aj V bx (frz V c.leaves λ l => J8 V os' args λ r' => k ((c.isAg, l) :: r')) rs ws = some (res, cs, bx', ac)), os.headD 0 = 0 -> os.tail = os' ->
       ∃ (bx1 : List (Nat × Box V.E)) (β1 : Nat -> BI) (ls : List (Bool × List (A7 V.E))) (rs' ws' gs : List Nat), Bq V.T C bx1 β1 w /\ Ext V.T bx β (Bc C β w) w bx1 β1 (Bc C β1 w) w /\ Aj V bx1 (k ls) rs' ws' = some (res, cs, bx', ac) /\
         (∀ id ∈ gs, A6 id bx1 = some .gone) /\ (∀ id ∈ gs, A6 id bx ≠ some .gone) /\ gs.Nodup /\ N9 bx β bx1 β1 /\
         ∀ (ts : List Ty) (x : HL V.E ts), L7 V.T ts ls = some x -> Jd V.T (Bc C β1 w) w os ts x (v :: vs) (gs.flatMap λ id => (β1 id).own) := by
     intro os' h ho ht
     obtain ⟨bx1, β1, ls', rs1, ws1, M1, X1, R1, I1, G1⟩ := O1 _ _ bx β M (A3.cells h1) _ _ _ h
     obtain ⟨bx2, β2, ls2, rs2, ws2, gs, M2, X2, I2, a1, a2, a3, G2, F2⟩ := Tk HT os' args vs bx1 β1 M1 (h2.imp λ _ _ k => A3.ext X1 k) _ _ _ I1
     refine ⟨bx2, β2, (c.isAg, ls') :: ls2, rs2, ws2, gs, M2, X1.trans X2, I2, a1, λ id hid hg => a2 id hid (G1 id hg).1, a3, λ j hj => ?_, λ ts x hx => ?_⟩
     · obtain ⟨g1, g2⟩ := G1 j hj
       obtain ⟨g3, g4⟩ := G2 j g1
       exact ⟨g3, g4.trans g2⟩
     · cases ts with
       | nil => simp [L7] at hx
       | cons t ts =>
         simp only [L7] at hx
         split at hx
         · rename_i hag
           split at hx
           · rename_i x1 hx1
             split at hx
             · rename_i r hr
               cases hx
               refine ⟨v, vs, [], _, rfl, rfl, ?_, by rw [ht]; exact F2 ts r hr⟩
               rw [ho]
               have hci := A3.isAg h1
               exact (Qd.data (A76 HT rfl hci.1 hci.2 R1 hag hx1)).later X2.later
             · cases hx
           · cases hx
         · cases hx
   match os, c, h with
   | [], c, h => exact data [] h rfl rfl
   | 0 :: os, c, h => exact data os h rfl rfl
   | (e + 1) :: os, .ag _, h => simp [J8, Aj] at h
   | (e + 1) :: os, .one l, h =>
     cases l with
     | ar id ver =>
       simp only [J8, Aj] at h
       split at h
       · rename_i e' t xs v0 hb
         split at h
         · rename_i hv
           simp only [Bool.and_eq_true] at hv
           have he := Aq hv.2
           subst he
           simp only [Aj] at h
           simp only [A3, Ak, hb] at h1
           have hvv := h1.2.2 (Aq hv.1)
           obtain ⟨hown, hA⟩ := M.boxes id _ hb
           obtain ⟨M1, X1⟩ := M.set (w' := w) id .gone (β id) rfl rfl rfl (Nat.le_refl _) (λ _ _ _ => rfl) (λ x hx => .inl hx) (M.nodup id) (λ b0 h0 => by rw [hb] at h0; cases h0; trivial) (λ _ => trivial)
           have hβ : upd β id (β id) = β := by funext j; unfold upd; split <;> simp_all
           rw [hβ] at M1 X1
           obtain ⟨bx2, β2, ls2, rs2, ws2, gs, M2, X2, I2, a1, a2, a3, G2, F2⟩ := Tk HT os args vs _ β M1 (h2.imp λ _ _ k => A3.ext X1 k) _ _ _ h
           obtain ⟨g1, g2⟩ := G2 id (A2 _ _ _)
           refine ⟨bx2, β2, _, rs2, ws2, id :: gs, M2, X1.trans X2, I2, ?_, ?_, ?_, ?_, λ ts x hx => ?_⟩
           · intro j hj
             rcases List.mem_cons.1 hj with rfl | hj
             · exact g1
             · exact a1 j hj
           · intro j hj
             rcases List.mem_cons.1 hj with rfl | hj
             · rw [hb]; simp
             · intro hg
               by_cases hji : j = id
               · subst hji; rw [hb] at hg; cases hg
               · exact a2 j hj (by rw [A4 hji]; exact hg)
           · refine List.nodup_cons.2 ⟨λ hid => a2 id hid (A2 _ _ _), a3⟩
           · intro j hj
             have hji : j ≠ id := by rintro rfl; rw [hb] at hj; cases hj
             exact G2 j (by rw [A4 hji]; exact hj)
           · cases ts with
             | nil => simp [L7] at hx
             | cons t' ts =>
               simp only [L7] at hx
               split at hx
               · rename_i hag
                 split at hx
                 · rename_i x1 hx1
                   split at hx
                   · rename_i r hr
                     cases hx
                     refine ⟨v, vs, (β2 id).own, gs.flatMap λ id => (β2 id).own, rfl, rfl, ?_, F2 ts r hr⟩
                     cases t' with
                     | sl t' =>
                       simp only [Ty.ofL] at hx1
                       split at hx1
                       · rename_i hu
                         subst hu
                         cases hx1
                         rw [g2, hown, <- hvv]
                         rw [<- hvv] at hA
                         exact .own ((hA.later X1.later λ _ _ => rfl).later X2.later λ _ _ => rfl)
                       · cases hx1
                     | nm n => simp [Kg] at hag
                     | _ => simp [Ty.ofL] at hx1
                   · cases hx
                 · cases hx
               · cases hx
         · simp [Aj] at h
       · simp [Aj] at h
     | _ => simp [J8, Aj] at h
end
structure NB (E : Nat -> Type) where
 id : Nat
 b : Box E
 bi : BI
def Tb {E : Nat -> Type} : List (NB E) -> List (Nat × Box E) -> List (Nat × Box E)
 | [], bx => bx
 | n :: N, bx => Tb N (put n.id n.b bx)
def Qp {E : Nat -> Type} (N : List (NB E)) (j : Nat) : Option (NB E) := N.find? λ n => n.id == j
theorem Yf {E : Nat -> Type} {N : List (NB E)} {j : Nat} {n : NB E} (h : Qp N j = some n) : n ∈ N /\ n.id = j := by
 unfold Qp at h
 exact ⟨List.mem_of_find?_eq_some h, by simpa using List.find?_some h⟩
theorem Wn {E : Nat -> Type} : ∀ {N : List (NB E)} {n : NB E}, (N.map (·.id)).Nodup -> n ∈ N -> Qp N n.id = some n
 | [], _, _, h => by simp at h
 | m :: N, n, hd, h => by
   simp only [List.map_cons, List.nodup_cons] at hd
   rcases List.mem_cons.1 h with rfl | h
   · simp [Qp]
   · have hne : m.id ≠ n.id := λ e => hd.1 (e ▸ List.mem_map.2 ⟨n, h, rfl⟩)
     have := Wn hd.2 h
     unfold Qp at this ⊢
     rw [List.find?_cons]
     have : (m.id == n.id) = false := by simpa using hne
     rw [this]
     assumption
theorem N8 {E : Nat -> Type} : ∀ (N : List (NB E)) (bx : List (Nat × Box E)) (j : Nat), (N.map (·.id)).Nodup -> A6 j (Tb N bx) = match Qp N j with | some n => some n.b | none => A6 j bx
 | [], bx, j, _ => rfl
 | m :: N, bx, j, hd => by
   simp only [List.map_cons, List.nodup_cons] at hd
   rw [Tb, N8 N _ j hd.2]
   by_cases hj : m.id = j
   · subst hj
     have h1 : Qp N m.id = none := by
       unfold Qp
       rw [List.find?_eq_none]
       intro n hn
       simp only [beq_iff_eq]
       exact λ e => hd.1 (e ▸ List.mem_map.2 ⟨n, hn, rfl⟩)
     have h2 : Qp (m :: N) m.id = some m := by simp [Qp]
     rw [h1, h2, A2]
   · have h2 : Qp (m :: N) j = Qp N j := by
       unfold Qp
       rw [List.find?_cons]
       have : (m.id == j) = false := by simpa using hj
       rw [this]
     rw [h2, A4 (Ne.symm hj)]
section
variable {V : Env} {P : Program} {C : Ctx} {w : World}
variable {res : Option (SV V.E)} {cs : List Prop} {bx' : List (Nat × Box V.E)} {ac : Acc}
def Aab (V : Env) (ok : Nat -> Prop) (w : World) (n : NB V.E) : Prop :=
 match n.b with
 | .arr e t xs 0 false => n.bi.own = n.bi.hdr.ownBlock.toList /\ Hh V.T ok w e t xs n.bi.hdr
 | .rows e e2 t xss 0 0 .opn => Ld V.T ok w e e2 t xss n.bi
 | _ => False
def Ur (V : Env) (ok : Nat -> Prop) (w : World) (N : List (NB V.E)) (l : A7 V.E) (v : Value) : Prop :=
 (∀ bx β, Ak V.T bx β ok w l v) \/ ∃ n ∈ N, l = .ar n.id 0 /\ v = n.bi.hdr /\ v.oneCell' = true
theorem Ur.mono {ok : Nat -> Prop} {N M : List (NB V.E)} (h : ∀ n ∈ N, n ∈ M) {l : A7 V.E} {v : Value} (k : Ur V ok w N l v) : Ur V ok w M l v := by
 rcases k with k | ⟨n, hn, k⟩
 · exact .inl k
 · exact .inr ⟨n, h n hn, k⟩
theorem Aw4 {ok : Nat -> Prop} {e : TypeId} {t : Ty} {xs : List (t.den V.E)} {v : Value} (h : Hh V.T ok w e t xs v) : v.oneCell' = true := by
 obtain ⟨_, ⟨_, q⟩, _⟩ := h
 rcases q with ⟨q, _⟩ | ⟨_, _, _, q, _⟩ <;> rw [q] <;> rfl
theorem Xg {ok : Nat -> Prop} : ∀ {os : List (TypeId × TypeId)} {ls : List (A7 V.E)} {vs : List Value} {ow : List Nat}, Df V.T ok w os ls vs ow ->
   ∀ (id : Nat) (bx : List (Nat × Box V.E)) (k : List (A7 V.E) -> Er V.E) (rs ws : List Nat), Aj V bx (Ew V id os ls k) rs ws = some (res, cs, bx', ac) ->
   ∃ (N : List (NB V.E)) (ls' : List (A7 V.E)) (rs' ws' : List Nat), Aj V (Tb N bx) (k ls') rs' ws' = some (res, cs, bx', ac) /\ (N.map (·.id)).Nodup /\ (∀ n ∈ N, A6 n.id bx = none) /\ (∀ n ∈ N, Aab V ok w n) /\
     ow = N.flatMap (·.bi.own) /\ Bk (Ur V ok w N) ls' vs
 | os, _, _, _, .nil, id, bx, k, rs, ws, h => by
   have h : Aj V bx (k []) rs ws = some (res, cs, bx', ac) := by
     cases os with
     | nil => exact h
     | cons o os => obtain ⟨e, e2⟩ := o; exact h
   exact ⟨[], [], rs, ws, h, by simp, by simp, by simp, rfl, .nil⟩
 | _, _, _, _, .more h1 h2, id, bx, k, rs, ws, h => by
   have h : Aj V bx (Ew V (id + 1000) [] _ λ ls => k (_ :: ls)) rs ws = some (res, cs, bx', ac) := h
   obtain ⟨N, ls', rs', ws', a1, a2, a3, a4, a5, a6⟩ := Xg h2 _ _ _ _ _ h
   exact ⟨N, _, rs', ws', a1, a2, a3, a4, a5, .cons (.inl h1) a6⟩
 | _, _, _, _, .data h1 h2, id, bx, k, rs, ws, h => by
   have h : Aj V bx (Ew V (id + 1000) _ _ λ ls => k (_ :: ls)) rs ws = some (res, cs, bx', ac) := h
   obtain ⟨N, ls', rs', ws', a1, a2, a3, a4, a5, a6⟩ := Xg h2 _ _ _ _ _ h
   exact ⟨N, _, rs', ws', a1, a2, a3, a4, a5, .cons (.inl h1) a6⟩
 | _, _, _, _, @Df.arr _ _ _ e os t st xs ls v vs ow he hA h2, id, bx, k, rs, ws, h => by
   obtain ⟨e, rfl⟩ := Nat.exists_eq_add_one_of_ne_zero he
   have h : Aj V bx (Jh V id (.arr (e + 1) t xs 0 false) (Ew V (id + 1000) os ls λ ls => k (.ar id 0 :: ls))) rs ws = some (res, cs, bx', ac) := by
     cases t <;> exact h
   obtain ⟨hid, rs1, ws1, h⟩ := H2 h
   obtain ⟨N, ls', rs', ws', a1, a2, a3, a4, a5, a6⟩ := Xg h2 _ _ _ _ _ h
   have hne : ∀ n ∈ N, n.id ≠ id := by
     intro n hn e
     have := a3 n hn
     rw [e, A2] at this; cases this
   refine ⟨⟨id, .arr (e + 1) t xs 0 false, ⟨0, v, v.ownBlock.toList, []⟩⟩ :: N, .ar id 0 :: ls', rs', ws', a1, ?_, ?_, ?_, by rw [a5]; simp, .cons (.inr ⟨_, List.mem_cons_self, rfl, rfl, Aw4 hA⟩) (a6.imp λ _ _ k => k.mono λ n hn => List.mem_cons_of_mem _ hn)⟩
   · simp only [List.map_cons, List.nodup_cons]
     exact ⟨λ hm => by obtain ⟨n, hn, e⟩ := List.mem_map.1 hm; exact hne n hn e, a2⟩
   · intro n hn
     rcases List.mem_cons.1 hn with rfl | hn
     · exact hid
     · have := a3 n hn
       rw [A4 (hne n hn)] at this; exact this
   · intro n hn
     rcases List.mem_cons.1 hn with rfl | hn
     · exact ⟨rfl, hA⟩
     · exact a4 n hn
 | _, _, _, _, @Df.rows _ _ _ e e2 os t st xss ls v vs ow rows own he he2 hA h2, id, bx, k, rs, ws, h => by
   obtain ⟨e, rfl⟩ := Nat.exists_eq_add_one_of_ne_zero he
   obtain ⟨e2, rfl⟩ := Nat.exists_eq_add_one_of_ne_zero he2
   have h : Aj V bx (Jh V id (.rows (e + 1) (e2 + 1) t xss 0 0 .opn) (Ew V (id + 1000) os ls λ ls => k (.ar id 0 :: ls))) rs ws = some (res, cs, bx', ac) := h
   obtain ⟨hid, rs1, ws1, h⟩ := H2 h
   obtain ⟨N, ls', rs', ws', a1, a2, a3, a4, a5, a6⟩ := Xg h2 _ _ _ _ _ h
   have hne : ∀ n ∈ N, n.id ≠ id := by
     intro n hn e
     have := a3 n hn
     rw [e, A2] at this; cases this
   have hone : v.oneCell' = true := by
     obtain ⟨⟨_, q⟩, _⟩ := hA
     rcases q with ⟨q, _⟩ | ⟨_, _, _, q, _⟩ <;> (simp only at q; rw [q]; rfl)
   refine ⟨⟨id, .rows (e + 1) (e2 + 1) t xss 0 0 .opn, ⟨0, v, own, rows⟩⟩ :: N, .ar id 0 :: ls', rs', ws', a1, ?_, ?_, ?_, by rw [a5]; simp, .cons (.inr ⟨_, List.mem_cons_self, rfl, rfl, hone⟩) (a6.imp λ _ _ k => k.mono λ n hn => List.mem_cons_of_mem _ hn)⟩
   · simp only [List.map_cons, List.nodup_cons]
     exact ⟨λ hm => by obtain ⟨n, hn, e⟩ := List.mem_map.1 hm; exact hne n hn e, a2⟩
   · intro n hn
     rcases List.mem_cons.1 hn with rfl | hn
     · exact hid
     · have := a3 n hn
       rw [A4 (hne n hn)] at this; exact this
   · intro n hn
     rcases List.mem_cons.1 hn with rfl | hn
     · exact hA
     · exact a4 n hn
def Aoi (V : Env) (ok : Nat -> Prop) (w : World) (N : List (NB V.E)) : CV V.E -> Value -> Prop
 | .one l, v => Ur V ok w N l v
 | .ag ls, v => ∃ cs, v = .agg cs /\ Bk (Ur V ok w N) ls cs.toList
theorem Aoi.mono {ok : Nat -> Prop} {N M : List (NB V.E)} (h : ∀ n ∈ N, n ∈ M) {c : CV V.E} {v : Value} (k : Aoi V ok w N c v) : Aoi V ok w M c v := by
 cases c with
 | one l => exact Ur.mono h k
 | ag ls => obtain ⟨cs, rfl, k⟩ := k; exact ⟨cs, rfl, k.imp λ _ _ k => Ur.mono h k⟩
theorem V1 {E : Nat -> Type} : ∀ (N M : List (NB E)) (bx : List (Nat × Box E)), Tb (N ++ M) bx = Tb M (Tb N bx)
 | [], _, _ => rfl
 | _ :: N, M, _ => V1 N M _
theorem Ars {ok : Nat -> Prop} : ∀ (os : List (List (TypeId × TypeId))) (ts : List Ty) (y : HL V.E ts) (vs : List Value) (ow : List Nat), Nm V.T ok w os ts y vs ow ->
   ∀ (id : Nat) (bx : List (Nat × Box V.E)) (k : List (CV V.E) -> Er V.E) (rs ws : List Nat), Aj V bx (Pp V id os ts y k) rs ws = some (res, cs, bx', ac) ->
   ∃ (N : List (NB V.E)) (cvs : List (CV V.E)) (rs' ws' : List Nat), Aj V (Tb N bx) (k cvs) rs' ws' = some (res, cs, bx', ac) /\ (N.map (·.id)).Nodup /\ (∀ n ∈ N, A6 n.id bx = none) /\ (∀ n ∈ N, Aab V ok w n) /\
     ow = N.flatMap (·.bi.own) /\ Bk (Aoi V ok w N) cvs vs
 | os, [], y, vs, ow, ⟨h1, h2⟩, id, bx, k, rs, ws, h => by
   subst h1 h2
   exact ⟨[], [], rs, ws, h, by simp, by simp, by simp, rfl, .nil⟩
 | os, t :: ts, (y, r), _, _, ⟨v, vr, o1, o2, rfl, rfl, h1, h2⟩, id, bx, k, rs, ws, h => by
   simp only [Pp] at h
   obtain ⟨ls, hl, hv⟩ := h1
   obtain ⟨N, ls', rs1, ws1, a1, a2, a3, a4, a5, a6⟩ := Xg hl _ _ _ _ _ h
   cases hc : B2 (Kg t) ls' with
   | none => rw [hc] at a1; simp [Aj] at a1
   | some c =>
     rw [hc] at a1
     simp only at a1
     have hos : os.drop 1 = os.tail := by cases os <;> rfl
     rw [hos] at a1
     obtain ⟨M, cvs, rs2, ws2, b1, b2, b3, b4, b5, b6⟩ := Ars _ _ _ _ _ h2 _ _ _ _ _ a1
     have hval : Aoi V ok w N c v := by
       cases hn : Kg t with
       | true =>
         rw [hn] at hc hv
         simp [B2] at hc
         subst hc
         simp at hv
         exact ⟨ls.toArray, hv, by simpa using a6⟩
       | false =>
         rw [hn] at hc hv
         simp at hv
         subst hv
         cases a6 with
         | cons q1 q2 =>
           cases q2
           simp [B2] at hc
           subst hc
           exact q1
     refine ⟨N ++ M, c :: cvs, rs2, ws2, by rw [V1]; exact b1, ?_, ?_, ?_, by rw [a5, b5, List.flatMap_append], .cons (hval.mono λ n hn => List.mem_append.2 (.inl hn)) (b6.imp λ _ _ k => k.mono λ n hn => List.mem_append.2 (.inr hn))⟩
     · rw [List.map_append]
       refine List.nodup_append.2 ⟨a2, b2, λ x hx y hy e => ?_⟩
       subst e
       obtain ⟨n, hn, rfl⟩ := List.mem_map.1 hx
       obtain ⟨m, hm, e⟩ := List.mem_map.1 hy
       have := b3 m hm
       rw [e, N8 _ _ _ a2, Wn a2 hn] at this
       cases this
     · intro n hn
       rcases List.mem_append.1 hn with hn | hn
       · exact a3 n hn
       · have := b3 n hn
         rw [N8 _ _ _ a2] at this
         split at this
         · cases this
         · exact this
     · intro n hn
       rcases List.mem_append.1 hn with hn | hn
       · exact a4 n hn
       · exact b4 n hn
end
section
variable {V : Env} {P : Program} {C : Ctx} {w : World}
variable {res : Option (SV V.E)} {cs : List Prop} {bx' : List (Nat × Box V.E)} {ac : Acc}
theorem Av2 (β : Nat -> BI) (id : Nat) : upd β id (β id) = β := by
 funext j; unfold upd; split
 · rename_i h; rw [h]
 · rfl
theorem Qf {ok : Nat -> Prop} : ∀ (ts : List Ty) (x : HL V.E ts) (vs : List Value) (own : List Nat), Jd V.T ok w [] ts x vs own -> own = []
 | [], _, _, _, h => h.2
 | t :: ts, (x, r), _, _, ⟨v, vr, o1, o2, rfl, rfl, h1, h2⟩ => by
   have h1 : Qd V.T ok w 0 t x v o1 := h1
   cases h1 with
   | data _ => rw [Qf ts r vr o2 h2]; rfl
theorem Nk : ∀ (ls : List (A7 V.E)) (id : Nat) (k : List (A7 V.E) -> Er V.E), Ew V id [] ls k = k ls
 | [], _, _ => rfl
 | l :: ls, id, k => by
   show Ew V (id + 1000) [] ls (λ ls => k (l :: ls)) = _
   rw [Nk ls]
theorem Agy {ok : Nat -> Prop} : ∀ {ls : List (A7 V.E)} {vs : List Value} {ow : List Nat}, Df V.T ok w [] ls vs ow -> Bk (λ l v => ∀ bx β, Ak V.T bx β ok w l v) ls vs
 | _, _, _, .nil => .nil
 | _, _, _, .more h1 h2 => .cons h1 (Agy h2)
theorem Xs {ok : Nat -> Prop} : ∀ (ts : List Ty) (y : HL V.E ts) (vs : List Value) (ow : List Nat), Nm V.T ok w [] ts y vs ow ->
   ∀ (id : Nat) (bx : List (Nat × Box V.E)) (k : List (CV V.E) -> Er V.E) (rs ws : List Nat), Aj V bx (Pp V id [] ts y k) rs ws = some (res, cs, bx', ac) ->
   ∃ cvs, Aj V bx (k cvs) rs ws = some (res, cs, bx', ac) /\ Bk (λ c v => ∀ bx β, A3 V.T bx β ok w c v) cvs vs
 | [], y, vs, ow, ⟨h1, _⟩, id, bx, k, rs, ws, h => by subst h1; exact ⟨[], h, .nil⟩
 | t :: ts, (y, r), _, _, ⟨v, vr, o1, o2, rfl, _, h1, h2⟩, id, bx, k, rs, ws, h => by
   obtain ⟨ls, hl, hv⟩ := h1
   have hall := Agy (V := V) (w := w) hl
   simp only [Pp, List.headD_nil, Nk] at h
   cases hc : B2 (Kg t) (t.toL V.T y) with
   | none => rw [hc] at h; simp [Aj] at h
   | some c =>
     rw [hc] at h
     simp only [List.drop_nil] at h
     obtain ⟨cvs, b1, b2⟩ := Xs ts r vr o2 h2 _ _ _ _ _ h
     refine ⟨c :: cvs, b1, .cons (λ bx β => ?_) b2⟩
     cases hn : Kg t with
     | true =>
       rw [hn] at hc hv
       simp [B2] at hc
       subst hc
       simp at hv
       exact ⟨ls.toArray, hv, by simpa using hall.imp λ _ _ k => k bx β⟩
     | false =>
       rw [hn] at hc hv
       simp at hv
       subst hv
       generalize Ty.toL V.T t y = q at *
       cases hall with
       | cons q1 q2 =>
         cases q2
         simp [B2] at hc
         subst hc
         exact q1 bx β
theorem Ta {c0 : List Prop} : ∀ (ts : List Ty) (id : Nat) (y : HL V.E ts) (k : List (CV V.E) -> Er V.E),
   (∀ l bx rs ws res cs bx' ac, Aj V bx (k l) rs ws = some (res, cs, bx', ac) -> cs = c0) ->
   ∀ bx rs ws res cs bx' ac, Aj V bx (Pp V id [] ts y k) rs ws = some (res, cs, bx', ac) -> cs = c0
 | [], id, y, k, hk, bx, rs, ws, res, cs, bx', ac, h => hk _ _ _ _ _ _ _ _ h
 | t :: ts, id, (y, r), k, hk, bx, rs, ws, res, cs, bx', ac, h => by
   simp only [Pp, List.headD_nil, Nk] at h
   split at h
   · exact Ta ts _ r _ (λ l => hk _) _ _ _ _ _ _ _ h
   · simp [Aj] at h
def Aco (V : Env) (P : Program) (C : Ctx) (bx : List (Nat × Box V.E)) (β : Nat -> BI) (w : World) (f : FuncId) (vs : List Value) (res : Option (SV V.E)) (bx' : List (Nat × Box V.E)) : Prop :=
 (∃ fn, P.funcs[f]? = some fn /\ fn.body.isSome = true /\ (fn.name == "runtime.NumGoroutine") = false) /\
 Calls P f vs.toArray w λ e w' => ∃ v, e = .returned v /\ ∃ β' x, res = some x /\ Bb V.T bx' β' (Bc C β' w') w' x v /\ Bq V.T C bx' β' w' /\ Ext V.T bx β (Bc C β w) w bx' β' (Bc C β' w') w'
theorem Vx {α : Type} : ∀ {l i : List α} {a : α}, Ux l = some (i, a) -> l = i ++ [a]
 | [], _, _, h => by simp [Ux] at h
 | [b], _, _, h => by simp [Ux] at h; obtain ⟨rfl, rfl⟩ := h; rfl
 | b :: c :: r, _, _, h => by
   unfold Ux at h
   split at h
   · rename_i i l hl
     cases h
     rw [Vx hl]; rfl
   · cases h
theorem R7 {ok ok' : Nat -> Prop} (L : Fb ok w ok' w) : ∀ (ts : List Ty) (x : HL V.E ts) (vs : List Value) (own : List Nat) {os : List TypeId}, Jd V.T ok w os ts x vs own -> Jd V.T ok' w os ts x vs own
 | [], _, _, _, _, h => h
 | _ :: ts, (_, r), _, _, _, ⟨v, vr, o1, o2, e1, e2, h1, h2⟩ => ⟨v, vr, o1, o2, e1, e2, h1.later L, R7 L ts r vr o2 h2⟩
theorem Afk {ok ok' : Nat -> Prop} {w w' : World} : ∀ (ts : List Ty) (y : HL V.E ts) (vs : List Value) (ow : List Nat), ts.all Acd = true -> Nm V.T ok w [] ts y vs ow -> Nm V.T ok' w' [] ts y vs ow
 | [], _, _, _, _, h => h
 | t :: ts, (y, r), _, _, hf, ⟨v, vr, o1, o2, e1, e2, ⟨ls, hl, hv⟩, h2⟩ => by
   simp only [List.all_cons, Bool.and_eq_true] at hf
   refine ⟨v, vr, o1, o2, e1, e2, ⟨ls, ?_, hv⟩, Afk ts r vr o2 hf.2 h2⟩
   have hl : Df V.T ok w [] (t.toL V.T y) ls o1 := hl
   show Df V.T ok' w' [] (t.toL V.T y) ls o1
   cases t with
   | int k => cases hl with
     | more a b => cases b; exact .more (λ bx β => a bx β) .nil
   | bool => cases hl with
     | more a b => cases b; exact .more (λ bx β => a bx β) .nil
   | str => cases hl with
     | more a b => cases b; exact .more (λ bx β => a bx β) .nil
   | sl t => simp [Acd] at hf
   | nm n => simp [Acd] at hf
theorem Asw (HT : V.T.Ok) {f : FuncId} {S : FC V.E} (HW : Ah5 V P f S) {bx : List (Nat × Box V.E)} {β : Nat -> BI} (M : Bq V.T C bx β w) {dst : Nat} {args : List (CV V.E)} {vs : List Value} (ha : Bk (A3 V.T bx β (Bc C β w) w) args vs)
   {d : Dyn V.E} {rs ws : List Nat} (h : Aj V bx (Rf V dst (some S) args d) rs ws = some (res, cs, bx', ac)) (hc : Gw cs) : Aco V P C bx β w f vs res bx' := by
 unfold Rf at h
 split at h
 · rename_i S' rest id off e1 heq
   cases e1
   have hargs0 := Vx heq
   subst hargs0
   obtain ⟨vr, vp, rfl, ha1, ha2⟩ := ha.split
   cases ha2 with
   | cons h1 h2 =>
     cases h2
     rename_i pv
     obtain ⟨bx1, β1, ls, rs1, ws1, gs, M1, X1, h, _, _, _, _, hargs⟩ := Tk HT [] rest vr bx β M ha1 _ _ _ h
     simp only [Aj] at h
     split at h
     · rename_i cl hb
       split at h
       · rename_i x y c hx hy hcl
         split at h
         · rename_i hflat
           have h1' := A3.ext X1 h1
           simp only [A3, Ak, hb] at h1'
           obtain ⟨_, rfl⟩ := h1'
           have hk : ∀ l bx rs ws res cs bx' ac, Aj V bx (Pr V [S.f c x = some y] l) rs ws = some (res, cs, bx', ac) -> cs = [S.f c x = some y] := by
             intro l bx rs ws res cs bx' ac h
             unfold Pr at h
             split at h <;> exact (Az h).2.1.symm
           have hcs := Ta _ _ _ _ hk _ _ _ _ _ _ _ h
           rw [hcs] at hc
           have hargs := hargs S.args x hx
           rw [Qf _ _ _ _ hargs] at hargs
           obtain ⟨ca, ce, hown, hheap, hrep⟩ := M1.boxes id _ hb
           let okp : Nat -> Prop := λ b => Bc C β1 w b \/ b = (β1 id).blk
           have L : Fb (Bc C β1 w) w okp w := ⟨λ b hb => .inl hb, λ _ _ => rfl⟩
           have hmem : (β1 id).blk < w.heap.size := (M1.mine id _ (by rw [hown]; simp)).1
           have hcells : Bk (Ak V.T bx1 β1 (Bc C β1 w) w) (S.c.toL V.T c) ((ca.toList.drop off).take (S.c.sz V.T)) := L9 (Oi HT hcl) ((hrep.drop off).take _)
           have hav := (Ka HT S.c c _).1 hcells
           refine ⟨HW.1, (HW.2 c x y hc.1 okp w vr (.pointer (some ⟨(β1 id).blk, off, none⟩)) (R7 L _ _ _ _ hargs) ⟨_, off, _, rfl, Br.later L _ _ hav, .inr rfl, λ j v hv => ?_⟩ (λ b hb => ?_)).mono ?_⟩
           · have hj : ca.toList[off + j]? = some v := by
               rw [List.getElem?_take] at hv
               split at hv
               · rw [List.getElem?_drop] at hv; exact hv
               · cases hv
             unfold World.cell?
             simp only [hheap]
             simpa using hj
           · rcases hb with hb | hb
             · exact hb.1
             · rw [hb]; exact hmem
           · rintro e w' ⟨rv, rfl, hbut, hres⟩
             have hres' := Afk (ok' := Bc C β1 w') (w' := w') _ _ _ _ hflat hres
             obtain ⟨cvs, b1, b2⟩ := Xs _ _ _ _ hres' _ _ _ _ _ h
             obtain ⟨M2, X2⟩ := M1.grow (w' := w') ⟨hbut.os, hbut.tape, hbut.output, hbut.size, λ x hx => hbut.heap x hx (by simp)⟩
             refine ⟨_, rfl, β1, ?_⟩
             unfold Pr at b1
             split at b1
             · rename_i c0
               obtain ⟨rfl, _, rfl⟩ := Az b1
               cases b2 with
               | cons q1 q2 => cases q2; exact ⟨_, rfl, q1 _ _, M2, X1.trans X2⟩
             · rename_i hne
               obtain ⟨rfl, _, rfl⟩ := Az b1
               refine ⟨_, rfl, ?_, M2, X1.trans X2⟩
               simp only [Bb]
               refine ⟨rv.toArray, ?_, by simpa using b2.imp λ _ _ k => k _ _⟩
               have hl := b2.length
               cases rv with
               | nil => rfl
               | cons v rv =>
                 cases rv with
                 | cons _ _ => rfl
                 | nil =>
                   match cvs, hl, hne with
                   | [c], _, hne => exact (hne c rfl).elim
         · simp [Aj] at h
       · simp [Aj] at h
     · simp [Aj] at h
 · simp [Aj] at h
theorem Atp (HT : V.T.Ok) {f : FuncId} {S : FW V.E} (HW : Ac6 V P f S) {bx : List (Nat × Box V.E)} {β : Nat -> BI} (M : Bq V.T C bx β w) {dst : Nat} {args : List (CV V.E)} {vs : List Value} (ha : Bk (A3 V.T bx β (Bc C β w) w) args vs)
   {d : Dyn V.E} {rs ws : List Nat} (h : Aj V bx (U5 V dst (some S) args d) rs ws = some (res, cs, bx', ac)) (hc : Gw cs) : Aco V P C bx β w f vs res bx' := by
 unfold U5 at h
 split at h
 · rename_i S' id ver i n rest heq
   cases heq
   cases ha with
   | cons h1 h2 =>
     rename_i v vr
     obtain ⟨bx1, β1, ls, rs1, ws1, gs, M1, X1, h, _, _, _, _, hargs⟩ := Tk HT [] rest vr bx β M h2 _ _ _ h
     simp only [Aj] at h
     split at h
     · rename_i e t xs v0 hb
       split at h
       · rename_i hv
         simp only [Bool.and_eq_true] at hv
         have he := Aq hv.2
         split at h
         · rename_i ht
           subst ht
           subst he
           split at h
           · rename_i x y hx hy
             have h1' := A3.ext X1 h1
             simp only [A3, Ak, hb] at h1'
             obtain ⟨_, _, h1'⟩ := h1'
             obtain ⟨i0, n0, hin, b, cap, hh, hic, hveq⟩ := h1' (Aq hv.1)
             have hk : ∀ l bx rs ws res cs bx' ac, Aj V bx (.write id (.arr S.e S.t y.1 v0 false) (Pr V [S.f xs i n x = some (y.1, y.2), y.1.length = xs.length] l)) rs ws = some (res, cs, bx', ac) -> cs = [S.f xs i n x = some (y.1, y.2), y.1.length = xs.length] := by
               intro l bx rs ws res cs bx' ac h
               simp only [Aj] at h
               unfold Pr at h
               split at h <;> exact (Az h).2.1.symm
             have hcs := Ta _ _ _ _ hk _ _ _ _ _ _ _ h
             rw [hcs] at hc
             obtain ⟨hf, hlen, _⟩ := hc
             have hargs := hargs S.args x hx
             rw [Qf _ _ _ _ hargs] at hargs
             obtain ⟨hown, hA⟩ := M1.boxes id _ hb
             have hown' : (β1 id).own = [b] := by rw [hown, hh]; rfl
             have hbo : b ∈ (β1 id).own := by rw [hown']; simp
             refine ⟨HW.1, (HW.2 xs i n x y.1 y.2 hf hlen (Bc C β1 w) w v vr (β1 id).hdr b ⟨cap, hh, i0, n0, hin, hic, hveq⟩ hA hargs (M1.mine id b hbo).1 (λ hk => hk.2.2 id hbo) (λ c hc => hc.1)).mono ?_⟩
             rintro e w' ⟨rv, rfl, hbut, hA', hres⟩
             obtain ⟨cvs, b1, b2⟩ := Xs _ _ _ _ hres _ _ _ _ _ h
             simp only [Aj] at b1
             have hβ : upd β1 id (β1 id) = β1 := Av2 β1 id
             have hokR : ∀ c, okW (Bc C β1 w) w b w' c -> Bc C (upd β1 id (β1 id)) w' c := by
               rintro c ⟨k1, k2, k3⟩
               rw [hβ]
               refine ⟨k1, ?_, λ j hj => ?_⟩
               · rcases k2 with k2 | k2
                 · exact k2.2.1
                 · exact .inr (.inl (Nat.le_trans M1.kept.size k2))
               · rcases k2 with k2 | k2
                 · exact k2.2.2 j hj
                 · have := (M1.mine j c hj).1; omega
             have LR : Fb (okW (Bc C β1 w) w b w') w' (Bc C (upd β1 id (β1 id)) w') w' := ⟨hokR, λ _ _ => rfl⟩
             obtain ⟨M2, X2⟩ := M1.set (w' := w') id (.arr S.e S.t y.1 v0 false) (β1 id) hbut.os hbut.tape hbut.output hbut.size
               (λ x hx hn => hbut.heap x hx (by rw [hown'] at hn; exact hn)) (λ x hx => .inl hx) (M1.nodup id)
               (λ b0 h0 => by rw [hb] at h0; cases h0; exact ⟨rfl, Nat.le_refl _, λ _ => ⟨rfl, hlen⟩⟩)
               (λ _ => ⟨by rw [Ba]; exact hown, by rw [Ba]; exact hA'.later LR λ _ _ => rfl⟩)
             have hval : ∀ c v, (∀ bx β, A3 V.T bx β (okW (Bc C β1 w) w b w') w' c v) -> A3 V.T (put id (.arr S.e S.t y.1 v0 false) bx1) (upd β1 id (β1 id)) (Bc C (upd β1 id (β1 id)) w') w' c v :=
               λ c v k => A3.ext ⟨LR, λ _ b h => ⟨b, h, Fy.refl _ _ _⟩⟩ (k _ (upd β1 id (β1 id)))
             refine ⟨_, rfl, upd β1 id (β1 id), ?_⟩
             unfold Pr at b1
             split at b1
             · rename_i c
               obtain ⟨rfl, _, rfl⟩ := Az b1
               cases b2 with
               | cons q1 q2 => cases q2; exact ⟨_, rfl, hval _ _ q1, M2, X1.trans X2⟩
             · rename_i hne
               obtain ⟨rfl, _, rfl⟩ := Az b1
               refine ⟨_, rfl, ?_, M2, X1.trans X2⟩
               simp only [Bb]
               refine ⟨rv.toArray, ?_, by simpa using b2.imp λ _ _ k => hval _ _ k⟩
               have hl := b2.length
               cases rv with
               | nil => rfl
               | cons v rv =>
                 cases rv with
                 | cons _ _ => rfl
                 | nil =>
                   match cvs, hl, hne with
                   | [c], _, hne => exact (hne c rfl).elim
           · simp [Aj] at h
         · simp [Aj] at h
       · simp [Aj] at h
     · simp [Aj] at h
 · simp [Aj] at h
end
end Go.Ab
