/- A function of the program meets what is told of it: from its code's walk. Tables of structs, put together of their fields. Short forms of the walks' steps. Conditions: none beyond those that each theorem names. -/
import Derived.Test.YtjdgmcngpiookaaS08
namespace Go.Ab
open Go
section
variable {V : Env} {P : Program} {C : Ctx}
def Als (k : List Item) : Bool :=
 match auto 200 k with
 | [] => true
 | .code .ret :: _ => true
 | _ => false
def Bz (V : Env) (C : Ctx) (F : Act -> World -> Prop) (rs : List ResultVar) (os : List (List (TypeId × TypeId))) (ts : List Ty) (y : HL V.E ts) : Prop :=
 ∀ (s : St V.E) ids, Km V s os ts rs = some (y, ids) -> N9 ids = true -> ∀ a w, Sim V C s a w -> F a w
def Aha (V : Env) (rs : List ResultVar) (os : List (List (TypeId × TypeId))) (ts : List Ty) (c : List (Cmd V)) (k : List Item) (s : St V.E) : Option (HL V.E ts × List Prop) :=
 match run V c k s with
 | some (k', s', cs) => if Als k' then match Km V s' os ts rs with
     | some (y, ids) => if N9 ids then some (y, cs) else none
     | none => none
   else none
 | none => none
theorem Au7 (G : Ay V P) {F : Act -> World -> Prop} {rs : List ResultVar} {os : List (List (TypeId × TypeId))} {ts : List Ty} {y : HL V.E ts} (E : Bz V C F rs os ts y) {c : List (Cmd V)} {k : List Item} {s : St V.E} {cs : List Prop}
   (h : Aha V rs os ts c k s = some (y, cs)) (hc : Ff cs) : Am V P C F k s := by
 unfold Aha at h
 split at h
 · rename_i k' s' cs' hr
   split at h
   · rename_i hend
     split at h
     · rename_i y' ids hfin
       split at h
       · rename_i hd
         cases h
         refine seg G hr hc λ a w S b cs => ?_
         have hs := F0 (P := P) b a cs w 200 k'
         unfold Als at hend
         split at hend
         · rename_i hk
           rw [hk] at hs
           exact ⟨a, w, [], E s' ids hfin hd a w S, hs.trans (.one step_end)⟩
         · rename_i k1 hk
           rw [hk] at hs
           exact ⟨a, w, .code .ret :: k1, E s' ids hfin hd a w S, hs.trans (.one step_ret)⟩
         · cases hend
       · cases h
     · cases h
   · cases h
 · cases h
theorem Calls.of_goes {f : FuncId} {fn : Func} {c : Code} {args : Array Value} {w : World} {R : Ending -> World -> Prop} (hf : P.funcs[f]? = some fn) (hb : fn.body = some c)
   (h : ∀ (b : Frame) (cs : List Frame), ∃ a' w' todo, (a'.defers = [] /\ ∃ v, (results fn a'.tmps).run P w' = .ok v w' /\ R (.returned v) w') /\
     Steps P (lone (b.at { tmps := args ++ Array.replicate (fn.ntmps - args.size) undef, defers := [] } [.code c]) cs w) (lone { b.at a' todo with mode := .returning } cs w')) :
   Calls P f args w R := by
 intro cs
 let b : Frame := { (default : Frame) with fn := f, kind := .normal }
 have henter : Frame.enter P f args .normal = b.at { tmps := args ++ Array.replicate (fn.ntmps - args.size) undef, defers := [] } [.code c] := by
   simp [Frame.enter, Frame.at, hf, hb, b]
 obtain ⟨a', w', todo, ⟨hd, v, hr, hR⟩, hs⟩ := h b cs
 rw [<- henter] at hs
 exact ⟨.returned v, w', _, hR, hs, rfl, rfl, hd, rfl, fn, hf, hr⟩
theorem Id {ok : Nat -> Prop} {w : World} : ∀ (ts : List Ty) (os : List TypeId) (x : HL V.E ts) (vs : List Value) (own : List Nat), Hl V.T ok w os ts x vs own -> vs.length = ts.length
 | [], _, _, vs, own, h => by obtain ⟨rfl, _⟩ := h; rfl
 | t :: ts, os, (x, r), vs, own, h => by
   obtain ⟨v, vr, o1, o2, rfl, _, _, h⟩ := h
   simp [Id ts _ r vr o2 h]
theorem Hm : ∀ (ts : List Ty) (os : List TypeId) (x : HL V.E ts) (i : Nat) (id : Nat), id < Cb i -> A3 id (Bn V i os ts x) = none
 | [], os, x, i, id, h => by cases os with
   | nil => rfl
   | cons o os => cases o <;> rfl
 | t :: ts, [], (x, r), i, id, h => by
   have e : Bn V i [] (t :: ts) (x, r) = Bn V (i + 1) [] ts r := by cases t <;> rfl
   rw [e]; exact Hm ts [] r (i + 1) id (by unfold Cb at *; omega)
 | t :: ts, 0 :: os, (x, r), i, id, h => by
   have e : Bn V i (0 :: os) (t :: ts) (x, r) = Bn V (i + 1) os ts r := by cases t <;> rfl
   rw [e]; exact Hm ts os r (i + 1) id (by unfold Cb at *; omega)
 | t :: ts, (o + 1) :: os, (x, r), i, id, h => by
   have IH := Hm ts os r (i + 1) id (by unfold Cb at *; omega)
   cases t with
   | sl t => simp only [Bn, A3]; rw [H8 (by omega)]; exact IH
   | _ => exact IH
structure Aja (w : World) (okp : Nat -> Prop) (i : Nat) (os : List TypeId) (ts : List Ty) (x : HL V.E ts) (vs : List Value) (ow : List Nat) (β : Nat -> BI) : Prop where
 own : ∀ b, b ∈ ow ↔ ∃ id, b ∈ (β id).own
 low : ∀ id, id < Cb i -> (β id).own = []
 nodup : ow.Nodup -> ∀ id, (β id).own.Nodup
 apart : ow.Nodup -> ∀ id id' b, b ∈ (β id).own -> b ∈ (β id').own -> id = id'
 nones : ∀ id, A3 id (Bn V i os ts x) = none -> (β id).own = []
 boxes : ∀ id b, A3 id (Bn V i os ts x) = some b -> ∃ e t xs, b = .arr e t xs 0 false /\ (β id).own = (β id).hdr.ownBlock.toList /\ Fy V.T okp w e t xs (β id).hdr
 slots : ∀ k y, A3 k (Dd V i os ts x) = some (some y) -> i <= k /\ ∃ v, vs[k - i]? = some v /\ ∃ c, y = .cv c /\
   ((∃ id, c = .one (.ar id 0) /\ v.oneCell' = true /\ v = (β id).hdr /\ ∃ b, A3 id (Bn V i os ts x) = some b) \/ (∀ bx β', A2 V.T bx β' okp w c v))
theorem Ri (HT : V.T.Ok) {okp : Nat -> Prop} {w : World} : ∀ (ts : List Ty) (os : List TypeId) (x : HL V.E ts) (vs : List Value) (own : List Nat) (i : Nat), Hl V.T okp w os ts x vs own -> ∃ β, Aja (V := V) w okp i os ts x vs own β
 | [], os, x, vs, own, i, h => by
   obtain ⟨rfl, rfl⟩ := h
   refine ⟨λ _ => ⟨0, undef, [], []⟩, ⟨by simp, by simp, by simp, by simp, by simp, ?_, ?_⟩⟩
   · intro id b hb
     have : Bn V i os [] x = [] := by cases os with
       | nil => rfl
       | cons o os => cases o <;> rfl
     rw [this] at hb; simp [A3] at hb
   · intro k y hk
     have : Dd V i os [] x = [] := by cases os with
       | nil => rfl
       | cons o os => cases o <;> rfl
     rw [this] at hk; simp [A3] at hk
 | t :: ts, os, (x, r), vs, own, i, h => by
   obtain ⟨v, vr, o1, o2, rfl, rfl, harg, hrest⟩ := h
   obtain ⟨β, E⟩ := Ri HT ts os.tail r vr o2 (i + 1) hrest
   -- data
   have data : os.headD 0 = 0 -> Dd V i os (t :: ts) (x, r) = (i, (B5 (Mh t) (t.toL V.T x)).map SV.cv) :: Dd V (i + 1) os.tail ts r -> Bn V i os (t :: ts) (x, r) = Bn V (i + 1) os.tail ts r ->
       ∃ β, Aja (V := V) w okp i os (t :: ts) (x, r) (v :: vr) (o1 ++ o2) β := by
     intro h0 hs hb
     rw [h0] at harg
     cases harg with
     | data hd =>
       refine ⟨β, ⟨by simpa using E.own, λ id hid => E.low id (by unfold Cb at *; omega), by simpa using E.nodup, by simpa using E.apart, by rw [hb]; exact E.nones, by rw [hb]; exact E.boxes, λ k y hk => ?_⟩⟩
       rw [hs] at hk
       unfold A3 at hk
       split at hk
       · rename_i hik
         have := Ap hik; subst this
         simp only [Option.some.injEq] at hk
         cases hl : B5 (Mh t) (t.toL V.T x) with
         | none => rw [hl] at hk; cases hk
         | some c =>
           rw [hl] at hk
           simp only [Option.map_some, Option.some.injEq] at hk
           subst hk
           refine ⟨Nat.le_refl _, v, by simp, c, rfl, .inr λ bx β' => ?_⟩
           unfold Aec at hd
           unfold B5 at hl
           split at hl
           · rename_i hn
             cases hl
             rw [if_pos hn] at hd
             obtain ⟨cs, rfl, hd⟩ := hd
             exact ⟨cs, rfl, (Kn HT t x _).2 hd⟩
           · rename_i l hn hll
             cases hl
             rw [if_neg (by simp [hn])] at hd
             have := (Kn HT (bx := bx) (β := β') t x _).2 hd
             rw [hll] at this
             cases this with
             | cons q1 q2 => exact q1
           · cases hl
       · obtain ⟨h1, v', h2, c, h3, h4⟩ := E.slots k y hk
         refine ⟨by omega, v', ?_, c, h3, by rw [hb]; exact h4⟩
         rw [show k - i = (k - (i + 1)) + 1 by omega]; simpa using h2
   match os, t, x, harg, data with
   | [], t, x, harg, data => exact data rfl (by cases t <;> rfl) (by cases t <;> rfl)
   | 0 :: os, t, x, harg, data => exact data rfl (by cases t <;> rfl) (by cases t <;> rfl)
   | (o + 1) :: os, t, x, harg, _ =>
     simp only [List.headD_cons] at harg
     cases harg with
     | own hA =>
       rename_i t xs
       have hlow := E.low (Cb i) (by unfold Cb; omega)
       have hb0 : A3 (Cb i) (Bn V (i + 1) os ts r) = none := Hm ts os r (i + 1) _ (by unfold Cb; omega)
       refine ⟨upd β (Cb i) ⟨0, v, v.ownBlock.toList, []⟩, ⟨λ b => ?_, λ id hid => ?_, λ hnd id => ?_, λ hnd id id' b h1 h2 => ?_, λ id hid => ?_, λ id b hid => ?_, λ k y hk => ?_⟩⟩
       · rw [List.mem_append, E.own]
         constructor
         · rintro (h | ⟨id, h⟩)
           · exact ⟨Cb i, by rw [A9]; exact h⟩
           · refine ⟨id, ?_⟩
             rw [B8 _ _ (λ e => by rw [e, hlow] at h; simp at h)]; exact h
         · rintro ⟨id, h⟩
           by_cases e : id = Cb i
           · subst e; rw [A9] at h; exact .inl h
           · rw [B8 _ _ e] at h; exact .inr ⟨id, h⟩
       · rw [B8 _ _ (by omega)]; exact E.low id (by unfold Cb at *; omega)
       · have hnd := List.nodup_append.1 hnd
         by_cases e : id = Cb i
         · subst e; rw [A9]; exact hnd.1
         · rw [B8 _ _ e]; exact E.nodup hnd.2.1 id
       · have hnd := List.nodup_append.1 hnd
         by_cases e : id = Cb i <;> by_cases e' : id' = Cb i
         · rw [e, e']
         · subst e; rw [A9] at h1; rw [B8 _ _ e'] at h2
           exact (hnd.2.2 b h1 b ((E.own b).2 ⟨id', h2⟩) rfl).elim
         · subst e'; rw [A9] at h2; rw [B8 _ _ e] at h1
           exact (hnd.2.2 b h2 b ((E.own b).2 ⟨id, h1⟩) rfl).elim
         · rw [B8 _ _ e] at h1; rw [B8 _ _ e'] at h2
           exact E.apart hnd.2.1 id id' b h1 h2
       · simp only [Bn] at hid
         unfold A3 at hid
         split at hid
         · cases hid
         · rename_i hne
           have e : id ≠ Cb i := by rintro rfl; simp at hne
           rw [B8 _ _ e]; exact E.nones id hid
       · simp only [Bn] at hid
         unfold A3 at hid
         split at hid
         · rename_i he
           have := Ap he; subst this
           cases hid
           refine ⟨_, _, _, rfl, ?_, ?_⟩
           · rw [A9]
           · rw [A9]; exact hA
         · rename_i hne
           have e : id ≠ Cb i := by rintro rfl; simp at hne
           rw [B8 _ _ e]; exact E.boxes id b hid
       · simp only [Dd] at hk
         unfold A3 at hk
         split at hk
         · rename_i hik
           have := Ap hik; subst this
           cases hk
           refine ⟨Nat.le_refl _, v, by simp, _, rfl, .inl ⟨Cb i, rfl, ?_, by rw [A9], ?_⟩⟩
           · obtain ⟨css, ⟨_, ho⟩, _⟩ := hA
             rcases ho with ⟨rfl, _⟩ | ⟨g, cap, cur, rfl, _⟩ <;> rfl
           · exact ⟨_, by simp only [Bn, A3]; simp; rfl⟩
         · obtain ⟨h1, v', h2, c, h3, h4⟩ := E.slots k y hk
           refine ⟨by omega, v', ?_, c, h3, ?_⟩
           · rw [show k - i = (k - (i + 1)) + 1 by omega]; simpa using h2
           · rcases h4 with ⟨id, q1, q2, q3, b, q4⟩ | h4
             · have e : id ≠ Cb i := by rintro rfl; have q4' : A3 (Cb i) (Bn V (i + 1) os ts r) = some b := q4; rw [hb0] at q4'; cases q4'
               refine .inl ⟨id, q1, q2, by rw [B8 _ _ e]; exact q3, b, ?_⟩
               simp only [Bn, A3]; rw [H8 (λ e' => e e'.symm)]; exact q4
             · exact .inr h4
theorem Arh (G : Ay V P) (ht0 : V.t0 = false) {f : FuncId} {fn : Func} {c : Code} {S : FS V.E} (hf : P.funcs[f]? = some fn) (hb : fn.body = some c) (hn : (fn.name == "runtime.NumGoroutine") = false)
   (hlen : Nat.ble S.args.length fn.ntmps = true)
   (h : ∀ x y, S.f x = some y -> ∀ (C : Ctx) (F : Act -> World -> Prop), Bz V C F fn.results.toList S.resOwn S.res y -> Am V P C F [.code c] (Ue V fn.ntmps S x)) : Bh V P f S := by
 refine ⟨⟨fn, hf, by rw [hb]; rfl, hn⟩, ?_⟩
 intro x y hxy okp w vs own hargs hnd hown hokp
 obtain ⟨β, E⟩ := Ri (V := V) (w := w) (okp := okp) G.tab S.args S.argOwn x vs own 0 hargs
 let C : Ctx := ⟨P, okp, w.heap.size, λ b => b ∈ own, w, undef⟩
 have hlen : S.args.length <= fn.ntmps := by simpa using hlen
 have hvs := Id _ _ _ _ _ hargs
 have hok : ∀ b, okp b -> Bb C β w b := by
   intro b hb
   refine ⟨hokp b hb, .inl hb, λ id hid => ?_⟩
   have := (E.own b).2 ⟨id, hid⟩
   exact (hown b this).2 hb
 have L : D8 okp w (Bb C β w) w := ⟨hok, λ _ _ => rfl⟩
 have M : Bo V.T C (Bn V 0 S.argOwn S.args x) β w := by
   refine ⟨λ id b hb => ?_, E.nones, E.nodup hnd, E.apart hnd, λ id b hb => ?_, ⟨rfl, rfl, rfl, Nat.le_refl _, λ _ _ _ => rfl⟩⟩
   · obtain ⟨e, t, xs, rfl, h1, h2⟩ := E.boxes id b hb
     exact ⟨h1, h2.later L λ _ _ => rfl⟩
   · have := (E.own b).2 ⟨id, hb⟩
     exact ⟨(hown b this).1, .inr this⟩
 have Sm : Sim V C (Ue V fn.ntmps S x) { tmps := vs.toArray ++ Array.replicate (fn.ntmps - vs.toArray.size) undef, defers := [] } w := by
   refine ⟨β, ?_, ⟨rfl, λ h => by rw [ht0] at h; cases h⟩, λ k y hk => ?_, M⟩
   · simp [Ue, hvs]; omega
   · have hk' : A3 k (Dd V 0 S.argOwn S.args x) = some (some y) := by
       unfold slot at hk
       split at hk
       · rename_i z hz; subst hk; exact hz
       · cases hk
     obtain ⟨_, v, hv, c, rfl, hc⟩ := E.slots k y hk'
     have hv' : vs[k]? = some v := by simpa using hv
     have hget : (vs.toArray ++ Array.replicate (fn.ntmps - vs.toArray.size) undef).getD k undef = v := by
       have hlt : k < vs.length := (List.getElem?_eq_some_iff.1 hv').1
       rw [Array.getD_eq_getD_getElem?, Array.getElem?_append_left (by simpa using hlt)]
       simp [hv']
     show A8 V.T _ β (Bb C β w) w (.cv c) _
     rw [hget]
     rcases hc with ⟨id, rfl, h1, h2, b, h3⟩ | hc
     · obtain ⟨e, t, xs, rfl, _, _⟩ := E.boxes id b h3
       show Ak V.T (Bn V 0 S.argOwn S.args x) β (Bb C β w) w (.ar id 0) v
       simp only [Ak, h3]
       exact ⟨h1, Nat.le_refl _, λ _ => h2⟩
     · have := hc (Bn V 0 S.argOwn S.args x) β
       show A2 V.T (Bn V 0 S.argOwn S.args x) β (Bb C β w) w c v
       cases c with
       | one l => exact Ak.agree L l v (λ id hid => ⟨.inl rfl, rfl⟩) this
       | ag ls =>
         obtain ⟨cs, rfl, this⟩ := this
         exact ⟨cs, rfl, this.imp λ l v k => Ak.agree L l v (λ id hid => ⟨.inl rfl, rfl⟩) k⟩
 refine Calls.of_goes hf hb λ b cs => ?_
 refine h x y hxy C _ ?_ _ _ Sm b cs
 intro s ids hfin hdis a w' S'
 obtain ⟨β', S'⟩ := S'
 have M' := S'.mem
 have hmem : ∀ b, b ∈ (ids.flatMap λ id => (β' id).own) ↔ ∃ id ∈ ids, b ∈ (β' id).own := λ b => List.mem_flatMap
 have L' : D8 (Bb C β' w') w' (λ b => b < w'.heap.size /\ (okp b \/ w.heap.size <= b \/ b ∈ own) /\ b ∉ (ids.flatMap λ id => (β' id).own)) w' :=
   ⟨λ b hb => ⟨hb.1, hb.2.1, λ hm => by obtain ⟨id, _, hm⟩ := (hmem b).1 hm; exact hb.2.2 id hm⟩, λ _ _ => rfl⟩
 obtain ⟨rs, h1, h2⟩ := Po G.tab G.types S' L' _ _ _ _ _ hfin
 refine ⟨S'.defers.1, Yi rs, ?_, rs, _, rfl, ?_, ?_, ?_, h2⟩
 · have hm := h1
   unfold results
   rw [Array.mapM_eq_mapM_toList]
   simp only [Sem.run_bind, Sem.run_map]
   refine (congrArg (λ r => Result.andThen (Result.andThen r _) _) hm).trans ?_
   simp only [Result.andThen_ok, Sem.run_pure]
   congr 1
   match rs with
   | [] => rfl
   | [v] => rfl
   | v :: v' :: r => rfl
 · exact ⟨M'.kept.os, M'.kept.tape, M'.kept.output, M'.kept.size, λ b hb hn => M'.kept.heap b hb hn⟩
 · exact Lv (Tl hdis) (λ id _ => M'.nodup id) (λ id _ id' _ b h1 h2 => M'.apart id id' b h1 h2)
 · intro b hb
   obtain ⟨id, _, hb⟩ := (hmem b).1 hb
   obtain ⟨h1, h2⟩ := M'.mine id b hb
   exact ⟨h1, h2⟩
def R6 (V : Env) (n : Nat) (S : FW V.E) (xs : List (S.t.den V.E)) (i k : Int) (x : HL V.E S.args) : St V.E :=
 ⟨n, (0, some (.cv (.one (.win (Cb 0) 0 i k)))) :: Dd V 1 [] S.args x, [(Cb 0, .arr S.e S.t xs 0 false)]⟩
def Aij (V : Env) (C : Ctx) (F : Act -> World -> Prop) (rs : List ResultVar) (e : TypeId) (t : Ty) (i n : Int) (ts : List Ty) (ys : List (t.den V.E)) (y : HL V.E ts) : Prop :=
 ∀ (s : St V.E) ids, Km V s [] ts rs = some (y, ids) -> slot V s 0 = some (.cv (.one (.win (Cb 0) 0 i n))) -> A3 (Cb 0) s.boxes = some (.arr e t ys 0 false) -> ∀ a w, Sim V C s a w -> F a w
def Z5 (V : Env) (rs : List ResultVar) (e : TypeId) (t : Ty) (ts : List Ty) (c : List (Cmd V)) (k : List Item) (s : St V.E) : Option (List (t.den V.E) × HL V.E ts × Int × Int × List Prop) :=
 match run V c k s with
 | some (k', s', cs) => if Als k' then match Km V s' [] ts rs, slot V s' 0, A3 (Cb 0) s'.boxes with
     | some (y, _), some (.cv (.one (.win id 0 i n))), some (.arr e' t' ys 0 false) =>
       if Nat.beq id (Cb 0) && Nat.beq e' e then (if h : t' = t then some (K0 h ys, y, i, n, cs) else none) else none
     | _, _, _ => none
   else none
 | none => none
theorem Ap9 (G : Ay V P) {F : Act -> World -> Prop} {rs : List ResultVar} {e : TypeId} {t : Ty} {i n : Int} {ts : List Ty} {ys : List (t.den V.E)} {y : HL V.E ts} (E : Aij V C F rs e t i n ts ys y) {c : List (Cmd V)} {k : List Item} {s : St V.E} {cs : List Prop}
   (h : Z5 V rs e t ts c k s = some (ys, y, i, n, cs)) (hc : Ff cs) : Am V P C F k s := by
 unfold Z5 at h
 split at h
 · rename_i k' s' cs' hr
   split at h
   · rename_i hend
     split at h
     · rename_i y' ids id i' n' e' t' ys' hfin hsl hbx
       split at h
       · rename_i hd
         simp only [Bool.and_eq_true] at hd
         have h1 := Ap hd.1
         have h2 := Ap hd.2
         split at h
         · rename_i ht
           subst ht
           subst h1
           subst h2
           cases h
           refine seg G hr hc λ a w S b cs => ?_
           have hs := F0 (P := P) b a cs w 200 k'
           unfold Als at hend
           split at hend
           · rename_i hk
             rw [hk] at hs
             exact ⟨a, w, [], E s' ids hfin hsl hbx a w S, hs.trans (.one step_end)⟩
           · rename_i k1 hk
             rw [hk] at hs
             exact ⟨a, w, .code .ret :: k1, E s' ids hfin hsl hbx a w S, hs.trans (.one step_ret)⟩
           · cases hend
         · cases h
       · cases h
     · cases h
   · cases h
 · cases h
theorem Kh : ∀ (ts : List Ty) (x : HL V.E ts) (i : Nat), Bn V i [] ts x = []
 | [], _, _ => rfl
 | t :: ts, (x, r), i => by
   have e : Bn V i [] (t :: ts) (x, r) = Bn V (i + 1) [] ts r := by cases t <;> rfl
   rw [e]; exact Kh ts r (i + 1)
theorem Qp {ok : Nat -> Prop} {w : World} : ∀ (ts : List Ty) (y : HL V.E ts) (vs : List Value) (own : List Nat), Lz V.T ok w [] ts y vs own -> own = []
 | [], _, _, _, h => h.2
 | t :: ts, (y, r), _, _, ⟨v, vr, o1, o2, rfl, rfl, ⟨vs, h1, _⟩, h2⟩ => by
   have h2' := Qp ts r vr o2 h2
   have key : ∀ {ls : List (A5 V.E)} {vs : List Value} {ow : List Nat}, Cy V.T ok w [] ls vs ow -> ow = [] := by
     intro ls
     induction ls with
     | nil => intro vs ow h; cases h; rfl
     | cons l ls IH => intro vs ow h; cases h with
       | more _ h => exact IH h
   rw [key h1, h2']; rfl
def Q5 (V : Env) (n : Nat) (S : FC V.E) (c : S.c.den V.E) (x : HL V.E S.args) : St V.E :=
 ⟨n, Dd V 0 [] S.args x ++ [(S.args.length, some (.cv (.one (.cp S.c c 0))))], []⟩
theorem Yr {α : Type} {k n : Nat} {z y : α} : ∀ {l : List (Nat × α)}, A3 k (l ++ [(n, z)]) = some y -> A3 k l = some y \/ (k = n /\ z = y)
 | [], h => by
   simp only [List.nil_append] at h
   unfold A3 at h
   split at h
   · rename_i e; have := Ap e; cases h; exact .inr ⟨this.symm, rfl⟩
   · simp [A3] at h
 | (j, v) :: l, h => by
   simp only [List.cons_append] at h
   unfold A3 at h ⊢
   split
   · rename_i e; rw [if_pos e] at h; exact .inl h
   · rename_i e; rw [if_neg e] at h; exact Yr h
theorem Ann (G : Ay V P) (ht0 : V.t0 = false) {f : FuncId} {fn : Func} {c : Code} {S : FC V.E} (hf : P.funcs[f]? = some fn) (hb : fn.body = some c) (hn : (fn.name == "runtime.NumGoroutine") = false)
   (hlen : Nat.ble (S.args.length + 1) fn.ntmps = true) (hflat : S.res.all S0 = true)
   (h : ∀ z x y, S.f z x = some y -> ∀ (C : Ctx) (F : Act -> World -> Prop), Bz V C F fn.results.toList [] S.res y -> Am V P C F [.code c] (Q5 V fn.ntmps S z x)) : S4 V P f S := by
 refine ⟨⟨fn, hf, by rw [hb]; rfl, hn⟩, ?_⟩
 intro z x y hxy okp w vs pv hargs hpv hokp
 obtain ⟨β, E⟩ := Ri (V := V) (w := w) (okp := okp) G.tab S.args [] x vs [] 0 hargs
 let C : Ctx := ⟨P, okp, w.heap.size, λ _ => False, w, undef⟩
 have hlen : S.args.length + 1 <= fn.ntmps := by simpa using hlen
 have hvs := Id _ _ _ _ _ hargs
 have hown : ∀ id, (β id).own = [] := λ id => by
   cases hx : (β id).own with
   | nil => rfl
   | cons z zs => have := (E.own z).2 ⟨id, by rw [hx]; simp⟩; simp at this
 have hok : ∀ b, okp b -> Bb C β w b := λ b hb => ⟨hokp b hb, .inl hb, λ id hid => by rw [hown id] at hid; simp at hid⟩
 have L : D8 okp w (Bb C β w) w := ⟨hok, λ _ _ => rfl⟩
 have M : Bo V.T C [] β w := by
   refine ⟨λ id b hb => by simp [A3] at hb, λ id _ => hown id, λ id => by rw [hown]; simp, λ id id' x hx => by rw [hown] at hx; simp at hx, λ id x hx => by rw [hown] at hx; simp at hx, ⟨rfl, rfl, rfl, Nat.le_refl _, λ _ _ _ => rfl⟩⟩
 have hget : ∀ (k : Nat) (u : Value), (vs ++ [pv])[k]? = some u -> ((vs ++ [pv]).toArray ++ Array.replicate (fn.ntmps - (vs ++ [pv]).toArray.size) undef).getD k undef = u := by
   intro k u hv'
   have hlt : k < (vs ++ [pv]).length := (List.getElem?_eq_some_iff.1 hv').1
   rw [Array.getD_eq_getD_getElem?, Array.getElem?_append_left (by simpa using hlt)]
   simpa using congrArg (λ o => Option.getD o undef) hv'
 have hcp : Ak V.T [] β (Bb C β w) w (.cp S.c z 0) pv := by
   obtain ⟨b, o, cs, rfl, h1, h2⟩ := hpv
   simp only [Ak]
   exact ⟨b, o, cs, rfl, Bx.later L _ _ h1, h2.later L⟩
 have Sm : Sim V C (Q5 V fn.ntmps S z x) { tmps := (vs ++ [pv]).toArray ++ Array.replicate (fn.ntmps - (vs ++ [pv]).toArray.size) undef, defers := [] } w := by
   refine ⟨β, ?_, ⟨rfl, λ h => by rw [ht0] at h; cases h⟩, λ k y hk => ?_, M⟩
   · simp [Q5, hvs]; omega
   · have hk' : A3 k (Dd V 0 [] S.args x ++ [(S.args.length, some (.cv (.one (.cp S.c z 0))))]) = some (some y) := by
       unfold slot at hk
       split at hk
       · rename_i z hz; subst hk; exact hz
       · cases hk
     rcases Yr hk' with hk' | ⟨rfl, e0⟩
     rotate_left
     · cases e0
       rw [hget S.args.length pv (by rw [<- hvs]; simp)]
       exact hcp
     · obtain ⟨h1, v', hv', c, rfl, hc⟩ := E.slots k y hk'
       have hv'' : vs[k]? = some v' := by simpa using hv'
       have hlt : k < vs.length := (List.getElem?_eq_some_iff.1 hv'').1
       rw [hget k v' (by rw [List.getElem?_append_left hlt]; exact hv'')]
       rcases hc with ⟨id, _, _, _, b0, h3⟩ | hc
       · rw [Kh] at h3; simp [A3] at h3
       · have := hc [] β
         show A2 V.T [] β (Bb C β w) w c v'
         cases c with
         | one l => exact Ak.agree L l v' (λ id hid => ⟨.inl rfl, rfl⟩) this
         | ag ls =>
           obtain ⟨cs, rfl, this⟩ := this
           exact ⟨cs, rfl, this.imp λ l v k => Ak.agree L l v (λ id hid => ⟨.inl rfl, rfl⟩) k⟩
 refine Calls.of_goes hf hb λ b cs => ?_
 refine h z x y hxy C _ ?_ _ _ Sm b cs
 intro s ids hfin hdis a w' S'
 obtain ⟨β', S'⟩ := S'
 have M' := S'.mem
 have hmem : ∀ b, b ∈ (ids.flatMap λ id => (β' id).own) ↔ ∃ id ∈ ids, b ∈ (β' id).own := λ b => List.mem_flatMap
 have L' : D8 (Bb C β' w') w' (λ b => b < w'.heap.size /\ (okp b \/ w.heap.size <= b \/ False) /\ b ∉ (ids.flatMap λ id => (β' id).own)) w' :=
   ⟨λ b hb => ⟨hb.1, hb.2.1, λ hm => by obtain ⟨id, _, hm⟩ := (hmem b).1 hm; exact hb.2.2 id hm⟩, λ _ _ => rfl⟩
 obtain ⟨rs, h1, h2⟩ := Po G.tab G.types S' L' _ _ _ _ _ hfin
 rw [Qp _ _ _ _ h2] at h2
 refine ⟨S'.defers.1, Yi rs, ?_, rs, rfl, ?_, W9 _ _ _ _ hflat h2⟩
 · have hm := h1
   unfold results
   rw [Array.mapM_eq_mapM_toList]
   simp only [Sem.run_bind, Sem.run_map]
   refine (congrArg (λ r => Result.andThen (Result.andThen r _) _) hm).trans ?_
   simp only [Result.andThen_ok, Sem.run_pure]
   congr 1
   match rs with
   | [] => rfl
   | [v] => rfl
   | v :: v' :: r => rfl
 · exact ⟨M'.kept.os, M'.kept.tape, M'.kept.output, M'.kept.size, λ b hb _ => M'.kept.heap b hb (λ h => h)⟩
theorem And (G : Ay V P) (ht0 : V.t0 = true) {f : FuncId} {fn : Func} {c : Code} {S : FW V.E} (hf : P.funcs[f]? = some fn) (hb : fn.body = some c) (hn : (fn.name == "runtime.NumGoroutine") = false)
   (hlen : Nat.ble (S.args.length + 1) fn.ntmps = true)
   (h : ∀ xs i n x ys y, S.f xs i n x = some (ys, y) -> ∀ (C : Ctx) (F : Act -> World -> Prop), Aij V C F fn.results.toList S.e S.t i n S.res ys y -> Am V P C F [.code c] (R6 V fn.ntmps S xs i n x)) : Aby V P f S := by
 refine ⟨⟨fn, hf, by rw [hb]; rfl, hn⟩, ?_⟩
 intro xs i n x ys y hxy hyl okp w v vs hdr b hwin hA hargs hbs hbok hokp
 obtain ⟨β0, E⟩ := Ri (V := V) (w := w) (okp := okp) G.tab S.args [] x vs [] 1 hargs
 obtain ⟨cap, hh, i0, n0, hin, hic, hveq⟩ := hwin
 have h0 : ∀ id, (β0 id).own = [] := λ id => by
   cases hx : (β0 id).own with
   | nil => rfl
   | cons z zs => have := (E.own z).2 ⟨id, by rw [hx]; simp⟩; simp at this
 let C : Ctx := ⟨P, okp, w.heap.size, λ c => c = b, w, v⟩
 let β : Nat -> BI := upd β0 (Cb 0) ⟨0, hdr, [b], []⟩
 have hβ0 : β (Cb 0) = ⟨0, hdr, [b], []⟩ := A9 _ _ _
 have hβo : ∀ id, id ≠ Cb 0 -> (β id).own = [] := λ id hid => by
   show (upd β0 (Cb 0) _ id).own = []
   rw [B8 _ _ hid]; exact h0 id
 have hmem : ∀ id z, z ∈ (β id).own -> id = Cb 0 /\ z = b := by
   intro id z hz
   by_cases hid : id = Cb 0
   · subst hid; rw [hβ0] at hz; exact ⟨rfl, by simpa using hz⟩
   · rw [hβo id hid] at hz; simp at hz
 have hok : ∀ z, okp z -> Bb C β w z := by
   intro z hz
   refine ⟨hokp z hz, .inl hz, λ id hid => ?_⟩
   have := (hmem id z hid).2
   subst this; exact hbok hz
 have L : D8 okp w (Bb C β w) w := ⟨hok, λ _ _ => rfl⟩
 have hlook : ∀ id b0, A3 id [(Cb 0, Box.arr S.e S.t xs 0 false)] = some b0 -> id = Cb 0 /\ b0 = .arr S.e S.t xs 0 false := by
   intro id b0 h
   unfold A3 at h
   split at h
   · rename_i e; exact ⟨(Ap e).symm, by cases h; rfl⟩
   · simp [A3] at h
 have hlook0 : A3 (Cb 0) [(Cb 0, Box.arr S.e S.t xs 0 false)] = some (.arr S.e S.t xs 0 false) := by
   unfold A3; simp
 have M : Bo V.T C [(Cb 0, .arr S.e S.t xs 0 false)] β w := by
   refine ⟨λ id b0 hid => ?_, λ id hid => ?_, λ id => ?_, λ id id' z hz hz' => ?_, λ id z hz => ?_, ⟨rfl, rfl, rfl, Nat.le_refl _, λ _ _ _ => rfl⟩⟩
   · obtain ⟨rfl, rfl⟩ := hlook id b0 hid
     simp only [Cu]
     rw [hβ0]
     exact ⟨by rw [hh]; rfl, hA.later L λ _ _ => rfl⟩
   · by_cases e : id = Cb 0
     · subst e; rw [hlook0] at hid; cases hid
     · exact hβo id e
   · by_cases e : id = Cb 0
     · subst e; rw [hβ0]; simp
     · rw [hβo id e]; simp
   · rw [(hmem id z hz).1, (hmem id' z hz').1]
   · obtain ⟨_, rfl⟩ := hmem id z hz
     exact ⟨hbs, .inr rfl⟩
 have hlen : S.args.length + 1 <= fn.ntmps := by simpa using hlen
 have hvs := Id _ _ _ _ _ hargs
 have hget : ∀ (k : Nat) (u : Value), (v :: vs)[k]? = some u -> ((v :: vs).toArray ++ Array.replicate (fn.ntmps - (v :: vs).toArray.size) undef).getD k undef = u := by
   intro k u hv'
   have hlt : k < (v :: vs).length := (List.getElem?_eq_some_iff.1 hv').1
   rw [Array.getD_eq_getD_getElem?, Array.getElem?_append_left (by simpa using hlt)]
   simp [hv']
 have hwin : Ak V.T [(Cb 0, Box.arr S.e S.t xs 0 false)] β (Bb C β w) w (.win (Cb 0) 0 i n) v := by
   simp only [Ak, hlook0]
   refine ⟨by rw [hveq]; rfl, Nat.le_refl _, λ _ => ⟨i0, n0, hin, b, cap, ?_, hic, hveq⟩⟩
   rw [hβ0]; exact hh
 have Sm : Sim V C (R6 V fn.ntmps S xs i n x) { tmps := (v :: vs).toArray ++ Array.replicate (fn.ntmps - (v :: vs).toArray.size) undef, defers := [] } w := by
   refine ⟨β, ?_, ⟨rfl, λ _ => hget 0 v rfl⟩, λ k y hk => ?_, M⟩
   · simp [R6, hvs]; omega
   · have hk' : A3 k ((0, some (.cv (.one (.win (Cb 0) 0 i n)))) :: Dd V 1 [] S.args x) = some (some y) := by
       unfold slot at hk
       split at hk
       · rename_i z hz; subst hk; exact hz
       · cases hk
     unfold A3 at hk'
     split at hk'
     · rename_i e0
       have := Ap e0
       subst this
       cases hk'
       rw [hget 0 v rfl]
       exact hwin
     · obtain ⟨h1, v', hv', c, rfl, hc⟩ := E.slots k y hk'
       rw [hget k v' (by rw [show k = (k - 1) + 1 by omega]; simpa using hv')]
       rcases hc with ⟨id, _, _, _, b0, h3⟩ | hc
       · rw [Kh] at h3; simp [A3] at h3
       · have := hc [(Cb 0, Box.arr S.e S.t xs 0 false)] β
         show A2 V.T [(Cb 0, Box.arr S.e S.t xs 0 false)] β (Bb C β w) w c v'
         cases c with
         | one l => exact Ak.agree L l v' (λ id hid => ⟨.inl rfl, rfl⟩) this
         | ag ls =>
           obtain ⟨cs, rfl, this⟩ := this
           exact ⟨cs, rfl, this.imp λ l v k => Ak.agree L l v (λ id hid => ⟨.inl rfl, rfl⟩) k⟩
 refine Calls.of_goes hf hb λ b' cs => ?_
 refine h xs i n x ys y hxy C _ ?_ _ _ Sm b' cs
 intro s ids hfin hsl hbx a w' S'
 obtain ⟨β', S'⟩ := S'
 have M' := S'.mem
 have hr0 := S'.slots 0 _ hsl
 have hw := S'.defers.2 ht0
 simp only [SR, A8, A2, Ak, hbx] at hr0
 obtain ⟨_, _, hr0⟩ := hr0
 obtain ⟨_, _, _, b2, cap2, hh2, hic2, hv2⟩ := hr0 trivial
 rw [hw] at hv2
 have hv2 : v = _ := hv2
 rw [hveq] at hv2
 simp only [Value.slice.injEq, Option.some.injEq, Addr.mk.injEq] at hv2
 obtain ⟨⟨e1, _⟩, _, e3⟩ := hv2
 have e4 : cap2 = cap := by omega
 subst e1 e4
 obtain ⟨hown', hA'⟩ := M'.boxes _ _ hbx
 have hhdr : (β' (Cb 0)).hdr = hdr := by rw [hh2, hh, hyl]
 rw [hhdr] at hown' hA'
 have hbo : b ∈ (β' (Cb 0)).own := by rw [hown', hh]; simp [Value.ownBlock]
 have L' : D8 (Bb C β' w') w' (okW okp w b w') w' :=
   ⟨λ z hz => ⟨hz.1, by
     rcases hz.2.1 with k | k | k
     · exact .inl k
     · exact .inr k
     · exact (hz.2.2 (Cb 0) (by have k : z = b := k; rw [k]; exact hbo)).elim, λ e => hz.2.2 (Cb 0) (by rw [e]; exact hbo)⟩, λ _ _ => rfl⟩
 obtain ⟨rs, h1, h2⟩ := Po G.tab G.types S' L' _ _ _ _ _ hfin
 rw [Qp _ _ _ _ h2] at h2
 refine ⟨S'.defers.1, Yi rs, ?_, rs, rfl, ?_, hA'.later L' (λ _ _ => rfl), h2⟩
 · have hm := h1
   unfold results
   rw [Array.mapM_eq_mapM_toList]
   simp only [Sem.run_bind, Sem.run_map]
   refine (congrArg (λ r => Result.andThen (Result.andThen r _) _) hm).trans ?_
   simp only [Result.andThen_ok, Sem.run_pure]
   congr 1
   match rs with
   | [] => rfl
   | [v] => rfl
   | v :: v' :: r => rfl
 · exact ⟨M'.kept.os, M'.kept.tape, M'.kept.output, M'.kept.size, λ z hz hn => M'.kept.heap z hz (by simpa using hn)⟩
end
section
variable {E : Nat -> Type}
def Prs (E : Nat -> Type) (α : Type) := List (A5 E) -> Option (α × List (A5 E))
def Prs.Spec {α : Type} (p : Prs E α) (f : α -> List (A5 E)) : Prop := ∀ ls x r, p ls = some (x, r) -> ∃ l, ls = l ++ r /\ Coe l (f x)
theorem Coe.append : ∀ {a b c d : List (A5 E)}, Coe a b -> Coe c d -> Coe (a ++ c) (b ++ d)
 | _, _, _, _, .nil, k => k
 | _, _, _, _, .cons h t, k => .cons h (t.append k)
def Aad (k : IntKind) : Prs E Int
 | .int k' n :: r => if k' = k then some (n, r) else none
 | _ => none
theorem Ir (k : IntKind) : Prs.Spec (Aad (E := E) k) (λ n => [.int k n]) := by
 intro ls x r h
 unfold Aad at h
 split at h
 · split at h
   · rename_i hk; subst hk; cases h; exact ⟨[_], rfl, .cons (.inl rfl) .nil⟩
   · cases h
 · cases h
def Aj3 : Prs E Bool
 | .bool b :: r => some (b, r)
 | _ => none
theorem W6 : Prs.Spec (Aj3 (E := E)) (λ b => [.bool b]) := by
 intro ls x r h
 unfold Aj3 at h
 split at h
 · cases h; exact ⟨[_], rfl, .cons (.inl rfl) .nil⟩
 · cases h
def pSl (t : Ty) (st : Bool) : Prs E (List (t.den E))
 | .sl t' st' xs :: r => if h : t' = t then (if st' || !st then some (K0 h xs, r) else none) else none
 | _ => none
theorem R9 (t : Ty) (st : Bool) : Prs.Spec (pSl (E := E) t st) (λ xs => [.sl t st xs]) := by
 intro ls x r h
 unfold pSl at h
 split at h
 · rename_i t' st' xs r'
   split at h
   · rename_i ht
     subst ht
     split at h
     · rename_i hst
       cases h
       refine ⟨[_], rfl, .cons (.inr ⟨_, st', st, xs, rfl, rfl, λ hs => .inl ?_⟩) .nil⟩
       subst hs
       simpa using hst
     · cases h
   · cases h
 · cases h
def Sj {α β : Type} (p : Prs E α) (q : Prs E β) : Prs E (α × β) := λ ls =>
 match p ls with
 | some (x, r) => match q r with
   | some (y, r') => some ((x, y), r')
   | none => none
 | none => none
theorem Fp {α β : Type} {p : Prs E α} {q : Prs E β} {f : α -> List (A5 E)} {g : β -> List (A5 E)} (hp : p.Spec f) (hq : q.Spec g) : (Sj p q).Spec (λ x => f x.1 ++ g x.2) := by
 intro ls x r h
 unfold Sj at h
 split at h
 · rename_i y r1 h1
   split at h
   · rename_i z r2 h2
     cases h
     obtain ⟨l1, rfl, c1⟩ := hp _ _ _ h1
     obtain ⟨l2, rfl, c2⟩ := hq _ _ _ h2
     exact ⟨l1 ++ l2, by simp, c1.append c2⟩
   · cases h
 · cases h
def Xq {α β : Type} (p : Prs E α) (m : α -> β) : Prs E β := λ ls =>
 match p ls with
 | some (x, r) => some (m x, r)
 | none => none
theorem H9 {α β : Type} {p : Prs E α} {f : α -> List (A5 E)} (hp : p.Spec f) (m : α -> β) (g : β -> List (A5 E)) (h : ∀ x, g (m x) = f x) : (Xq p m).Spec g := by
 intro ls x r hx
 unfold Xq at hx
 split at hx
 · rename_i y r1 h1
   cases hx
   obtain ⟨l, e, c⟩ := hp _ _ _ h1
   exact ⟨l, e, by rw [h]; exact c⟩
 · cases hx
def X6 {α : Type} (p : Prs E α) (ls : List (A5 E)) : Option α :=
 match p ls with
 | some (x, []) => some x
 | _ => none
theorem Ji {α : Type} {p : Prs E α} {f : α -> List (A5 E)} (hp : p.Spec f) {ls : List (A5 E)} {x : α} (h : X6 p ls = some x) : Coe ls (f x) := by
 unfold X6 at h
 split at h
 · rename_i y h1
   cases h
   obtain ⟨l, e, c⟩ := hp _ _ _ h1
   rw [e]; simpa using c
 · cases h
end
def Auk (T : Tab) (ti : TypeId -> Option (TI T.E)) (eqs : TypeId -> Bool) (fs : List (FuncId × FS T.E)) (ws : List (FuncId × FW T.E)) (cs : List (FuncId × FC T.E)) (t0 : Bool) : Env := ⟨T, ti, eqs, λ f => A3 f fs, λ f => A3 f ws, λ f => A3 f cs, t0⟩
def A1o (T : Tab) (ti : TypeId -> Option (TI T.E)) (eqs : TypeId -> Bool) (fs : List (FuncId × FS T.E)) (ws : List (FuncId × FW T.E)) (t0 : Bool) : Env := Auk T ti eqs fs ws [] t0
def Vz (T : Tab) (ti : TypeId -> Option (TI T.E)) (eqs : TypeId -> Bool) (fs : List (FuncId × FS T.E)) : Env := A1o T ti eqs fs [] false
structure A3k (T : Tab) (ti : TypeId -> Option (TI T.E)) (eqs : TypeId -> Bool) (P : Program) : Prop where
 tab : T.Ok
 types : Sg (Vz T ti eqs []) P
 eqs : Akn (Vz T ti eqs []) P
 mixed : P.follows .mixedOrders = true
def Abc (T : Tab) (ti : TypeId -> Option (TI T.E)) (eqs : TypeId -> Bool) (P : Program) (f : FuncId) (S : FS T.E) : Prop := Bh (Vz T ti eqs []) P f S
def Pt (T : Tab) (ti : TypeId -> Option (TI T.E)) (eqs : TypeId -> Bool) (P : Program) : List (FuncId × FS T.E) -> Prop
 | [] => True
 | (f, S) :: r => Abc T ti eqs P f S /\ Pt T ti eqs P r
theorem Tx {T : Tab} {ti : TypeId -> Option (TI T.E)} {eqs : TypeId -> Bool} {P : Program} : ∀ {l : List (FuncId × FS T.E)}, Pt T ti eqs P l -> ∀ {f S}, A3 f l = some S -> Abc T ti eqs P f S
 | [], _, _, _, h => by simp [A3] at h
 | (g, S') :: r, hA, f, S, h => by
   unfold A3 at h
   split at h
   · rename_i e
     cases h
     have := Ap e
     subst this
     exact hA.1
   · exact Tx hA.2 h
def Ze (T : Tab) (ti : TypeId -> Option (TI T.E)) (eqs : TypeId -> Bool) (P : Program) (f : FuncId) (S : FW T.E) : Prop := Aby (Vz T ti eqs []) P f S
def Mg (T : Tab) (ti : TypeId -> Option (TI T.E)) (eqs : TypeId -> Bool) (P : Program) : List (FuncId × FW T.E) -> Prop
 | [] => True
 | (f, S) :: r => Ze T ti eqs P f S /\ Mg T ti eqs P r
theorem Se {T : Tab} {ti : TypeId -> Option (TI T.E)} {eqs : TypeId -> Bool} {P : Program} : ∀ {l : List (FuncId × FW T.E)}, Mg T ti eqs P l -> ∀ {f S}, A3 f l = some S -> Ze T ti eqs P f S
 | [], _, _, _, h => by simp [A3] at h
 | (g, S') :: r, hA, f, S, h => by
   unfold A3 at h
   split at h
   · rename_i e
     cases h
     have := Ap e
     subst this
     exact hA.1
   · exact Se hA.2 h
def Abi (T : Tab) (ti : TypeId -> Option (TI T.E)) (eqs : TypeId -> Bool) (P : Program) (f : FuncId) (S : FC T.E) : Prop := S4 (Vz T ti eqs []) P f S
def Rc (T : Tab) (ti : TypeId -> Option (TI T.E)) (eqs : TypeId -> Bool) (P : Program) : List (FuncId × FC T.E) -> Prop
 | [] => True
 | (f, S) :: r => Abi T ti eqs P f S /\ Rc T ti eqs P r
theorem Qx {T : Tab} {ti : TypeId -> Option (TI T.E)} {eqs : TypeId -> Bool} {P : Program} : ∀ {l : List (FuncId × FC T.E)}, Rc T ti eqs P l -> ∀ {f S}, A3 f l = some S -> Abi T ti eqs P f S
 | [], _, _, _, h => by simp [A3] at h
 | (g, S') :: r, hA, f, S, h => by
   unfold A3 at h
   split at h
   · rename_i e
     cases h
     have := Ap e
     subst this
     exact hA.1
   · exact Qx hA.2 h
theorem A2q {T : Tab} {ti : TypeId -> Option (TI T.E)} {eqs : TypeId -> Bool} {fs : List (FuncId × FS T.E)} {ws : List (FuncId × FW T.E)} {cs : List (FuncId × FC T.E)} {t0 : Bool} : ∀ (l m : List (A5 T.E)), eqL (Auk T ti eqs fs ws cs t0) l m = eqL (Vz T ti eqs []) l m := by
 intro l
 induction l with
 | nil => intro m; cases m <;> simp [eqL]
 | cons a l ih =>
   intro m
   cases m with
   | nil => cases a <;> simp [eqL]
   | cons b m => cases a <;> cases b <;> simp [eqL, ih]
theorem Add {T : Tab} {ti : TypeId -> Option (TI T.E)} {eqs : TypeId -> Bool} {P : Program} {fs : List (FuncId × FS T.E)} {ws : List (FuncId × FW T.E)} {cs : List (FuncId × FC T.E)} {t0 : Bool} (B : A3k T ti eqs P) (h : Pt T ti eqs P fs) (hw : Mg T ti eqs P ws) (hc : Rc T ti eqs P cs) :
   Ay (Auk T ti eqs fs ws cs t0) P :=
 ⟨B.tab, λ t i hi => by obtain ⟨info, d, z, I⟩ := B.types t i hi; exact ⟨info, d, z, I.inf, I.under, I.kind, I.size, I.bytes, I.ty, I.pos, I.bpos, I.zero, I.zeros, I.zcells⟩,
  λ t ht i hi bx β ok w' l m b c d hl h => B.eqs t ht i hi bx β ok w' l m b c d hl (by rw [<- h]; exact (A2q l m).symm), ⟨λ _ _ hS => Tx h hS, λ _ _ hS => Se hw hS, λ _ _ hS => Qx hc hS⟩, B.mixed⟩
theorem Aqx {T : Tab} {ti : TypeId -> Option (TI T.E)} {eqs : TypeId -> Bool} {P : Program} {fs : List (FuncId × FS T.E)} {ws : List (FuncId × FW T.E)} {t0 : Bool} (B : A3k T ti eqs P) (h : Pt T ti eqs P fs) (hw : Mg T ti eqs P ws) :
   Ay (A1o T ti eqs fs ws t0) P := Add B h hw (cs := []) trivial
section
variable {V : Env} {P : Program} {C : Ctx} {F : Act -> World -> Prop}
theorem tt : True := trivial
theorem aa {p q : Prop} (h : p) (k : q) : p /\ q := ⟨h, k⟩
theorem sj {α : Type} {a b : α} (h : some a = some b) : a = b := Option.some.inj h
theorem si {α : Type} {a b : α} (h : some a = some b) : b = a := (Option.some.inj h).symm
theorem ns2 {α : Type} {a b : Prop} {r : Option α} {y : α} (h : need a (need b r) = some y) : a /\ b /\ r = some y := by
 obtain ⟨h1, h⟩ := Ao h
 exact ⟨h1, Ao h⟩
theorem ns3 {α : Type} {a b c : Prop} {r : Option α} {y : α} (h : need a (need b (need c r)) = some y) : a /\ b /\ c /\ r = some y := by
 obtain ⟨h1, h⟩ := Ao h
 exact ⟨h1, ns2 h⟩
theorem ns4 {α : Type} {a b c d : Prop} {r : Option α} {y : α} (h : need a (need b (need c (need d r))) = some y) : a /\ b /\ c /\ d /\ r = some y := by
 obtain ⟨h1, h⟩ := Ao h
 exact ⟨h1, ns3 h⟩
theorem ca {α : Type} {o : Option α} {y : α} (h : o = some y) : Option.map (λ r => (r, ())) o = some (y, ()) := by rw [h]; rfl
theorem cb {α β : Type} {o : Option (α × β)} {y : α × β} (h : o = some y) : Option.map (λ r => (r.1, r.2, ())) o = some (y.1, y.2, ()) := by rw [h]; rfl
@[reducible] def r0 {V : Env} : Cmd V := .reg []
@[reducible] def bt {V : Env} : Cmd V := .br true
@[reducible] def bf {V : Env} : Cmd V := .br false
@[reducible] def au {V : Env} : Cmd V := .auto
@[reducible] def en {V : Env} : Cmd V := .enter
@[reducible] def wk {V : Env} (a b : List Nat) : Cmd V := .weak [.keep a b]
@[reducible] def oT {E : Nat -> Type} : Orc E := .bit true
@[reducible] def oF {E : Nat -> Type} : Orc E := .bit false
@[reducible] def oi {E : Nat -> Type} (n : Int) : Option (SV E) := some (.cv (.one (.int .i64 n)))
@[reducible] def og {E : Nat -> Type} (ls : List (A5 E)) : Option (SV E) := some (.cv (.ag ls))
@[reducible] def ol {E : Nat -> Type} (l : A5 E) : Option (SV E) := some (.cv (.one l))
def A4t (V : Env) (c : List (Cmd V)) (k : List Item) (s : St V.E) : Option (List Item × St V.E × Prop) :=
 match run V c k s with
 | some (k', s', cs) => some (k', s', Ff cs)
 | none => none
theorem sg (G : Ay V P) (c : List (Cmd V)) {k k' : List Item} {s s' : St V.E} {Q : Prop} (q : Q) (g : Am V P C F k' s') (h : A4t V c k s = some (k', s', Q) := by kernel_rfl) : Am V P C F k s := by
 unfold A4t at h
 split at h
 · rename_i k1 s1 cs hr
   cases h
   exact seg G hr q g
 · cases h
def Baz (V : Env) (rs : List ResultVar) (os : List (List (TypeId × TypeId))) (ts : List Ty) (c : List (Cmd V)) (k : List Item) (s : St V.E) : Option (HL V.E ts × Prop) :=
 match Aha V rs os ts c k s with
 | some (y, cs) => some (y, Ff cs)
 | none => none
theorem se (G : Ay V P) {rs : List ResultVar} {os : List (List (TypeId × TypeId))} {ts : List Ty} {y : HL V.E ts} (E : Bz V C F rs os ts y) (c : List (Cmd V)) {k : List Item} {s : St V.E} {Q : Prop} (q : Q)
   (h : Baz V rs os ts c k s = some (y, Q) := by kernel_rfl) : Am V P C F k s := by
 unfold Baz at h
 split at h
 · rename_i y1 cs hr
   cases h
   exact Au7 G E hr q
 · cases h
def A0f (V : Env) (rs : List ResultVar) (e : TypeId) (t : Ty) (ts : List Ty) (c : List (Cmd V)) (k : List Item) (s : St V.E) : Option (List (t.den V.E) × HL V.E ts × Int × Int × Prop) :=
 match Z5 V rs e t ts c k s with
 | some (ys, y, i, n, cs) => some (ys, y, i, n, Ff cs)
 | none => none
theorem sw (G : Ay V P) {rs : List ResultVar} {e : TypeId} {t : Ty} {i n : Int} {ts : List Ty} {ys : List (t.den V.E)} {y : HL V.E ts} (E : Aij V C F rs e t i n ts ys y) (c : List (Cmd V)) {k : List Item} {s : St V.E} {Q : Prop} (q : Q)
   (h : A0f V rs e t ts c k s = some (ys, y, i, n, Q) := by kernel_rfl) : Am V P C F k s := by
 unfold A0f at h
 split at h
 · rename_i ys1 y1 i1 n1 cs hr
   cases h
   exact Ap9 G E hr q
 · cases h
theorem mt {fn : Func} {f : FuncId} {as rs : List Ty} {ao : List TypeId} {ro : List (List (TypeId × TypeId))} {α : Type} {g : HL V.E as -> Option α} {pk : α -> HL V.E rs} {S : HL V.E as -> St V.E} (G : Ay V P)
   (w : Ay V P -> ∀ x C F z, Bz V C F fn.results.toList ro rs (pk z) -> g x = some z -> Am V P C F [.code (fn.body.getD .skip)] (S x))
   (h0 : V.t0 = false := by kernel_rfl) (h1 : P.funcs[f]? = some fn := by kernel_rfl) (h2 : fn.body = some (fn.body.getD .skip) := by kernel_rfl) (h3 : (fn.name == "runtime.NumGoroutine") = false := by kernel_rfl) (h4 : Nat.ble as.length fn.ntmps = true := by kernel_rfl)
   (hS : ∀ x, Ue V fn.ntmps ⟨as, rs, ao, ro, λ x => Option.map pk (g x)⟩ x = S x := by intro x; kernel_rfl) : Bh V P f ⟨as, rs, ao, ro, λ x => Option.map pk (g x)⟩ :=
 Arh G h0 h1 h2 h3 h4 λ x y h C F E => by
   have h : Option.map pk (g x) = some y := h
   obtain ⟨z, hz, e⟩ := Option.map_eq_some_iff.1 h
   subst e
   rw [hS]
   exact w G x C F z E hz
theorem mc {fn : Func} {f : FuncId} {u : Ty} {as rs : List Ty} {α : Type} {g : u.den V.E -> HL V.E as -> Option α} {pk : α -> HL V.E rs} {S : u.den V.E -> HL V.E as -> St V.E} (G : Ay V P)
   (w : Ay V P -> ∀ c x C F z, Bz V C F fn.results.toList [] rs (pk z) -> g c x = some z -> Am V P C F [.code (fn.body.getD .skip)] (S c x))
   (h0 : V.t0 = false := by kernel_rfl) (h1 : P.funcs[f]? = some fn := by kernel_rfl) (h2 : fn.body = some (fn.body.getD .skip) := by kernel_rfl) (h3 : (fn.name == "runtime.NumGoroutine") = false := by kernel_rfl) (h4 : Nat.ble (as.length + 1) fn.ntmps = true := by kernel_rfl)
   (h5 : rs.all S0 = true := by kernel_rfl)
   (hS : ∀ c x, Q5 V fn.ntmps ⟨u, as, rs, λ c x => Option.map pk (g c x)⟩ c x = S c x := by intro c x; kernel_rfl) : S4 V P f ⟨u, as, rs, λ c x => Option.map pk (g c x)⟩ :=
 Ann G h0 h1 h2 h3 h4 h5 λ c x y h C F E => by
   have h : Option.map pk (g c x) = some y := h
   obtain ⟨z, hz, e⟩ := Option.map_eq_some_iff.1 h
   subst e
   rw [hS]
   exact w G c x C F z E hz
end
end Go.Ab
