/- A function of the program meets what is told of it, where its code's walk comes to its end. A function of the program meets what is told of it: from its code's walk. Tables of structs, put together of their fields. Short forms of the walks' steps. Conditions: none beyond those that each theorem names. -/
import Derived.Test.YtjdgmcngpiookaaGreatS08
namespace Go.Ab
open Go
section
variable (V : Env)
def Cp (i : Nat) : Nat := 1000000 + i
def Fn : Nat -> List TypeId -> (ts : List Ty) -> HL V.E ts -> List (Nat × Option (SV V.E))
 | _, _, [], _ => []
 | i, 0 :: os, t :: ts, (x, r) => (i, (B2 (Kg t) (t.toL V.T x)).map SV.cv) :: Fn (i + 1) os ts r
 | i, (_ + 1) :: os, _ :: ts, (_, r) => (i, some (.cv (.one (.ar (Cp i) 0)))) :: Fn (i + 1) os ts r
 | i, [], t :: ts, (x, r) => (i, (B2 (Kg t) (t.toL V.T x)).map SV.cv) :: Fn (i + 1) [] ts r
def Bs : Nat -> List TypeId -> (ts : List Ty) -> HL V.E ts -> List (Nat × Box V.E)
 | _, _, [], _ => []
 | i, 0 :: os, _ :: ts, (_, r) => Bs (i + 1) os ts r
 | i, (e + 1) :: os, .sl t :: ts, (xs, r) => (Cp i, .arr (e + 1) t xs 0 false) :: Bs (i + 1) os ts r
 | i, (_ + 1) :: os, _ :: ts, (_, r) => Bs (i + 1) os ts r
 | i, [], _ :: ts, (_, r) => Bs (i + 1) [] ts r
def Wx (n : Nat) (S : FS V.E) (x : HL V.E S.args) : St V.E := ⟨n, Fn V 0 S.argOwn S.args x, Bs V 0 S.argOwn S.args x⟩
def Hv (bx : List (Nat × Box V.E)) : List (TypeId × TypeId) -> List (A7 V.E) -> Option (List (A7 V.E) × List Nat)
 | _, [] => some ([], [])
 | (0, _) :: os, l :: r => match A7.av V.T l, Hv bx os r with
   | some _, some (ls, ids) => some (l :: ls, ids)
   | _, _ => none
 | [], l :: r => match A7.av V.T l, Hv bx [] r with
   | some _, some (ls, ids) => some (l :: ls, ids)
   | _, _ => none
 | (e + 1, 0) :: os, .ar id ver :: r => match A6 id bx, Hv bx os r with
   | some (.arr e' t xs v false), some (ls, ids) => if Nat.beq ver v && Nat.beq e' (e + 1) then some (.sl t false xs :: ls, id :: ids) else none
   | _, _ => none
 | (e + 1, e2 + 1) :: os, .ar id ver :: r => match A6 id bx, Hv bx os r with
   | some (.rows e' e2' t xss v _ .opn), some (ls, ids) => if Nat.beq ver v && Nat.beq e' (e + 1) && Nat.beq e2' (e2 + 1) then some (.sl (.sl t) false xss :: ls, id :: ids) else none
   | _, _ => none
 | _, _ => none
def Ajx (s : St V.E) : ResultVar -> Option (CV V.E)
 | .tmp k => match slot V s k with
   | some (.cv c) => some c
   | _ => none
 | .cell k t => match slot V s k, V.ti t with
   | some (.cv (.one (.ptr id off))), some i => match A6 id s.boxes with
     | some (.cells ls) => if Nat.ble (off + i.size) ls.length then B2 i.kind.agg ((ls.drop off).take i.size) else none
     | _ => none
   | _, _ => none
def Mi (s : St V.E) : List (List (TypeId × TypeId)) -> (ts : List Ty) -> List ResultVar -> Option (HL V.E ts × List Nat)
 | _, [], [] => some ((), [])
 | os, t :: ts, r :: rs => match Ajx V s r with
   | some c => if c.isAg == Kg t then match Hv V s.boxes (os.headD []) c.leaves with
       | some (ls, ids) => match t.ofL V.T ls with
         | some y => match Mi s os.tail ts rs with
           | some (q, ids') => some ((y, q), ids ++ ids')
           | none => none
         | none => none
       | none => none
     else none
   | none => none
 | _, _, _ => none
def Qt : List Nat -> Bool
 | [] => true
 | x :: xs => !(Nn x xs) && Qt xs
end
section
variable {V : Env} {P : Program} {C : Ctx}
theorem Vu : ∀ {l : List Nat}, Qt l = true -> l.Nodup
 | [], _ => List.nodup_nil
 | x :: xs, h => by
   simp only [Qt, Bool.and_eq_true, Bool.not_eq_true'] at h
   refine List.nodup_cons.2 ⟨λ hm => ?_, Vu h.2⟩
   rw [Ac2 hm] at h; exact Bool.noConfusion h.1
theorem Apr {bx bx' : List (Nat × Box V.E)} {β β' : Nat -> BI} {ok : Nat -> Prop} {w : World} {l : A7 V.E} {x : AV} (h : A7.av V.T l = some x) {v : Value} (k : Ak V.T bx β ok w l v) : Ak V.T bx' β' ok w l v :=
 (T8 h v).2 ((T8 h v).1 k)
theorem Hf {s : St V.E} {β : Nat -> BI} {w : World} (M : Bq V.T C s.boxes β w) {ok' : Nat -> Prop} (L : Fb (Bc C β w) w ok' w) : ∀ (ls : List (A7 V.E)) (os : List (TypeId × TypeId)) (vs : List Value) (ls' : List (A7 V.E)) (ids : List Nat) (ms : List (A7 V.E)),
   Bk (Ak V.T s.boxes β (Bc C β w) w) ls vs -> Hv V s.boxes os ls = some (ls', ids) -> Coe ls' ms -> Df V.T ok' w os ms vs (ids.flatMap λ id => (β id).own)
 | [], os, _, ls', ids, ms, .nil, h, hc => by
   have h : (([] : List (A7 V.E)), ([] : List Nat)) = (ls', ids) := by
     cases os with
     | nil => simpa [Hv] using h
     | cons o os => obtain ⟨e, e2⟩ := o; simpa [Hv] using h
   cases h
   cases hc
   exact .nil
 | l :: ls, os, _, ls', ids, ms, .cons (b := v) (m := vs) h1 h2, h, hc => by
   have data : ∀ {x : AV} {m : A7 V.E}, A7.av V.T l = some x -> A65 l m -> ∀ bx β', Ak V.T bx β' ok' w m v := by
     intro x m hx hm bx β'
     have := Apr (bx' := bx) (β' := β') hx h1
     have k := Wf hm this
     refine Ak.agree L m v (λ id hid => ?_) k
     exfalso
     rcases hm with rfl | ⟨t, st, st', xs, rfl, rfl, _⟩
     · cases l <;> simp [A7.av] at hx <;> simp [Hj] at hid
     · simp [Hj] at hid
   unfold Hv at h
   split at h
   · rename_i heq; cases heq
   · rename_i heq; cases heq
     split at h
     · rename_i x r ids' hx hr
       cases h
       cases hc with
       | cons c1 c2 => exact .data (data hx c1) (Hf M L ls _ vs _ _ _ h2 hr c2)
     · cases h
   · rename_i heq; cases heq
     split at h
     · rename_i x r ids' hx hr
       cases h
       cases hc with
       | cons c1 c2 => exact .more (data hx c1) (Hf M L ls _ vs _ _ _ h2 hr c2)
     · cases h
   · rename_i heq; cases heq
     split at h
     · rename_i e' t xs v0 r ids' hb hr
       split at h
       · rename_i hv
         cases h
         simp only [Bool.and_eq_true] at hv
         simp only [Ak, hb] at h1
         have hvv := h1.2.2 (Aq hv.1)
         have he := Aq hv.2
         subst he
         obtain ⟨q1, q2⟩ := M.boxes _ _ hb
         cases hc with
         | cons c1 c2 =>
           rw [List.flatMap_cons, q1, <- hvv]
           rcases c1 with rfl | ⟨t', st, st', xs', e1, e2, _⟩
           · exact .arr (Nat.succ_ne_zero _) (by rw [hvv]; exact q2.later L λ _ _ => rfl) (Hf M L ls _ vs _ _ _ h2 hr c2)
           · cases e1; subst e2
             exact .arr (Nat.succ_ne_zero _) (by rw [hvv]; exact q2.later L λ _ _ => rfl) (Hf M L ls _ vs _ _ _ h2 hr c2)
       · cases h
     · cases h
   · rename_i heq; cases heq
     split at h
     · rename_i e' e2' t xs v0 rv r ids' hb hr
       split at h
       · rename_i hv
         cases h
         simp only [Bool.and_eq_true] at hv
         simp only [Ak, hb] at h1
         have hvv := h1.2.2 (Aq hv.1.1)
         have he := Aq hv.1.2
         have he2 := Aq hv.2
         subst he; subst he2
         have hB := M.boxes _ _ hb
         simp only [C5] at hB
         cases hc with
         | cons c1 c2 =>
           rw [List.flatMap_cons]
           have hR : ∀ id e e2, v = (β id).hdr -> Ld V.T (Bc C β w) w e e2 t xs (β id) -> Ld V.T ok' w e e2 t xs ⟨0, v, (β id).own, (β id).rows⟩ := by
             intro id e e2 hv hB
             obtain ⟨q1, q2, q3⟩ := hB
             rw [hv]
             exact ⟨q1, q2, q3.imp λ _ _ k => k.later L λ _ _ => rfl⟩
           rcases c1 with rfl | ⟨t', st, st', xs', e1, e2, _⟩
           · exact .rows (Nat.succ_ne_zero _) (Nat.succ_ne_zero _) (hR _ _ _ hvv hB) (Hf M L ls _ vs _ _ _ h2 hr c2)
           · cases e1; subst e2
             exact .rows (Nat.succ_ne_zero _) (Nat.succ_ne_zero _) (hR _ _ _ hvv hB) (Hf M L ls _ vs _ _ _ h2 hr c2)
       · cases h
     · cases h
   · cases h
def Adi (a : Act) : ResultVar -> Sem Value
 | .tmp t => pure (a.tmps.getD t undef)
 | .cell k t => do loadVar t (<- asAddr (a.tmps.getD k undef))
theorem Atl (G : Tt V P) {s : St V.E} {β : Nat -> BI} {a : Act} {w : World} (S : Tn V C s β a w) {r : ResultVar} {c : CV V.E} (h : Ajx V s r = some c) :
   ∃ v, (Adi a r).run P w = .ok v w /\ A3 V.T s.boxes β (Bc C β w) w c v := by
 unfold Ajx at h
 split at h
 · rename_i k
   split at h
   · rename_i c' hk
     cases h
     exact ⟨a.tmps.getD k undef, by simp only [Adi, Sem.run_pure], S.slots k _ hk⟩
   · cases h
 · rename_i k t
   split at h
   · rename_i id off i hk hi
     split at h
     · rename_i ls hb
       split at h
       · rename_i hle
         have hle := Nat.le_of_ble_eq_true hle
         obtain ⟨info, d, z, I⟩ := G t i hi
         have hr : Bb V.T s.boxes β (Bc C β w) w (.cv (.one (.ptr id off))) (a.tmps.getD k undef) := S.slots k _ hk
         simp only [Bb, A3, Ak, hb] at hr
         obtain ⟨_, hv⟩ := hr
         obtain ⟨cs, e, hown, hheap, hall⟩ := S.mem.boxes id _ hb
         have hall' := (hall.drop off).take i.size
         obtain ⟨h1, h2⟩ := P6 (w := w) I (β id).blk off ((cs.toList.drop off).take i.size) (by rw [<- hall'.length]; simp; omega) (λ j v hv => by
           rw [Cm hheap]
           rw [List.getElem?_take] at hv
           split at hv
           · rw [List.getElem?_drop] at hv; simpa using hv
           · cases hv)
         simp only [Adi, hv, asAddr, Sem.run_bind, Sem.run_pure, Result.andThen_ok]
         rcases Lh h hall' with ⟨ha, rfl, k⟩ | ⟨ha, l, v, _, rfl, h4, k⟩
         · exact ⟨_, h1 ha, k⟩
         · exact ⟨_, h2 ha v h4, k⟩
       · cases h
     · cases h
   · cases h
theorem Ve (HT : V.T.Ok) (G : Tt V P) {s : St V.E} {β : Nat -> BI} {a : Act} {w : World} (S : Tn V C s β a w) {ok' : Nat -> Prop} (L : Fb (Bc C β w) w ok' w) : ∀ (ts : List Ty) (os : List (List (TypeId × TypeId))) (rs : List ResultVar) (y : HL V.E ts) (ids : List Nat), Mi V s os ts rs = some (y, ids) ->
   ∃ vs, (rs.mapM (Adi a)).run P w = .ok vs w /\ Nm V.T ok' w os ts y vs (ids.flatMap λ id => (β id).own)
 | [], os, rs, y, ids, h => by
   cases rs with
   | nil =>
     have h : (((), []) : HL V.E [] × List Nat) = (y, ids) := by cases os <;> simpa [Mi] using h
     cases h
     exact ⟨[], by simp, rfl, rfl⟩
   | cons r rs => cases os <;> simp [Mi] at h
 | t :: ts, os, [], y, ids, h => by cases os <;> simp [Mi] at h
 | t :: ts, os, r :: rs, y, ids, h => by
   have h' : (match Ajx V s r with
     | some c => if c.isAg == Kg t then match Hv V s.boxes (os.headD []) c.leaves with
       | some (ls, ids) => match t.ofL V.T ls with
         | some y => match Mi V s os.tail ts rs with
           | some (q, ids') => some ((y, q), ids ++ ids')
           | none => none
         | none => none
       | none => none
       else none
     | none => none) = some (y, ids) := by
     rw [<- h]; simp only [Mi]
   split at h'
   · rename_i c hk
     split at h'
     · rename_i hag
       split at h'
       · rename_i ls ids1 hf
         split at h'
         · rename_i y1 hy
           split at h'
           · rename_i q ids2 hr
             cases h'
             obtain ⟨vs, h1, h2⟩ := Ve HT G S L ts os.tail rs q ids2 hr
             obtain ⟨v, hv, hrep⟩ := Atl G S hk
             have hO := Hf S.mem L _ _ _ _ _ _ (A3.cells hrep) hf (Oi HT hy)
             refine ⟨v :: vs, ?_, _, _, _, _, rfl, by rw [List.flatMap_append], ⟨_, hO, ?_⟩, h2⟩
             · rw [List.mapM_cons]
               simp only [Sem.run_bind, Sem.run_pure, hv, h1, Result.andThen_ok]
             · have hci := A3.isAg hrep
               have hag : c.isAg = Kg t := by simpa using hag
               split
               · rename_i hn
                 rw [hn] at hag
                 obtain ⟨cs, hcs⟩ := hci.1 hag
                 rw [hcs]; rfl
               · rename_i hn
                 simp only [Bool.not_eq_true] at hn
                 rw [hn] at hag
                 rw [hci.2 hag]
           · cases h'
         · cases h'
       · cases h'
     · cases h'
   · cases h'
end
section
variable {V : Env} {P : Program} {C : Ctx}
def Akh (k : List Item) : Bool :=
 match auto 200 k with
 | [] => true
 | .code .ret :: _ => true
 | _ => false
def Avm (V : Env) (C : Ctx) (F : Act -> World -> Prop) (rs : List ResultVar) (os : List (List (TypeId × TypeId))) (ts : List Ty) (y : HL V.E ts) : Prop :=
 ∀ (s : St V.E) ids, Mi V s os ts rs = some (y, ids) -> Qt ids = true -> ∀ a w, Sim V C s a w -> F a w
def Aja (V : Env) (rs : List ResultVar) (os : List (List (TypeId × TypeId))) (ts : List Ty) (c : List (Cmd V)) (k : List Item) (s : St V.E) : Option (HL V.E ts × List Prop) :=
 match run V c k s with
 | some (k', s', cs) => if Akh k' then match Mi V s' os ts rs with
     | some (y, ids) => if Qt ids then some (y, cs) else none
     | none => none
   else none
 | none => none
theorem Ayv (G : Ay V P) {F : Act -> World -> Prop} {rs : List ResultVar} {os : List (List (TypeId × TypeId))} {ts : List Ty} {y : HL V.E ts} (E : Avm V C F rs os ts y) {c : List (Cmd V)} {k : List Item} {s : St V.E} {cs : List Prop}
   (h : Aja V rs os ts c k s = some (y, cs)) (hc : Gw cs) : Ax V P C F k s := by
 unfold Aja at h
 split at h
 · rename_i k' s' cs' hr
   split at h
   · rename_i hend
     split at h
     · rename_i y' ids hfin
       split at h
       · rename_i hd
         cases h
         refine seg G hr hc λ a w S b cs => ?_
         have hs := He (P := P) b a cs w 200 k'
         unfold Akh at hend
         split at hend
         · rename_i hk
           rw [hk] at hs
           exact ⟨a, w, [], E s' ids hfin hd a w S, hs.trans (.one step_end)⟩
         · rename_i k1 hk
           rw [hk] at hs
           exact ⟨a, w, .code .ret :: k1, E s' ids hfin hd a w S, hs.trans (.one step_ret)⟩
         · cases hend
       · cases h
     · cases h
   · cases h
 · cases h
theorem Calls.of_goes {f : FuncId} {fn : Func} {c : Code} {args : Array Value} {w : World} {R : Ending -> World -> Prop} (hf : P.funcs[f]? = some fn) (hb : fn.body = some c)
   (h : ∀ (b : Frame) (cs : List Frame), ∃ a' w' todo, (a'.defers = [] /\ ∃ v, (results fn a'.tmps).run P w' = .ok v w' /\ R (.returned v) w') /\
     Steps P (lone (b.at { tmps := args ++ Array.replicate (fn.ntmps - args.size) undef, defers := [] } [.code c]) cs w) (lone { b.at a' todo with mode := .returning } cs w')) :
   Calls P f args w R := by
 intro cs
 let b : Frame := { (default : Frame) with fn := f, kind := .normal }
 have henter : Frame.enter P f args .normal = b.at { tmps := args ++ Array.replicate (fn.ntmps - args.size) undef, defers := [] } [.code c] := by
   simp [Frame.enter, Frame.at, hf, hb, b]
 obtain ⟨a', w', todo, ⟨hd, v, hr, hR⟩, hs⟩ := h b cs
 rw [<- henter] at hs
 exact ⟨.returned v, w', _, hR, hs, rfl, rfl, hd, rfl, fn, hf, hr⟩
theorem Mh {ok : Nat -> Prop} {w : World} : ∀ (ts : List Ty) (os : List TypeId) (x : HL V.E ts) (vs : List Value) (own : List Nat), Jd V.T ok w os ts x vs own -> vs.length = ts.length
 | [], _, _, vs, own, h => by obtain ⟨rfl, _⟩ := h; rfl
 | t :: ts, os, (x, r), vs, own, h => by
   obtain ⟨v, vr, o1, o2, rfl, _, _, h⟩ := h
   simp [Mh ts _ r vr o2 h]
theorem I9 : ∀ (ts : List Ty) (os : List TypeId) (x : HL V.E ts) (i : Nat) (id : Nat), id < Cp i -> A6 id (Bs V i os ts x) = none
 | [], os, x, i, id, h => by cases os with
   | nil => rfl
   | cons o os => cases o <;> rfl
 | t :: ts, [], (x, r), i, id, h => by
   have e : Bs V i [] (t :: ts) (x, r) = Bs V (i + 1) [] ts r := by cases t <;> rfl
   rw [e]; exact I9 ts [] r (i + 1) id (by unfold Cp at *; omega)
 | t :: ts, 0 :: os, (x, r), i, id, h => by
   have e : Bs V i (0 :: os) (t :: ts) (x, r) = Bs V (i + 1) os ts r := by cases t <;> rfl
   rw [e]; exact I9 ts os r (i + 1) id (by unfold Cp at *; omega)
 | t :: ts, (o + 1) :: os, (x, r), i, id, h => by
   have IH := I9 ts os r (i + 1) id (by unfold Cp at *; omega)
   cases t with
   | sl t => simp only [Bs, A6]; rw [Jx (by omega)]; exact IH
   | _ => exact IH
structure Ak3 (w : World) (okp : Nat -> Prop) (i : Nat) (os : List TypeId) (ts : List Ty) (x : HL V.E ts) (vs : List Value) (ow : List Nat) (β : Nat -> BI) : Prop where
 own : ∀ b, b ∈ ow ↔ ∃ id, b ∈ (β id).own
 low : ∀ id, id < Cp i -> (β id).own = []
 nodup : ow.Nodup -> ∀ id, (β id).own.Nodup
 apart : ow.Nodup -> ∀ id id' b, b ∈ (β id).own -> b ∈ (β id').own -> id = id'
 nones : ∀ id, A6 id (Bs V i os ts x) = none -> (β id).own = []
 boxes : ∀ id b, A6 id (Bs V i os ts x) = some b -> ∃ e t xs, b = .arr e t xs 0 false /\ (β id).own = (β id).hdr.ownBlock.toList /\ Hh V.T okp w e t xs (β id).hdr
 slots : ∀ k y, A6 k (Fn V i os ts x) = some (some y) -> i <= k /\ ∃ v, vs[k - i]? = some v /\ ∃ c, y = .cv c /\
   ((∃ id, c = .one (.ar id 0) /\ v.oneCell' = true /\ v = (β id).hdr /\ ∃ b, A6 id (Bs V i os ts x) = some b) \/ (∀ bx β', A3 V.T bx β' okp w c v))
theorem Yg (HT : V.T.Ok) {okp : Nat -> Prop} {w : World} : ∀ (ts : List Ty) (os : List TypeId) (x : HL V.E ts) (vs : List Value) (own : List Nat) (i : Nat), Jd V.T okp w os ts x vs own -> ∃ β, Ak3 (V := V) w okp i os ts x vs own β
 | [], os, x, vs, own, i, h => by
   obtain ⟨rfl, rfl⟩ := h
   refine ⟨λ _ => ⟨0, undef, [], []⟩, ⟨by simp, by simp, by simp, by simp, by simp, ?_, ?_⟩⟩
   · intro id b hb
     have : Bs V i os [] x = [] := by cases os with
       | nil => rfl
       | cons o os => cases o <;> rfl
     rw [this] at hb; simp [A6] at hb
   · intro k y hk
     have : Fn V i os [] x = [] := by cases os with
       | nil => rfl
       | cons o os => cases o <;> rfl
     rw [this] at hk; simp [A6] at hk
 | t :: ts, os, (x, r), vs, own, i, h => by
   obtain ⟨v, vr, o1, o2, rfl, rfl, harg, hrest⟩ := h
   obtain ⟨β, E⟩ := Yg HT ts os.tail r vr o2 (i + 1) hrest
   -- data
   have data : os.headD 0 = 0 -> Fn V i os (t :: ts) (x, r) = (i, (B2 (Kg t) (t.toL V.T x)).map SV.cv) :: Fn V (i + 1) os.tail ts r -> Bs V i os (t :: ts) (x, r) = Bs V (i + 1) os.tail ts r ->
       ∃ β, Ak3 (V := V) w okp i os (t :: ts) (x, r) (v :: vr) (o1 ++ o2) β := by
     intro h0 hs hb
     rw [h0] at harg
     cases harg with
     | data hd =>
       refine ⟨β, ⟨by simpa using E.own, λ id hid => E.low id (by unfold Cp at *; omega), by simpa using E.nodup, by simpa using E.apart, by rw [hb]; exact E.nones, by rw [hb]; exact E.boxes, λ k y hk => ?_⟩⟩
       rw [hs] at hk
       unfold A6 at hk
       split at hk
       · rename_i hik
         have := Aq hik; subst this
         simp only [Option.some.injEq] at hk
         cases hl : B2 (Kg t) (t.toL V.T x) with
         | none => rw [hl] at hk; cases hk
         | some c =>
           rw [hl] at hk
           simp only [Option.map_some, Option.some.injEq] at hk
           subst hk
           refine ⟨Nat.le_refl _, v, by simp, c, rfl, .inr λ bx β' => ?_⟩
           unfold Afj at hd
           unfold B2 at hl
           split at hl
           · rename_i hn
             cases hl
             rw [if_pos hn] at hd
             obtain ⟨cs, rfl, hd⟩ := hd
             exact ⟨cs, rfl, (Ka HT t x _).2 hd⟩
           · rename_i l hn hll
             cases hl
             rw [if_neg (by simp [hn])] at hd
             have := (Ka HT (bx := bx) (β := β') t x _).2 hd
             rw [hll] at this
             cases this with
             | cons q1 q2 => exact q1
           · cases hl
       · obtain ⟨h1, v', h2, c, h3, h4⟩ := E.slots k y hk
         refine ⟨by omega, v', ?_, c, h3, by rw [hb]; exact h4⟩
         rw [show k - i = (k - (i + 1)) + 1 by omega]; simpa using h2
   match os, t, x, harg, data with
   | [], t, x, harg, data => exact data rfl (by cases t <;> rfl) (by cases t <;> rfl)
   | 0 :: os, t, x, harg, data => exact data rfl (by cases t <;> rfl) (by cases t <;> rfl)
   | (o + 1) :: os, t, x, harg, _ =>
     simp only [List.headD_cons] at harg
     cases harg with
     | own hA =>
       rename_i t xs
       have hlow := E.low (Cp i) (by unfold Cp; omega)
       have hb0 : A6 (Cp i) (Bs V (i + 1) os ts r) = none := I9 ts os r (i + 1) _ (by unfold Cp; omega)
       refine ⟨upd β (Cp i) ⟨0, v, v.ownBlock.toList, []⟩, ⟨λ b => ?_, λ id hid => ?_, λ hnd id => ?_, λ hnd id id' b h1 h2 => ?_, λ id hid => ?_, λ id b hid => ?_, λ k y hk => ?_⟩⟩
       · rw [List.mem_append, E.own]
         constructor
         · rintro (h | ⟨id, h⟩)
           · exact ⟨Cp i, by rw [Ba]; exact h⟩
           · refine ⟨id, ?_⟩
             rw [Cl _ _ (λ e => by rw [e, hlow] at h; simp at h)]; exact h
         · rintro ⟨id, h⟩
           by_cases e : id = Cp i
           · subst e; rw [Ba] at h; exact .inl h
           · rw [Cl _ _ e] at h; exact .inr ⟨id, h⟩
       · rw [Cl _ _ (by omega)]; exact E.low id (by unfold Cp at *; omega)
       · have hnd := List.nodup_append.1 hnd
         by_cases e : id = Cp i
         · subst e; rw [Ba]; exact hnd.1
         · rw [Cl _ _ e]; exact E.nodup hnd.2.1 id
       · have hnd := List.nodup_append.1 hnd
         by_cases e : id = Cp i <;> by_cases e' : id' = Cp i
         · rw [e, e']
         · subst e; rw [Ba] at h1; rw [Cl _ _ e'] at h2
           exact (hnd.2.2 b h1 b ((E.own b).2 ⟨id', h2⟩) rfl).elim
         · subst e'; rw [Ba] at h2; rw [Cl _ _ e] at h1
           exact (hnd.2.2 b h2 b ((E.own b).2 ⟨id, h1⟩) rfl).elim
         · rw [Cl _ _ e] at h1; rw [Cl _ _ e'] at h2
           exact E.apart hnd.2.1 id id' b h1 h2
       · simp only [Bs] at hid
         unfold A6 at hid
         split at hid
         · cases hid
         · rename_i hne
           have e : id ≠ Cp i := by rintro rfl; simp at hne
           rw [Cl _ _ e]; exact E.nones id hid
       · simp only [Bs] at hid
         unfold A6 at hid
         split at hid
         · rename_i he
           have := Aq he; subst this
           cases hid
           refine ⟨_, _, _, rfl, ?_, ?_⟩
           · rw [Ba]
           · rw [Ba]; exact hA
         · rename_i hne
           have e : id ≠ Cp i := by rintro rfl; simp at hne
           rw [Cl _ _ e]; exact E.boxes id b hid
       · simp only [Fn] at hk
         unfold A6 at hk
         split at hk
         · rename_i hik
           have := Aq hik; subst this
           cases hk
           refine ⟨Nat.le_refl _, v, by simp, _, rfl, .inl ⟨Cp i, rfl, ?_, by rw [Ba], ?_⟩⟩
           · obtain ⟨css, ⟨_, ho⟩, _⟩ := hA
             rcases ho with ⟨rfl, _⟩ | ⟨g, cap, cur, rfl, _⟩ <;> rfl
           · exact ⟨_, by simp only [Bs, A6]; simp; rfl⟩
         · obtain ⟨h1, v', h2, c, h3, h4⟩ := E.slots k y hk
           refine ⟨by omega, v', ?_, c, h3, ?_⟩
           · rw [show k - i = (k - (i + 1)) + 1 by omega]; simpa using h2
           · rcases h4 with ⟨id, q1, q2, q3, b, q4⟩ | h4
             · have e : id ≠ Cp i := by rintro rfl; have q4' : A6 (Cp i) (Bs V (i + 1) os ts r) = some b := q4; rw [hb0] at q4'; cases q4'
               refine .inl ⟨id, q1, q2, by rw [Cl _ _ e]; exact q3, b, ?_⟩
               simp only [Bs, A6]; rw [Jx (λ e' => e e'.symm)]; exact q4
             · exact .inr h4
theorem Ar6 (G : Ay V P) (ht0 : V.t0 = false) {f : FuncId} {fn : Func} {c : Code} {S : FS V.E} (hf : P.funcs[f]? = some fn) (hb : fn.body = some c) (hn : (fn.name == "runtime.NumGoroutine") = false)
   (hlen : Nat.ble S.args.length fn.ntmps = true)
   (h : ∀ x y, S.f x = some y -> ∀ (C : Ctx) (F : Act -> World -> Prop), Avm V C F fn.results.toList S.resOwn S.res y -> Ax V P C F [.code c] (Wx V fn.ntmps S x)) : Be V P f S := by
 refine ⟨⟨fn, hf, by rw [hb]; rfl, hn⟩, ?_⟩
 intro x y hxy okp w vs own hargs hnd hown hokp
 obtain ⟨β, E⟩ := Yg (V := V) (w := w) (okp := okp) G.tab S.args S.argOwn x vs own 0 hargs
 let C : Ctx := ⟨P, okp, w.heap.size, λ b => b ∈ own, w, undef⟩
 have hlen : S.args.length <= fn.ntmps := by simpa using hlen
 have hvs := Mh _ _ _ _ _ hargs
 have hok : ∀ b, okp b -> Bc C β w b := by
   intro b hb
   refine ⟨hokp b hb, .inl hb, λ id hid => ?_⟩
   have := (E.own b).2 ⟨id, hid⟩
   exact (hown b this).2 hb
 have L : Fb okp w (Bc C β w) w := ⟨hok, λ _ _ => rfl⟩
 have M : Bq V.T C (Bs V 0 S.argOwn S.args x) β w := by
   refine ⟨λ id b hb => ?_, E.nones, E.nodup hnd, E.apart hnd, λ id b hb => ?_, ⟨rfl, rfl, rfl, Nat.le_refl _, λ _ _ _ => rfl⟩⟩
   · obtain ⟨e, t, xs, rfl, h1, h2⟩ := E.boxes id b hb
     exact ⟨h1, h2.later L λ _ _ => rfl⟩
   · have := (E.own b).2 ⟨id, hb⟩
     exact ⟨(hown b this).1, .inr this⟩
 have Sm : Sim V C (Wx V fn.ntmps S x) { tmps := vs.toArray ++ Array.replicate (fn.ntmps - vs.toArray.size) undef, defers := [] } w := by
   refine ⟨β, ?_, ⟨rfl, λ h => by rw [ht0] at h; cases h⟩, λ k y hk => ?_, M⟩
   · simp [Wx, hvs]; omega
   · have hk' : A6 k (Fn V 0 S.argOwn S.args x) = some (some y) := by
       unfold slot at hk
       split at hk
       · rename_i z hz; subst hk; exact hz
       · cases hk
     obtain ⟨_, v, hv, c, rfl, hc⟩ := E.slots k y hk'
     have hv' : vs[k]? = some v := by simpa using hv
     have hget : (vs.toArray ++ Array.replicate (fn.ntmps - vs.toArray.size) undef).getD k undef = v := by
       have hlt : k < vs.length := (List.getElem?_eq_some_iff.1 hv').1
       rw [Array.getD_eq_getD_getElem?, Array.getElem?_append_left (by simpa using hlt)]
       simp [hv']
     show Bb V.T _ β (Bc C β w) w (.cv c) _
     rw [hget]
     rcases hc with ⟨id, rfl, h1, h2, b, h3⟩ | hc
     · obtain ⟨e, t, xs, rfl, _, _⟩ := E.boxes id b h3
       show Ak V.T (Bs V 0 S.argOwn S.args x) β (Bc C β w) w (.ar id 0) v
       simp only [Ak, h3]
       exact ⟨h1, Nat.le_refl _, λ _ => h2⟩
     · have := hc (Bs V 0 S.argOwn S.args x) β
       show A3 V.T (Bs V 0 S.argOwn S.args x) β (Bc C β w) w c v
       cases c with
       | one l => exact Ak.agree L l v (λ id hid => ⟨.inl rfl, rfl⟩) this
       | ag ls =>
         obtain ⟨cs, rfl, this⟩ := this
         exact ⟨cs, rfl, this.imp λ l v k => Ak.agree L l v (λ id hid => ⟨.inl rfl, rfl⟩) k⟩
 refine Calls.of_goes hf hb λ b cs => ?_
 refine h x y hxy C _ ?_ _ _ Sm b cs
 intro s ids hfin hdis a w' S'
 obtain ⟨β', S'⟩ := S'
 have M' := S'.mem
 have hmem : ∀ b, b ∈ (ids.flatMap λ id => (β' id).own) ↔ ∃ id ∈ ids, b ∈ (β' id).own := λ b => List.mem_flatMap
 have L' : Fb (Bc C β' w') w' (λ b => b < w'.heap.size /\ (okp b \/ w.heap.size <= b \/ b ∈ own) /\ b ∉ (ids.flatMap λ id => (β' id).own)) w' :=
   ⟨λ b hb => ⟨hb.1, hb.2.1, λ hm => by obtain ⟨id, _, hm⟩ := (hmem b).1 hm; exact hb.2.2 id hm⟩, λ _ _ => rfl⟩
 obtain ⟨rs, h1, h2⟩ := Ve G.tab G.types S' L' _ _ _ _ _ hfin
 refine ⟨S'.defers.1, Ag7 rs, ?_, rs, _, rfl, ?_, ?_, ?_, h2⟩
 · have hm := h1
   unfold results
   rw [Array.mapM_eq_mapM_toList]
   simp only [Sem.run_bind, Sem.run_map]
   refine (congrArg (λ r => Result.andThen (Result.andThen r _) _) hm).trans ?_
   simp only [Result.andThen_ok, Sem.run_pure]
   congr 1
   match rs with
   | [] => rfl
   | [v] => rfl
   | v :: v' :: r => rfl
 · exact ⟨M'.kept.os, M'.kept.tape, M'.kept.output, M'.kept.size, λ b hb hn => M'.kept.heap b hb hn⟩
 · exact Np (Vu hdis) (λ id _ => M'.nodup id) (λ id _ id' _ b h1 h2 => M'.apart id id' b h1 h2)
 · intro b hb
   obtain ⟨id, _, hb⟩ := (hmem b).1 hb
   obtain ⟨h1, h2⟩ := M'.mine id b hb
   exact ⟨h1, h2⟩
def Un (V : Env) (n : Nat) (S : FW V.E) (xs : List (S.t.den V.E)) (i k : Int) (x : HL V.E S.args) : St V.E :=
 ⟨n, (0, some (.cv (.one (.win (Cp 0) 0 i k)))) :: Fn V 1 [] S.args x, [(Cp 0, .arr S.e S.t xs 0 false)]⟩
def Ak8 (V : Env) (C : Ctx) (F : Act -> World -> Prop) (rs : List ResultVar) (e : TypeId) (t : Ty) (i n : Int) (ts : List Ty) (ys : List (t.den V.E)) (y : HL V.E ts) : Prop :=
 ∀ (s : St V.E) ids, Mi V s [] ts rs = some (y, ids) -> slot V s 0 = some (.cv (.one (.win (Cp 0) 0 i n))) -> A6 (Cp 0) s.boxes = some (.arr e t ys 0 false) -> ∀ a w, Sim V C s a w -> F a w
def Adh (V : Env) (rs : List ResultVar) (e : TypeId) (t : Ty) (ts : List Ty) (c : List (Cmd V)) (k : List Item) (s : St V.E) : Option (List (t.den V.E) × HL V.E ts × Int × Int × List Prop) :=
 match run V c k s with
 | some (k', s', cs) => if Akh k' then match Mi V s' [] ts rs, slot V s' 0, A6 (Cp 0) s'.boxes with
     | some (y, _), some (.cv (.one (.win id 0 i n))), some (.arr e' t' ys 0 false) =>
       if Nat.beq id (Cp 0) && Nat.beq e' e then (if h : t' = t then some (Mg h ys, y, i, n, cs) else none) else none
     | _, _, _ => none
   else none
 | none => none
theorem Awd (G : Ay V P) {F : Act -> World -> Prop} {rs : List ResultVar} {e : TypeId} {t : Ty} {i n : Int} {ts : List Ty} {ys : List (t.den V.E)} {y : HL V.E ts} (E : Ak8 V C F rs e t i n ts ys y) {c : List (Cmd V)} {k : List Item} {s : St V.E} {cs : List Prop}
   (h : Adh V rs e t ts c k s = some (ys, y, i, n, cs)) (hc : Gw cs) : Ax V P C F k s := by
 unfold Adh at h
 split at h
 · rename_i k' s' cs' hr
   split at h
   · rename_i hend
     split at h
     · rename_i y' ids id i' n' e' t' ys' hfin hsl hbx
       split at h
       · rename_i hd
         simp only [Bool.and_eq_true] at hd
         have h1 := Aq hd.1
         have h2 := Aq hd.2
         split at h
         · rename_i ht
           subst ht
           subst h1
           subst h2
           cases h
           refine seg G hr hc λ a w S b cs => ?_
           have hs := He (P := P) b a cs w 200 k'
           unfold Akh at hend
           split at hend
           · rename_i hk
             rw [hk] at hs
             exact ⟨a, w, [], E s' ids hfin hsl hbx a w S, hs.trans (.one step_end)⟩
           · rename_i k1 hk
             rw [hk] at hs
             exact ⟨a, w, .code .ret :: k1, E s' ids hfin hsl hbx a w S, hs.trans (.one step_ret)⟩
           · cases hend
         · cases h
       · cases h
     · cases h
   · cases h
 · cases h
theorem Ql : ∀ (ts : List Ty) (x : HL V.E ts) (i : Nat), Bs V i [] ts x = []
 | [], _, _ => rfl
 | t :: ts, (x, r), i => by
   have e : Bs V i [] (t :: ts) (x, r) = Bs V (i + 1) [] ts r := by cases t <;> rfl
   rw [e]; exact Ql ts r (i + 1)
theorem W7 {ok : Nat -> Prop} {w : World} : ∀ (ts : List Ty) (y : HL V.E ts) (vs : List Value) (own : List Nat), Nm V.T ok w [] ts y vs own -> own = []
 | [], _, _, _, h => h.2
 | t :: ts, (y, r), _, _, ⟨v, vr, o1, o2, rfl, rfl, ⟨vs, h1, _⟩, h2⟩ => by
   have h2' := W7 ts r vr o2 h2
   have key : ∀ {ls : List (A7 V.E)} {vs : List Value} {ow : List Nat}, Df V.T ok w [] ls vs ow -> ow = [] := by
     intro ls
     induction ls with
     | nil => intro vs ow h; cases h; rfl
     | cons l ls IH => intro vs ow h; cases h with
       | more _ h => exact IH h
   rw [key h1, h2']; rfl
theorem An3 (G : Ay V P) (ht0 : V.t0 = true) {f : FuncId} {fn : Func} {c : Code} {S : FW V.E} (hf : P.funcs[f]? = some fn) (hb : fn.body = some c) (hn : (fn.name == "runtime.NumGoroutine") = false)
   (hlen : Nat.ble (S.args.length + 1) fn.ntmps = true)
   (h : ∀ xs i n x ys y, S.f xs i n x = some (ys, y) -> ∀ (C : Ctx) (F : Act -> World -> Prop), Ak8 V C F fn.results.toList S.e S.t i n S.res ys y -> Ax V P C F [.code c] (Un V fn.ntmps S xs i n x)) : Ac6 V P f S := by
 refine ⟨⟨fn, hf, by rw [hb]; rfl, hn⟩, ?_⟩
 intro xs i n x ys y hxy hyl okp w v vs hdr b hwin hA hargs hbs hbok hokp
 obtain ⟨β0, E⟩ := Yg (V := V) (w := w) (okp := okp) G.tab S.args [] x vs [] 1 hargs
 obtain ⟨cap, hh, i0, n0, hin, hic, hveq⟩ := hwin
 have h0 : ∀ id, (β0 id).own = [] := λ id => by
   cases hx : (β0 id).own with
   | nil => rfl
   | cons z zs => have := (E.own z).2 ⟨id, by rw [hx]; simp⟩; simp at this
 let C : Ctx := ⟨P, okp, w.heap.size, λ c => c = b, w, v⟩
 let β : Nat -> BI := upd β0 (Cp 0) ⟨0, hdr, [b], []⟩
 have hβ0 : β (Cp 0) = ⟨0, hdr, [b], []⟩ := Ba _ _ _
 have hβo : ∀ id, id ≠ Cp 0 -> (β id).own = [] := λ id hid => by
   show (upd β0 (Cp 0) _ id).own = []
   rw [Cl _ _ hid]; exact h0 id
 have hmem : ∀ id z, z ∈ (β id).own -> id = Cp 0 /\ z = b := by
   intro id z hz
   by_cases hid : id = Cp 0
   · subst hid; rw [hβ0] at hz; exact ⟨rfl, by simpa using hz⟩
   · rw [hβo id hid] at hz; simp at hz
 have hok : ∀ z, okp z -> Bc C β w z := by
   intro z hz
   refine ⟨hokp z hz, .inl hz, λ id hid => ?_⟩
   have := (hmem id z hid).2
   subst this; exact hbok hz
 have L : Fb okp w (Bc C β w) w := ⟨hok, λ _ _ => rfl⟩
 have hlook : ∀ id b0, A6 id [(Cp 0, Box.arr S.e S.t xs 0 false)] = some b0 -> id = Cp 0 /\ b0 = .arr S.e S.t xs 0 false := by
   intro id b0 h
   unfold A6 at h
   split at h
   · rename_i e; exact ⟨(Aq e).symm, by cases h; rfl⟩
   · simp [A6] at h
 have hlook0 : A6 (Cp 0) [(Cp 0, Box.arr S.e S.t xs 0 false)] = some (.arr S.e S.t xs 0 false) := by
   unfold A6; simp
 have M : Bq V.T C [(Cp 0, .arr S.e S.t xs 0 false)] β w := by
   refine ⟨λ id b0 hid => ?_, λ id hid => ?_, λ id => ?_, λ id id' z hz hz' => ?_, λ id z hz => ?_, ⟨rfl, rfl, rfl, Nat.le_refl _, λ _ _ _ => rfl⟩⟩
   · obtain ⟨rfl, rfl⟩ := hlook id b0 hid
     simp only [C5]
     rw [hβ0]
     exact ⟨by rw [hh]; rfl, hA.later L λ _ _ => rfl⟩
   · by_cases e : id = Cp 0
     · subst e; rw [hlook0] at hid; cases hid
     · exact hβo id e
   · by_cases e : id = Cp 0
     · subst e; rw [hβ0]; simp
     · rw [hβo id e]; simp
   · rw [(hmem id z hz).1, (hmem id' z hz').1]
   · obtain ⟨_, rfl⟩ := hmem id z hz
     exact ⟨hbs, .inr rfl⟩
 have hlen : S.args.length + 1 <= fn.ntmps := by simpa using hlen
 have hvs := Mh _ _ _ _ _ hargs
 have hget : ∀ (k : Nat) (u : Value), (v :: vs)[k]? = some u -> ((v :: vs).toArray ++ Array.replicate (fn.ntmps - (v :: vs).toArray.size) undef).getD k undef = u := by
   intro k u hv'
   have hlt : k < (v :: vs).length := (List.getElem?_eq_some_iff.1 hv').1
   rw [Array.getD_eq_getD_getElem?, Array.getElem?_append_left (by simpa using hlt)]
   simp [hv']
 have hwin : Ak V.T [(Cp 0, Box.arr S.e S.t xs 0 false)] β (Bc C β w) w (.win (Cp 0) 0 i n) v := by
   simp only [Ak, hlook0]
   refine ⟨by rw [hveq]; rfl, Nat.le_refl _, λ _ => ⟨i0, n0, hin, b, cap, ?_, hic, hveq⟩⟩
   rw [hβ0]; exact hh
 have Sm : Sim V C (Un V fn.ntmps S xs i n x) { tmps := (v :: vs).toArray ++ Array.replicate (fn.ntmps - (v :: vs).toArray.size) undef, defers := [] } w := by
   refine ⟨β, ?_, ⟨rfl, λ _ => hget 0 v rfl⟩, λ k y hk => ?_, M⟩
   · simp [Un, hvs]; omega
   · have hk' : A6 k ((0, some (.cv (.one (.win (Cp 0) 0 i n)))) :: Fn V 1 [] S.args x) = some (some y) := by
       unfold slot at hk
       split at hk
       · rename_i z hz; subst hk; exact hz
       · cases hk
     unfold A6 at hk'
     split at hk'
     · rename_i e0
       have := Aq e0
       subst this
       cases hk'
       rw [hget 0 v rfl]
       exact hwin
     · obtain ⟨h1, v', hv', c, rfl, hc⟩ := E.slots k y hk'
       rw [hget k v' (by rw [show k = (k - 1) + 1 by omega]; simpa using hv')]
       rcases hc with ⟨id, _, _, _, b0, h3⟩ | hc
       · rw [Ql] at h3; simp [A6] at h3
       · have := hc [(Cp 0, Box.arr S.e S.t xs 0 false)] β
         show A3 V.T [(Cp 0, Box.arr S.e S.t xs 0 false)] β (Bc C β w) w c v'
         cases c with
         | one l => exact Ak.agree L l v' (λ id hid => ⟨.inl rfl, rfl⟩) this
         | ag ls =>
           obtain ⟨cs, rfl, this⟩ := this
           exact ⟨cs, rfl, this.imp λ l v k => Ak.agree L l v (λ id hid => ⟨.inl rfl, rfl⟩) k⟩
 refine Calls.of_goes hf hb λ b' cs => ?_
 refine h xs i n x ys y hxy C _ ?_ _ _ Sm b' cs
 intro s ids hfin hsl hbx a w' S'
 obtain ⟨β', S'⟩ := S'
 have M' := S'.mem
 have hr0 := S'.slots 0 _ hsl
 have hw := S'.defers.2 ht0
 simp only [SR, Bb, A3, Ak, hbx] at hr0
 obtain ⟨_, _, hr0⟩ := hr0
 obtain ⟨_, _, _, b2, cap2, hh2, hic2, hv2⟩ := hr0 trivial
 rw [hw] at hv2
 have hv2 : v = _ := hv2
 rw [hveq] at hv2
 simp only [Value.slice.injEq, Option.some.injEq, Addr.mk.injEq] at hv2
 obtain ⟨⟨e1, _⟩, _, e3⟩ := hv2
 have e4 : cap2 = cap := by omega
 subst e1 e4
 obtain ⟨hown', hA'⟩ := M'.boxes _ _ hbx
 have hhdr : (β' (Cp 0)).hdr = hdr := by rw [hh2, hh, hyl]
 rw [hhdr] at hown' hA'
 have hbo : b ∈ (β' (Cp 0)).own := by rw [hown', hh]; simp [Value.ownBlock]
 have L' : Fb (Bc C β' w') w' (okW okp w b w') w' :=
   ⟨λ z hz => ⟨hz.1, by
     rcases hz.2.1 with k | k | k
     · exact .inl k
     · exact .inr k
     · exact (hz.2.2 (Cp 0) (by have k : z = b := k; rw [k]; exact hbo)).elim, λ e => hz.2.2 (Cp 0) (by rw [e]; exact hbo)⟩, λ _ _ => rfl⟩
 obtain ⟨rs, h1, h2⟩ := Ve G.tab G.types S' L' _ _ _ _ _ hfin
 rw [W7 _ _ _ _ h2] at h2
 refine ⟨S'.defers.1, Ag7 rs, ?_, rs, rfl, ?_, hA'.later L' (λ _ _ => rfl), h2⟩
 · have hm := h1
   unfold results
   rw [Array.mapM_eq_mapM_toList]
   simp only [Sem.run_bind, Sem.run_map]
   refine (congrArg (λ r => Result.andThen (Result.andThen r _) _) hm).trans ?_
   simp only [Result.andThen_ok, Sem.run_pure]
   congr 1
   match rs with
   | [] => rfl
   | [v] => rfl
   | v :: v' :: r => rfl
 · exact ⟨M'.kept.os, M'.kept.tape, M'.kept.output, M'.kept.size, λ z hz hn => M'.kept.heap z hz (by simpa using hn)⟩
end
section
variable {E : Nat -> Type}
def Prs (E : Nat -> Type) (α : Type) := List (A7 E) -> Option (α × List (A7 E))
def Prs.Spec {α : Type} (p : Prs E α) (f : α -> List (A7 E)) : Prop := ∀ ls x r, p ls = some (x, r) -> ∃ l, ls = l ++ r /\ Coe l (f x)
theorem Coe.append : ∀ {a b c d : List (A7 E)}, Coe a b -> Coe c d -> Coe (a ++ c) (b ++ d)
 | _, _, _, _, .nil, k => k
 | _, _, _, _, .cons h t, k => .cons h (t.append k)
def U8 (k : IntKind) : Prs E Int
 | .int k' n :: r => if k' = k then some (n, r) else none
 | _ => none
theorem G9 (k : IntKind) : Prs.Spec (U8 (E := E) k) (λ n => [.int k n]) := by
 intro ls x r h
 unfold U8 at h
 split at h
 · split at h
   · rename_i hk; subst hk; cases h; exact ⟨[_], rfl, .cons (.inl rfl) .nil⟩
   · cases h
 · cases h
def Ae6 : Prs E Bool
 | .bool b :: r => some (b, r)
 | _ => none
theorem Sq : Prs.Spec (Ae6 (E := E)) (λ b => [.bool b]) := by
 intro ls x r h
 unfold Ae6 at h
 split at h
 · cases h; exact ⟨[_], rfl, .cons (.inl rfl) .nil⟩
 · cases h
def A8l : Prs E (List UInt8)
 | .str b :: r => some (b, r)
 | _ => none
theorem Anv : Prs.Spec (A8l (E := E)) (λ b => [.str b]) := by
 intro ls x r h
 unfold A8l at h
 split at h
 · cases h; exact ⟨[_], rfl, .cons (.inl rfl) .nil⟩
 · cases h
def pSl (t : Ty) (st : Bool) : Prs E (List (t.den E))
 | .sl t' st' xs :: r => if h : t' = t then (if st' || !st then some (Mg h xs, r) else none) else none
 | _ => none
theorem Tr (t : Ty) (st : Bool) : Prs.Spec (pSl (E := E) t st) (λ xs => [.sl t st xs]) := by
 intro ls x r h
 unfold pSl at h
 split at h
 · rename_i t' st' xs r'
   split at h
   · rename_i ht
     subst ht
     split at h
     · rename_i hst
       cases h
       refine ⟨[_], rfl, .cons (.inr ⟨_, st', st, xs, rfl, rfl, λ hs => .inl ?_⟩) .nil⟩
       subst hs
       simpa using hst
     · cases h
   · cases h
 · cases h
def Qk {α β : Type} (p : Prs E α) (q : Prs E β) : Prs E (α × β) := λ ls =>
 match p ls with
 | some (x, r) => match q r with
   | some (y, r') => some ((x, y), r')
   | none => none
 | none => none
theorem E0 {α β : Type} {p : Prs E α} {q : Prs E β} {f : α -> List (A7 E)} {g : β -> List (A7 E)} (hp : p.Spec f) (hq : q.Spec g) : (Qk p q).Spec (λ x => f x.1 ++ g x.2) := by
 intro ls x r h
 unfold Qk at h
 split at h
 · rename_i y r1 h1
   split at h
   · rename_i z r2 h2
     cases h
     obtain ⟨l1, rfl, c1⟩ := hp _ _ _ h1
     obtain ⟨l2, rfl, c2⟩ := hq _ _ _ h2
     exact ⟨l1 ++ l2, by simp, c1.append c2⟩
   · cases h
 · cases h
def Wc {α β : Type} (p : Prs E α) (m : α -> β) : Prs E β := λ ls =>
 match p ls with
 | some (x, r) => some (m x, r)
 | none => none
theorem Ht {α β : Type} {p : Prs E α} {f : α -> List (A7 E)} (hp : p.Spec f) (m : α -> β) (g : β -> List (A7 E)) (h : ∀ x, g (m x) = f x) : (Wc p m).Spec g := by
 intro ls x r hx
 unfold Wc at hx
 split at hx
 · rename_i y r1 h1
   cases hx
   obtain ⟨l, e, c⟩ := hp _ _ _ h1
   exact ⟨l, e, by rw [h]; exact c⟩
 · cases hx
def Wb {α : Type} (p : Prs E α) (ls : List (A7 E)) : Option α :=
 match p ls with
 | some (x, []) => some x
 | _ => none
theorem Ix {α : Type} {p : Prs E α} {f : α -> List (A7 E)} (hp : p.Spec f) {ls : List (A7 E)} {x : α} (h : Wb p ls = some x) : Coe ls (f x) := by
 unfold Wb at h
 split at h
 · rename_i y h1
   cases h
   obtain ⟨l, e, c⟩ := hp _ _ _ h1
   rw [e]; simpa using c
 · cases h
end
def A73 (T : Tab) (ti : TypeId -> Option (TI T.E)) (eqs : TypeId -> Bool) (fs : List (FuncId × FS T.E)) (ws : List (FuncId × FW T.E)) (cs : List (FuncId × FC T.E)) (t0 : Bool) : Env := ⟨T, ti, eqs, λ f => A6 f fs, λ f => A6 f ws, λ f => A6 f cs, t0⟩
def A94 (T : Tab) (ti : TypeId -> Option (TI T.E)) (eqs : TypeId -> Bool) (fs : List (FuncId × FS T.E)) (ws : List (FuncId × FW T.E)) (t0 : Bool) : Env := A73 T ti eqs fs ws [] t0
def Yd (T : Tab) (ti : TypeId -> Option (TI T.E)) (eqs : TypeId -> Bool) (fs : List (FuncId × FS T.E)) : Env := A94 T ti eqs fs [] false
structure A9q (T : Tab) (ti : TypeId -> Option (TI T.E)) (eqs : TypeId -> Bool) (P : Program) : Prop where
 tab : T.Ok
 types : Tt (Yd T ti eqs []) P
 eqs : Akw (Yd T ti eqs []) P
 mixed : P.follows .mixedOrders = true
def Abu (T : Tab) (ti : TypeId -> Option (TI T.E)) (eqs : TypeId -> Bool) (P : Program) (f : FuncId) (S : FS T.E) : Prop := Be (Yd T ti eqs []) P f S
def Uv (T : Tab) (ti : TypeId -> Option (TI T.E)) (eqs : TypeId -> Bool) (P : Program) : List (FuncId × FS T.E) -> Prop
 | [] => True
 | (f, S) :: r => Abu T ti eqs P f S /\ Uv T ti eqs P r
theorem Vq {T : Tab} {ti : TypeId -> Option (TI T.E)} {eqs : TypeId -> Bool} {P : Program} : ∀ {l : List (FuncId × FS T.E)}, Uv T ti eqs P l -> ∀ {f S}, A6 f l = some S -> Abu T ti eqs P f S
 | [], _, _, _, h => by simp [A6] at h
 | (g, S') :: r, hA, f, S, h => by
   unfold A6 at h
   split at h
   · rename_i e
     cases h
     have := Aq e
     subst this
     exact hA.1
   · exact Vq hA.2 h
def Ab5 (T : Tab) (ti : TypeId -> Option (TI T.E)) (eqs : TypeId -> Bool) (P : Program) (f : FuncId) (S : FW T.E) : Prop := Ac6 (Yd T ti eqs []) P f S
def Qy (T : Tab) (ti : TypeId -> Option (TI T.E)) (eqs : TypeId -> Bool) (P : Program) : List (FuncId × FW T.E) -> Prop
 | [] => True
 | (f, S) :: r => Ab5 T ti eqs P f S /\ Qy T ti eqs P r
theorem T7 {T : Tab} {ti : TypeId -> Option (TI T.E)} {eqs : TypeId -> Bool} {P : Program} : ∀ {l : List (FuncId × FW T.E)}, Qy T ti eqs P l -> ∀ {f S}, A6 f l = some S -> Ab5 T ti eqs P f S
 | [], _, _, _, h => by simp [A6] at h
 | (g, S') :: r, hA, f, S, h => by
   unfold A6 at h
   split at h
   · rename_i e
     cases h
     have := Aq e
     subst this
     exact hA.1
   · exact T7 hA.2 h
def Alx (T : Tab) (ti : TypeId -> Option (TI T.E)) (eqs : TypeId -> Bool) (P : Program) (f : FuncId) (S : FC T.E) : Prop := Ah5 (Yd T ti eqs []) P f S
def Y0 (T : Tab) (ti : TypeId -> Option (TI T.E)) (eqs : TypeId -> Bool) (P : Program) : List (FuncId × FC T.E) -> Prop
 | [] => True
 | (f, S) :: r => Alx T ti eqs P f S /\ Y0 T ti eqs P r
theorem Tm {T : Tab} {ti : TypeId -> Option (TI T.E)} {eqs : TypeId -> Bool} {P : Program} : ∀ {l : List (FuncId × FC T.E)}, Y0 T ti eqs P l -> ∀ {f S}, A6 f l = some S -> Alx T ti eqs P f S
 | [], _, _, _, h => by simp [A6] at h
 | (g, S') :: r, hA, f, S, h => by
   unfold A6 at h
   split at h
   · rename_i e
     cases h
     have := Aq e
     subst this
     exact hA.1
   · exact Tm hA.2 h
theorem A79 {T : Tab} {ti : TypeId -> Option (TI T.E)} {eqs : TypeId -> Bool} {fs : List (FuncId × FS T.E)} {ws : List (FuncId × FW T.E)} {cs : List (FuncId × FC T.E)} {t0 : Bool} : ∀ (l m : List (A7 T.E)), eqL (A73 T ti eqs fs ws cs t0) l m = eqL (Yd T ti eqs []) l m := by
 intro l
 induction l with
 | nil => intro m; cases m <;> simp [eqL]
 | cons a l ih =>
   intro m
   cases m with
   | nil => cases a <;> simp [eqL]
   | cons b m => cases a <;> cases b <;> simp [eqL, ih]
theorem Ata {T : Tab} {ti : TypeId -> Option (TI T.E)} {eqs : TypeId -> Bool} {P : Program} {fs : List (FuncId × FS T.E)} {ws : List (FuncId × FW T.E)} {cs : List (FuncId × FC T.E)} {t0 : Bool} (B : A9q T ti eqs P) (h : Uv T ti eqs P fs) (hw : Qy T ti eqs P ws) (hc : Y0 T ti eqs P cs) :
   Ay (A73 T ti eqs fs ws cs t0) P :=
 ⟨B.tab, λ t i hi => by obtain ⟨info, d, z, I⟩ := B.types t i hi; exact ⟨info, d, z, I.inf, I.under, I.kind, I.size, I.bytes, I.ty, I.pos, I.bpos, I.zero, I.zeros, I.zcells, I.zagg⟩,
  λ t ht i hi bx β ok w' l m b c d hl h => B.eqs t ht i hi bx β ok w' l m b c d hl (by rw [<- h]; exact (A79 l m).symm), ⟨λ _ _ hS => Vq h hS, λ _ _ hS => T7 hw hS, λ _ _ hS => Tm hc hS⟩, B.mixed⟩
theorem Apq {T : Tab} {ti : TypeId -> Option (TI T.E)} {eqs : TypeId -> Bool} {P : Program} {fs : List (FuncId × FS T.E)} {ws : List (FuncId × FW T.E)} {t0 : Bool} (B : A9q T ti eqs P) (h : Uv T ti eqs P fs) (hw : Qy T ti eqs P ws) :
   Ay (A94 T ti eqs fs ws t0) P := Ata B h hw (cs := []) trivial
section
variable {V : Env} {P : Program} {C : Ctx} {F : Act -> World -> Prop}
theorem tt : True := trivial
theorem rT : true = true := rfl
theorem rF : false = false := rfl
theorem sj {α : Type} {a b : α} (h : some a = some b) : a = b := Option.some.inj h
theorem si {α : Type} {a b : α} (h : some a = some b) : b = a := (Option.some.inj h).symm
theorem ns2 {α : Type} {a b : Prop} {r : Option α} {y : α} (h : need a (need b r) = some y) : a /\ b /\ r = some y := by
 obtain ⟨h1, h⟩ := Am h
 exact ⟨h1, Am h⟩
theorem ns3 {α : Type} {a b c : Prop} {r : Option α} {y : α} (h : need a (need b (need c r)) = some y) : a /\ b /\ c /\ r = some y := by
 obtain ⟨h1, h⟩ := Am h
 exact ⟨h1, ns2 h⟩
theorem ns4 {α : Type} {a b c d : Prop} {r : Option α} {y : α} (h : need a (need b (need c (need d r))) = some y) : a /\ b /\ c /\ d /\ r = some y := by
 obtain ⟨h1, h⟩ := Am h
 exact ⟨h1, ns3 h⟩
theorem ca {α : Type} {o : Option α} {y : α} (h : o = some y) : Option.map (λ r => (r, ())) o = some (y, ()) := by rw [h]; rfl
theorem cb {α β : Type} {o : Option (α × β)} {y : α × β} (h : o = some y) : Option.map (λ r => (r.1, r.2, ())) o = some (y.1, y.2, ()) := by rw [h]; rfl
abbrev FT := Act -> World -> Prop
def AN : Nat -> Prop -> Prop -> Prop
 | 0, _, q => q
 | n + 1, p, q => p /\ AN n p q
theorem ar : ∀ (n : Nat) {p q : Prop}, p -> q -> AN n p q
 | 0, _, _, _, k => k
 | n + 1, _, _, h, k => ⟨h, ar n h k⟩
theorem q1 {p0 k : Prop} (h0 : p0) (h : k) : p0 /\ k := ⟨h0, h⟩
theorem q2 {p0 p1 k : Prop} (h0 : p0) (h1 : p1) (h : k) : p0 /\ p1 /\ k := ⟨h0, h1, h⟩
theorem q3 {p0 p1 p2 k : Prop} (h0 : p0) (h1 : p1) (h2 : p2) (h : k) : p0 /\ p1 /\ p2 /\ k := ⟨h0, h1, h2, h⟩
theorem q4 {p0 p1 p2 p3 k : Prop} (h0 : p0) (h1 : p1) (h2 : p2) (h3 : p3) (h : k) : p0 /\ p1 /\ p2 /\ p3 /\ k := ⟨h0, h1, h2, h3, h⟩
theorem q5 {p0 p1 p2 p3 p4 k : Prop} (h0 : p0) (h1 : p1) (h2 : p2) (h3 : p3) (h4 : p4) (h : k) : p0 /\ p1 /\ p2 /\ p3 /\ p4 /\ k := ⟨h0, h1, h2, h3, h4, h⟩
theorem q6 {p0 p1 p2 p3 p4 p5 k : Prop} (h0 : p0) (h1 : p1) (h2 : p2) (h3 : p3) (h4 : p4) (h5 : p5) (h : k) : p0 /\ p1 /\ p2 /\ p3 /\ p4 /\ p5 /\ k := ⟨h0, h1, h2, h3, h4, h5, h⟩
theorem e1 {p0 : Prop} (h0 : p0) : p0 /\ True := ⟨h0, trivial⟩
theorem e2 {p0 p1 : Prop} (h0 : p0) (h1 : p1) : p0 /\ p1 /\ True := ⟨h0, h1, trivial⟩
theorem e3 {p0 p1 p2 : Prop} (h0 : p0) (h1 : p1) (h2 : p2) : p0 /\ p1 /\ p2 /\ True := ⟨h0, h1, h2, trivial⟩
theorem e4 {p0 p1 p2 p3 : Prop} (h0 : p0) (h1 : p1) (h2 : p2) (h3 : p3) : p0 /\ p1 /\ p2 /\ p3 /\ True := ⟨h0, h1, h2, h3, trivial⟩
theorem e5 {p0 p1 p2 p3 p4 : Prop} (h0 : p0) (h1 : p1) (h2 : p2) (h3 : p3) (h4 : p4) : p0 /\ p1 /\ p2 /\ p3 /\ p4 /\ True := ⟨h0, h1, h2, h3, h4, trivial⟩
theorem e6 {p0 p1 p2 p3 p4 p5 : Prop} (h0 : p0) (h1 : p1) (h2 : p2) (h3 : p3) (h4 : p4) (h5 : p5) : p0 /\ p1 /\ p2 /\ p3 /\ p4 /\ p5 /\ True := ⟨h0, h1, h2, h3, h4, h5, trivial⟩
@[reducible] def r0 {V : Env} : Cmd V := .reg []
@[reducible] def bt {V : Env} : Cmd V := .br true
@[reducible] def bf {V : Env} : Cmd V := .br false
@[reducible] def au {V : Env} : Cmd V := .auto
@[reducible] def en {V : Env} : Cmd V := .enter
def bits {E : Nat -> Type} (b : Bool) (l : List Nat) : List (Nat × Orc E) := l.map λ i => (i, .bit b)
@[reducible] def rf {V : Env} (f : List Nat) : Cmd V := .reg (bits false f)
@[reducible] def ru {V : Env} (t : List Nat) : Cmd V := .reg (bits true t)
@[reducible] def rb {V : Env} (f t : List Nat) : Cmd V := .reg (bits false f ++ bits true t)
@[reducible] def rg {V : Env} (f t : List Nat) (o : Ut V) : Cmd V := .reg (bits false f ++ bits true t ++ o)
@[reducible] def rc {V : Env} (i : Nat) (o : Orc V.E) : Cmd V := .reg [(i, o)]
@[reducible] def rs {E : Nat -> Type} (t : Ty) (y : t.den E) : Orc E := .res ⟨[t], (y, ())⟩
@[reducible] def rt {E : Nat -> Type} (t u : Ty) (y : t.den E × u.den E) : Orc E := .res ⟨[t, u], (y.1, y.2, ())⟩
@[reducible] def oi {E : Nat -> Type} (k : Nat) (n : Int) : Nat × Option (SV E) := (k, some (.cv (.one (.int .i64 n))))
@[reducible] def og {E : Nat -> Type} (k : Nat) (ls : List (A7 E)) : Nat × Option (SV E) := (k, some (.cv (.ag ls)))
@[reducible] def ol {E : Nat -> Type} (k : Nat) (l : A7 E) : Nat × Option (SV E) := (k, some (.cv (.one l)))
@[reducible] def op {E : Nat -> Type} (k : Nat) : Nat × Option (SV E) := (k, some (.cv (.one (.ptr k 0))))
@[reducible] def os {E : Nat -> Type} (k : Nat) (t : Ty) (xs : List (t.den E)) : Nat × Option (SV E) := (k, some (.cv (.one (.sl t false xs))))
@[reducible] def bc {E : Nat -> Type} (k : Nat) (ls : List (A7 E)) : Nat × Box E := (k, .cells ls)
@[reducible] def ba {E : Nat -> Type} (k e : Nat) (t : Ty) (xs : List (t.den E)) : Nat × Box E := (k, .arr e t xs 0 false)
@[reducible] def bw {E : Nat -> Type} (k e e2 : Nat) (t : Ty) (xss : List (List (t.den E))) : Nat × Box E := (k, .rows e e2 t xss 0 0 .opn)
@[reducible] def f1 {E : Nat -> Type} (as : List Ty) (t : Ty) (g : HL E as -> Option (t.den E)) : FS E := ⟨as, [t], [], [], λ x => Option.map (λ r => (r, ())) (g x)⟩
@[reducible] def f2 {E : Nat -> Type} (as : List Ty) (t u : Ty) (g : HL E as -> Option (t.den E × u.den E)) : FS E := ⟨as, [t, u], [], [], λ x => Option.map (λ r => (r.1, r.2, ())) (g x)⟩
abbrev En (V : Env) (C : Ctx) (F : FT) (fn : Func) (S : FS V.E) (y : HL V.E S.res) : Prop := Avm V C F fn.results.toList S.resOwn S.res y
@[reducible] def c0 (fn : Func) : List Item := [.code (fn.body.getD .skip)]
def way : Nat -> Way
 | 0 => .reg
 | 1 => .enter
 | 2 => .br false
 | 3 => .br true
 | _ => .auto
def ct (l : List Nat) (k : List Item) : List Item := ctl (l.map way) k
abbrev LP (V : Env) (P : Program) (C : Ctx) (F : FT) (k : List Item) {σ ρ : Type} (S : σ -> St V.E) (X : ρ -> Prop) (o : σ ⊕ ρ) : Prop := (∀ v, o = .inl v -> Ax V P C F k (S v)) /\ ∀ r, o = .inr r -> X r
abbrev GX (V : Env) (P : Program) (C : Ctx) (F : FT) (k : List Item) {ρ : Type} (X : ρ -> St V.E) (r : ρ) : Prop := Ax V P C F k (X r)
abbrev RX {ρ : Type} (y q : ρ) : Prop := q = y
theorem lg {σ ρ : Type} {f : σ -> Option (σ ⊕ ρ)} {k : List Item} {S : σ -> St V.E} {X : ρ -> Prop} (h : ∀ v o, f v = some o -> LP V P C F k S X o -> Ax V P C F k (S v)) {v : σ} {r : ρ} (hv : Bj f v = some r) (hX : X r) : Ax V P C F k (S v) :=
 Ane (λ v o h1 hl hr => h v o h1 ⟨hl, λ r' e => (hr r' e).symm ▸ hX⟩) v hv
def Bf8 (V : Env) (c : List (Cmd V)) (k : List Item) (s : St V.E) : Option (List Item × St V.E × Prop) :=
 match run V c k s with
 | some (k', s', cs) => some (k', s', Gw cs)
 | none => none
theorem sg (G : Ay V P) (c : List (Cmd V)) {k k' : List Item} {s s' : St V.E} {Q : Prop} (q : Q) (g : Ax V P C F k' s')
   (h : Bf8 V (c ++ [.weak [.keep (s'.slots.map (·.1)) (s'.boxes.map (·.1))]]) k s = some (k', s', Q) := by kernel_rfl) : Ax V P C F k s := by
 unfold Bf8 at h
 split at h
 · rename_i k1 s1 cs hr
   cases h
   exact seg G hr q g
 · cases h
def Bdo (V : Env) (rs : List ResultVar) (os : List (List (TypeId × TypeId))) (ts : List Ty) (c : List (Cmd V)) (k : List Item) (s : St V.E) : Option (HL V.E ts × Prop) :=
 match Aja V rs os ts c k s with
 | some (y, cs) => some (y, Gw cs)
 | none => none
theorem se (G : Ay V P) {rs : List ResultVar} {os : List (List (TypeId × TypeId))} {ts : List Ty} {y : HL V.E ts} (E : Avm V C F rs os ts y) (c : List (Cmd V)) {k : List Item} {s : St V.E} {Q : Prop} (q : Q)
   (h : Bdo V rs os ts c k s = some (y, Q) := by kernel_rfl) : Ax V P C F k s := by
 unfold Bdo at h
 split at h
 · rename_i y1 cs hr
   cases h
   exact Ayv G E hr q
 · cases h
def A3x (V : Env) (rs : List ResultVar) (e : TypeId) (t : Ty) (ts : List Ty) (c : List (Cmd V)) (k : List Item) (s : St V.E) : Option (List (t.den V.E) × HL V.E ts × Int × Int × Prop) :=
 match Adh V rs e t ts c k s with
 | some (ys, y, i, n, cs) => some (ys, y, i, n, Gw cs)
 | none => none
theorem sw (G : Ay V P) {rs : List ResultVar} {e : TypeId} {t : Ty} {i n : Int} {ts : List Ty} {ys : List (t.den V.E)} {y : HL V.E ts} (E : Ak8 V C F rs e t i n ts ys y) (c : List (Cmd V)) {k : List Item} {s : St V.E} {Q : Prop} (q : Q)
   (h : A3x V rs e t ts c k s = some (ys, y, i, n, Q) := by kernel_rfl) : Ax V P C F k s := by
 unfold A3x at h
 split at h
 · rename_i ys1 y1 i1 n1 cs hr
   cases h
   exact Awd G E hr q
 · cases h
theorem mt {fn : Func} {f : FuncId} {as rs : List Ty} {ao : List TypeId} {ro : List (List (TypeId × TypeId))} {α : Type} {g : HL V.E as -> Option α} {pk : α -> HL V.E rs} {S : HL V.E as -> St V.E} (G : Ay V P)
   (w : Ay V P -> ∀ x C F z, Avm V C F fn.results.toList ro rs (pk z) -> g x = some z -> Ax V P C F [.code (fn.body.getD .skip)] (S x))
   (h0 : V.t0 = false := by kernel_rfl) (h1 : P.funcs[f]? = some fn := by kernel_rfl) (h2 : fn.body = some (fn.body.getD .skip) := by kernel_rfl) (h3 : (fn.name == "runtime.NumGoroutine") = false := by kernel_rfl) (h4 : Nat.ble as.length fn.ntmps = true := by kernel_rfl)
   (hS : ∀ x, Wx V fn.ntmps ⟨as, rs, ao, ro, λ x => Option.map pk (g x)⟩ x = S x := by intro x; kernel_rfl) : Be V P f ⟨as, rs, ao, ro, λ x => Option.map pk (g x)⟩ :=
 Ar6 G h0 h1 h2 h3 h4 λ x y h C F E => by
   have h : Option.map pk (g x) = some y := h
   obtain ⟨z, hz, e⟩ := Option.map_eq_some_iff.1 h
   subst e
   rw [hS]
   exact w G x C F z E hz
theorem m0 {fn : Func} {f : FuncId} {S : FS V.E} (hn : ∀ x, S.f x = none) (h1 : P.funcs[f]? = some fn := by kernel_rfl) (h2 : fn.body.isSome = true := by kernel_rfl) (h3 : (fn.name == "runtime.NumGoroutine") = false := by kernel_rfl) : Be V P f S :=
 ⟨⟨fn, h1, h2, h3⟩, λ x y h => by rw [hn x] at h; cases h⟩
end
end Go.Ab
