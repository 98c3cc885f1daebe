/- Structs of ints, bools, texts: compared as their leaves are. The tables of the types. Conditions: none beyond those that each theorem names. -/
import Derived.Test.YtjdgmcngpiookaaGreatS09
import Derived.Laws.StructEq
import Derived.Test.YtjdgmcngpiookaaGreatS11
import Derived.Test.YtjdgmcngpiookaaGreatProg
namespace Go.Ab
open Go
section
variable {V : Env} {P : Program}
variable {E : Nat -> Type}
def T4 (P : Program) (ok : TypeId -> List (A7 E) -> Bool) : List Field -> Nat -> List (A7 E) -> Bool
 | [], _, zs => zs.isEmpty
 | f :: fs, off, zs => (f.name != "_") && Nat.beq f.offset off && match P.info? f.type with
   | some info => Nat.ble info.size zs.length && ok f.type (zs.take info.size) && T4 P ok fs (off + info.size) (zs.drop info.size)
   | none => false
def eqB (P : Program) : Nat -> TypeId -> List (A7 E) -> Bool
 | 0, _, _ => false
 | d + 1, t, zs => match P.underlying t, zs with
   | some (.int _), [.int _ _] => true
   | some .bool, [.bool _] => true
   | some .string, [.str _] => true
   | some (.struct fs), zs => !P.stoodInHeld t && T4 P (eqB P d) fs.toList 0 zs && (match P.info? t with | some info => Nat.beq info.size zs.length | none => false)
   | _, _ => false
theorem Hd : ∀ {z l : List (A7 E)}, Iw z l = true -> l.length = z.length
 | [], [], _ => rfl
 | [], b :: l, h => by cases b <;> simp [Iw] at h
 | a :: z, [], h => by cases a <;> simp [Iw] at h
 | a :: z, b :: l, h => by
   cases a <;> cases b <;> simp only [Iw, Bool.and_eq_true] at h <;> first | (cases h; done) | simp [Hd h] | simp [Hd h.2]
theorem Om : ∀ {z l : List (A7 E)} (n : Nat), Iw z l = true -> Iw (z.take n) (l.take n) = true /\ Iw (z.drop n) (l.drop n) = true
 | z, l, 0, h => by simp [Iw, h]
 | [], [], n + 1, h => by simp [Iw]
 | [], b :: l, n + 1, h => by cases b <;> simp [Iw] at h
 | a :: z, [], n + 1, h => by cases a <;> simp [Iw] at h
 | a :: z, b :: l, n + 1, h => by
   cases a <;> cases b <;> simp only [Iw, Bool.and_eq_true, List.take_succ_cons, List.drop_succ_cons] at h ⊢ <;> first | (cases h; done) | exact Om n h | exact ⟨⟨h.1, (Om n h.2).1⟩, (Om n h.2).2⟩
theorem Ri : ∀ {l1 l2 m : List (A7 V.E)} {b : Bool}, eqL V (l1 ++ l2) m = some b -> ∃ m1 m2 b1 b2, m = m1 ++ m2 /\ m1.length = l1.length /\ eqL V l1 m1 = some b1 /\ eqL V l2 m2 = some b2 /\ b = (b1 && b2)
 | [], l2, m, b, h => ⟨[], m, true, b, rfl, rfl, by simp [eqL], h, by simp⟩
 | a :: l1, l2, [], b, h => by cases a <;> simp [eqL] at h
 | a :: l1, l2, c :: m, b, h => by
   have key : ∀ (e : Bool), (eqL V (l1 ++ l2) m).map (e && ·) = some b -> (∀ m1 b1, eqL V l1 m1 = some b1 -> eqL V (a :: l1) (c :: m1) = some (e && b1)) ->
       ∃ m1 m2 b1 b2, c :: m = m1 ++ m2 /\ m1.length = (a :: l1).length /\ eqL V (a :: l1) m1 = some b1 /\ eqL V l2 m2 = some b2 /\ b = (b1 && b2) := by
     intro e he hf
     obtain ⟨b', hb', e2⟩ := Option.map_eq_some_iff.1 he
     obtain ⟨m1, m2, b1, b2, rfl, h1, h2, h3, rfl⟩ := Ri hb'
     exact ⟨c :: m1, m2, e && b1, b2, rfl, by simp [h1], hf m1 b1 h2, h3, by rw [<- e2, Bool.and_assoc]⟩
   cases a <;> cases c <;> simp only [List.cons_append, eqL] at h <;> try exact (by cases h)
   · split at h
     · rename_i hk
       exact key _ h λ m1 b1 h1 => by simp only [eqL, hk, if_true, h1, Option.map_some]
     · cases h
   · exact key _ h λ m1 b1 h1 => by simp only [eqL, h1, Option.map_some]
   · exact key _ h λ m1 b1 h1 => by simp only [eqL, h1, Option.map_some]
theorem O7 {t : TypeId} {info : TypeInfo} {fs : Array Field} (hi : P.info? t = some info) (hu : P.underlying t = some (.struct fs)) (vs : Array Value) (off : Nat) (w : World) :
   (Go.part t vs off).run P w = .ok (.agg (vs.extract off (off + info.size))) w := by
 simp [Go.part, isAgg, run_underlying hu, sizeOf, typeInfo, hi]
theorem Io {t : TypeId} {d : TypeDesc} (hu : P.underlying t = some d) (hd : (∃ k, d = .int k) \/ d = .bool \/ d = .string) {vs : Array Value} {off : Nat} {v : Value} (hv : vs[off]? = some v) (w : World) :
   (Go.part t vs off).run P w = .ok v w := by
 rcases hd with ⟨k, rfl⟩ | rfl | rfl <;> simp [Go.part, isAgg, run_underlying hu, hv]
def Bb0 (P : Program) (V : Env) (D : Nat) (t : TypeId) (zs : List (A7 V.E)) : Prop :=
 ∀ (bx : List (Nat × Box V.E)) (β : Nat -> BI) (ok : Nat -> Prop) (w' : World) (l m : List (A7 V.E)) (b : Bool) (c1 c2 c3 e1 e2 e3 : List Value), Iw zs l = true -> eqL V l m = some b ->
   Bk (Ak V.T bx β ok w') l c2 -> Bk (Ak V.T bx β ok w') m e2 -> c1.length = e1.length -> ∀ w : World, ∃ x y,
     (Go.part t (c1 ++ c2 ++ c3).toArray c1.length).run P w = .ok x w /\ (Go.part t (e1 ++ e2 ++ e3).toArray c1.length).run P w = .ok y w /\ (Op.equalIn D t x y).run P w = .ok b w
theorem Vo {D : Nat} {ok : TypeId -> List (A7 V.E) -> Bool} (hok : ∀ t info zs, P.info? t = some info -> zs.length = info.size -> ok t zs = true -> Bb0 P V D t zs)
   (bx : List (Nat × Box V.E)) (β : Nat -> BI) (okp : Nat -> Prop) (w' : World) : ∀ (fs : List Field) (off : Nat) (zs : List (A7 V.E)), T4 P ok fs off zs = true -> ∀ (l m : List (A7 V.E)) (b : Bool) (c1 c2 e1 e2 : List Value), c1.length = off -> e1.length = off -> Iw zs l = true -> eqL V l m = some b ->
     Bk (Ak V.T bx β okp w') l c2 -> Bk (Ak V.T bx β okp w') m e2 -> ∀ w : World, (Op.eqFields D (c1 ++ c2).toArray (e1 ++ e2).toArray fs).run P w = .ok b w
 | [], off, zs, h, l, m, b, c1, c2, e1, e2, h1, h2, h3, hb, r1, r2, w => by
   simp only [T4, List.isEmpty_iff] at h
   subst h
   have hl : l = [] := by have := Hd h3; cases l <;> simp_all
   subst hl
   cases m with
   | nil => simp [eqL] at hb; subst hb; simp [Op.eqFields]
   | cons c m => simp [eqL] at hb
 | f :: fs, off, zs, h, l, m, b, c1, c2, e1, e2, h1, h2, h3, hb, r1, r2, w => by
   simp only [T4, Bool.and_eq_true, bne_iff_ne, ne_eq] at h
   obtain ⟨⟨hname, hoff⟩, h⟩ := h
   split at h
   · rename_i info hinf
     simp only [Bool.and_eq_true] at h
     obtain ⟨⟨hle, hokf⟩, hrest⟩ := h
     have hle := Nat.le_of_ble_eq_true hle
     have hoff := Aq hoff
     have hll := Hd h3
     obtain ⟨k1, k2⟩ := Om info.size h3
     have hsplit : l = l.take info.size ++ l.drop info.size := (List.take_append_drop _ _).symm
     rw [hsplit] at hb r1
     obtain ⟨m1, m2, b1, b2, rfl, hm1, hb1, hb2, rfl⟩ := Ri hb
     obtain ⟨p1, p2, rfl, s1, s2⟩ := r1.split
     obtain ⟨q1, q2, rfl, u1, u2⟩ := r2.split
     have hlen : (l.take info.size).length = info.size := by simp; omega
     obtain ⟨x, y, g1, g2, g3⟩ := hok f.type info _ hinf (by simp; omega) hokf bx β okp w' _ _ _ c1 p1 p2 e1 q1 q2 k1 hb1 s1 u1 (by rw [h1, h2]) w
     have IH := Vo hok bx β okp w' fs (off + info.size) _ hrest (l.drop info.size) m2 b2 (c1 ++ p1) p2 (e1 ++ q1) q2 (by rw [List.length_append, h1, <- s1.length, hlen]) (by rw [List.length_append, h2, <- u1.length, hm1, hlen]) k2 hb2 s2 u2 w
     rw [List.append_assoc] at g1 g2
     rw [h1] at g1 g2
     simp only [Op.eqFields, if_pos hname, Sem.run_bind, hoff, g1, g2, g3, Result.andThen_ok, Sem.run_ite, Sem.run_pure]
     cases b1
     · simp
     · rw [List.append_assoc, List.append_assoc] at IH
       simpa using IH
   · cases h
theorem Mt (c1 c2 c3 : List Value) : (c1 ++ c2 ++ c3).toArray.extract c1.length (c1.length + c2.length) = c2.toArray := by
 apply Array.ext'
 rw [Array.toList_extract]
 simp [List.extract]
theorem Akv : ∀ (d D : Nat), d <= D -> ∀ (t : TypeId) (zs : List (A7 V.E)) (info : TypeInfo), P.info? t = some info -> zs.length = info.size -> eqB P d t zs = true -> Bb0 P V D t zs
 | 0, _, _, _, _, _, _, _, h => by simp [eqB] at h
 | d + 1, D, hD, t, zs, info, hinf, hn, h => by
   obtain ⟨D, rfl⟩ : ∃ D', D = D' + 1 := ⟨D - 1, by omega⟩
   intro bx β okp w' l m b c1 c2 c3 e1 e2 e3 hl hb r1 r2 hce w
   have getc : ∀ (c1 c3 : List Value) (v : Value), (c1 ++ [v] ++ c3).toArray[c1.length]? = some v := by
     intro c1 c3 v; simp
   unfold eqB at h
   split at h
   · rename_i k k' z hu
     match l, hl with
     | [.int k1 a], hl =>
       match m, hb with
       | [.int k2 a'], hb =>
         simp only [eqL] at hb
         split at hb
         · rename_i hk
           subst hk
           cases r1 with
           | cons q1 t1 =>
             cases t1
             cases r2 with
             | cons q2 t2 =>
               cases t2
               simp only [Ak] at q1 q2
               subst q1; subst q2
               refine ⟨_, _, Io hu (.inl ⟨_, rfl⟩) (getc _ _ _) w, Io hu (.inl ⟨_, rfl⟩) (by rw [hce]; exact getc _ _ _) w, ?_⟩
               rw [run_equalIn_int w D t k1 k a a' hu]
               simp only [Option.map_some, Bool.and_true, Option.some.injEq] at hb
               rw [<- hb]
               congr 1
         · cases hb
       | [], hb => simp [eqL] at hb
       | .int _ _ :: _ :: _, hb => simp only [eqL] at hb; split at hb <;> simp at hb
     | .int _ _ :: x :: _, hl => cases x <;> simp [Iw] at hl
   · rename_i z hu
     match l, hl with
     | [.bool a], hl =>
       match m, hb with
       | [.bool a'], hb =>
         cases r1 with
         | cons q1 t1 =>
           cases t1
           cases r2 with
           | cons q2 t2 =>
             cases t2
             simp only [Ak] at q1 q2
             subst q1; subst q2
             refine ⟨_, _, Io hu (.inr (.inl rfl)) (getc _ _ _) w, Io hu (.inr (.inl rfl)) (by rw [hce]; exact getc _ _ _) w, ?_⟩
             rw [run_equalIn_bool' w D t a a' hu]
             simp [eqL] at hb
             rw [<- hb]
       | [], hb => simp [eqL] at hb
       | .bool _ :: _ :: _, hb => simp [eqL] at hb
   · rename_i z hu
     match l, hl with
     | [.str a], hl =>
       match m, hb with
       | [.str a'], hb =>
         cases r1 with
         | cons q1 t1 =>
           cases t1
           cases r2 with
           | cons q2 t2 =>
             cases t2
             simp only [Ak] at q1 q2
             subst q1; subst q2
             refine ⟨_, _, Io hu (.inr (.inr rfl)) (getc _ _ _) w, Io hu (.inr (.inr rfl)) (by rw [hce]; exact getc _ _ _) w, ?_⟩
             rw [run_equalIn_string w D t _ _ hu]
             simp [eqL] at hb
             rw [<- hb]
             simp only [ByteArray.toList_eq]
             by_cases e : a = a'
             · subst e; simp
             · simp [e]
       | [], hb => simp [eqL] at hb
       | .str _ :: _ :: _, hb => simp [eqL] at hb
   · rename_i fs hu
     simp only [Bool.and_eq_true, Bool.not_eq_true'] at h
     obtain ⟨⟨hs, hf⟩, _⟩ := h
     have hll := Hd hl
     have hc2 : c2.length = info.size := by rw [<- r1.length, hll, hn]
     have hml : e2.length = info.size := by
       have : l = l ++ [] := by simp
       rw [this] at hb
       obtain ⟨m1, m2, b1, b2, rfl, hm1, _, hb2, _⟩ := Ri hb
       have : m2 = [] := by cases m2 <;> simp [eqL] at hb2 <;> rfl
       subst this
       rw [<- r2.length]; simp; omega
     have hfo : P.fieldsOf t = fs := by simp [Program.fieldsOf, hu]
     refine ⟨.agg c2.toArray, .agg e2.toArray, ?_, ?_, ?_⟩
     · rw [O7 hinf hu, <- hc2, Mt]
     · rw [O7 hinf hu, hce, <- hml, Mt]
     · rw [run_equalIn_agg w D t _ _ (by rw [hfo]; exact hu) hs, hfo]
       have := Vo (V := V) (P := P) (D := D) (ok := eqB P d) (λ t info zs hi hz hk => Akv d D (by omega) t zs info hi hz hk) bx β okp w' fs.toList 0 _ hf l m b [] c2 [] e2 rfl rfl hl hb r1 r2 w
       simpa using this
   · cases h
theorem As1 (HE : Tt V P) {es : List TypeId} (hes : V.eqs = λ t => Nn t es) (h : (es.all λ t => match V.ti t with | some i => eqB P 100 t i.zero && !P.eqGuardType P.depth t && i.kind.agg | none => false) = true) : Akw V P := by
 intro t ht i hi bx β ok w' l m b c d hl hb r1 r2 x y w op hop
 rw [hes] at ht
 have := List.all_eq_true.1 h t (Agq ht)
 rw [hi] at this
 simp only [Bool.and_eq_true, Bool.not_eq_true'] at this
 obtain ⟨⟨h1, h2⟩, h3⟩ := this
 obtain ⟨info, dd, z, I⟩ := HE t i hi
 refine ⟨run_eqGuard_agg w op t x y c d h2, ?_⟩
 have hz : i.zero.length = info.size := by
   have := (Oz (T := V.T) (bx := bx) (β := β) (ok := ok) (w := w') I.zeros).length
   rw [this, I.size, <- I.zcells]; simp
 obtain ⟨xx, yy, g1, g2, g3⟩ := Akv (V := V) (P := P) 100 10000 (by omega) t i.zero info I.inf hz h1 bx β ok w' l m b [] c.toList [] [] d.toList [] hl hb r1 r2 rfl w
 have hk := I.kind
 have hu := I.under
 cases dd <;> cases hik : i.kind <;> rw [hik] at hk h3 <;> simp [F5] at hk <;> simp [TK.agg] at h3
 · exfalso
   unfold eqB at h1
   rw [hu] at h1
   simp at h1
 · have hc : c.toList.length = info.size := by rw [<- r1.length, Hd hl, hz]
   have hd : d.toList.length = info.size := by
     have e : l = l ++ [] := by simp
     rw [e] at hb
     obtain ⟨m1, m2, b1, b2, rfl, hm1, _, hb2, _⟩ := Ri hb
     have : m2 = [] := by cases m2 <;> simp [eqL] at hb2 <;> rfl
     subst this
     rw [<- r2.length]; simp; rw [hm1, Hd hl, hz]
   rw [O7 I.inf hu] at g1 g2
   have e1 := Mt [] c.toList []
   have e2 := Mt [] d.toList []
   rw [hc] at e1; rw [hd] at e2
   rw [e1] at g1; rw [e2] at g2
   cases g1; cases g2
   simpa [Op.equal, Op.maxDepth] using g3
end
set_option linter.unusedVariables false
@[reducible] def yzE : Nat -> Type
 | 0 => Au
 | 1 => D4
 | 2 => An
 | 3 => A8
 | 4 => Al
 | 5 => Ad
 | 6 => Aa
 | 7 => QmM
 | 8 => F7
 | 9 => C8
 | _ => Unit
def Xu (z : Au) : List AV := [.int .i64 z.N] ++ ([.int .i64 z.D])
def Gv (z : Au) : List (A7 yzE) := [.int .i64 z.N] ++ ([.int .i64 z.D])
def Rk : Prs yzE Au := Wc (Qk (U8 .i64) (U8 .i64)) λ x => ⟨x.1, x.2⟩
theorem Mo : Prs.Spec Rk Gv := Ht (E0 (G9 _) ((G9 _))) _ _ λ _ => rfl
def Af2 (z : D4) : List AV := [.int .i64 z.A] ++ ([.int .i64 z.B] ++ (Xu z.R ++ (Xu z.E)))
def Mb (z : D4) : List (A7 yzE) := [.int .i64 z.A] ++ ([.int .i64 z.B] ++ (Gv z.R ++ (Gv z.E)))
def Aap : Prs yzE D4 := Wc (Qk (U8 .i64) (Qk (U8 .i64) (Qk (Rk) (Rk)))) λ x => ⟨x.1, x.2.1, x.2.2.1, x.2.2.2⟩
theorem Xi : Prs.Spec Aap Mb := Ht (E0 (G9 _) (E0 (G9 _) (E0 Mo (Mo)))) _ _ λ _ => rfl
def An7 (z : An) : List AV := [.int .i64 z.Nodes] ++ ([.sl 6 false (List.map (λ z => AV.ag (Af2 z)) z.Arms)])
def A1 (z : An) : List (A7 yzE) := [.int .i64 z.Nodes] ++ ([.sl (.nm 1) false z.Arms])
def X9 : Prs yzE An := Wc (Qk (U8 .i64) (pSl (.nm 1) false)) λ x => ⟨x.1, x.2⟩
theorem V5 : Prs.Spec X9 A1 := Ht (E0 (G9 _) ((Tr _ _))) _ _ λ _ => rfl
def Ahn (z : A8) : List AV := [.int .i64 z.v] ++ ([.sl 1 true (List.map (λ n => AV.int .u32 n) z.m)] ++ ([.bool z.neg]))
def Bv (z : A8) : List (A7 yzE) := [.int .i64 z.v] ++ ([.sl (.int .u32) true z.m] ++ ([.bool z.neg]))
def Wt : Prs yzE A8 := Wc (Qk (U8 .i64) (Qk (pSl (.int .u32) true) (Ae6))) λ x => ⟨x.1, x.2.1, x.2.2⟩
theorem Pb : Prs.Spec Wt Bv := Ht (E0 (G9 _) (E0 (Tr _ _) (Sq))) _ _ λ _ => rfl
def Atc (z : Al) : List AV := Ahn z.N ++ (Ahn z.D)
def B5 (z : Al) : List (A7 yzE) := Bv z.N ++ (Bv z.D)
def Amv : Prs yzE Al := Wc (Qk (Wt) (Wt)) λ x => ⟨x.1, x.2⟩
theorem Ac1 : Prs.Spec Amv B5 := Ht (E0 Pb (Pb)) _ _ λ _ => rfl
def H6 (z : Ad) : List AV := [.sl 1 false (List.map (λ n => AV.int .u32 n) z.d)] ++ ([.bool z.minus])
def A5 (z : Ad) : List (A7 yzE) := [.sl (.int .u32) false z.d] ++ ([.bool z.minus])
def F9 : Prs yzE Ad := Wc (Qk (pSl (.int .u32) false) (Ae6)) λ x => ⟨x.1, x.2⟩
theorem F6 : Prs.Spec F9 A5 := Ht (E0 (Tr _ _) (Sq)) _ _ λ _ => rfl
def U1 (z : Aa) : List AV := H6 z.n ++ (H6 z.d)
def A9 (z : Aa) : List (A7 yzE) := A5 z.n ++ (A5 z.d)
def Ng : Prs yzE Aa := Wc (Qk (F9) (F9)) λ x => ⟨x.1, x.2⟩
theorem O3 : Prs.Spec Ng A9 := Ht (E0 F6 (F6)) _ _ λ _ => rfl
def Be9 (z : QmM) : List AV := [.int .i64 z.C] ++ ([.sl 1 false (List.map (λ xs => AV.sl 6 false (List.map (λ z => AV.ag (Atc z)) xs)) z.V)])
def Cr (z : QmM) : List (A7 yzE) := [.int .i64 z.C] ++ ([.sl (.sl (.nm 4)) false z.V])
def Aqt : Prs yzE QmM := Wc (Qk (U8 .i64) (pSl (.sl (.nm 4)) false)) λ x => ⟨x.1, x.2⟩
theorem Age : Prs.Spec Aqt Cr := Ht (E0 (G9 _) ((Tr _ _))) _ _ λ _ => rfl
def Qi (z : F7) : List AV := [.int .i64 z.x] ++ ([.int .i64 z.y] ++ ([.bool z.signed] ++ ([.int .u8 z.code])))
def Kd (z : F7) : List (A7 yzE) := [.int .i64 z.x] ++ ([.int .i64 z.y] ++ ([.bool z.signed] ++ ([.int .u8 z.code])))
def Kh : Prs yzE F7 := Wc (Qk (U8 .i64) (Qk (U8 .i64) (Qk (Ae6) (U8 .u8)))) λ x => ⟨x.1, x.2.1, x.2.2.1, x.2.2.2⟩
theorem L6 : Prs.Spec Kh Kd := Ht (E0 (G9 _) (E0 (G9 _) (E0 Sq ((G9 _))))) _ _ λ _ => rfl
def Lb (z : C8) : List AV := [.str z.msg] ++ ([.int .u64 z.addr])
def Hc (z : C8) : List (A7 yzE) := [.str z.msg] ++ ([.int .u64 z.addr])
def Ho : Prs yzE C8 := Wc (Qk (A8l) (U8 .u64)) λ x => ⟨x.1, x.2⟩
theorem J6 : Prs.Spec Ho Hc := Ht (E0 Anv ((G9 _))) _ _ λ _ => rfl
@[reducible] def yzT : Tab where
 E := yzE
 sz := λ n => match n with
   | 0 => 2
   | 1 => 6
   | 2 => 2
   | 3 => 3
   | 4 => 6
   | 5 => 2
   | 6 => 4
   | 7 => 2
   | 8 => 4
   | 9 => 2
   | _ => 0
 df := λ n => match n with
   | 0 => Cj
   | 1 => Ac
   | 2 => Apo
   | 3 => Asx
   | 4 => Bd
   | 5 => Ip
   | 6 => Ao
   | 7 => Bkx
   | 8 => Rn
   | 9 => Mn
   | _ + 10 => ()
 toL := λ n => match n with
   | 0 => Gv
   | 1 => Mb
   | 2 => A1
   | 3 => Bv
   | 4 => B5
   | 5 => A5
   | 6 => A9
   | 7 => Cr
   | 8 => Kd
   | 9 => Hc
   | _ + 10 => λ _ => []
 ofL := λ n => match n with
   | 0 => Wb Rk
   | 1 => Wb Aap
   | 2 => Wb X9
   | 3 => Wb Wt
   | 4 => Wb Amv
   | 5 => Wb F9
   | 6 => Wb Ng
   | 7 => Wb Aqt
   | 8 => Wb Kh
   | 9 => Wb Ho
   | _ + 10 => λ _ => none
 av := λ n => match n with
   | 0 => Xu
   | 1 => Af2
   | 2 => An7
   | 3 => Ahn
   | 4 => Atc
   | 5 => H6
   | 6 => U1
   | 7 => Be9
   | 8 => Qi
   | 9 => Lb
   | _ + 10 => λ _ => []
theorem Aiy : Tab.Ok yzT where
 av := λ n => match n with
   | 0 => λ _ => rfl
   | 1 => λ _ => rfl
   | 2 => λ _ => rfl
   | 3 => λ _ => rfl
   | 4 => λ _ => rfl
   | 5 => λ _ => rfl
   | 6 => λ _ => rfl
   | 7 => λ _ => rfl
   | 8 => λ _ => rfl
   | 9 => λ _ => rfl
   | _ + 10 => λ _ => rfl
 len := λ n => match n with
   | 0 => λ _ => rfl
   | 1 => λ _ => rfl
   | 2 => λ _ => rfl
   | 3 => λ _ => rfl
   | 4 => λ _ => rfl
   | 5 => λ _ => rfl
   | 6 => λ _ => rfl
   | 7 => λ _ => rfl
   | 8 => λ _ => rfl
   | 9 => λ _ => rfl
   | _ + 10 => λ _ => rfl
 ofL := λ n => match n with
   | 0 => λ ls x h => Ix Mo h
   | 1 => λ ls x h => Ix Xi h
   | 2 => λ ls x h => Ix V5 h
   | 3 => λ ls x h => Ix Pb h
   | 4 => λ ls x h => Ix Ac1 h
   | 5 => λ ls x h => Ix F6 h
   | 6 => λ ls x h => Ix O3 h
   | 7 => λ ls x h => Ix Age h
   | 8 => λ ls x h => Ix L6 h
   | 9 => λ ls x h => Ix J6 h
   | _ + 10 => λ ls x h => by cases h
def Ajc : List (TypeId × TI yzE) := [
 (2, ⟨.int .i64, 1, 8, [.int .i64 (0 : Int)], (.int .i64)⟩),
 (3, ⟨.int .i64, 1, 8, [.int .i64 (0 : Int)], (.int .i64)⟩),
 (4, ⟨.bool, 1, 1, [.bool false], .bool⟩),
 (5, ⟨.int .u8, 1, 1, [.int .u8 (0 : Int)], (.int .u8)⟩),
 (9, ⟨.str, 1, 16, [.str ([] : List UInt8)], .str⟩),
 (22, ⟨.slice 56, 1, 24, [.sl (.nm 1) true []], (.sl (.nm 1))⟩),
 (24, ⟨.struct [(0, 3), (1, 22)], 2, 32, [.int .i64 (0 : Int), .sl (.nm 1) true []], (.nm 2)⟩),
 (25, ⟨.slice 31, 1, 24, [.sl (.nm 0) true []], (.sl (.nm 0))⟩),
 (31, ⟨.struct [(0, 3), (1, 3)], 2, 16, [.int .i64 (0 : Int), .int .i64 (0 : Int)], (.nm 0)⟩),
 (40, ⟨.slice 53, 1, 24, [.sl (.nm 4) true []], (.sl (.nm 4))⟩),
 (45, ⟨.slice 63, 1, 24, [.sl (.nm 6) true []], (.sl (.nm 6))⟩),
 (49, ⟨.slice 120, 1, 24, [.sl (.int .u32) true []], (.sl (.int .u32))⟩),
 (51, ⟨.struct [(0, 2), (1, 49), (2, 4)], 3, 40, [.int .i64 (0 : Int), .sl (.int .u32) true [], .bool false], (.nm 3)⟩),
 (53, ⟨.struct [(0, 51), (3, 51)], 6, 80, [.int .i64 (0 : Int), .sl (.int .u32) true [], .bool false, .int .i64 (0 : Int), .sl (.int .u32) true [], .bool false], (.nm 4)⟩),
 (56, ⟨.struct [(0, 3), (1, 3), (2, 31), (4, 31)], 6, 48, [.int .i64 (0 : Int), .int .i64 (0 : Int), .int .i64 (0 : Int), .int .i64 (0 : Int), .int .i64 (0 : Int), .int .i64 (0 : Int)], (.nm 1)⟩),
 (61, ⟨.struct [(0, 49), (1, 4)], 2, 32, [.sl (.int .u32) true [], .bool false], (.nm 5)⟩),
 (63, ⟨.struct [(0, 61), (2, 61)], 4, 64, [.sl (.int .u32) true [], .bool false, .sl (.int .u32) true [], .bool false], (.nm 6)⟩),
 (67, ⟨.slice 3, 1, 24, [.sl (.int .i64) true []], (.sl (.int .i64))⟩),
 (71, ⟨.slice 40, 1, 24, [.sl (.sl (.nm 4)) true []], (.sl (.sl (.nm 4)))⟩),
 (73, ⟨.struct [(0, 3), (1, 71)], 2, 32, [.int .i64 (0 : Int), .sl (.sl (.nm 4)) true []], (.nm 7)⟩),
 (76, ⟨.slice 45, 1, 24, [.sl (.sl (.nm 6)) true []], (.sl (.sl (.nm 6)))⟩),
 (117, ⟨.int .u64, 1, 8, [.int .u64 (0 : Int)], (.int .u64)⟩),
 (120, ⟨.int .u32, 1, 4, [.int .u32 (0 : Int)], (.int .u32)⟩),
 (121, ⟨.int .u64, 1, 8, [.int .u64 (0 : Int)], (.int .u64)⟩),
 (130, ⟨.map 3 4, 1, 8, [.nmp], .bool⟩),
 (134, ⟨.slice 4, 1, 24, [.sl .bool true []], (.sl .bool)⟩)]
def Aia : TypeId -> Option (TI yzE) := λ t => A6 t Ajc
def Xr : TypeId -> Bool := λ t => Nn t [31]
theorem A88 : A9q yzT Aia Xr Go.Proofs.Tryz.prog where
 tab := Aiy
 types := Aey Ajc rfl (by kernel_rfl)
 eqs := As1 (V := Yd yzT Aia Xr []) (Aey Ajc rfl (by kernel_rfl)) rfl (by kernel_rfl)
 mixed := by kernel_rfl
abbrev ST := Ab.St yzE
abbrev MT := Abu yzT Aia Xr Go.Proofs.Tryz.prog
abbrev EV := A94 yzT Aia Xr
theorem GB {fs : List (FuncId × FS yzE)} {ws : List (FuncId × FW yzE)} {t0 : Bool} (h : Uv yzT Aia Xr Go.Proofs.Tryz.prog fs) (hw : Qy yzT Aia Xr Go.Proofs.Tryz.prog ws) : Ay (EV fs ws t0) Go.Proofs.Tryz.prog := Apq A88 h hw
end Go.Ab
