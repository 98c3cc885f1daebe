/- Structs of ints, bools, texts: compared as their leaves are. The tables of the types. Conditions: none beyond those that each theorem names. -/
import Derived.Test.YtjdgmcngpiookaaK08
import Derived.Laws.StructEq
import Derived.Test.YtjdgmcngpiookaaK10
import Derived.Test.YtjdgmcngpiookaaProg
namespace Go.Ab
open Go
section
variable {V : Env} {P : Program}
variable {E : Nat → Type}
def fieldsB (P : Program) (ok : TypeId → List (Leaf E) → Bool) : List Field → Nat → List (Leaf E) → Bool
  | [], _, zs => zs.isEmpty
  | f :: fs, off, zs => (f.name != "_") && Nat.beq f.offset off && match P.info? f.type with
    | some info => Nat.ble info.size zs.length && ok f.type (zs.take info.size) && fieldsB P ok fs (off + info.size) (zs.drop info.size)
    | none => false
def eqB (P : Program) : Nat → TypeId → List (Leaf E) → Bool
  | 0, _, _ => false
  | d + 1, t, zs => match P.underlying t, zs with
    | some (.int _), [.int _ _] => true
    | some .bool, [.bool _] => true
    | some .string, [.str _] => true
    | some (.struct fs), zs => !P.stoodInHeld t && fieldsB P (eqB P d) fs.toList 0 zs && (match P.info? t with | some info => Nat.beq info.size zs.length | none => false)
    | _, _ => false
theorem likeB_length : ∀ {z l : List (Leaf E)}, likeB z l = true → l.length = z.length
  | [], [], _ => rfl
  | [], b :: l, h => by cases b <;> simp [likeB] at h
  | a :: z, [], h => by cases a <;> simp [likeB] at h
  | a :: z, b :: l, h => by
    cases a <;> cases b <;> simp only [likeB, Bool.and_eq_true] at h <;> first | (cases h; done) | simp [likeB_length h] | simp [likeB_length h.2]
theorem likeB_take : ∀ {z l : List (Leaf E)} (n : Nat), likeB z l = true → likeB (z.take n) (l.take n) = true ∧ likeB (z.drop n) (l.drop n) = true
  | z, l, 0, h => by simp [likeB, h]
  | [], [], n + 1, h => by simp [likeB]
  | [], b :: l, n + 1, h => by cases b <;> simp [likeB] at h
  | a :: z, [], n + 1, h => by cases a <;> simp [likeB] at h
  | a :: z, b :: l, n + 1, h => by
    cases a <;> cases b <;> simp only [likeB, Bool.and_eq_true, List.take_succ_cons, List.drop_succ_cons] at h ⊢ <;> first | (cases h; done) | exact likeB_take n h | exact ⟨⟨h.1, (likeB_take n h.2).1⟩, (likeB_take n h.2).2⟩
theorem eqL_split : ∀ {l1 l2 m : List (Leaf V.E)} {b : Bool}, eqL V (l1 ++ l2) m = some b → ∃ m1 m2 b1 b2, m = m1 ++ m2 ∧ m1.length = l1.length ∧ eqL V l1 m1 = some b1 ∧ eqL V l2 m2 = some b2 ∧ b = (b1 && b2)
  | [], l2, m, b, h => ⟨[], m, true, b, rfl, rfl, by simp [eqL], h, by simp⟩
  | a :: l1, l2, [], b, h => by cases a <;> simp [eqL] at h
  | a :: l1, l2, c :: m, b, h => by
    have key : ∀ (e : Bool), (eqL V (l1 ++ l2) m).map (e && ·) = some b → (∀ m1 b1, eqL V l1 m1 = some b1 → eqL V (a :: l1) (c :: m1) = some (e && b1)) →
        ∃ m1 m2 b1 b2, c :: m = m1 ++ m2 ∧ m1.length = (a :: l1).length ∧ eqL V (a :: l1) m1 = some b1 ∧ eqL V l2 m2 = some b2 ∧ b = (b1 && b2) := by
      intro e he hf
      obtain ⟨b', hb', e2⟩ := Option.map_eq_some_iff.1 he
      obtain ⟨m1, m2, b1, b2, rfl, h1, h2, h3, rfl⟩ := eqL_split hb'
      exact ⟨c :: m1, m2, e && b1, b2, rfl, by simp [h1], hf m1 b1 h2, h3, by rw [← e2, Bool.and_assoc]⟩
    cases a <;> cases c <;> simp only [List.cons_append, eqL] at h <;> try exact (by cases h)
    · split at h
      · rename_i hk
        exact key _ h fun m1 b1 h1 => by simp only [eqL, hk, if_true, h1, Option.map_some]
      · cases h
    · exact key _ h fun m1 b1 h1 => by simp only [eqL, h1, Option.map_some]
    · exact key _ h fun m1 b1 h1 => by simp only [eqL, h1, Option.map_some]
theorem run_part_agg {t : TypeId} {info : TypeInfo} {fs : Array Field} (hi : P.info? t = some info) (hu : P.underlying t = some (.struct fs)) (vs : Array Value) (off : Nat) (w : World) :
    (Go.part t vs off).run P w = .ok (.agg (vs.extract off (off + info.size))) w := by
  simp [Go.part, isAgg, run_underlying hu, sizeOf, typeInfo, hi]
theorem run_part_one {t : TypeId} {d : TypeDesc} (hu : P.underlying t = some d) (hd : (∃ k, d = .int k) ∨ d = .bool ∨ d = .string) {vs : Array Value} {off : Nat} {v : Value} (hv : vs[off]? = some v) (w : World) :
    (Go.part t vs off).run P w = .ok v w := by
  rcases hd with ⟨k, rfl⟩ | rfl | rfl <;> simp [Go.part, isAgg, run_underlying hu, hv]
def EqAt (P : Program) (V : Env) (D : Nat) (t : TypeId) (zs : List (Leaf V.E)) : Prop :=
  ∀ (bx : List (Nat × Box V.E)) (β : Nat → BI) (ok : Nat → Prop) (w' : World) (l m : List (Leaf V.E)) (b : Bool) (c1 c2 c3 e1 e2 e3 : List Value), likeB zs l = true → eqL V l m = some b →
    All2 (LeafRep V.T bx β ok w') l c2 → All2 (LeafRep V.T bx β ok w') m e2 → c1.length = e1.length → ∀ w : World, ∃ x y,
      (Go.part t (c1 ++ c2 ++ c3).toArray c1.length).run P w = .ok x w ∧ (Go.part t (e1 ++ e2 ++ e3).toArray c1.length).run P w = .ok y w ∧ (Op.equalIn D t x y).run P w = .ok b w
theorem eqFields_ok {D : Nat} {ok : TypeId → List (Leaf V.E) → Bool} (hok : ∀ t info zs, P.info? t = some info → zs.length = info.size → ok t zs = true → EqAt P V D t zs)
    (bx : List (Nat × Box V.E)) (β : Nat → BI) (okp : Nat → Prop) (w' : World) : ∀ (fs : List Field) (off : Nat) (zs : List (Leaf V.E)), fieldsB P ok fs off zs = true → ∀ (l m : List (Leaf V.E)) (b : Bool) (c1 c2 e1 e2 : List Value), c1.length = off → e1.length = off → likeB zs l = true → eqL V l m = some b →
      All2 (LeafRep V.T bx β okp w') l c2 → All2 (LeafRep V.T bx β okp w') m e2 → ∀ w : World, (Op.eqFields D (c1 ++ c2).toArray (e1 ++ e2).toArray fs).run P w = .ok b w
  | [], off, zs, h, l, m, b, c1, c2, e1, e2, h1, h2, h3, hb, r1, r2, w => by
    simp only [fieldsB, List.isEmpty_iff] at h
    subst h
    have hl : l = [] := by have := likeB_length h3; cases l <;> simp_all
    subst hl
    cases m with
    | nil => simp [eqL] at hb; subst hb; simp [Op.eqFields]
    | cons c m => simp [eqL] at hb
  | f :: fs, off, zs, h, l, m, b, c1, c2, e1, e2, h1, h2, h3, hb, r1, r2, w => by
    simp only [fieldsB, Bool.and_eq_true, bne_iff_ne, ne_eq] at h
    obtain ⟨⟨hname, hoff⟩, h⟩ := h
    split at h
    · rename_i info hinf
      simp only [Bool.and_eq_true] at h
      obtain ⟨⟨hle, hokf⟩, hrest⟩ := h
      have hle := Nat.le_of_ble_eq_true hle
      have hoff := eq_of_beq' hoff
      have hll := likeB_length h3
      obtain ⟨k1, k2⟩ := likeB_take info.size h3
      have hsplit : l = l.take info.size ++ l.drop info.size := (List.take_append_drop _ _).symm
      rw [hsplit] at hb r1
      obtain ⟨m1, m2, b1, b2, rfl, hm1, hb1, hb2, rfl⟩ := eqL_split hb
      obtain ⟨p1, p2, rfl, s1, s2⟩ := r1.split
      obtain ⟨q1, q2, rfl, u1, u2⟩ := r2.split
      have hlen : (l.take info.size).length = info.size := by simp; omega
      obtain ⟨x, y, g1, g2, g3⟩ := hok f.type info _ hinf (by simp; omega) hokf bx β okp w' _ _ _ c1 p1 p2 e1 q1 q2 k1 hb1 s1 u1 (by rw [h1, h2]) w
      have IH := eqFields_ok hok bx β okp w' fs (off + info.size) _ hrest (l.drop info.size) m2 b2 (c1 ++ p1) p2 (e1 ++ q1) q2 (by rw [List.length_append, h1, ← s1.length, hlen]) (by rw [List.length_append, h2, ← u1.length, hm1, hlen]) k2 hb2 s2 u2 w
      rw [List.append_assoc] at g1 g2
      rw [h1] at g1 g2
      simp only [Op.eqFields, if_pos hname, Sem.run_bind, hoff, g1, g2, g3, Result.andThen_ok, Sem.run_ite, Sem.run_pure]
      cases b1
      · simp
      · rw [List.append_assoc, List.append_assoc] at IH
        simpa using IH
    · cases h
theorem extract_mid (c1 c2 c3 : List Value) : (c1 ++ c2 ++ c3).toArray.extract c1.length (c1.length + c2.length) = c2.toArray := by
  apply Array.ext'
  rw [Array.toList_extract]
  simp [List.extract]
theorem eqAt_ok : ∀ (d D : Nat), d ≤ D → ∀ (t : TypeId) (zs : List (Leaf V.E)) (info : TypeInfo), P.info? t = some info → zs.length = info.size → eqB P d t zs = true → EqAt P V D t zs
  | 0, _, _, _, _, _, _, _, h => by simp [eqB] at h
  | d + 1, D, hD, t, zs, info, hinf, hn, h => by
    obtain ⟨D, rfl⟩ : ∃ D', D = D' + 1 := ⟨D - 1, by omega⟩
    intro bx β okp w' l m b c1 c2 c3 e1 e2 e3 hl hb r1 r2 hce w
    have getc : ∀ (c1 c3 : List Value) (v : Value), (c1 ++ [v] ++ c3).toArray[c1.length]? = some v := by
      intro c1 c3 v; simp
    unfold eqB at h
    split at h
    · rename_i k k' z hu
      match l, hl with
      | [.int k1 a], hl =>
        match m, hb with
        | [.int k2 a'], hb =>
          simp only [eqL] at hb
          split at hb
          · rename_i hk
            subst hk
            cases r1 with
            | cons q1 t1 =>
              cases t1
              cases r2 with
              | cons q2 t2 =>
                cases t2
                simp only [LeafRep] at q1 q2
                subst q1; subst q2
                refine ⟨_, _, run_part_one hu (.inl ⟨_, rfl⟩) (getc _ _ _) w, run_part_one hu (.inl ⟨_, rfl⟩) (by rw [hce]; exact getc _ _ _) w, ?_⟩
                rw [run_equalIn_int w D t k1 k a a' hu]
                simp only [Option.map_some, Bool.and_true, Option.some.injEq] at hb
                rw [← hb]
                congr 1
          · cases hb
        | [], hb => simp [eqL] at hb
        | .int _ _ :: _ :: _, hb => simp only [eqL] at hb; split at hb <;> simp at hb
      | .int _ _ :: x :: _, hl => cases x <;> simp [likeB] at hl
    · rename_i z hu
      match l, hl with
      | [.bool a], hl =>
        match m, hb with
        | [.bool a'], hb =>
          cases r1 with
          | cons q1 t1 =>
            cases t1
            cases r2 with
            | cons q2 t2 =>
              cases t2
              simp only [LeafRep] at q1 q2
              subst q1; subst q2
              refine ⟨_, _, run_part_one hu (.inr (.inl rfl)) (getc _ _ _) w, run_part_one hu (.inr (.inl rfl)) (by rw [hce]; exact getc _ _ _) w, ?_⟩
              rw [run_equalIn_bool' w D t a a' hu]
              simp [eqL] at hb
              rw [← hb]
        | [], hb => simp [eqL] at hb
        | .bool _ :: _ :: _, hb => simp [eqL] at hb
    · rename_i z hu
      match l, hl with
      | [.str a], hl =>
        match m, hb with
        | [.str a'], hb =>
          cases r1 with
          | cons q1 t1 =>
            cases t1
            cases r2 with
            | cons q2 t2 =>
              cases t2
              simp only [LeafRep] at q1 q2
              subst q1; subst q2
              refine ⟨_, _, run_part_one hu (.inr (.inr rfl)) (getc _ _ _) w, run_part_one hu (.inr (.inr rfl)) (by rw [hce]; exact getc _ _ _) w, ?_⟩
              rw [run_equalIn_string w D t _ _ hu]
              simp [eqL] at hb
              rw [← hb]
              simp only [ByteArray.toList_eq]
              by_cases e : a = a'
              · subst e; simp
              · simp [e]
        | [], hb => simp [eqL] at hb
        | .str _ :: _ :: _, hb => simp [eqL] at hb
    · rename_i fs hu
      simp only [Bool.and_eq_true, Bool.not_eq_true'] at h
      obtain ⟨⟨hs, hf⟩, _⟩ := h
      have hll := likeB_length hl
      have hc2 : c2.length = info.size := by rw [← r1.length, hll, hn]
      have hml : e2.length = info.size := by
        have : l = l ++ [] := by simp
        rw [this] at hb
        obtain ⟨m1, m2, b1, b2, rfl, hm1, _, hb2, _⟩ := eqL_split hb
        have : m2 = [] := by cases m2 <;> simp [eqL] at hb2 <;> rfl
        subst this
        rw [← r2.length]; simp; omega
      have hfo : P.fieldsOf t = fs := by simp [Program.fieldsOf, hu]
      refine ⟨.agg c2.toArray, .agg e2.toArray, ?_, ?_, ?_⟩
      · rw [run_part_agg hinf hu, ← hc2, extract_mid]
      · rw [run_part_agg hinf hu, hce, ← hml, extract_mid]
      · rw [run_equalIn_agg w D t _ _ (by rw [hfo]; exact hu) hs, hfo]
        have := eqFields_ok (V := V) (P := P) (D := D) (ok := eqB P d) (fun t info zs hi hz hk => eqAt_ok d D (by omega) t zs info hi hz hk) bx β okp w' fs.toList 0 _ hf l m b [] c2 [] e2 rfl rfl hl hb r1 r2 w
        simpa using this
    · cases h
theorem eqsOk_of (HE : EnvOk V P) {es : List TypeId} (hes : V.eqs = fun t => memB t es) (h : (es.all fun t => match V.ti t with | some i => eqB P 100 t i.zero && !P.eqGuardType P.depth t && i.kind.agg | none => false) = true) : EqsOk V P := by
  intro t ht i hi bx β ok w' l m b c d hl hb r1 r2 x y w op hop
  rw [hes] at ht
  have := List.all_eq_true.1 h t (memB_mem ht)
  rw [hi] at this
  simp only [Bool.and_eq_true, Bool.not_eq_true'] at this
  obtain ⟨⟨h1, h2⟩, h3⟩ := this
  obtain ⟨info, dd, z, I⟩ := HE t i hi
  refine ⟨run_eqGuard_agg w op t x y c d h2, ?_⟩
  have hz : i.zero.length = info.size := by
    have := (zls_rep (T := V.T) (bx := bx) (β := β) (ok := ok) (w := w') I.zeros).length
    rw [this, I.size, ← I.zcells]; simp
  obtain ⟨xx, yy, g1, g2, g3⟩ := eqAt_ok (V := V) (P := P) 100 10000 (by omega) t i.zero info I.inf hz h1 bx β ok w' l m b [] c.toList [] [] d.toList [] hl hb r1 r2 rfl w
  have hk := I.kind
  have hu := I.under
  cases dd <;> cases hik : i.kind <;> rw [hik] at hk h3 <;> simp [kindB] at hk <;> simp [TK.agg] at h3
  · exfalso
    unfold eqB at h1
    rw [hu] at h1
    simp at h1
  · have hc : c.toList.length = info.size := by rw [← r1.length, likeB_length hl, hz]
    have hd : d.toList.length = info.size := by
      have e : l = l ++ [] := by simp
      rw [e] at hb
      obtain ⟨m1, m2, b1, b2, rfl, hm1, _, hb2, _⟩ := eqL_split hb
      have : m2 = [] := by cases m2 <;> simp [eqL] at hb2 <;> rfl
      subst this
      rw [← r2.length]; simp; rw [hm1, likeB_length hl, hz]
    rw [run_part_agg I.inf hu] at g1 g2
    have e1 := extract_mid [] c.toList []
    have e2 := extract_mid [] d.toList []
    rw [hc] at e1; rw [hd] at e2
    rw [e1] at g1; rw [e2] at g2
    cases g1; cases g2
    simpa [Op.equal, Op.maxDepth] using g3
end
end Go.Ab
namespace Go.Ab
open Go
set_option linter.unusedVariables false
@[reducible] def yaE : Nat → Type
  | 0 => ApiRat
  | 1 => ApiArm
  | 2 => ApiGrid
  | 3 => NumZ
  | 4 => NumQ
  | 5 => QmM
  | 6 => Isoclineref01Whole
  | 7 => Isoclineref01Q
  | _ => Unit
def avApiRat (z : ApiRat) : List AV := [.int .i64 z.N] ++ ([.int .i64 z.D])
def yaToApiRat (z : ApiRat) : List (Leaf yaE) := [.int .i64 z.N] ++ ([.int .i64 z.D])
def yaPApiRat : Prs yaE ApiRat := pMap (pSeq (pInt .i64) (pInt .i64)) fun x => ⟨x.1, x.2⟩
theorem yaPApiRat_spec : Prs.Spec yaPApiRat yaToApiRat := pMap_spec (pSeq_spec (pInt_spec _) ((pInt_spec _))) _ _ fun _ => rfl
def avApiArm (z : ApiArm) : List AV := [.int .i64 z.A] ++ ([.int .i64 z.B] ++ (avApiRat z.R ++ (avApiRat z.E)))
def yaToApiArm (z : ApiArm) : List (Leaf yaE) := [.int .i64 z.A] ++ ([.int .i64 z.B] ++ (yaToApiRat z.R ++ (yaToApiRat z.E)))
def yaPApiArm : Prs yaE ApiArm := pMap (pSeq (pInt .i64) (pSeq (pInt .i64) (pSeq (yaPApiRat) (yaPApiRat)))) fun x => ⟨x.1, x.2.1, x.2.2.1, x.2.2.2⟩
theorem yaPApiArm_spec : Prs.Spec yaPApiArm yaToApiArm := pMap_spec (pSeq_spec (pInt_spec _) (pSeq_spec (pInt_spec _) (pSeq_spec yaPApiRat_spec (yaPApiRat_spec)))) _ _ fun _ => rfl
def avApiGrid (z : ApiGrid) : List AV := [.int .i64 z.Nodes] ++ ([.sl 6 false (List.map (fun z => AV.ag (avApiArm z)) z.Arms)])
def yaToApiGrid (z : ApiGrid) : List (Leaf yaE) := [.int .i64 z.Nodes] ++ ([.sl (.nm 1) false z.Arms])
def yaPApiGrid : Prs yaE ApiGrid := pMap (pSeq (pInt .i64) (pSl (.nm 1) false)) fun x => ⟨x.1, x.2⟩
theorem yaPApiGrid_spec : Prs.Spec yaPApiGrid yaToApiGrid := pMap_spec (pSeq_spec (pInt_spec _) ((pSl_spec _ _))) _ _ fun _ => rfl
def avNumZ (z : NumZ) : List AV := [.int .i64 z.v] ++ ([.sl 1 true (List.map (fun n => AV.int .u32 n) z.m)] ++ ([.bool z.neg]))
def yaToNumZ (z : NumZ) : List (Leaf yaE) := [.int .i64 z.v] ++ ([.sl (.int .u32) true z.m] ++ ([.bool z.neg]))
def yaPNumZ : Prs yaE NumZ := pMap (pSeq (pInt .i64) (pSeq (pSl (.int .u32) true) (pBool))) fun x => ⟨x.1, x.2.1, x.2.2⟩
theorem yaPNumZ_spec : Prs.Spec yaPNumZ yaToNumZ := pMap_spec (pSeq_spec (pInt_spec _) (pSeq_spec (pSl_spec _ _) (pBool_spec))) _ _ fun _ => rfl
def avNumQ (z : NumQ) : List AV := avNumZ z.N ++ (avNumZ z.D)
def yaToNumQ (z : NumQ) : List (Leaf yaE) := yaToNumZ z.N ++ (yaToNumZ z.D)
def yaPNumQ : Prs yaE NumQ := pMap (pSeq (yaPNumZ) (yaPNumZ)) fun x => ⟨x.1, x.2⟩
theorem yaPNumQ_spec : Prs.Spec yaPNumQ yaToNumQ := pMap_spec (pSeq_spec yaPNumZ_spec (yaPNumZ_spec)) _ _ fun _ => rfl
def avQmM (z : QmM) : List AV := [.int .i64 z.C] ++ ([.sl 1 false (List.map (fun xs => AV.sl 6 false (List.map (fun z => AV.ag (avNumQ z)) xs)) z.V)])
def yaToQmM (z : QmM) : List (Leaf yaE) := [.int .i64 z.C] ++ ([.sl (.sl (.nm 4)) false z.V])
def yaPQmM : Prs yaE QmM := pMap (pSeq (pInt .i64) (pSl (.sl (.nm 4)) false)) fun x => ⟨x.1, x.2⟩
theorem yaPQmM_spec : Prs.Spec yaPQmM yaToQmM := pMap_spec (pSeq_spec (pInt_spec _) ((pSl_spec _ _))) _ _ fun _ => rfl
def avIsoclineref01Whole (z : Isoclineref01Whole) : List AV := [.sl 1 false (List.map (fun n => AV.int .u32 n) z.d)] ++ ([.bool z.minus])
def yaToIsoclineref01Whole (z : Isoclineref01Whole) : List (Leaf yaE) := [.sl (.int .u32) false z.d] ++ ([.bool z.minus])
def yaPIsoclineref01Whole : Prs yaE Isoclineref01Whole := pMap (pSeq (pSl (.int .u32) false) (pBool)) fun x => ⟨x.1, x.2⟩
theorem yaPIsoclineref01Whole_spec : Prs.Spec yaPIsoclineref01Whole yaToIsoclineref01Whole := pMap_spec (pSeq_spec (pSl_spec _ _) (pBool_spec)) _ _ fun _ => rfl
def avIsoclineref01Q (z : Isoclineref01Q) : List AV := avIsoclineref01Whole z.n ++ (avIsoclineref01Whole z.d)
def yaToIsoclineref01Q (z : Isoclineref01Q) : List (Leaf yaE) := yaToIsoclineref01Whole z.n ++ (yaToIsoclineref01Whole z.d)
def yaPIsoclineref01Q : Prs yaE Isoclineref01Q := pMap (pSeq (yaPIsoclineref01Whole) (yaPIsoclineref01Whole)) fun x => ⟨x.1, x.2⟩
theorem yaPIsoclineref01Q_spec : Prs.Spec yaPIsoclineref01Q yaToIsoclineref01Q := pMap_spec (pSeq_spec yaPIsoclineref01Whole_spec (yaPIsoclineref01Whole_spec)) _ _ fun _ => rfl
@[reducible] def yaT : Tab where
  E := yaE
  sz := fun n => match n with
    | 0 => 2
    | 1 => 6
    | 2 => 2
    | 3 => 3
    | 4 => 6
    | 5 => 2
    | 6 => 2
    | 7 => 4
    | _ => 0
  df := fun n => match n with
    | 0 => ApiRatZ
    | 1 => ApiArmZ
    | 2 => ApiGridZ
    | 3 => NumZZ
    | 4 => NumQZ
    | 5 => QmMZ
    | 6 => Isoclineref01WholeZ
    | 7 => Isoclineref01QZ
    | _ + 8 => ()
  toL := fun n => match n with
    | 0 => yaToApiRat
    | 1 => yaToApiArm
    | 2 => yaToApiGrid
    | 3 => yaToNumZ
    | 4 => yaToNumQ
    | 5 => yaToQmM
    | 6 => yaToIsoclineref01Whole
    | 7 => yaToIsoclineref01Q
    | _ + 8 => fun _ => []
  ofL := fun n => match n with
    | 0 => pAll yaPApiRat
    | 1 => pAll yaPApiArm
    | 2 => pAll yaPApiGrid
    | 3 => pAll yaPNumZ
    | 4 => pAll yaPNumQ
    | 5 => pAll yaPQmM
    | 6 => pAll yaPIsoclineref01Whole
    | 7 => pAll yaPIsoclineref01Q
    | _ + 8 => fun _ => none
  av := fun n => match n with
    | 0 => avApiRat
    | 1 => avApiArm
    | 2 => avApiGrid
    | 3 => avNumZ
    | 4 => avNumQ
    | 5 => avQmM
    | 6 => avIsoclineref01Whole
    | 7 => avIsoclineref01Q
    | _ + 8 => fun _ => []
theorem yaT_ok : Tab.Ok yaT where
  av := fun n => match n with
    | 0 => fun _ => rfl
    | 1 => fun _ => rfl
    | 2 => fun _ => rfl
    | 3 => fun _ => rfl
    | 4 => fun _ => rfl
    | 5 => fun _ => rfl
    | 6 => fun _ => rfl
    | 7 => fun _ => rfl
    | _ + 8 => fun _ => rfl
  len := fun n => match n with
    | 0 => fun _ => rfl
    | 1 => fun _ => rfl
    | 2 => fun _ => rfl
    | 3 => fun _ => rfl
    | 4 => fun _ => rfl
    | 5 => fun _ => rfl
    | 6 => fun _ => rfl
    | 7 => fun _ => rfl
    | _ + 8 => fun _ => rfl
  ofL := fun n => match n with
    | 0 => fun ls x h => pAll_coe yaPApiRat_spec h
    | 1 => fun ls x h => pAll_coe yaPApiArm_spec h
    | 2 => fun ls x h => pAll_coe yaPApiGrid_spec h
    | 3 => fun ls x h => pAll_coe yaPNumZ_spec h
    | 4 => fun ls x h => pAll_coe yaPNumQ_spec h
    | 5 => fun ls x h => pAll_coe yaPQmM_spec h
    | 6 => fun ls x h => pAll_coe yaPIsoclineref01Whole_spec h
    | 7 => fun ls x h => pAll_coe yaPIsoclineref01Q_spec h
    | _ + 8 => fun ls x h => by cases h
def yaRows : List (TypeId × TI yaE) := [
  (2, ⟨.int .i64, 1, 8, [.int .i64 (0 : Int)], (.int .i64)⟩),
  (3, ⟨.int .i64, 1, 8, [.int .i64 (0 : Int)], (.int .i64)⟩),
  (4, ⟨.bool, 1, 1, [.bool false], .bool⟩),
  (5, ⟨.int .u8, 1, 1, [.int .u8 (0 : Int)], (.int .u8)⟩),
  (9, ⟨.str, 1, 16, [.str ([] : List UInt8)], .str⟩),
  (22, ⟨.slice 28, 1, 24, [.sl (.nm 1) true []], (.sl (.nm 1))⟩),
  (24, ⟨.struct [(0, 3), (1, 22)], 2, 32, [.int .i64 (0 : Int), .sl (.nm 1) true []], (.nm 2)⟩),
  (26, ⟨.struct [(0, 3), (1, 3)], 2, 16, [.int .i64 (0 : Int), .int .i64 (0 : Int)], (.nm 0)⟩),
  (28, ⟨.struct [(0, 3), (1, 3), (2, 26), (4, 26)], 6, 48, [.int .i64 (0 : Int), .int .i64 (0 : Int), .int .i64 (0 : Int), .int .i64 (0 : Int), .int .i64 (0 : Int), .int .i64 (0 : Int)], (.nm 1)⟩),
  (41, ⟨.slice 26, 1, 24, [.sl (.nm 0) true []], (.sl (.nm 0))⟩),
  (46, ⟨.slice 3, 1, 24, [.sl (.int .i64) true []], (.sl (.int .i64))⟩),
  (48, ⟨.slice 53, 1, 24, [.sl (.nm 4) true []], (.sl (.nm 4))⟩),
  (49, ⟨.slice 115, 1, 24, [.sl (.int .u32) true []], (.sl (.int .u32))⟩),
  (51, ⟨.struct [(0, 2), (1, 49), (2, 4)], 3, 40, [.int .i64 (0 : Int), .sl (.int .u32) true [], .bool false], (.nm 3)⟩),
  (53, ⟨.struct [(0, 51), (3, 51)], 6, 80, [.int .i64 (0 : Int), .sl (.int .u32) true [], .bool false, .int .i64 (0 : Int), .sl (.int .u32) true [], .bool false], (.nm 4)⟩),
  (58, ⟨.slice 48, 1, 24, [.sl (.sl (.nm 4)) true []], (.sl (.sl (.nm 4)))⟩),
  (60, ⟨.struct [(0, 3), (1, 58)], 2, 32, [.int .i64 (0 : Int), .sl (.sl (.nm 4)) true []], (.nm 5)⟩),
  (64, ⟨.struct [(0, 49), (1, 4)], 2, 32, [.sl (.int .u32) true [], .bool false], (.nm 6)⟩),
  (66, ⟨.struct [(0, 64), (2, 64)], 4, 64, [.sl (.int .u32) true [], .bool false, .sl (.int .u32) true [], .bool false], (.nm 7)⟩),
  (72, ⟨.slice 66, 1, 24, [.sl (.nm 7) true []], (.sl (.nm 7))⟩),
  (112, ⟨.int .u64, 1, 8, [.int .u64 (0 : Int)], (.int .u64)⟩),
  (115, ⟨.int .u32, 1, 4, [.int .u32 (0 : Int)], (.int .u32)⟩),
  (116, ⟨.int .u64, 1, 8, [.int .u64 (0 : Int)], (.int .u64)⟩),
  (126, ⟨.slice 4, 1, 24, [.sl .bool true []], (.sl .bool)⟩)]
def yaTi : TypeId → Option (TI yaE) := fun t => look t yaRows
def yaEqs : TypeId → Bool := fun t => memB t [26, 28]
theorem yaBase : Base yaT yaTi yaEqs Go.Proofs.Try.prog where
  tab := yaT_ok
  types := envOk_of yaRows rfl (by kernel_rfl)
  eqs := eqsOk_of (V := envOf yaT yaTi yaEqs []) (envOk_of yaRows rfl (by kernel_rfl)) rfl (by kernel_rfl)
  mixed := by kernel_rfl
abbrev MT := MeetsT yaT yaTi yaEqs Go.Proofs.Try.prog
abbrev EV := envW yaT yaTi yaEqs
theorem GB {fs : List (FuncId × FS yaE)} {ws : List (FuncId × FW yaE)} {t0 : Bool} (h : AllMeet yaT yaTi yaEqs Go.Proofs.Try.prog fs) (hw : AllMeetW yaT yaTi yaEqs Go.Proofs.Try.prog ws) : Good (EV fs ws t0) Go.Proofs.Try.prog := good_ofW yaBase h hw
end Go.Ab
