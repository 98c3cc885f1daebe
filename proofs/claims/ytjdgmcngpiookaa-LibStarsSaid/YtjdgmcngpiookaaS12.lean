/- Structs of ints, bools, texts: compared as their leaves are. The tables of the types. Conditions: none beyond those that each theorem names. -/
import Derived.Test.YtjdgmcngpiookaaS09
import Derived.Laws.StructEq
import Derived.Test.YtjdgmcngpiookaaS11
import Derived.Test.YtjdgmcngpiookaaProg
namespace Go.Ab
open Go
section
variable {V : Env} {P : Program}
variable {E : Nat -> Type}
def Q8 (P : Program) (ok : TypeId -> List (A5 E) -> Bool) : List Field -> Nat -> List (A5 E) -> Bool
 | [], _, zs => zs.isEmpty
 | f :: fs, off, zs => (f.name != "_") && Nat.beq f.offset off && match P.info? f.type with
   | some info => Nat.ble info.size zs.length && ok f.type (zs.take info.size) && Q8 P ok fs (off + info.size) (zs.drop info.size)
   | none => false
def eqB (P : Program) : Nat -> TypeId -> List (A5 E) -> Bool
 | 0, _, _ => false
 | d + 1, t, zs => match P.underlying t, zs with
   | some (.int _), [.int _ _] => true
   | some .bool, [.bool _] => true
   | some .string, [.str _] => true
   | some (.struct fs), zs => !P.stoodInHeld t && Q8 P (eqB P d) fs.toList 0 zs && (match P.info? t with | some info => Nat.beq info.size zs.length | none => false)
   | _, _ => false
theorem Fu : ∀ {z l : List (A5 E)}, He z l = true -> l.length = z.length
 | [], [], _ => rfl
 | [], b :: l, h => by cases b <;> simp [He] at h
 | a :: z, [], h => by cases a <;> simp [He] at h
 | a :: z, b :: l, h => by
   cases a <;> cases b <;> simp only [He, Bool.and_eq_true] at h <;> first | (cases h; done) | simp [Fu h] | simp [Fu h.2]
theorem Nm : ∀ {z l : List (A5 E)} (n : Nat), He z l = true -> He (z.take n) (l.take n) = true /\ He (z.drop n) (l.drop n) = true
 | z, l, 0, h => by simp [He, h]
 | [], [], n + 1, h => by simp [He]
 | [], b :: l, n + 1, h => by cases b <;> simp [He] at h
 | a :: z, [], n + 1, h => by cases a <;> simp [He] at h
 | a :: z, b :: l, n + 1, h => by
   cases a <;> cases b <;> simp only [He, Bool.and_eq_true, List.take_succ_cons, List.drop_succ_cons] at h ⊢ <;> first | (cases h; done) | exact Nm n h | exact ⟨⟨h.1, (Nm n h.2).1⟩, (Nm n h.2).2⟩
theorem Pp : ∀ {l1 l2 m : List (A5 V.E)} {b : Bool}, eqL V (l1 ++ l2) m = some b -> ∃ m1 m2 b1 b2, m = m1 ++ m2 /\ m1.length = l1.length /\ eqL V l1 m1 = some b1 /\ eqL V l2 m2 = some b2 /\ b = (b1 && b2)
 | [], l2, m, b, h => ⟨[], m, true, b, rfl, rfl, by simp [eqL], h, by simp⟩
 | a :: l1, l2, [], b, h => by cases a <;> simp [eqL] at h
 | a :: l1, l2, c :: m, b, h => by
   have key : ∀ (e : Bool), (eqL V (l1 ++ l2) m).map (e && ·) = some b -> (∀ m1 b1, eqL V l1 m1 = some b1 -> eqL V (a :: l1) (c :: m1) = some (e && b1)) ->
       ∃ m1 m2 b1 b2, c :: m = m1 ++ m2 /\ m1.length = (a :: l1).length /\ eqL V (a :: l1) m1 = some b1 /\ eqL V l2 m2 = some b2 /\ b = (b1 && b2) := by
     intro e he hf
     obtain ⟨b', hb', e2⟩ := Option.map_eq_some_iff.1 he
     obtain ⟨m1, m2, b1, b2, rfl, h1, h2, h3, rfl⟩ := Pp hb'
     exact ⟨c :: m1, m2, e && b1, b2, rfl, by simp [h1], hf m1 b1 h2, h3, by rw [<- e2, Bool.and_assoc]⟩
   cases a <;> cases c <;> simp only [List.cons_append, eqL] at h <;> try exact (by cases h)
   · split at h
     · rename_i hk
       exact key _ h λ m1 b1 h1 => by simp only [eqL, hk, if_true, h1, Option.map_some]
     · cases h
   · exact key _ h λ m1 b1 h1 => by simp only [eqL, h1, Option.map_some]
   · exact key _ h λ m1 b1 h1 => by simp only [eqL, h1, Option.map_some]
theorem M0 {t : TypeId} {info : TypeInfo} {fs : Array Field} (hi : P.info? t = some info) (hu : P.underlying t = some (.struct fs)) (vs : Array Value) (off : Nat) (w : World) :
   (Go.part t vs off).run P w = .ok (.agg (vs.extract off (off + info.size))) w := by
 simp [Go.part, isAgg, run_underlying hu, sizeOf, typeInfo, hi]
theorem Gw {t : TypeId} {d : TypeDesc} (hu : P.underlying t = some d) (hd : (∃ k, d = .int k) \/ d = .bool \/ d = .string) {vs : Array Value} {off : Nat} {v : Value} (hv : vs[off]? = some v) (w : World) :
   (Go.part t vs off).run P w = .ok v w := by
 rcases hd with ⟨k, rfl⟩ | rfl | rfl <;> simp [Go.part, isAgg, run_underlying hu, hv]
def A8r (P : Program) (V : Env) (D : Nat) (t : TypeId) (zs : List (A5 V.E)) : Prop :=
 ∀ (bx : List (Nat × Box V.E)) (β : Nat -> BI) (ok : Nat -> Prop) (w' : World) (l m : List (A5 V.E)) (b : Bool) (c1 c2 c3 e1 e2 e3 : List Value), He zs l = true -> eqL V l m = some b ->
   Bj (Ak V.T bx β ok w') l c2 -> Bj (Ak V.T bx β ok w') m e2 -> c1.length = e1.length -> ∀ w : World, ∃ x y,
     (Go.part t (c1 ++ c2 ++ c3).toArray c1.length).run P w = .ok x w /\ (Go.part t (e1 ++ e2 ++ e3).toArray c1.length).run P w = .ok y w /\ (Op.equalIn D t x y).run P w = .ok b w
theorem Tu {D : Nat} {ok : TypeId -> List (A5 V.E) -> Bool} (hok : ∀ t info zs, P.info? t = some info -> zs.length = info.size -> ok t zs = true -> A8r P V D t zs)
   (bx : List (Nat × Box V.E)) (β : Nat -> BI) (okp : Nat -> Prop) (w' : World) : ∀ (fs : List Field) (off : Nat) (zs : List (A5 V.E)), Q8 P ok fs off zs = true -> ∀ (l m : List (A5 V.E)) (b : Bool) (c1 c2 e1 e2 : List Value), c1.length = off -> e1.length = off -> He zs l = true -> eqL V l m = some b ->
     Bj (Ak V.T bx β okp w') l c2 -> Bj (Ak V.T bx β okp w') m e2 -> ∀ w : World, (Op.eqFields D (c1 ++ c2).toArray (e1 ++ e2).toArray fs).run P w = .ok b w
 | [], off, zs, h, l, m, b, c1, c2, e1, e2, h1, h2, h3, hb, r1, r2, w => by
   simp only [Q8, List.isEmpty_iff] at h
   subst h
   have hl : l = [] := by have := Fu h3; cases l <;> simp_all
   subst hl
   cases m with
   | nil => simp [eqL] at hb; subst hb; simp [Op.eqFields]
   | cons c m => simp [eqL] at hb
 | f :: fs, off, zs, h, l, m, b, c1, c2, e1, e2, h1, h2, h3, hb, r1, r2, w => by
   simp only [Q8, Bool.and_eq_true, bne_iff_ne, ne_eq] at h
   obtain ⟨⟨hname, hoff⟩, h⟩ := h
   split at h
   · rename_i info hinf
     simp only [Bool.and_eq_true] at h
     obtain ⟨⟨hle, hokf⟩, hrest⟩ := h
     have hle := Nat.le_of_ble_eq_true hle
     have hoff := Ap hoff
     have hll := Fu h3
     obtain ⟨k1, k2⟩ := Nm info.size h3
     have hsplit : l = l.take info.size ++ l.drop info.size := (List.take_append_drop _ _).symm
     rw [hsplit] at hb r1
     obtain ⟨m1, m2, b1, b2, rfl, hm1, hb1, hb2, rfl⟩ := Pp hb
     obtain ⟨p1, p2, rfl, s1, s2⟩ := r1.split
     obtain ⟨q1, q2, rfl, u1, u2⟩ := r2.split
     have hlen : (l.take info.size).length = info.size := by simp; omega
     obtain ⟨x, y, g1, g2, g3⟩ := hok f.type info _ hinf (by simp; omega) hokf bx β okp w' _ _ _ c1 p1 p2 e1 q1 q2 k1 hb1 s1 u1 (by rw [h1, h2]) w
     have IH := Tu hok bx β okp w' fs (off + info.size) _ hrest (l.drop info.size) m2 b2 (c1 ++ p1) p2 (e1 ++ q1) q2 (by rw [List.length_append, h1, <- s1.length, hlen]) (by rw [List.length_append, h2, <- u1.length, hm1, hlen]) k2 hb2 s2 u2 w
     rw [List.append_assoc] at g1 g2
     rw [h1] at g1 g2
     simp only [Op.eqFields, if_pos hname, Sem.run_bind, hoff, g1, g2, g3, Result.andThen_ok, Sem.run_ite, Sem.run_pure]
     cases b1
     · simp
     · rw [List.append_assoc, List.append_assoc] at IH
       simpa using IH
   · cases h
theorem Lo (c1 c2 c3 : List Value) : (c1 ++ c2 ++ c3).toArray.extract c1.length (c1.length + c2.length) = c2.toArray := by
 apply Array.ext'
 rw [Array.toList_extract]
 simp [List.extract]
theorem Ai0 : ∀ (d D : Nat), d <= D -> ∀ (t : TypeId) (zs : List (A5 V.E)) (info : TypeInfo), P.info? t = some info -> zs.length = info.size -> eqB P d t zs = true -> A8r P V D t zs
 | 0, _, _, _, _, _, _, _, h => by simp [eqB] at h
 | d + 1, D, hD, t, zs, info, hinf, hn, h => by
   obtain ⟨D, rfl⟩ : ∃ D', D = D' + 1 := ⟨D - 1, by omega⟩
   intro bx β okp w' l m b c1 c2 c3 e1 e2 e3 hl hb r1 r2 hce w
   have getc : ∀ (c1 c3 : List Value) (v : Value), (c1 ++ [v] ++ c3).toArray[c1.length]? = some v := by
     intro c1 c3 v; simp
   unfold eqB at h
   split at h
   · rename_i k k' z hu
     match l, hl with
     | [.int k1 a], hl =>
       match m, hb with
       | [.int k2 a'], hb =>
         simp only [eqL] at hb
         split at hb
         · rename_i hk
           subst hk
           cases r1 with
           | cons q1 t1 =>
             cases t1
             cases r2 with
             | cons q2 t2 =>
               cases t2
               simp only [Ak] at q1 q2
               subst q1; subst q2
               refine ⟨_, _, Gw hu (.inl ⟨_, rfl⟩) (getc _ _ _) w, Gw hu (.inl ⟨_, rfl⟩) (by rw [hce]; exact getc _ _ _) w, ?_⟩
               rw [run_equalIn_int w D t k1 k a a' hu]
               simp only [Option.map_some, Bool.and_true, Option.some.injEq] at hb
               rw [<- hb]
               congr 1
         · cases hb
       | [], hb => simp [eqL] at hb
       | .int _ _ :: _ :: _, hb => simp only [eqL] at hb; split at hb <;> simp at hb
     | .int _ _ :: x :: _, hl => cases x <;> simp [He] at hl
   · rename_i z hu
     match l, hl with
     | [.bool a], hl =>
       match m, hb with
       | [.bool a'], hb =>
         cases r1 with
         | cons q1 t1 =>
           cases t1
           cases r2 with
           | cons q2 t2 =>
             cases t2
             simp only [Ak] at q1 q2
             subst q1; subst q2
             refine ⟨_, _, Gw hu (.inr (.inl rfl)) (getc _ _ _) w, Gw hu (.inr (.inl rfl)) (by rw [hce]; exact getc _ _ _) w, ?_⟩
             rw [run_equalIn_bool' w D t a a' hu]
             simp [eqL] at hb
             rw [<- hb]
       | [], hb => simp [eqL] at hb
       | .bool _ :: _ :: _, hb => simp [eqL] at hb
   · rename_i z hu
     match l, hl with
     | [.str a], hl =>
       match m, hb with
       | [.str a'], hb =>
         cases r1 with
         | cons q1 t1 =>
           cases t1
           cases r2 with
           | cons q2 t2 =>
             cases t2
             simp only [Ak] at q1 q2
             subst q1; subst q2
             refine ⟨_, _, Gw hu (.inr (.inr rfl)) (getc _ _ _) w, Gw hu (.inr (.inr rfl)) (by rw [hce]; exact getc _ _ _) w, ?_⟩
             rw [run_equalIn_string w D t _ _ hu]
             simp [eqL] at hb
             rw [<- hb]
             simp only [ByteArray.toList_eq]
             by_cases e : a = a'
             · subst e; simp
             · simp [e]
       | [], hb => simp [eqL] at hb
       | .str _ :: _ :: _, hb => simp [eqL] at hb
   · rename_i fs hu
     simp only [Bool.and_eq_true, Bool.not_eq_true'] at h
     obtain ⟨⟨hs, hf⟩, _⟩ := h
     have hll := Fu hl
     have hc2 : c2.length = info.size := by rw [<- r1.length, hll, hn]
     have hml : e2.length = info.size := by
       have : l = l ++ [] := by simp
       rw [this] at hb
       obtain ⟨m1, m2, b1, b2, rfl, hm1, _, hb2, _⟩ := Pp hb
       have : m2 = [] := by cases m2 <;> simp [eqL] at hb2 <;> rfl
       subst this
       rw [<- r2.length]; simp; omega
     have hfo : P.fieldsOf t = fs := by simp [Program.fieldsOf, hu]
     refine ⟨.agg c2.toArray, .agg e2.toArray, ?_, ?_, ?_⟩
     · rw [M0 hinf hu, <- hc2, Lo]
     · rw [M0 hinf hu, hce, <- hml, Lo]
     · rw [run_equalIn_agg w D t _ _ (by rw [hfo]; exact hu) hs, hfo]
       have := Tu (V := V) (P := P) (D := D) (ok := eqB P d) (λ t info zs hi hz hk => Ai0 d D (by omega) t zs info hi hz hk) bx β okp w' fs.toList 0 _ hf l m b [] c2 [] e2 rfl rfl hl hb r1 r2 w
       simpa using this
   · cases h
theorem Aqw (HE : Sg V P) {es : List TypeId} (hes : V.eqs = λ t => Lr t es) (h : (es.all λ t => match V.ti t with | some i => eqB P 100 t i.zero && !P.eqGuardType P.depth t && i.kind.agg | none => false) = true) : Akn V P := by
 intro t ht i hi bx β ok w' l m b c d hl hb r1 r2 x y w op hop
 rw [hes] at ht
 have := List.all_eq_true.1 h t (Ada ht)
 rw [hi] at this
 simp only [Bool.and_eq_true, Bool.not_eq_true'] at this
 obtain ⟨⟨h1, h2⟩, h3⟩ := this
 obtain ⟨info, dd, z, I⟩ := HE t i hi
 refine ⟨run_eqGuard_agg w op t x y c d h2, ?_⟩
 have hz : i.zero.length = info.size := by
   have := (Pm (T := V.T) (bx := bx) (β := β) (ok := ok) (w := w') I.zeros).length
   rw [this, I.size, <- I.zcells]; simp
 obtain ⟨xx, yy, g1, g2, g3⟩ := Ai0 (V := V) (P := P) 100 10000 (by omega) t i.zero info I.inf hz h1 bx β ok w' l m b [] c.toList [] [] d.toList [] hl hb r1 r2 rfl w
 have hk := I.kind
 have hu := I.under
 cases dd <;> cases hik : i.kind <;> rw [hik] at hk h3 <;> simp [F1] at hk <;> simp [TK.agg] at h3
 · exfalso
   unfold eqB at h1
   rw [hu] at h1
   simp at h1
 · have hc : c.toList.length = info.size := by rw [<- r1.length, Fu hl, hz]
   have hd : d.toList.length = info.size := by
     have e : l = l ++ [] := by simp
     rw [e] at hb
     obtain ⟨m1, m2, b1, b2, rfl, hm1, _, hb2, _⟩ := Pp hb
     have : m2 = [] := by cases m2 <;> simp [eqL] at hb2 <;> rfl
     subst this
     rw [<- r2.length]; simp; rw [hm1, Fu hl, hz]
   rw [M0 I.inf hu] at g1 g2
   have e1 := Lo [] c.toList []
   have e2 := Lo [] d.toList []
   rw [hc] at e1; rw [hd] at e2
   rw [e1] at g1; rw [e2] at g2
   cases g1; cases g2
   simpa [Op.equal, Op.maxDepth] using g3
end
set_option linter.unusedVariables false
@[reducible] def yaE : Nat -> Type
 | 0 => A7
 | 1 => Aq
 | 2 => Ah
 | 3 => A6
 | 4 => Aj
 | 5 => QmM
 | 6 => Af
 | 7 => Ag
 | _ => Unit
def V7 (z : A7) : List AV := [.int .i64 z.N] ++ ([.int .i64 z.D])
def Gn (z : A7) : List (A5 yaE) := [.int .i64 z.N] ++ ([.int .i64 z.D])
def O5 : Prs yaE A7 := Xq (Sj (Aad .i64) (Aad .i64)) λ x => ⟨x.1, x.2⟩
theorem Kw : Prs.Spec O5 Gn := H9 (Fp (Ir _) ((Ir _))) _ _ λ _ => rfl
def Acm (z : Aq) : List AV := [.int .i64 z.A] ++ ([.int .i64 z.B] ++ (V7 z.R ++ (V7 z.E)))
def Qu (z : Aq) : List (A5 yaE) := [.int .i64 z.A] ++ ([.int .i64 z.B] ++ (Gn z.R ++ (Gn z.E)))
def Y2 : Prs yaE Aq := Xq (Sj (Aad .i64) (Sj (Aad .i64) (Sj (O5) (O5)))) λ x => ⟨x.1, x.2.1, x.2.2.1, x.2.2.2⟩
theorem Wk : Prs.Spec Y2 Qu := H9 (Fp (Ir _) (Fp (Ir _) (Fp Kw (Kw)))) _ _ λ _ => rfl
def Ana (z : Ah) : List AV := [.int .i64 z.Nodes] ++ ([.sl 6 false (List.map (λ z => AV.ag (Acm z)) z.Arms)])
def Ce (z : Ah) : List (A5 yaE) := [.int .i64 z.Nodes] ++ ([.sl (.nm 1) false z.Arms])
def Wl : Prs yaE Ah := Xq (Sj (Aad .i64) (pSl (.nm 1) false)) λ x => ⟨x.1, x.2⟩
theorem Ua : Prs.Spec Wl Ce := H9 (Fp (Ir _) ((R9 _ _))) _ _ λ _ => rfl
def Afa (z : A6) : List AV := [.int .i64 z.v] ++ ([.sl 1 true (List.map (λ n => AV.int .u32 n) z.m)] ++ ([.bool z.neg]))
def Cs (z : A6) : List (A5 yaE) := [.int .i64 z.v] ++ ([.sl (.int .u32) true z.m] ++ ([.bool z.neg]))
def Uo : Prs yaE A6 := Xq (Sj (Aad .i64) (Sj (pSl (.int .u32) true) (Aj3))) λ x => ⟨x.1, x.2.1, x.2.2⟩
theorem Nh : Prs.Spec Uo Cs := H9 (Fp (Ir _) (Fp (R9 _ _) (W6))) _ _ λ _ => rfl
def Ard (z : Aj) : List AV := Afa z.N ++ (Afa z.D)
def Dy (z : Aj) : List (A5 yaE) := Cs z.N ++ (Cs z.D)
def Aju : Prs yaE Aj := Xq (Sj (Uo) (Uo)) λ x => ⟨x.1, x.2⟩
theorem Acd : Prs.Spec Aju Dy := H9 (Fp Nh (Nh)) _ _ λ _ => rfl
def A8x (z : QmM) : List AV := [.int .i64 z.C] ++ ([.sl 1 false (List.map (λ xs => AV.sl 6 false (List.map (λ z => AV.ag (Ard z)) xs)) z.V)])
def Js (z : QmM) : List (A5 yaE) := [.int .i64 z.C] ++ ([.sl (.sl (.nm 4)) false z.V])
def Apb : Prs yaE QmM := Xq (Sj (Aad .i64) (pSl (.sl (.nm 4)) false)) λ x => ⟨x.1, x.2⟩
theorem Ac4 : Prs.Spec Apb Js := H9 (Fp (Ir _) ((R9 _ _))) _ _ λ _ => rfl
def Gm (z : Af) : List AV := [.sl 1 false (List.map (λ n => AV.int .u32 n) z.d)] ++ ([.bool z.minus])
def Bf (z : Af) : List (A5 yaE) := [.sl (.int .u32) false z.d] ++ ([.bool z.minus])
def E5 : Prs yaE Af := Xq (Sj (pSl (.int .u32) false) (Aj3)) λ x => ⟨x.1, x.2⟩
theorem E3 : Prs.Spec E5 Bf := H9 (Fp (R9 _ _) (W6)) _ _ λ _ => rfl
def Ti (z : Ag) : List AV := Gm z.n ++ (Gm z.d)
def Bw (z : Ag) : List (A5 yaE) := Bf z.n ++ (Bf z.d)
def Lp : Prs yaE Ag := Xq (Sj (E5) (E5)) λ x => ⟨x.1, x.2⟩
theorem M7 : Prs.Spec Lp Bw := H9 (Fp E3 (E3)) _ _ λ _ => rfl
@[reducible] def yaT : Tab where
 E := yaE
 sz := λ n => match n with
   | 0 => 2
   | 1 => 6
   | 2 => 2
   | 3 => 3
   | 4 => 6
   | 5 => 2
   | 6 => 2
   | 7 => 4
   | _ => 0
 df := λ n => match n with
   | 0 => C0
   | 1 => Aa
   | 2 => An6
   | 3 => Ary
   | 4 => Ba
   | 5 => Bd7
   | 6 => G7
   | 7 => Bt
   | _ + 8 => ()
 toL := λ n => match n with
   | 0 => Gn
   | 1 => Qu
   | 2 => Ce
   | 3 => Cs
   | 4 => Dy
   | 5 => Js
   | 6 => Bf
   | 7 => Bw
   | _ + 8 => λ _ => []
 ofL := λ n => match n with
   | 0 => X6 O5
   | 1 => X6 Y2
   | 2 => X6 Wl
   | 3 => X6 Uo
   | 4 => X6 Aju
   | 5 => X6 Apb
   | 6 => X6 E5
   | 7 => X6 Lp
   | _ + 8 => λ _ => none
 av := λ n => match n with
   | 0 => V7
   | 1 => Acm
   | 2 => Ana
   | 3 => Afa
   | 4 => Ard
   | 5 => A8x
   | 6 => Gm
   | 7 => Ti
   | _ + 8 => λ _ => []
theorem Agk : Tab.Ok yaT where
 av := λ n => match n with
   | 0 => λ _ => rfl
   | 1 => λ _ => rfl
   | 2 => λ _ => rfl
   | 3 => λ _ => rfl
   | 4 => λ _ => rfl
   | 5 => λ _ => rfl
   | 6 => λ _ => rfl
   | 7 => λ _ => rfl
   | _ + 8 => λ _ => rfl
 len := λ n => match n with
   | 0 => λ _ => rfl
   | 1 => λ _ => rfl
   | 2 => λ _ => rfl
   | 3 => λ _ => rfl
   | 4 => λ _ => rfl
   | 5 => λ _ => rfl
   | 6 => λ _ => rfl
   | 7 => λ _ => rfl
   | _ + 8 => λ _ => rfl
 ofL := λ n => match n with
   | 0 => λ ls x h => Ji Kw h
   | 1 => λ ls x h => Ji Wk h
   | 2 => λ ls x h => Ji Ua h
   | 3 => λ ls x h => Ji Nh h
   | 4 => λ ls x h => Ji Acd h
   | 5 => λ ls x h => Ji Ac4 h
   | 6 => λ ls x h => Ji E3 h
   | 7 => λ ls x h => Ji M7 h
   | _ + 8 => λ ls x h => by cases h
def Agu : List (TypeId × TI yaE) := [
 (2, ⟨.int .i64, 1, 8, [.int .i64 (0 : Int)], (.int .i64)⟩),
 (3, ⟨.int .i64, 1, 8, [.int .i64 (0 : Int)], (.int .i64)⟩),
 (4, ⟨.bool, 1, 1, [.bool false], .bool⟩),
 (5, ⟨.int .u8, 1, 1, [.int .u8 (0 : Int)], (.int .u8)⟩),
 (9, ⟨.str, 1, 16, [.str ([] : List UInt8)], .str⟩),
 (22, ⟨.slice 28, 1, 24, [.sl (.nm 1) true []], (.sl (.nm 1))⟩),
 (24, ⟨.struct [(0, 3), (1, 22)], 2, 32, [.int .i64 (0 : Int), .sl (.nm 1) true []], (.nm 2)⟩),
 (26, ⟨.struct [(0, 3), (1, 3)], 2, 16, [.int .i64 (0 : Int), .int .i64 (0 : Int)], (.nm 0)⟩),
 (28, ⟨.struct [(0, 3), (1, 3), (2, 26), (4, 26)], 6, 48, [.int .i64 (0 : Int), .int .i64 (0 : Int), .int .i64 (0 : Int), .int .i64 (0 : Int), .int .i64 (0 : Int), .int .i64 (0 : Int)], (.nm 1)⟩),
 (41, ⟨.slice 26, 1, 24, [.sl (.nm 0) true []], (.sl (.nm 0))⟩),
 (46, ⟨.slice 3, 1, 24, [.sl (.int .i64) true []], (.sl (.int .i64))⟩),
 (48, ⟨.slice 53, 1, 24, [.sl (.nm 4) true []], (.sl (.nm 4))⟩),
 (49, ⟨.slice 115, 1, 24, [.sl (.int .u32) true []], (.sl (.int .u32))⟩),
 (51, ⟨.struct [(0, 2), (1, 49), (2, 4)], 3, 40, [.int .i64 (0 : Int), .sl (.int .u32) true [], .bool false], (.nm 3)⟩),
 (53, ⟨.struct [(0, 51), (3, 51)], 6, 80, [.int .i64 (0 : Int), .sl (.int .u32) true [], .bool false, .int .i64 (0 : Int), .sl (.int .u32) true [], .bool false], (.nm 4)⟩),
 (58, ⟨.slice 48, 1, 24, [.sl (.sl (.nm 4)) true []], (.sl (.sl (.nm 4)))⟩),
 (60, ⟨.struct [(0, 3), (1, 58)], 2, 32, [.int .i64 (0 : Int), .sl (.sl (.nm 4)) true []], (.nm 5)⟩),
 (64, ⟨.struct [(0, 49), (1, 4)], 2, 32, [.sl (.int .u32) true [], .bool false], (.nm 6)⟩),
 (66, ⟨.struct [(0, 64), (2, 64)], 4, 64, [.sl (.int .u32) true [], .bool false, .sl (.int .u32) true [], .bool false], (.nm 7)⟩),
 (72, ⟨.slice 66, 1, 24, [.sl (.nm 7) true []], (.sl (.nm 7))⟩),
 (112, ⟨.int .u64, 1, 8, [.int .u64 (0 : Int)], (.int .u64)⟩),
 (115, ⟨.int .u32, 1, 4, [.int .u32 (0 : Int)], (.int .u32)⟩),
 (116, ⟨.int .u64, 1, 8, [.int .u64 (0 : Int)], (.int .u64)⟩),
 (126, ⟨.slice 4, 1, 24, [.sl .bool true []], (.sl .bool)⟩)]
def T6 : TypeId -> Option (TI yaE) := λ t => A3 t Agu
def Nx : TypeId -> Bool := λ t => Lr t [26, 28]
theorem Ap4 : A3k yaT T6 Nx Go.Proofs.Try.prog where
 tab := Agk
 types := Acs Agu rfl (by kernel_rfl)
 eqs := Aqw (V := Vz yaT T6 Nx []) (Acs Agu rfl (by kernel_rfl)) rfl (by kernel_rfl)
 mixed := by kernel_rfl
abbrev ST := Ab.St yaE
abbrev MT := Abc yaT T6 Nx Go.Proofs.Try.prog
abbrev EV := A1o yaT T6 Nx
abbrev EC := Auk yaT T6 Nx
abbrev MCT := Abi yaT T6 Nx Go.Proofs.Try.prog
theorem GC {fs : List (FuncId × FS yaE)} {ws : List (FuncId × FW yaE)} {cs : List (FuncId × FC yaE)} {t0 : Bool} (h : Pt yaT T6 Nx Go.Proofs.Try.prog fs) (hw : Mg yaT T6 Nx Go.Proofs.Try.prog ws) (hc : Rc yaT T6 Nx Go.Proofs.Try.prog cs) : Ay (EC fs ws cs t0) Go.Proofs.Try.prog := Add Ap4 h hw hc
theorem GB {fs : List (FuncId × FS yaE)} {ws : List (FuncId × FW yaE)} {t0 : Bool} (h : Pt yaT T6 Nx Go.Proofs.Try.prog fs) (hw : Mg yaT T6 Nx Go.Proofs.Try.prog ws) : Ay (EV fs ws t0) Go.Proofs.Try.prog := Aqx Ap4 h hw
end Go.Ab
