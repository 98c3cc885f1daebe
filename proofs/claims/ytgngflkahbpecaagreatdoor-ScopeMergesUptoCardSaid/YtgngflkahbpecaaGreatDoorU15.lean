/- Functions of Go's library, told ahead for closed running: what they return at texts. Functions of a text with a bool: what they are told, as calls, and back. What the functions compute, as plain functions. Conditions: none beyond those that each theorem names. -/
import Derived.Test.YtgngflkahbpecaaGreatDoorU14
import Derived.Lib.Bytealg
import Derived.Lib.IndexAny
import Derived.Laws.RangeString
import Derived.Test.YtgngflkahbpecaaGreatDoorU10
import Derived.Laws.AppendOwn
namespace Go.Ab
open Go
section
variable {T : Tab} {P : Program} {f : FuncId}
theorem all2_one {α β : Type} {R : α → β → Prop} {x : α} {l : List β} (h : All2 R [x] l) : ∃ v, l = [v] ∧ R x v := by
  cases h with
  | cons h1 h2 => cases h2; exact ⟨_, rfl, h1⟩
theorem all2_two {α β : Type} {R : α → β → Prop} {x y : α} {l : List β} (h : All2 R [x, y] l) : ∃ v u, l = [v, u] ∧ R x v ∧ R y u := by
  cases h with
  | cons h1 h2 => obtain ⟨u, rfl, h3⟩ := all2_one h2; exact ⟨_, _, rfl, h1, h3⟩
theorem meetsL_int {S : FL T.E} (hf : ∃ fn, P.funcs[f]? = some fn ∧ fn.body.isSome = true ∧ (fn.name == "runtime.NumGoroutine") = false)
    (h : ∀ lo args bx res bx', S.g lo args bx = some (res, bx') → bx' = bx ∧ ∃ n : Int, res = [.one (.int .i64 n)] ∧ ∀ (bx : List (Nat × Box T.E)) (β : Nat → BI) (ok : Nat → Prop) (w : World) (vs : List Value), All2 (CVRep T bx β ok w) args vs →
      Calls P f vs.toArray w fun e w' => e = .returned (.int .i64 n) ∧ Grow w w') : MeetsL T P f S := by
  refine ⟨hf, fun lo args bx res bx' hg C β w vs kx kv M ha hk => ?_⟩
  obtain ⟨rfl, n, rfl, hc⟩ := h lo args bx res bx' hg
  refine (hc _ _ _ _ _ ha).mono ?_
  rintro e w' ⟨rfl, G⟩
  obtain ⟨M', X⟩ := M.grow G
  exact ⟨β, [.int .i64 n], rfl, M', .cons rfl .nil, hk.imp fun _ _ k => SVRep.ext X k⟩
def cntB (c : UInt8) : List UInt8 → Nat
  | [] => 0
  | x :: r => match Nat.beq x.toNat c.toNat with | true => cntB c r + 1 | false => cntB c r
theorem u8_beq (a b : UInt8) : Nat.beq a.toNat b.toNat = (a == b) := by
  by_cases h : a = b
  · subst h; simp
  · have h2 : (a == b) = false := by simpa using h
    rw [h2]
    cases h3 : Nat.beq a.toNat b.toNat with
    | false => rfl
    | true => exact absurd (UInt8.toNat_inj.1 (Nat.eq_of_beq_eq_true h3)) h
theorem cntB_eq (c : UInt8) : ∀ l, cntB c l = Lib.countByte l c
  | [] => rfl
  | x :: r => by
    have ih := cntB_eq c r
    rw [cntB, u8_beq]
    unfold Lib.countByte at *
    rw [List.count_cons, ih]
    cases x == c <;> simp
def idxB (c : UInt8) : List UInt8 → Nat → Int
  | [], _ => -1
  | x :: r, i => match Nat.beq x.toNat c.toNat with | true => (i : Int) | false => idxB c r (i + 1)
theorem idxB_eq (c : UInt8) : ∀ (l : List UInt8) (i : Nat), idxB c l i = if Lib.indexByte l c == -1 then -1 else Lib.indexByte l c + i
  | [], i => rfl
  | x :: r, i => by
    have ih := idxB_eq c r (i + 1)
    have hg := Lib.indexByte_ge r c
    rw [idxB, u8_beq, Lib.indexByte]
    cases hx : x == c with
    | true => simp
    | false =>
      simp only [Bool.false_eq_true, if_false]
      rw [ih]
      by_cases h : Lib.indexByte r c = -1
      · simp [h]
      · have h2 : (Lib.indexByte r c == -1) = false := by simpa using h
        have h3 : (Lib.indexByte r c + 1 == -1) = false := by simpa using (by omega : ¬ Lib.indexByte r c + 1 = -1)
        rw [h2]; simp only [Bool.false_eq_true, if_false, h3]; omega
theorem idxB_zero (c : UInt8) (l : List UInt8) : idxB c l 0 = Lib.indexByte l c := by
  rw [idxB_eq]
  by_cases h : Lib.indexByte l c = -1
  · simp [h]
  · have h2 : (Lib.indexByte l c == -1) = false := by simpa using h
    rw [h2]; simp
def flCnt (E : Nat → Type) : FL E := ⟨fun _ args bx => match args with
  | [.one (.str s), .one (.str [c])] => some ([.one (.int .i64 (cntB c s))], bx)
  | _ => none⟩
def flIdx (E : Nat → Type) : FL E := ⟨fun _ args bx => match args with
  | [.one (.str s), .one (.int .u8 c)] => some ([.one (.int .i64 (idxB (UInt8.ofNat c.toNat) s 0))], bx)
  | _ => none⟩
def flAny (E : Nat → Type) : FL E := ⟨fun _ args bx => match args with
  | [.one (.str []), .one (.str (_ :: _ :: _))] => some ([.one (.int .i64 (-1))], bx)
  | _ => none⟩
theorem flCnt_ok (hf : ∃ fn, P.funcs[f]? = some fn ∧ fn.body.isSome = true ∧ (fn.name == "runtime.NumGoroutine") = false)
    (h : ∀ (s : ByteArray) (c : UInt8) (w : World), Calls P f #[.string s, .string ⟨#[c]⟩] w fun e w' => e = .returned (.int .i64 (Lib.countByte s.data.toList c)) ∧ w' = w) : MeetsL T P f (flCnt T.E) := by
  refine meetsL_int hf fun lo args bx res bx' hg => ?_
  simp only [flCnt] at hg
  split at hg
  · rename_i s c
    cases hg
    refine ⟨rfl, _, rfl, fun bx β ok w vs ha => ?_⟩
    obtain ⟨v, u, rfl, h1, h2⟩ := all2_two ha
    have h1 : v = .string ⟨s.toArray⟩ := h1
    have h2 : u = .string ⟨#[c]⟩ := h2
    subst h1 h2
    refine (h ⟨s.toArray⟩ c w).mono ?_
    rintro e w' ⟨rfl, rfl⟩
    exact ⟨by rw [cntB_eq], Grow.refl _⟩
  · cases hg
theorem flIdx_ok (hf : ∃ fn, P.funcs[f]? = some fn ∧ fn.body.isSome = true ∧ (fn.name == "runtime.NumGoroutine") = false)
    (h : ∀ (s : ByteArray) (c : Int) (w : World), Calls P f #[.string s, .int .u8 c] w fun e w' => e = .returned (.int .i64 (Lib.indexByte s.data.toList c.toNat.toUInt8)) ∧ w' = w) : MeetsL T P f (flIdx T.E) := by
  refine meetsL_int hf fun lo args bx res bx' hg => ?_
  simp only [flIdx] at hg
  split at hg
  · rename_i s c
    cases hg
    refine ⟨rfl, _, rfl, fun bx β ok w vs ha => ?_⟩
    obtain ⟨v, u, rfl, h1, h2⟩ := all2_two ha
    have h1 : v = .string ⟨s.toArray⟩ := h1
    have h2 : u = .int .u8 c := h2
    subst h1 h2
    refine (h ⟨s.toArray⟩ c w).mono ?_
    rintro e w' ⟨rfl, rfl⟩
    exact ⟨by rw [idxB_zero], Grow.refl _⟩
  · cases hg
theorem flAny_ok (hf : ∃ fn, P.funcs[f]? = some fn ∧ fn.body.isSome = true ∧ (fn.name == "runtime.NumGoroutine") = false)
    (h : ∀ (s chars : ByteArray) (w : World), 2 ≤ chars.size → s.size ≤ 8 → (∀ (j : Nat) b, s.data.toList[j]? = some b → b.toNat < 128) → Calls P f #[.string s, .string chars] w fun e w' => e = .returned (.int .i64 (Lib.indexAny s.data.toList chars.data.toList)) ∧ ∃ pos, w' = w.iter s pos) : MeetsL T P f (flAny T.E) := by
  refine meetsL_int hf fun lo args bx res bx' hg => ?_
  simp only [flAny] at hg
  split at hg
  · rename_i a b r
    cases hg
    refine ⟨rfl, _, rfl, fun bx β ok w vs ha => ?_⟩
    obtain ⟨v, u, rfl, h1, h2⟩ := all2_two ha
    have h1 : v = .string ⟨#[]⟩ := h1
    have h2 : u = .string ⟨(a :: b :: r).toArray⟩ := h2
    subst h1 h2
    refine (h ⟨#[]⟩ ⟨(a :: b :: r).toArray⟩ w (by simp [ByteArray.size]) (by simp [ByteArray.size]) (by intro j b hb; simp at hb)).mono ?_
    rintro e w' ⟨rfl, pos, rfl⟩
    exact ⟨rfl, Grow.alloc _ _⟩
  · cases hg
end
end Go.Ab
namespace Go.Ab
open Go
section
variable {T : Tab} {ti : TypeId → Option (TI T.E)} {eqs : TypeId → Bool} {P : Program} {f : FuncId} {g : List UInt8 → Option Bool}
theorem strBool_of (h : MeetsT T ti eqs P f (f1 [.str] .bool fun x => g x.1)) (s : List UInt8) (b : Bool) (w : World) (hg : g s = some b) :
    Calls P f #[.string ⟨s.toArray⟩] w fun e w' => e = .returned (.bool b) ∧ w.grownBy w' none := by
  have hS : (f1 (E := T.E) [.str] .bool fun x => g x.1).f (s, ()) = some (b, ()) := by
    show Option.map _ (g s) = _
    rw [hg]; rfl
  refine (h.2 (s, ()) (b, ()) hS (fun _ => False) w [.string ⟨s.toArray⟩] [] ⟨_, [], [], [], rfl, rfl, ?_, rfl, rfl⟩ List.nodup_nil (fun _ h => by simp at h) (fun _ h => h.elim)).mono ?_
  · exact .data rfl
  · rintro e w' ⟨rs, own', rfl, hb, _, _, hr⟩
    obtain ⟨v, vr, o1, o2, rfl, _, ⟨ls, hl, hv⟩, rfl, _⟩ := hr
    have hl : OwnLeaves T _ w' [] [Leaf.bool b] ls o1 := hl
    cases hl with
    | more h1 h2 =>
      cases h2
      have h1 := h1 [] β0
      simp only [LeafRep] at h1
      subst h1
      have hv : [Value.bool b] = [v] := hv
      cases hv
      exact ⟨rfl, hb.os, hb.tape, hb.output, hb.size, fun k hk _ => hb.heap k hk (by simp)⟩
theorem of_strBool (hf : ∃ fn, P.funcs[f]? = some fn ∧ fn.body.isSome = true ∧ (fn.name == "runtime.NumGoroutine") = false)
    (h : ∀ s b w, g s = some b → Calls P f #[.string ⟨s.toArray⟩] w fun e w' => e = .returned (.bool b) ∧ w.grownBy w' none) : MeetsT T ti eqs P f (f1 [.str] .bool fun x => g x.1) := by
  refine ⟨hf, fun x y hxy okp w vs own hargs hnd hown hokp => ?_⟩
  obtain ⟨s, u⟩ := x
  have hxy : Option.map (fun r => (r, ())) (g s) = some y := hxy
  obtain ⟨b, hb, rfl⟩ := Option.map_eq_some_iff.1 hxy
  obtain ⟨v, vr, o1, o2, rfl, rfl, ha, rfl, rfl⟩ := hargs
  have ha : ArgRep T okp w 0 .str s v o1 := ha
  cases ha with
  | data hd =>
    have hd : [v] = [Value.string ⟨s.toArray⟩] := hd
    cases hd
    refine (h s b w hb).mono ?_
    rintro e w' ⟨rfl, hg⟩
    refine ⟨[.bool b], [], rfl, ⟨hg.os, hg.tape, hg.output, hg.size, fun k hk _ => hg.block k hk (by simp)⟩, List.nodup_nil, fun _ h => by simp at h, _, _, [], [], rfl, rfl, ?_, rfl, rfl⟩
    exact ⟨[.bool b], .more (fun bx β => rfl) .nil, rfl⟩
end
end Go.Ab
namespace Go.Ab
open Go
set_option linter.unusedVariables false
structure ApiRat where
  N : Int
  D : Int
def ApiRatZ : ApiRat := ⟨(0 : Int), (0 : Int)⟩
structure ApiExpr where
  Op : Int
  Name : List UInt8
  N : ApiRat
  Kids : List ApiExpr
def ApiExprZ : ApiExpr := ⟨(0 : Int), ([] : (List UInt8)), (ApiRatZ), ([] : (List ApiExpr))⟩
def ApiExprEta (z : ApiExpr) : ApiExpr := ⟨z.Op, z.Name, z.N, z.Kids⟩
theorem ApiExprEta_eq (z : ApiExpr) : ApiExprEta z = z := by cases z; rfl
structure ApiMod where
  Path : List UInt8
  Type_ : List UInt8
  Value : ApiExpr
def ApiModZ : ApiMod := ⟨([] : (List UInt8)), ([] : (List UInt8)), (ApiExprZ)⟩
def ApiModEta (z : ApiMod) : ApiMod := ⟨z.Path, z.Type_, ApiExprEta z.Value⟩
theorem ApiModEta_eq (z : ApiMod) : ApiModEta z = z := by cases z; simp only [ApiModEta, ApiExprEta_eq]
structure ApiBase where
  Name : List UInt8
  Mods : List ApiMod
def ApiBaseZ : ApiBase := ⟨([] : (List UInt8)), ([] : (List ApiMod))⟩
structure ApiComp where
  Name : List UInt8
  Type_ : List UInt8
  Var : Int
  Flow : Bool
  Size : Int
  Scope : Int
  Replace : Bool
  Cond : ApiExpr
  Value : ApiExpr
  Unit : List UInt8
  Mods : List ApiMod
def ApiCompZ : ApiComp := ⟨([] : (List UInt8)), ([] : (List UInt8)), (0 : Int), false, (0 : Int), (0 : Int), false, (ApiExprZ), (ApiExprZ), ([] : (List UInt8)), ([] : (List ApiMod))⟩
structure ApiEq where
  Init : Bool
  L : ApiExpr
  R : ApiExpr
def ApiEqZ : ApiEq := ⟨false, (ApiExprZ), (ApiExprZ)⟩
structure ApiLink where
  A : List UInt8
  B : List UInt8
  In : List UInt8
def ApiLinkZ : ApiLink := ⟨([] : (List UInt8)), ([] : (List UInt8)), ([] : (List UInt8))⟩
structure ApiSet where
  Name : List UInt8
  E : ApiExpr
def ApiSetZ : ApiSet := ⟨([] : (List UInt8)), (ApiExprZ)⟩
structure ApiWhen where
  C : ApiExpr
  Sets : List ApiSet
def ApiWhenZ : ApiWhen := ⟨(ApiExprZ), ([] : (List ApiSet))⟩
structure ApiClass where
  Name : List UInt8
  Kind : Int
  Bases : List ApiBase
  Comps : List ApiComp
  Eqs : List ApiEq
  Links : List ApiLink
  Whens : List ApiWhen
def ApiClassZ : ApiClass := ⟨([] : (List UInt8)), (0 : Int), ([] : (List ApiBase)), ([] : (List ApiComp)), ([] : (List ApiEq)), ([] : (List ApiLink)), ([] : (List ApiWhen))⟩
structure ScopeStep where
  class_ : Int
  by_ : Int
  base : Int
def ScopeStepZ : ScopeStep := ⟨(0 : Int), (0 : Int), (0 : Int)⟩
structure ScopeLook where
  comps : List ApiComp
  mods : List ApiMod
def ScopeLookZ : ScopeLook := ⟨([] : (List ApiComp)), ([] : (List ApiMod))⟩
structure ModelPart where
  e : ApiExpr
  cond : Bool
def ModelPartZ : ModelPart := ⟨(ApiExprZ), false⟩
noncomputable section
def isoclinelaw09Known : Option Bool := some true
def modelIsLetter (a0 : Int) : Option Bool :=
  if decide ((97 : Int) ≤ a0) then
    if decide (a0 ≤ (122 : Int)) then
      some true
    else
      if decide ((65 : Int) ≤ a0) then
        some (decide (a0 ≤ (90 : Int)))
      else
        some false
  else
    if decide ((65 : Int) ≤ a0) then
      some (decide (a0 ≤ (90 : Int)))
    else
      some false
def modelIsReserved (a0 : (List UInt8)) : Option Bool :=
  if decide (a0 = ([109, 111, 100, 101, 108] : List UInt8)) then
    some true
  else
    if decide (a0 = ([112, 111, 114, 116] : List UInt8)) then
      some true
    else
      if decide (a0 = ([112, 97, 114, 116, 105, 97, 108] : List UInt8)) then
        some true
      else
        if decide (a0 = ([101, 120, 116, 101, 110, 100, 115] : List UInt8)) then
          some true
        else
          if decide (a0 = ([105, 110, 110, 101, 114] : List UInt8)) then
            some true
          else
            if decide (a0 = ([111, 117, 116, 101, 114] : List UInt8)) then
              some true
            else
              if decide (a0 = ([114, 101, 112, 108, 97, 99, 101, 97, 98, 108, 101] : List UInt8)) then
                some true
              else
                if decide (a0 = ([102, 108, 111, 119] : List UInt8)) then
                  some true
                else
                  if decide (a0 = ([112, 97, 114, 97, 109, 101, 116, 101, 114] : List UInt8)) then
                    some true
                  else
                    if decide (a0 = ([100, 105, 115, 99, 114, 101, 116, 101] : List UInt8)) then
                      some true
                    else
                      if decide (a0 = ([101, 113, 117, 97, 116, 105, 111, 110] : List UInt8)) then
                        some true
                      else
                        if decide (a0 = ([105, 110, 105, 116, 105, 97, 108] : List UInt8)) then
                          some true
                        else
                          if decide (a0 = ([99, 111, 110, 110, 101, 99, 116] : List UInt8)) then
                            some true
                          else
                            if decide (a0 = ([119, 104, 101, 110] : List UInt8)) then
                              some true
                            else
                              if decide (a0 = ([115, 101, 116] : List UInt8)) then
                                some true
                              else
                                if decide (a0 = ([101, 110, 100] : List UInt8)) then
                                  some true
                                else
                                  if decide (a0 = ([105, 110] : List UInt8)) then
                                    some true
                                  else
                                    if decide (a0 = ([105, 115] : List UInt8)) then
                                      some true
                                    else
                                      if decide (a0 = ([82, 101, 97, 108] : List UInt8)) then
                                        some true
                                      else
                                        if decide (a0 = ([116, 105, 109, 101] : List UInt8)) then
                                          some true
                                        else
                                          if decide (a0 = ([99, 108, 97, 115, 115] : List UInt8)) then
                                            some true
                                          else
                                            if decide (a0 = ([99, 111, 110, 110, 101, 99, 116, 111, 114] : List UInt8)) then
                                              some true
                                            else
                                              if decide (a0 = ([97, 98, 115, 116, 114, 97, 99, 116] : List UInt8)) then
                                                some true
                                              else
                                                if decide (a0 = ([98, 97, 115, 101] : List UInt8)) then
                                                  some true
                                                else
                                                  if decide (a0 = ([112, 97, 114, 97, 109] : List UInt8)) then
                                                    some true
                                                  else
                                                    if decide (a0 = ([115, 116, 97, 116, 101] : List UInt8)) then
                                                      some true
                                                    else
                                                      if decide (a0 = ([110, 117, 109, 98, 101, 114] : List UInt8)) then
                                                        some true
                                                      else
                                                        if decide (a0 = ([101, 113] : List UInt8)) then
                                                          some true
                                                        else
                                                          if decide (a0 = ([115, 116, 97, 114, 116] : List UInt8)) then
                                                            some true
                                                          else
                                                            if decide (a0 = ([119, 105, 114, 101] : List UInt8)) then
                                                              some true
                                                            else
                                                              if decide (a0 = ([111, 110] : List UInt8)) then
                                                                some true
                                                              else
                                                                if decide (a0 = ([112, 117, 116] : List UInt8)) then
                                                                  some true
                                                                else
                                                                  if decide (a0 = ([105, 102] : List UInt8)) then
                                                                    some true
                                                                  else
                                                                    if decide (a0 = ([116, 104, 101, 110] : List UInt8)) then
                                                                      some true
                                                                    else
                                                                      if decide (a0 = ([101, 108, 115, 101] : List UInt8)) then
                                                                        some true
                                                                      else
                                                                        if decide (a0 = ([111, 114] : List UInt8)) then
                                                                          some true
                                                                        else
                                                                          if decide (a0 = ([97, 110, 100] : List UInt8)) then
                                                                            some true
                                                                          else
                                                                            if decide (a0 = ([110, 111, 116] : List UInt8)) then
                                                                              some true
                                                                            else
                                                                              if decide (a0 = ([100, 101, 114] : List UInt8)) then
                                                                                some true
                                                                              else
                                                                                if decide (a0 = ([112, 114, 101] : List UInt8)) then
                                                                                  some true
                                                                                else
                                                                                  if decide (a0 = ([97, 98, 115] : List UInt8)) then
                                                                                    some true
                                                                                  else
                                                                                    if decide (a0 = ([109, 105, 110] : List UInt8)) then
                                                                                      some true
                                                                                    else
                                                                                      if decide (a0 = ([109, 97, 120] : List UInt8)) then
                                                                                        some true
                                                                                      else
                                                                                        some false
def modelIsDigit (a0 : Int) : Option Bool :=
  if decide ((48 : Int) ≤ a0) then
    some (decide (a0 ≤ (57 : Int)))
  else
    some false
def modelIsSimpleJ1 : Option Bool :=
  some false
def modelIsSimpleJ2 (a0 : (List UInt8)) (v1 : Int) : Option (Int ⊕ (Unit ⊕ Bool)) :=
  some (.inl (IntKind.wrap .i64 (v1 + (1 : Int))))
def modelIsSimpleL1 (a0 : (List UInt8)) (v1 : Int) : Option (Int ⊕ (Unit ⊕ Bool)) :=
  if decide (v1 < (a0.length : Int)) then
    need (inRange v1 a0.length) <|
    Option.bind (modelIsLetter ((List.getD a0 v1.toNat 0).toNat : Int)) fun y3 =>
    if !y3 then
      need (inRange v1 a0.length) <|
      Option.bind (modelIsDigit ((List.getD a0 v1.toNat 0).toNat : Int)) fun y4 =>
      if !y4 then
        need (inRange v1 a0.length) <|
        if !decide (((List.getD a0 v1.toNat 0).toNat : Int) = (95 : Int)) then
          some (.inr (.inr false))
        else
          modelIsSimpleJ2 a0 v1
      else
        modelIsSimpleJ2 a0 v1
    else
      modelIsSimpleJ2 a0 v1
  else
    some (.inr (.inl ()))
def modelIsSimple (a0 : (List UInt8)) : Option Bool :=
  if decide ((a0.length : Int) < (1 : Int)) then
    modelIsSimpleJ1
  else
    if decide ((16 : Int) < (a0.length : Int)) then
      modelIsSimpleJ1
    else
      need (inRange (0 : Int) a0.length) <|
      Option.bind (modelIsLetter ((List.getD a0 (0 : Int).toNat 0).toNat : Int)) fun y1 =>
      if !y1 then
        modelIsSimpleJ1
      else
        Option.bind (modelIsReserved a0) fun y2 =>
        if y2 then
          modelIsSimpleJ1
        else
          Option.bind (iter (fun v : Int => modelIsSimpleL1 a0 v) (0 : Int)) fun r =>
          match r with
          | .inl r1 =>
            some true
          | .inr r2 =>
            some r2
def allDot (g : List UInt8 → Bool) : List UInt8 → List UInt8 → Bool
  | acc, [] => g acc
  | acc, c :: r => if c == 46 then g acc && allDot g [] r else allDot g (acc ++ [c]) r
open Classical in
def scopeIsPath (a0 : List UInt8) : Option Bool :=
  if (∀ x : List UInt8, x.length ≤ maxLen → (modelIsSimple x).isSome = true) ∧ a0.length ≤ maxLen then some (allDot (fun x => (modelIsSimple x).getD false) [] a0) else none
def scopeIsCleanL1 (a0 : (List ApiMod)) (v1 : Int) (v2 : (List ((List UInt8) × Bool))) : Option ((Int × (List ((List UInt8) × Bool))) ⊕ (Unit ⊕ Bool)) :=
  if decide (v1 < (a0.length : Int)) then
    need (inRange v1 a0.length) <|
    if Option.getD (mget kqS ((List.getD a0 (v1).toNat (ApiModZ)).Path) v2) false then
      some (.inr (.inr false))
    else
      some (.inl (IntKind.wrap .i64 (v1 + (1 : Int)), mput kqS ((List.getD a0 (v1).toNat (ApiModZ)).Path) true v2))
  else
    some (.inr (.inl ()))
def scopeIsClean (a0 : (List ApiMod)) : Option Bool :=
  Option.bind (iter (fun v : (Int × (List ((List UInt8) × Bool))) => scopeIsCleanL1 a0 v.1 v.2) ((0 : Int), ([] : (List ((List UInt8) × Bool))))) fun r =>
  match r with
  | .inl r1 =>
    some true
  | .inr r2 =>
    some r2
def scopeMerge_1 (z0 : ApiMod) (a0 : ApiMod) : Option Bool :=
  some (decide (a0.Path = z0.Path))
def apiMod_L1 (a0 : (List ApiMod)) (z0 : ApiMod) (v1 : Int) : Option (Int ⊕ (Unit ⊕ Int)) :=
  if decide (v1 < (a0.length : Int)) then
    need (inRange v1 a0.length) <|
    Option.bind (scopeMerge_1 z0 (ApiModEta (List.getD a0 (v1).toNat (ApiModZ)))) fun y1 =>
    if y1 then
      some (.inr (.inr v1))
    else
      some (.inl (IntKind.wrap .i64 (v1 + (1 : Int))))
  else
    some (.inr (.inl ()))
def apiMod_ (z0 : ApiMod) (a0 : (List ApiMod)) : Option Int :=
  Option.bind (iter (fun v : Int => apiMod_L1 a0 z0 v) (0 : Int)) fun r =>
  match r with
  | .inl r1 =>
    some (-1 : Int)
  | .inr r2 =>
    some r2
def scopeMergeInJ1 (a0 : (List ApiMod)) (a1 : (List ApiMod)) (v1 : Int) (v3 : (List ApiMod)) (v4 : (List UInt8)) (v5 : (List UInt8)) (v6 : Int) (v7 : (List UInt8)) (v8 : Int) (v9 : Int) (v10 : (List ApiExpr)) (v11 : (List ((List UInt8) × Bool))) : Option ((Int × (List ((List UInt8) × Bool)) × (List ApiMod)) ⊕ ((List ((List UInt8) × Bool)) × (List ApiMod))) :=
  need ((v3.length + [(⟨v4, v5, (⟨v6, v7, (⟨v8, v9⟩ : ApiRat), v10⟩ : ApiExpr)⟩ : ApiMod)].length) * 96 ≤ maxBytes) <|
  some (.inl (IntKind.wrap .i64 (v1 + (1 : Int)), v11, v3 ++ [(⟨v4, v5, (⟨v6, v7, (⟨v8, v9⟩ : ApiRat), v10⟩ : ApiExpr)⟩ : ApiMod)]))
def scopeMergeInL1 (a0 : (List ApiMod)) (a1 : (List ApiMod)) (v1 : Int) (v2 : (List ((List UInt8) × Bool))) (v3 : (List ApiMod)) : Option ((Int × (List ((List UInt8) × Bool)) × (List ApiMod)) ⊕ ((List ((List UInt8) × Bool)) × (List ApiMod))) :=
  if decide (v1 < (a1.length : Int)) then
    need (inRange v1 a1.length) <|
    Option.bind (apiMod_ (ApiModEta (List.getD a1 (v1).toNat (ApiModZ))) a0) fun y1 =>
    if decide ((0 : Int) ≤ y1) then
      need (inRange y1 a0.length) <|
      scopeMergeInJ1 a0 a1 v1 v3 ((List.getD a0 (y1).toNat (ApiModZ)).Path) ((List.getD a0 (y1).toNat (ApiModZ)).Type_) (((List.getD a0 (y1).toNat (ApiModZ)).Value).Op) (((List.getD a0 (y1).toNat (ApiModZ)).Value).Name) ((((List.getD a0 (y1).toNat (ApiModZ)).Value).N).N) ((((List.getD a0 (y1).toNat (ApiModZ)).Value).N).D) (((List.getD a0 (y1).toNat (ApiModZ)).Value).Kids) (mput kqS ((List.getD a0 (y1).toNat (ApiModZ)).Path) true v2)
    else
      scopeMergeInJ1 a0 a1 v1 v3 ((List.getD a1 (v1).toNat (ApiModZ)).Path) ((List.getD a1 (v1).toNat (ApiModZ)).Type_) (((List.getD a1 (v1).toNat (ApiModZ)).Value).Op) (((List.getD a1 (v1).toNat (ApiModZ)).Value).Name) ((((List.getD a1 (v1).toNat (ApiModZ)).Value).N).N) ((((List.getD a1 (v1).toNat (ApiModZ)).Value).N).D) (((List.getD a1 (v1).toNat (ApiModZ)).Value).Kids) v2
  else
    some (.inr (v2, v3))
def scopeMergeInJ2 (a0 : (List ApiMod)) (v14 : Int) (v16 : (List ApiMod)) (r1 : ((List ((List UInt8) × Bool)) × (List ApiMod))) : Option ((Int × (List ApiMod)) ⊕ (List ApiMod)) :=
  some (.inl (IntKind.wrap .i64 (v14 + (1 : Int)), v16))
def scopeMergeInL2 (a0 : (List ApiMod)) (r1 : ((List ((List UInt8) × Bool)) × (List ApiMod))) (v14 : Int) (v15 : (List ApiMod)) : Option ((Int × (List ApiMod)) ⊕ (List ApiMod)) :=
  if decide (v14 < (a0.length : Int)) then
    need (inRange v14 a0.length) <|
    if !(Option.getD (mget kqS ((List.getD a0 (v14).toNat (ApiModZ)).Path) r1.1) false) then
      need ((v15.length + [(ApiModEta (List.getD a0 (v14).toNat (ApiModZ)))].length) * 96 ≤ maxBytes) <|
      scopeMergeInJ2 a0 v14 (v15 ++ [(ApiModEta (List.getD a0 (v14).toNat (ApiModZ)))]) r1
    else
      scopeMergeInJ2 a0 v14 v15 r1
  else
    some (.inr v15)
def scopeMergeIn (a0 : (List ApiMod)) (a1 : (List ApiMod)) : Option (List ApiMod) :=
  Option.bind (iter (fun v : (Int × (List ((List UInt8) × Bool)) × (List ApiMod)) => scopeMergeInL1 a0 a1 v.1 v.2.1 v.2.2) ((0 : Int), ([] : (List ((List UInt8) × Bool))), [])) fun r1 =>
    Option.bind (iter (fun v : (Int × (List ApiMod)) => scopeMergeInL2 a0 r1 v.1 v.2) ((0 : Int), r1.2)) fun r2 =>
      some r2
def exprClone_1 (a0 : ApiExpr) : Option ApiExpr :=
  some (⟨a0.Op, a0.Name, a0.N, []⟩ : ApiExpr)
def exprMapBL1 (R : ApiExpr → Option ApiExpr) (a0 : ApiExpr) (v1 : Int) (v2 : (List ApiExpr)) : Option ((Int × (List ApiExpr)) ⊕ (List ApiExpr)) :=
  if decide (v1 < (a0.Kids.length : Int)) then
    need (inRange v1 a0.Kids.length) <|
    Option.bind (R (ApiExprEta (List.getD a0.Kids (v1).toNat (ApiExprZ)))) fun y2 =>
    need ((v2.length + [(ApiExprEta y2)].length) * 64 ≤ maxBytes) <|
    some (.inl (IntKind.wrap .i64 (v1 + (1 : Int)), v2 ++ [(ApiExprEta y2)]))
  else
    some (.inr v2)
def exprMapB (R : ApiExpr → Option ApiExpr) (a0 : ApiExpr) : Option ApiExpr :=
  if decide ((a0.Kids.length : Int) = (0 : Int)) then
    Option.bind (exprClone_1 (ApiExprEta a0)) fun y1 =>
    some (ApiExprEta y1)
  else
    Option.bind (iter (fun v : (Int × (List ApiExpr)) => exprMapBL1 R a0 v.1 v.2) ((0 : Int), [])) fun r1 =>
      some (⟨a0.Op, a0.Name, a0.N, r1⟩ : ApiExpr)
def exprMapIt : Nat → ApiExpr → Option ApiExpr
  | 0 => fun _ => none
  | k + 1 => exprMapB (exprMapIt k)
def exprMap : ApiExpr → Option ApiExpr := fun a0 => exprMapIt (SizeOf.sizeOf a0 + 1) a0
def exprClone (a0 : ApiExpr) : Option ApiExpr :=
  Option.bind (exprMap (ApiExprEta a0)) fun y1 =>
  some (ApiExprEta y1)
def scopeCloneModsL1 (a0 : (List ApiMod)) (v1 : Int) (v2 : (List ApiMod)) : Option ((Int × (List ApiMod)) ⊕ (List ApiMod)) :=
  if decide (v1 < (a0.length : Int)) then
    need (inRange v1 v2.length) <|
    Option.bind (exprClone (ApiExprEta ((List.getD v2 v1.toNat (ApiModZ)).Value))) fun y1 =>
    need (inRange v1 v2.length) <|
    some (.inl (IntKind.wrap .i64 (v1 + (1 : Int)), List.set v2 v1.toNat (⟨(List.getD v2 v1.toNat (ApiModZ)).Path, (List.getD v2 v1.toNat (ApiModZ)).Type_, (ApiExprEta y1)⟩ : ApiMod)))
  else
    some (.inr v2)
def scopeCloneMods (a0 : (List ApiMod)) : Option (List ApiMod) :=
  need (0 ≤ (a0.length : Int)) <|
  need ((a0.length : Int) ≤ (a0.length : Int)) <|
  need ((a0.length : Int) * ((96 : Nat) : Int) ≤ (maxBytes : Int)) <|
  need (a0.length = (List.replicate ((a0.length : Int)).toNat (⟨([] : List UInt8), ([] : List UInt8), (⟨(0 : Int), ([] : List UInt8), (⟨(0 : Int), (0 : Int)⟩ : ApiRat), []⟩ : ApiExpr)⟩ : ApiMod)).length) <|
  Option.bind (iter (fun v : (Int × (List ApiMod)) => scopeCloneModsL1 a0 v.1 v.2) ((0 : Int), a0)) fun r1 =>
    some r1
def scopeMergeL1 (a0 : (List ApiMod)) (a1 : (List ApiMod)) (v1 : Int) : Option (Int ⊕ (Unit ⊕ ((List ApiMod) × Int))) :=
  if decide (v1 < ([a0, a1].length : Int)) then
    need (inRange v1 [a0, a1].length) <|
    if decide ((8 : Int) < ((List.getD [a0, a1] (v1).toNat ([] : (List ApiMod))).length : Int)) then
      some (.inr (.inr ([], (3 : Int))))
    else
      some (.inl (IntKind.wrap .i64 (v1 + (1 : Int))))
  else
    some (.inr (.inl ()))
def scopeMergeL3 (a0 : (List ApiMod)) (a1 : (List ApiMod)) (v2 : Int) (v3 : Int) (v4 : Int) : Option ((Int × Int) ⊕ (Unit ⊕ ((List ApiMod) × Int))) :=
  if decide (v4 < v3) then
    need (inRange v4 (List.getD [a0, a1] (v2).toNat ([] : (List ApiMod))).length) <|
    Option.bind (scopeIsPath ((List.getD (List.getD [a0, a1] (v2).toNat ([] : (List ApiMod))) (v4).toNat (ApiModZ)).Path)) fun y1 =>
    if !y1 then
      some (.inr (.inr ([], (1 : Int))))
    else
      some (.inl (v3, IntKind.wrap .i64 (v4 + (1 : Int))))
  else
    some (.inr (.inl ()))
def scopeMergeL2 (a0 : (List ApiMod)) (a1 : (List ApiMod)) (v2 : Int) : Option (Int ⊕ (Unit ⊕ ((List ApiMod) × Int))) :=
  if decide (v2 < ([a0, a1].length : Int)) then
    need (inRange v2 [a0, a1].length) <|
    Option.bind (iter (fun v : (Int × Int) => scopeMergeL3 a0 a1 v2 v.1 v.2) (((List.getD [a0, a1] (v2).toNat ([] : (List ApiMod))).length : Int), (0 : Int))) fun r =>
    match r with
    | .inl r2 =>
      some (.inl (IntKind.wrap .i64 (v2 + (1 : Int))))
    | .inr r3 =>
      some (.inr (.inr r3))
  else
    some (.inr (.inl ()))
def scopeMergeJ1 : Option ((List ApiMod) × Int) :=
  some ([], (5 : Int))
def scopeMerge (a0 : (List ApiMod)) (a1 : (List ApiMod)) : Option ((List ApiMod) × Int) :=
  Option.bind (iter (fun v : Int => scopeMergeL1 a0 a1 v) (0 : Int)) fun r =>
  match r with
  | .inl r1 =>
    Option.bind (iter (fun v : Int => scopeMergeL2 a0 a1 v) (0 : Int)) fun r =>
    match r with
    | .inl r4 =>
      Option.bind (scopeIsClean a0) fun y2 =>
      if !y2 then
        scopeMergeJ1
      else
        Option.bind (scopeIsClean a1) fun y3 =>
        if !y3 then
          scopeMergeJ1
        else
          Option.bind (scopeMergeIn a0 a1) fun y4 =>
          if decide ((8 : Int) < (y4.length : Int)) then
            some ([], (3 : Int))
          else
            Option.bind (scopeCloneMods y4) fun y5 =>
            some (y5, (0 : Int))
    | .inr r5 =>
      some r5
  | .inr r6 =>
    some r6
def isoclineref08SplitJ2 (a0 : (List UInt8)) (v2 : Int) (v4 : Int) (v5 : (List (List UInt8))) : Option ((Int × Int × (List (List UInt8))) ⊕ (List (List UInt8))) :=
  some (.inl (v4, IntKind.wrap .i64 (v2 + (1 : Int)), v5))
def isoclineref08SplitJ1 (a0 : (List UInt8)) (v1 : Int) (v2 : Int) (v3 : (List (List UInt8))) : Option ((Int × Int × (List (List UInt8))) ⊕ (List (List UInt8))) :=
  need ((0 : Int) ≤ v1) <|
  need (v1 ≤ v2) <|
  need (v2 ≤ (a0.length : Int)) <|
  need ((v3.length + [(List.take (v2.toNat - v1.toNat) (List.drop v1.toNat a0))].length) * 16 ≤ maxBytes) <|
  isoclineref08SplitJ2 a0 v2 (IntKind.wrap .i64 (v2 + (1 : Int))) (v3 ++ [(List.take (v2.toNat - v1.toNat) (List.drop v1.toNat a0))])
def isoclineref08SplitL1 (a0 : (List UInt8)) (v1 : Int) (v2 : Int) (v3 : (List (List UInt8))) : Option ((Int × Int × (List (List UInt8))) ⊕ (List (List UInt8))) :=
  if decide (v2 ≤ (a0.length : Int)) then
    if decide (v2 = (a0.length : Int)) then
      isoclineref08SplitJ1 a0 v1 v2 v3
    else
      need (inRange v2 a0.length) <|
      if decide (((List.getD a0 v2.toNat 0).toNat : Int) = (46 : Int)) then
        isoclineref08SplitJ1 a0 v1 v2 v3
      else
        isoclineref08SplitJ2 a0 v2 v1 v3
  else
    some (.inr v3)
def isoclineref08Split (a0 : (List UInt8)) : Option (List (List UInt8)) :=
  Option.bind (iter (fun v : (Int × Int × (List (List UInt8))) => isoclineref08SplitL1 a0 v.1 v.2.1 v.2.2) ((0 : Int), (0 : Int), [])) fun r1 =>
    some r1
def isoclineref08IsWordL1 (a0 : (List UInt8)) (v1 : (List (List UInt8))) (v2 : Int) : Option (Int ⊕ (Unit ⊕ Bool)) :=
  if decide (v2 < (v1.length : Int)) then
    need (inRange v2 v1.length) <|
    if decide ((List.getD v1 (v2).toNat ([] : (List UInt8))) = a0) then
      some (.inr (.inr true))
    else
      some (.inl (IntKind.wrap .i64 (v2 + (1 : Int))))
  else
    some (.inr (.inl ()))
def isoclineref08IsWordJ1 (a0 : (List UInt8)) (v1 : (List (List UInt8))) : Option Bool :=
  Option.bind (iter (fun v : Int => isoclineref08IsWordL1 a0 v1 v) (0 : Int)) fun r =>
  match r with
  | .inl r1 =>
    some false
  | .inr r2 =>
    some r2
def isoclineref08IsWord (a0 : (List UInt8)) : Option Bool :=
  isoclineref08IsWordJ1 a0 [([109, 111, 100, 101, 108] : List UInt8), ([112, 111, 114, 116] : List UInt8), ([112, 97, 114, 116, 105, 97, 108] : List UInt8), ([101, 120, 116, 101, 110, 100, 115] : List UInt8), ([105, 110, 110, 101, 114] : List UInt8), ([111, 117, 116, 101, 114] : List UInt8), ([114, 101, 112, 108, 97, 99, 101, 97, 98, 108, 101] : List UInt8), ([102, 108, 111, 119] : List UInt8), ([112, 97, 114, 97, 109, 101, 116, 101, 114] : List UInt8), ([100, 105, 115, 99, 114, 101, 116, 101] : List UInt8), ([101, 113, 117, 97, 116, 105, 111, 110] : List UInt8), ([105, 110, 105, 116, 105, 97, 108] : List UInt8), ([99, 111, 110, 110, 101, 99, 116] : List UInt8), ([119, 104, 101, 110] : List UInt8), ([115, 101, 116] : List UInt8), ([101, 110, 100] : List UInt8), ([105, 110] : List UInt8), ([105, 115] : List UInt8), ([82, 101, 97, 108] : List UInt8), ([116, 105, 109, 101] : List UInt8), ([99, 108, 97, 115, 115] : List UInt8), ([99, 111, 110, 110, 101, 99, 116, 111, 114] : List UInt8), ([97, 98, 115, 116, 114, 97, 99, 116] : List UInt8), ([98, 97, 115, 101] : List UInt8), ([112, 97, 114, 97, 109] : List UInt8), ([115, 116, 97, 116, 101] : List UInt8), ([110, 117, 109, 98, 101, 114] : List UInt8), ([101, 113] : List UInt8), ([115, 116, 97, 114, 116] : List UInt8), ([119, 105, 114, 101] : List UInt8), ([111, 110] : List UInt8), ([112, 117, 116] : List UInt8), ([105, 102] : List UInt8), ([116, 104, 101, 110] : List UInt8), ([101, 108, 115, 101] : List UInt8), ([111, 114] : List UInt8), ([97, 110, 100] : List UInt8), ([110, 111, 116] : List UInt8), ([100, 101, 114] : List UInt8), ([112, 114, 101] : List UInt8), ([97, 98, 115] : List UInt8), ([109, 105, 110] : List UInt8), ([109, 97, 120] : List UInt8)]
def isoclineref08IsSimpleJ1 : Option Bool :=
  some false
def isoclineref08IsSimpleJ3 : Option (Int ⊕ (Unit ⊕ Bool)) :=
  some (.inr (.inr false))
def isoclineref08IsSimpleJ4 (a0 : (List UInt8)) (v1 : Int) : Option (Int ⊕ (Unit ⊕ Bool)) :=
  some (.inl (IntKind.wrap .i64 (v1 + (1 : Int))))
def isoclineref08IsSimpleJ2 (a0 : (List UInt8)) (v1 : Int) (v2 : Bool) : Option (Int ⊕ (Unit ⊕ Bool)) :=
  if !v2 then
    if decide (v1 = (0 : Int)) then
      isoclineref08IsSimpleJ3
    else
      if !decide (((List.getD a0 v1.toNat 0).toNat : Int) = (95 : Int)) then
        if decide (((List.getD a0 v1.toNat 0).toNat : Int) < (48 : Int)) then
          isoclineref08IsSimpleJ3
        else
          if decide ((57 : Int) < ((List.getD a0 v1.toNat 0).toNat : Int)) then
            isoclineref08IsSimpleJ3
          else
            isoclineref08IsSimpleJ4 a0 v1
      else
        isoclineref08IsSimpleJ4 a0 v1
  else
    isoclineref08IsSimpleJ4 a0 v1
def isoclineref08IsSimpleL1 (a0 : (List UInt8)) (v1 : Int) : Option (Int ⊕ (Unit ⊕ Bool)) :=
  if decide (v1 < (a0.length : Int)) then
    need (inRange v1 a0.length) <|
    if decide ((97 : Int) ≤ ((List.getD a0 v1.toNat 0).toNat : Int)) then
      if decide (((List.getD a0 v1.toNat 0).toNat : Int) ≤ (122 : Int)) then
        isoclineref08IsSimpleJ2 a0 v1 true
      else
        if decide ((65 : Int) ≤ ((List.getD a0 v1.toNat 0).toNat : Int)) then
          isoclineref08IsSimpleJ2 a0 v1 (decide (((List.getD a0 v1.toNat 0).toNat : Int) ≤ (90 : Int)))
        else
          isoclineref08IsSimpleJ2 a0 v1 false
    else
      if decide ((65 : Int) ≤ ((List.getD a0 v1.toNat 0).toNat : Int)) then
        isoclineref08IsSimpleJ2 a0 v1 (decide (((List.getD a0 v1.toNat 0).toNat : Int) ≤ (90 : Int)))
      else
        isoclineref08IsSimpleJ2 a0 v1 false
  else
    some (.inr (.inl ()))
def isoclineref08IsSimple (a0 : (List UInt8)) : Option Bool :=
  if decide ((a0.length : Int) < (1 : Int)) then
    isoclineref08IsSimpleJ1
  else
    if decide ((16 : Int) < (a0.length : Int)) then
      isoclineref08IsSimpleJ1
    else
      Option.bind (isoclineref08IsWord a0) fun y1 =>
      if y1 then
        isoclineref08IsSimpleJ1
      else
        Option.bind (iter (fun v : Int => isoclineref08IsSimpleL1 a0 v) (0 : Int)) fun r =>
        match r with
        | .inl r1 =>
          some true
        | .inr r2 =>
          some r2
def isoclineref08IsPathL1 (y1 : (List (List UInt8))) (v1 : Int) : Option (Int ⊕ (Unit ⊕ Bool)) :=
  if decide (v1 < (y1.length : Int)) then
    need (inRange v1 y1.length) <|
    Option.bind (isoclineref08IsSimple (List.getD y1 (v1).toNat ([] : (List UInt8)))) fun y2 =>
    if !y2 then
      some (.inr (.inr false))
    else
      some (.inl (IntKind.wrap .i64 (v1 + (1 : Int))))
  else
    some (.inr (.inl ()))
def isoclineref08IsPath (a0 : (List UInt8)) : Option Bool :=
  Option.bind (isoclineref08Split a0) fun y1 =>
  Option.bind (iter (fun v : Int => isoclineref08IsPathL1 y1 v) (0 : Int)) fun r =>
  match r with
  | .inl r1 =>
    some true
  | .inr r2 =>
    some r2
def isoclineref09AtPathL1 (a0 : (List ApiMod)) (a1 : (List UInt8)) (v1 : Int) : Option (Int ⊕ (Unit ⊕ Int)) :=
  if decide (v1 < (a0.length : Int)) then
    need (inRange v1 a0.length) <|
    if decide (((List.getD a0 (v1).toNat (ApiModZ)).Path) = a1) then
      some (.inr (.inr v1))
    else
      some (.inl (IntKind.wrap .i64 (v1 + (1 : Int))))
  else
    some (.inr (.inl ()))
def isoclineref09AtPath (a0 : (List ApiMod)) (a1 : (List UInt8)) : Option Int :=
  Option.bind (iter (fun v : Int => isoclineref09AtPathL1 a0 a1 v) (0 : Int)) fun r =>
  match r with
  | .inl r1 =>
    some (-1 : Int)
  | .inr r2 =>
    some r2
def isoclineref09OverJ1 (a0 : (List ApiMod)) (a1 : (List ApiMod)) (v1 : Int) (v3 : (List ApiMod)) : Option ((Int × (List ApiMod)) ⊕ (List ApiMod)) :=
  some (.inl (IntKind.wrap .i64 (v1 + (1 : Int)), v3))
def isoclineref09OverL1 (a0 : (List ApiMod)) (a1 : (List ApiMod)) (v1 : Int) (v2 : (List ApiMod)) : Option ((Int × (List ApiMod)) ⊕ (List ApiMod)) :=
  if decide (v1 < (a0.length : Int)) then
    need (inRange v1 a0.length) <|
    Option.bind (isoclineref09AtPath a1 ((List.getD a0 (v1).toNat (ApiModZ)).Path)) fun y1 =>
    if decide ((0 : Int) ≤ y1) then
      need (inRange y1 v2.length) <|
      isoclineref09OverJ1 a0 a1 v1 (List.set v2 y1.toNat (ApiModEta (List.getD a0 (v1).toNat (ApiModZ))))
    else
      need ((v2.length + [(ApiModEta (List.getD a0 (v1).toNat (ApiModZ)))].length) * 96 ≤ maxBytes) <|
      isoclineref09OverJ1 a0 a1 v1 (v2 ++ [(ApiModEta (List.getD a0 (v1).toNat (ApiModZ)))])
  else
    some (.inr v2)
def isoclineref09Over (a0 : (List ApiMod)) (a1 : (List ApiMod)) : Option (List ApiMod) :=
  need ((([] : List ApiMod).length + a1.length) * 96 ≤ maxBytes) <|
  Option.bind (iter (fun v : (Int × (List ApiMod)) => isoclineref09OverL1 a0 a1 v.1 v.2) ((0 : Int), [] ++ a1)) fun r1 =>
    some r1
def isoclineref09MergeJ1 : Option ((List ApiMod) × Int) :=
  some ([], (3 : Int))
def isoclineref09MergeL2 (a0 : (List ApiMod)) (a1 : (List ApiMod)) (v1 : Int) (v2 : Int) (v3 : Int) : Option ((Int × Int) ⊕ (Unit ⊕ ((List ApiMod) × Int))) :=
  if decide (v3 < v2) then
    need (inRange v3 (List.getD [a0, a1] (v1).toNat ([] : (List ApiMod))).length) <|
    Option.bind (isoclineref08IsPath ((List.getD (List.getD [a0, a1] (v1).toNat ([] : (List ApiMod))) (v3).toNat (ApiModZ)).Path)) fun y1 =>
    if !y1 then
      some (.inr (.inr ([], (1 : Int))))
    else
      some (.inl (v2, IntKind.wrap .i64 (v3 + (1 : Int))))
  else
    some (.inr (.inl ()))
def isoclineref09MergeL1 (a0 : (List ApiMod)) (a1 : (List ApiMod)) (v1 : Int) : Option (Int ⊕ (Unit ⊕ ((List ApiMod) × Int))) :=
  if decide (v1 < ([a0, a1].length : Int)) then
    need (inRange v1 [a0, a1].length) <|
    Option.bind (iter (fun v : (Int × Int) => isoclineref09MergeL2 a0 a1 v1 v.1 v.2) (((List.getD [a0, a1] (v1).toNat ([] : (List ApiMod))).length : Int), (0 : Int))) fun r =>
    match r with
    | .inl r1 =>
      some (.inl (IntKind.wrap .i64 (v1 + (1 : Int))))
    | .inr r2 =>
      some (.inr (.inr r2))
  else
    some (.inr (.inl ()))
def isoclineref09MergeL4 (a0 : (List ApiMod)) (a1 : (List ApiMod)) (v4 : Int) (v5 : Int) : Option (Int ⊕ (Unit ⊕ ((List ApiMod) × Int))) :=
  if decide (v5 < ((List.getD [a0, a1] (v4).toNat ([] : (List ApiMod))).length : Int)) then
    need ((0 : Int) ≤ (0 : Int)) <|
    need ((0 : Int) ≤ v5) <|
    need (v5 ≤ ((List.getD [a0, a1] (v4).toNat ([] : (List ApiMod))).length : Int)) <|
    need (inRange v5 (List.getD [a0, a1] (v4).toNat ([] : (List ApiMod))).length) <|
    Option.bind (isoclineref09AtPath (List.take (v5.toNat - (0 : Int).toNat) (List.drop (0 : Int).toNat (List.getD [a0, a1] (v4).toNat ([] : (List ApiMod))))) ((List.getD (List.getD [a0, a1] (v4).toNat ([] : (List ApiMod))) (v5).toNat (ApiModZ)).Path)) fun y2 =>
    if decide ((0 : Int) ≤ y2) then
      some (.inr (.inr ([], (5 : Int))))
    else
      some (.inl (IntKind.wrap .i64 (v5 + (1 : Int))))
  else
    some (.inr (.inl ()))
def isoclineref09MergeL3 (a0 : (List ApiMod)) (a1 : (List ApiMod)) (v4 : Int) : Option (Int ⊕ (Unit ⊕ ((List ApiMod) × Int))) :=
  if decide (v4 < ([a0, a1].length : Int)) then
    need (inRange v4 [a0, a1].length) <|
    Option.bind (iter (fun v : Int => isoclineref09MergeL4 a0 a1 v4 v) (0 : Int)) fun r =>
    match r with
    | .inl r4 =>
      some (.inl (IntKind.wrap .i64 (v4 + (1 : Int))))
    | .inr r5 =>
      some (.inr (.inr r5))
  else
    some (.inr (.inl ()))
def isoclineref09Merge (a0 : (List ApiMod)) (a1 : (List ApiMod)) : Option ((List ApiMod) × Int) :=
  if decide ((8 : Int) < (a0.length : Int)) then
    isoclineref09MergeJ1
  else
    if decide ((8 : Int) < (a1.length : Int)) then
      isoclineref09MergeJ1
    else
      Option.bind (iter (fun v : Int => isoclineref09MergeL1 a0 a1 v) (0 : Int)) fun r =>
      match r with
      | .inl r3 =>
        Option.bind (iter (fun v : Int => isoclineref09MergeL3 a0 a1 v) (0 : Int)) fun r =>
        match r with
        | .inl r6 =>
          Option.bind (isoclineref09Over a0 a1) fun y3 =>
          if decide ((8 : Int) < (y3.length : Int)) then
            some ([], (3 : Int))
          else
            some (y3, (0 : Int))
        | .inr r7 =>
          some r7
      | .inr r8 =>
        some r8
def isoclineref07EqualBJ1 (R : ApiExpr → ApiExpr → Option Bool) : Option Bool :=
  some false
def isoclineref07EqualBL1 (R : ApiExpr → ApiExpr → Option Bool) (a0 : ApiExpr) (a1 : ApiExpr) (v1 : Int) : Option (Int ⊕ (Unit ⊕ Bool)) :=
  if decide (v1 < (a0.Kids.length : Int)) then
    need (inRange v1 a0.Kids.length) <|
    need (inRange v1 a1.Kids.length) <|
    Option.bind (R (ApiExprEta (List.getD a0.Kids (v1).toNat (ApiExprZ))) (ApiExprEta (List.getD a1.Kids (v1).toNat (ApiExprZ)))) fun y1 =>
    if !y1 then
      some (.inr (.inr false))
    else
      some (.inl (IntKind.wrap .i64 (v1 + (1 : Int))))
  else
    some (.inr (.inl ()))
def isoclineref07EqualB (R : ApiExpr → ApiExpr → Option Bool) (a0 : ApiExpr) (a1 : ApiExpr) : Option Bool :=
  if !decide (a0.Op = a1.Op) then
    isoclineref07EqualBJ1 R
  else
    if !decide (a0.Name = a1.Name) then
      isoclineref07EqualBJ1 R
    else
      if !(decide (a0.N.N = a1.N.N) && (decide (a0.N.D = a1.N.D) && true)) then
        isoclineref07EqualBJ1 R
      else
        if !decide ((a0.Kids.length : Int) = (a1.Kids.length : Int)) then
          isoclineref07EqualBJ1 R
        else
          Option.bind (iter (fun v : Int => isoclineref07EqualBL1 R a0 a1 v) (0 : Int)) fun r =>
          match r with
          | .inl r1 =>
            some true
          | .inr r2 =>
            some r2
def isoclineref07EqualIt : Nat → ApiExpr → ApiExpr → Option Bool
  | 0 => fun _ _ => none
  | k + 1 => isoclineref07EqualB (isoclineref07EqualIt k)
def isoclineref07Equal : ApiExpr → ApiExpr → Option Bool := fun a0 a1 => isoclineref07EqualIt (SizeOf.sizeOf a0 + 1) a0 a1
def isoclineref09SameModsJ1 : Option (Int ⊕ (Unit ⊕ Bool)) :=
  some (.inr (.inr false))
def isoclineref09SameModsL1 (a0 : (List ApiMod)) (a1 : (List ApiMod)) (v1 : Int) : Option (Int ⊕ (Unit ⊕ Bool)) :=
  if decide (v1 < (a0.length : Int)) then
    need (inRange v1 a0.length) <|
    need (inRange v1 a1.length) <|
    if !decide (((List.getD a0 (v1).toNat (ApiModZ)).Path) = ((List.getD a1 (v1).toNat (ApiModZ)).Path)) then
      isoclineref09SameModsJ1
    else
      need (inRange v1 a0.length) <|
      need (inRange v1 a1.length) <|
      if !decide (((List.getD a0 (v1).toNat (ApiModZ)).Type_) = ((List.getD a1 (v1).toNat (ApiModZ)).Type_)) then
        isoclineref09SameModsJ1
      else
        need (inRange v1 a0.length) <|
        need (inRange v1 a1.length) <|
        Option.bind (isoclineref07Equal (ApiExprEta ((List.getD a0 (v1).toNat (ApiModZ)).Value)) (ApiExprEta ((List.getD a1 (v1).toNat (ApiModZ)).Value))) fun y1 =>
        if !y1 then
          isoclineref09SameModsJ1
        else
          some (.inl (IntKind.wrap .i64 (v1 + (1 : Int))))
  else
    some (.inr (.inl ()))
def isoclineref09SameMods (a0 : (List ApiMod)) (a1 : (List ApiMod)) : Option Bool :=
  if !decide ((a0.length : Int) = (a1.length : Int)) then
    some false
  else
    Option.bind (iter (fun v : Int => isoclineref09SameModsL1 a0 a1 v) (0 : Int)) fun r =>
    match r with
    | .inl r1 =>
      some true
    | .inr r2 =>
      some r2
def isoclinelaw09ScopeMerges (a0 : (List ApiMod)) (a1 : (List ApiMod)) : Option Bool :=
  Option.bind (scopeMerge a0 a1) fun y1 =>
  Option.bind (isoclineref09Merge a0 a1) fun y2 =>
  Option.bind (isoclineref09SameMods y1.1 y2.1) fun y3 =>
  if y3 then
    if decide (y1.2 = y2.2) then
      Option.bind (isoclinelaw09Known) fun y4 =>
      some y4
    else
      some false
  else
    some false
end
end Go.Ab
