/- Functions of Go's library, told ahead for closed running: what they return at texts. Functions of a text with a bool: what they are told, as calls, and back. What the functions compute, as plain functions. The tables of the types. Conditions: none beyond those that each theorem names. -/
import Derived.Test.YtgngflkahbpecaaGreatDoorM14
import Derived.Lib.Bytealg
import Derived.Lib.IndexAny
import Derived.Laws.RangeString
import Derived.Test.YtgngflkahbpecaaGreatDoorM10
import Derived.Laws.AppendOwn
import Derived.Test.YtgngflkahbpecaaGreatDoorM11
import Derived.Test.YtgngflkahbpecaaGreatDoorProg
namespace Go.Ab
open Go
section
variable {T : Tab} {P : Program} {f : FuncId}
theorem all2_one {α β : Type} {R : α → β → Prop} {x : α} {l : List β} (h : All2 R [x] l) : ∃ v, l = [v] ∧ R x v := by
  cases h with
  | cons h1 h2 => cases h2; exact ⟨_, rfl, h1⟩
theorem all2_two {α β : Type} {R : α → β → Prop} {x y : α} {l : List β} (h : All2 R [x, y] l) : ∃ v u, l = [v, u] ∧ R x v ∧ R y u := by
  cases h with
  | cons h1 h2 => obtain ⟨u, rfl, h3⟩ := all2_one h2; exact ⟨_, _, rfl, h1, h3⟩
theorem meetsL_int {S : FL T.E} (hf : ∃ fn, P.funcs[f]? = some fn ∧ fn.body.isSome = true ∧ (fn.name == "runtime.NumGoroutine") = false)
    (h : ∀ lo args bx res bx', S.g lo args bx = some (res, bx') → bx' = bx ∧ ∃ n : Int, res = [.one (.int .i64 n)] ∧ ∀ (bx : List (Nat × Box T.E)) (β : Nat → BI) (ok : Nat → Prop) (w : World) (vs : List Value), All2 (CVRep T bx β ok w) args vs →
      Calls P f vs.toArray w fun e w' => e = .returned (.int .i64 n) ∧ Grow w w') : MeetsL T P f S := by
  refine ⟨hf, fun lo args bx res bx' hg C β w vs kx kv M ha hk => ?_⟩
  obtain ⟨rfl, n, rfl, hc⟩ := h lo args bx res bx' hg
  refine (hc _ _ _ _ _ ha).mono ?_
  rintro e w' ⟨rfl, G⟩
  obtain ⟨M', X⟩ := M.grow G
  exact ⟨β, [.int .i64 n], rfl, M', .cons rfl .nil, hk.imp fun _ _ k => SVRep.ext X k⟩
def cntB (c : UInt8) : List UInt8 → Nat
  | [] => 0
  | x :: r => match Nat.beq x.toNat c.toNat with | true => cntB c r + 1 | false => cntB c r
theorem u8_beq (a b : UInt8) : Nat.beq a.toNat b.toNat = (a == b) := by
  by_cases h : a = b
  · subst h; simp
  · have h2 : (a == b) = false := by simpa using h
    rw [h2]
    cases h3 : Nat.beq a.toNat b.toNat with
    | false => rfl
    | true => exact absurd (UInt8.toNat_inj.1 (Nat.eq_of_beq_eq_true h3)) h
theorem cntB_eq (c : UInt8) : ∀ l, cntB c l = Lib.countByte l c
  | [] => rfl
  | x :: r => by
    have ih := cntB_eq c r
    rw [cntB, u8_beq]
    unfold Lib.countByte at *
    rw [List.count_cons, ih]
    cases x == c <;> simp
def idxB (c : UInt8) : List UInt8 → Nat → Int
  | [], _ => -1
  | x :: r, i => match Nat.beq x.toNat c.toNat with | true => (i : Int) | false => idxB c r (i + 1)
theorem idxB_eq (c : UInt8) : ∀ (l : List UInt8) (i : Nat), idxB c l i = if Lib.indexByte l c == -1 then -1 else Lib.indexByte l c + i
  | [], i => rfl
  | x :: r, i => by
    have ih := idxB_eq c r (i + 1)
    have hg := Lib.indexByte_ge r c
    rw [idxB, u8_beq, Lib.indexByte]
    cases hx : x == c with
    | true => simp
    | false =>
      simp only [Bool.false_eq_true, if_false]
      rw [ih]
      by_cases h : Lib.indexByte r c = -1
      · simp [h]
      · have h2 : (Lib.indexByte r c == -1) = false := by simpa using h
        have h3 : (Lib.indexByte r c + 1 == -1) = false := by simpa using (by omega : ¬ Lib.indexByte r c + 1 = -1)
        rw [h2]; simp only [Bool.false_eq_true, if_false, h3]; omega
theorem idxB_zero (c : UInt8) (l : List UInt8) : idxB c l 0 = Lib.indexByte l c := by
  rw [idxB_eq]
  by_cases h : Lib.indexByte l c = -1
  · simp [h]
  · have h2 : (Lib.indexByte l c == -1) = false := by simpa using h
    rw [h2]; simp
def flCnt (E : Nat → Type) : FL E := ⟨fun _ args bx => match args with
  | [.one (.str s), .one (.str [c])] => some ([.one (.int .i64 (cntB c s))], bx)
  | _ => none⟩
def flIdx (E : Nat → Type) : FL E := ⟨fun _ args bx => match args with
  | [.one (.str s), .one (.int .u8 c)] => some ([.one (.int .i64 (idxB (UInt8.ofNat c.toNat) s 0))], bx)
  | _ => none⟩
def flAny (E : Nat → Type) : FL E := ⟨fun _ args bx => match args with
  | [.one (.str []), .one (.str (_ :: _ :: _))] => some ([.one (.int .i64 (-1))], bx)
  | _ => none⟩
theorem flCnt_ok (hf : ∃ fn, P.funcs[f]? = some fn ∧ fn.body.isSome = true ∧ (fn.name == "runtime.NumGoroutine") = false)
    (h : ∀ (s : ByteArray) (c : UInt8) (w : World), Calls P f #[.string s, .string ⟨#[c]⟩] w fun e w' => e = .returned (.int .i64 (Lib.countByte s.data.toList c)) ∧ w' = w) : MeetsL T P f (flCnt T.E) := by
  refine meetsL_int hf fun lo args bx res bx' hg => ?_
  simp only [flCnt] at hg
  split at hg
  · rename_i s c
    cases hg
    refine ⟨rfl, _, rfl, fun bx β ok w vs ha => ?_⟩
    obtain ⟨v, u, rfl, h1, h2⟩ := all2_two ha
    have h1 : v = .string ⟨s.toArray⟩ := h1
    have h2 : u = .string ⟨#[c]⟩ := h2
    subst h1 h2
    refine (h ⟨s.toArray⟩ c w).mono ?_
    rintro e w' ⟨rfl, rfl⟩
    exact ⟨by rw [cntB_eq], Grow.refl _⟩
  · cases hg
theorem flIdx_ok (hf : ∃ fn, P.funcs[f]? = some fn ∧ fn.body.isSome = true ∧ (fn.name == "runtime.NumGoroutine") = false)
    (h : ∀ (s : ByteArray) (c : Int) (w : World), Calls P f #[.string s, .int .u8 c] w fun e w' => e = .returned (.int .i64 (Lib.indexByte s.data.toList c.toNat.toUInt8)) ∧ w' = w) : MeetsL T P f (flIdx T.E) := by
  refine meetsL_int hf fun lo args bx res bx' hg => ?_
  simp only [flIdx] at hg
  split at hg
  · rename_i s c
    cases hg
    refine ⟨rfl, _, rfl, fun bx β ok w vs ha => ?_⟩
    obtain ⟨v, u, rfl, h1, h2⟩ := all2_two ha
    have h1 : v = .string ⟨s.toArray⟩ := h1
    have h2 : u = .int .u8 c := h2
    subst h1 h2
    refine (h ⟨s.toArray⟩ c w).mono ?_
    rintro e w' ⟨rfl, rfl⟩
    exact ⟨by rw [idxB_zero], Grow.refl _⟩
  · cases hg
theorem flAny_ok (hf : ∃ fn, P.funcs[f]? = some fn ∧ fn.body.isSome = true ∧ (fn.name == "runtime.NumGoroutine") = false)
    (h : ∀ (s chars : ByteArray) (w : World), 2 ≤ chars.size → s.size ≤ 8 → (∀ (j : Nat) b, s.data.toList[j]? = some b → b.toNat < 128) → Calls P f #[.string s, .string chars] w fun e w' => e = .returned (.int .i64 (Lib.indexAny s.data.toList chars.data.toList)) ∧ ∃ pos, w' = w.iter s pos) : MeetsL T P f (flAny T.E) := by
  refine meetsL_int hf fun lo args bx res bx' hg => ?_
  simp only [flAny] at hg
  split at hg
  · rename_i a b r
    cases hg
    refine ⟨rfl, _, rfl, fun bx β ok w vs ha => ?_⟩
    obtain ⟨v, u, rfl, h1, h2⟩ := all2_two ha
    have h1 : v = .string ⟨#[]⟩ := h1
    have h2 : u = .string ⟨(a :: b :: r).toArray⟩ := h2
    subst h1 h2
    refine (h ⟨#[]⟩ ⟨(a :: b :: r).toArray⟩ w (by simp [ByteArray.size]) (by simp [ByteArray.size]) (by intro j b hb; simp at hb)).mono ?_
    rintro e w' ⟨rfl, pos, rfl⟩
    exact ⟨rfl, Grow.alloc _ _⟩
  · cases hg
end
end Go.Ab
namespace Go.Ab
open Go
section
variable {T : Tab} {ti : TypeId → Option (TI T.E)} {eqs : TypeId → Bool} {P : Program} {f : FuncId} {g : List UInt8 → Option Bool}
theorem strBool_of (h : MeetsT T ti eqs P f (f1 [.str] .bool fun x => g x.1)) (s : List UInt8) (b : Bool) (w : World) (hg : g s = some b) :
    Calls P f #[.string ⟨s.toArray⟩] w fun e w' => e = .returned (.bool b) ∧ w.grownBy w' none := by
  have hS : (f1 (E := T.E) [.str] .bool fun x => g x.1).f (s, ()) = some (b, ()) := by
    show Option.map _ (g s) = _
    rw [hg]; rfl
  refine (h.2 (s, ()) (b, ()) hS (fun _ => False) w [.string ⟨s.toArray⟩] [] ⟨_, [], [], [], rfl, rfl, ?_, rfl, rfl⟩ List.nodup_nil (fun _ h => by simp at h) (fun _ h => h.elim)).mono ?_
  · exact .data rfl
  · rintro e w' ⟨rs, own', rfl, hb, _, _, hr⟩
    obtain ⟨v, vr, o1, o2, rfl, _, ⟨ls, hl, hv⟩, rfl, _⟩ := hr
    have hl : OwnLeaves T _ w' [] [Leaf.bool b] ls o1 := hl
    cases hl with
    | more h1 h2 =>
      cases h2
      have h1 := h1 [] β0
      simp only [LeafRep] at h1
      subst h1
      have hv : [Value.bool b] = [v] := hv
      cases hv
      exact ⟨rfl, hb.os, hb.tape, hb.output, hb.size, fun k hk _ => hb.heap k hk (by simp)⟩
theorem of_strBool (hf : ∃ fn, P.funcs[f]? = some fn ∧ fn.body.isSome = true ∧ (fn.name == "runtime.NumGoroutine") = false)
    (h : ∀ s b w, g s = some b → Calls P f #[.string ⟨s.toArray⟩] w fun e w' => e = .returned (.bool b) ∧ w.grownBy w' none) : MeetsT T ti eqs P f (f1 [.str] .bool fun x => g x.1) := by
  refine ⟨hf, fun x y hxy okp w vs own hargs hnd hown hokp => ?_⟩
  obtain ⟨s, u⟩ := x
  have hxy : Option.map (fun r => (r, ())) (g s) = some y := hxy
  obtain ⟨b, hb, rfl⟩ := Option.map_eq_some_iff.1 hxy
  obtain ⟨v, vr, o1, o2, rfl, rfl, ha, rfl, rfl⟩ := hargs
  have ha : ArgRep T okp w 0 .str s v o1 := ha
  cases ha with
  | data hd =>
    have hd : [v] = [Value.string ⟨s.toArray⟩] := hd
    cases hd
    refine (h s b w hb).mono ?_
    rintro e w' ⟨rfl, hg⟩
    refine ⟨[.bool b], [], rfl, ⟨hg.os, hg.tape, hg.output, hg.size, fun k hk _ => hg.block k hk (by simp)⟩, List.nodup_nil, fun _ h => by simp at h, _, _, [], [], rfl, rfl, ?_, rfl, rfl⟩
    exact ⟨[.bool b], .more (fun bx β => rfl) .nil, rfl⟩
end
end Go.Ab
namespace Go.Ab
open Go
set_option linter.unusedVariables false
structure ApiRat where
  N : Int
  D : Int
def ApiRatZ : ApiRat := ⟨(0 : Int), (0 : Int)⟩
structure ApiExpr where
  Op : Int
  Name : List UInt8
  N : ApiRat
  Kids : List ApiExpr
def ApiExprZ : ApiExpr := ⟨(0 : Int), ([] : (List UInt8)), (ApiRatZ), ([] : (List ApiExpr))⟩
def ApiExprEta (z : ApiExpr) : ApiExpr := ⟨z.Op, z.Name, z.N, z.Kids⟩
theorem ApiExprEta_eq (z : ApiExpr) : ApiExprEta z = z := by cases z; rfl
structure ApiMod where
  Path : List UInt8
  Type_ : List UInt8
  Value : ApiExpr
def ApiModZ : ApiMod := ⟨([] : (List UInt8)), ([] : (List UInt8)), (ApiExprZ)⟩
def ApiModEta (z : ApiMod) : ApiMod := ⟨z.Path, z.Type_, ApiExprEta z.Value⟩
theorem ApiModEta_eq (z : ApiMod) : ApiModEta z = z := by cases z; simp only [ApiModEta, ApiExprEta_eq]
structure ApiBase where
  Name : List UInt8
  Mods : List ApiMod
def ApiBaseZ : ApiBase := ⟨([] : (List UInt8)), ([] : (List ApiMod))⟩
structure ApiComp where
  Name : List UInt8
  Type_ : List UInt8
  Var : Int
  Flow : Bool
  Size : Int
  Scope : Int
  Replace : Bool
  Cond : ApiExpr
  Value : ApiExpr
  Unit : List UInt8
  Mods : List ApiMod
def ApiCompZ : ApiComp := ⟨([] : (List UInt8)), ([] : (List UInt8)), (0 : Int), false, (0 : Int), (0 : Int), false, (ApiExprZ), (ApiExprZ), ([] : (List UInt8)), ([] : (List ApiMod))⟩
structure ApiEq where
  Init : Bool
  L : ApiExpr
  R : ApiExpr
def ApiEqZ : ApiEq := ⟨false, (ApiExprZ), (ApiExprZ)⟩
structure ApiLink where
  A : List UInt8
  B : List UInt8
  In : List UInt8
def ApiLinkZ : ApiLink := ⟨([] : (List UInt8)), ([] : (List UInt8)), ([] : (List UInt8))⟩
structure ApiSet where
  Name : List UInt8
  E : ApiExpr
def ApiSetZ : ApiSet := ⟨([] : (List UInt8)), (ApiExprZ)⟩
structure ApiWhen where
  C : ApiExpr
  Sets : List ApiSet
def ApiWhenZ : ApiWhen := ⟨(ApiExprZ), ([] : (List ApiSet))⟩
structure ApiClass where
  Name : List UInt8
  Kind : Int
  Bases : List ApiBase
  Comps : List ApiComp
  Eqs : List ApiEq
  Links : List ApiLink
  Whens : List ApiWhen
def ApiClassZ : ApiClass := ⟨([] : (List UInt8)), (0 : Int), ([] : (List ApiBase)), ([] : (List ApiComp)), ([] : (List ApiEq)), ([] : (List ApiLink)), ([] : (List ApiWhen))⟩
structure ScopeStep where
  class_ : Int
  by_ : Int
  base : Int
def ScopeStepZ : ScopeStep := ⟨(0 : Int), (0 : Int), (0 : Int)⟩
structure ScopeLook where
  comps : List ApiComp
  mods : List ApiMod
def ScopeLookZ : ScopeLook := ⟨([] : (List ApiComp)), ([] : (List ApiMod))⟩
structure ModelPart where
  e : ApiExpr
  cond : Bool
def ModelPartZ : ModelPart := ⟨(ApiExprZ), false⟩
noncomputable section
def isoclinelaw09Known : Option Bool := some true
def modelIsLetter (a0 : Int) : Option Bool :=
  if decide ((97 : Int) ≤ a0) then
    if decide (a0 ≤ (122 : Int)) then
      some true
    else
      if decide ((65 : Int) ≤ a0) then
        some (decide (a0 ≤ (90 : Int)))
      else
        some false
  else
    if decide ((65 : Int) ≤ a0) then
      some (decide (a0 ≤ (90 : Int)))
    else
      some false
def modelIsReserved (a0 : (List UInt8)) : Option Bool :=
  if decide (a0 = ([109, 111, 100, 101, 108] : List UInt8)) then
    some true
  else
    if decide (a0 = ([112, 111, 114, 116] : List UInt8)) then
      some true
    else
      if decide (a0 = ([112, 97, 114, 116, 105, 97, 108] : List UInt8)) then
        some true
      else
        if decide (a0 = ([101, 120, 116, 101, 110, 100, 115] : List UInt8)) then
          some true
        else
          if decide (a0 = ([105, 110, 110, 101, 114] : List UInt8)) then
            some true
          else
            if decide (a0 = ([111, 117, 116, 101, 114] : List UInt8)) then
              some true
            else
              if decide (a0 = ([114, 101, 112, 108, 97, 99, 101, 97, 98, 108, 101] : List UInt8)) then
                some true
              else
                if decide (a0 = ([102, 108, 111, 119] : List UInt8)) then
                  some true
                else
                  if decide (a0 = ([112, 97, 114, 97, 109, 101, 116, 101, 114] : List UInt8)) then
                    some true
                  else
                    if decide (a0 = ([100, 105, 115, 99, 114, 101, 116, 101] : List UInt8)) then
                      some true
                    else
                      if decide (a0 = ([101, 113, 117, 97, 116, 105, 111, 110] : List UInt8)) then
                        some true
                      else
                        if decide (a0 = ([105, 110, 105, 116, 105, 97, 108] : List UInt8)) then
                          some true
                        else
                          if decide (a0 = ([99, 111, 110, 110, 101, 99, 116] : List UInt8)) then
                            some true
                          else
                            if decide (a0 = ([119, 104, 101, 110] : List UInt8)) then
                              some true
                            else
                              if decide (a0 = ([115, 101, 116] : List UInt8)) then
                                some true
                              else
                                if decide (a0 = ([101, 110, 100] : List UInt8)) then
                                  some true
                                else
                                  if decide (a0 = ([105, 110] : List UInt8)) then
                                    some true
                                  else
                                    if decide (a0 = ([105, 115] : List UInt8)) then
                                      some true
                                    else
                                      if decide (a0 = ([82, 101, 97, 108] : List UInt8)) then
                                        some true
                                      else
                                        if decide (a0 = ([116, 105, 109, 101] : List UInt8)) then
                                          some true
                                        else
                                          if decide (a0 = ([99, 108, 97, 115, 115] : List UInt8)) then
                                            some true
                                          else
                                            if decide (a0 = ([99, 111, 110, 110, 101, 99, 116, 111, 114] : List UInt8)) then
                                              some true
                                            else
                                              if decide (a0 = ([97, 98, 115, 116, 114, 97, 99, 116] : List UInt8)) then
                                                some true
                                              else
                                                if decide (a0 = ([98, 97, 115, 101] : List UInt8)) then
                                                  some true
                                                else
                                                  if decide (a0 = ([112, 97, 114, 97, 109] : List UInt8)) then
                                                    some true
                                                  else
                                                    if decide (a0 = ([115, 116, 97, 116, 101] : List UInt8)) then
                                                      some true
                                                    else
                                                      if decide (a0 = ([110, 117, 109, 98, 101, 114] : List UInt8)) then
                                                        some true
                                                      else
                                                        if decide (a0 = ([101, 113] : List UInt8)) then
                                                          some true
                                                        else
                                                          if decide (a0 = ([115, 116, 97, 114, 116] : List UInt8)) then
                                                            some true
                                                          else
                                                            if decide (a0 = ([119, 105, 114, 101] : List UInt8)) then
                                                              some true
                                                            else
                                                              if decide (a0 = ([111, 110] : List UInt8)) then
                                                                some true
                                                              else
                                                                if decide (a0 = ([112, 117, 116] : List UInt8)) then
                                                                  some true
                                                                else
                                                                  if decide (a0 = ([105, 102] : List UInt8)) then
                                                                    some true
                                                                  else
                                                                    if decide (a0 = ([116, 104, 101, 110] : List UInt8)) then
                                                                      some true
                                                                    else
                                                                      if decide (a0 = ([101, 108, 115, 101] : List UInt8)) then
                                                                        some true
                                                                      else
                                                                        if decide (a0 = ([111, 114] : List UInt8)) then
                                                                          some true
                                                                        else
                                                                          if decide (a0 = ([97, 110, 100] : List UInt8)) then
                                                                            some true
                                                                          else
                                                                            if decide (a0 = ([110, 111, 116] : List UInt8)) then
                                                                              some true
                                                                            else
                                                                              if decide (a0 = ([100, 101, 114] : List UInt8)) then
                                                                                some true
                                                                              else
                                                                                if decide (a0 = ([112, 114, 101] : List UInt8)) then
                                                                                  some true
                                                                                else
                                                                                  if decide (a0 = ([97, 98, 115] : List UInt8)) then
                                                                                    some true
                                                                                  else
                                                                                    if decide (a0 = ([109, 105, 110] : List UInt8)) then
                                                                                      some true
                                                                                    else
                                                                                      if decide (a0 = ([109, 97, 120] : List UInt8)) then
                                                                                        some true
                                                                                      else
                                                                                        some false
def modelIsDigit (a0 : Int) : Option Bool :=
  if decide ((48 : Int) ≤ a0) then
    some (decide (a0 ≤ (57 : Int)))
  else
    some false
def modelIsSimpleJ1 : Option Bool :=
  some false
def modelIsSimpleJ2 (a0 : (List UInt8)) (v1 : Int) : Option (Int ⊕ (Unit ⊕ Bool)) :=
  some (.inl (IntKind.wrap .i64 (v1 + (1 : Int))))
def modelIsSimpleL1 (a0 : (List UInt8)) (v1 : Int) : Option (Int ⊕ (Unit ⊕ Bool)) :=
  if decide (v1 < (a0.length : Int)) then
    need (inRange v1 a0.length) <|
    Option.bind (modelIsLetter ((List.getD a0 v1.toNat 0).toNat : Int)) fun y3 =>
    if !y3 then
      need (inRange v1 a0.length) <|
      Option.bind (modelIsDigit ((List.getD a0 v1.toNat 0).toNat : Int)) fun y4 =>
      if !y4 then
        need (inRange v1 a0.length) <|
        if !decide (((List.getD a0 v1.toNat 0).toNat : Int) = (95 : Int)) then
          some (.inr (.inr false))
        else
          modelIsSimpleJ2 a0 v1
      else
        modelIsSimpleJ2 a0 v1
    else
      modelIsSimpleJ2 a0 v1
  else
    some (.inr (.inl ()))
def modelIsSimple (a0 : (List UInt8)) : Option Bool :=
  if decide ((a0.length : Int) < (1 : Int)) then
    modelIsSimpleJ1
  else
    if decide ((16 : Int) < (a0.length : Int)) then
      modelIsSimpleJ1
    else
      need (inRange (0 : Int) a0.length) <|
      Option.bind (modelIsLetter ((List.getD a0 (0 : Int).toNat 0).toNat : Int)) fun y1 =>
      if !y1 then
        modelIsSimpleJ1
      else
        Option.bind (modelIsReserved a0) fun y2 =>
        if y2 then
          modelIsSimpleJ1
        else
          Option.bind (iter (fun v : Int => modelIsSimpleL1 a0 v) (0 : Int)) fun r =>
          match r with
          | .inl r1 =>
            some true
          | .inr r2 =>
            some r2
def allDot (g : List UInt8 → Bool) : List UInt8 → List UInt8 → Bool
  | acc, [] => g acc
  | acc, c :: r => if c == 46 then g acc && allDot g [] r else allDot g (acc ++ [c]) r
open Classical in
def scopeIsPath (a0 : List UInt8) : Option Bool :=
  if (∀ x : List UInt8, x.length ≤ maxLen → (modelIsSimple x).isSome = true) ∧ a0.length ≤ maxLen then some (allDot (fun x => (modelIsSimple x).getD false) [] a0) else none
def scopeIsCleanL1 (a0 : (List ApiMod)) (v1 : Int) (v2 : (List ((List UInt8) × Bool))) : Option ((Int × (List ((List UInt8) × Bool))) ⊕ (Unit ⊕ Bool)) :=
  if decide (v1 < (a0.length : Int)) then
    need (inRange v1 a0.length) <|
    if Option.getD (mget kqS ((List.getD a0 (v1).toNat (ApiModZ)).Path) v2) false then
      some (.inr (.inr false))
    else
      some (.inl (IntKind.wrap .i64 (v1 + (1 : Int)), mput kqS ((List.getD a0 (v1).toNat (ApiModZ)).Path) true v2))
  else
    some (.inr (.inl ()))
def scopeIsClean (a0 : (List ApiMod)) : Option Bool :=
  Option.bind (iter (fun v : (Int × (List ((List UInt8) × Bool))) => scopeIsCleanL1 a0 v.1 v.2) ((0 : Int), ([] : (List ((List UInt8) × Bool))))) fun r =>
  match r with
  | .inl r1 =>
    some true
  | .inr r2 =>
    some r2
def scopeMerge_1 (z0 : ApiMod) (a0 : ApiMod) : Option Bool :=
  some (decide (a0.Path = z0.Path))
def apiMod_L1 (a0 : (List ApiMod)) (z0 : ApiMod) (v1 : Int) : Option (Int ⊕ (Unit ⊕ Int)) :=
  if decide (v1 < (a0.length : Int)) then
    need (inRange v1 a0.length) <|
    Option.bind (scopeMerge_1 z0 (ApiModEta (List.getD a0 (v1).toNat (ApiModZ)))) fun y1 =>
    if y1 then
      some (.inr (.inr v1))
    else
      some (.inl (IntKind.wrap .i64 (v1 + (1 : Int))))
  else
    some (.inr (.inl ()))
def apiMod_ (z0 : ApiMod) (a0 : (List ApiMod)) : Option Int :=
  Option.bind (iter (fun v : Int => apiMod_L1 a0 z0 v) (0 : Int)) fun r =>
  match r with
  | .inl r1 =>
    some (-1 : Int)
  | .inr r2 =>
    some r2
def scopeMergeInJ1 (a0 : (List ApiMod)) (a1 : (List ApiMod)) (v1 : Int) (v3 : (List ApiMod)) (v4 : (List UInt8)) (v5 : (List UInt8)) (v6 : Int) (v7 : (List UInt8)) (v8 : Int) (v9 : Int) (v10 : (List ApiExpr)) (v11 : (List ((List UInt8) × Bool))) : Option ((Int × (List ((List UInt8) × Bool)) × (List ApiMod)) ⊕ ((List ((List UInt8) × Bool)) × (List ApiMod))) :=
  need ((v3.length + [(⟨v4, v5, (⟨v6, v7, (⟨v8, v9⟩ : ApiRat), v10⟩ : ApiExpr)⟩ : ApiMod)].length) * 96 ≤ maxBytes) <|
  some (.inl (IntKind.wrap .i64 (v1 + (1 : Int)), v11, v3 ++ [(⟨v4, v5, (⟨v6, v7, (⟨v8, v9⟩ : ApiRat), v10⟩ : ApiExpr)⟩ : ApiMod)]))
def scopeMergeInL1 (a0 : (List ApiMod)) (a1 : (List ApiMod)) (v1 : Int) (v2 : (List ((List UInt8) × Bool))) (v3 : (List ApiMod)) : Option ((Int × (List ((List UInt8) × Bool)) × (List ApiMod)) ⊕ ((List ((List UInt8) × Bool)) × (List ApiMod))) :=
  if decide (v1 < (a1.length : Int)) then
    need (inRange v1 a1.length) <|
    Option.bind (apiMod_ (ApiModEta (List.getD a1 (v1).toNat (ApiModZ))) a0) fun y1 =>
    if decide ((0 : Int) ≤ y1) then
      need (inRange y1 a0.length) <|
      scopeMergeInJ1 a0 a1 v1 v3 ((List.getD a0 (y1).toNat (ApiModZ)).Path) ((List.getD a0 (y1).toNat (ApiModZ)).Type_) (((List.getD a0 (y1).toNat (ApiModZ)).Value).Op) (((List.getD a0 (y1).toNat (ApiModZ)).Value).Name) ((((List.getD a0 (y1).toNat (ApiModZ)).Value).N).N) ((((List.getD a0 (y1).toNat (ApiModZ)).Value).N).D) (((List.getD a0 (y1).toNat (ApiModZ)).Value).Kids) (mput kqS ((List.getD a0 (y1).toNat (ApiModZ)).Path) true v2)
    else
      scopeMergeInJ1 a0 a1 v1 v3 ((List.getD a1 (v1).toNat (ApiModZ)).Path) ((List.getD a1 (v1).toNat (ApiModZ)).Type_) (((List.getD a1 (v1).toNat (ApiModZ)).Value).Op) (((List.getD a1 (v1).toNat (ApiModZ)).Value).Name) ((((List.getD a1 (v1).toNat (ApiModZ)).Value).N).N) ((((List.getD a1 (v1).toNat (ApiModZ)).Value).N).D) (((List.getD a1 (v1).toNat (ApiModZ)).Value).Kids) v2
  else
    some (.inr (v2, v3))
def scopeMergeInJ2 (a0 : (List ApiMod)) (v14 : Int) (v16 : (List ApiMod)) (r1 : ((List ((List UInt8) × Bool)) × (List ApiMod))) : Option ((Int × (List ApiMod)) ⊕ (List ApiMod)) :=
  some (.inl (IntKind.wrap .i64 (v14 + (1 : Int)), v16))
def scopeMergeInL2 (a0 : (List ApiMod)) (r1 : ((List ((List UInt8) × Bool)) × (List ApiMod))) (v14 : Int) (v15 : (List ApiMod)) : Option ((Int × (List ApiMod)) ⊕ (List ApiMod)) :=
  if decide (v14 < (a0.length : Int)) then
    need (inRange v14 a0.length) <|
    if !(Option.getD (mget kqS ((List.getD a0 (v14).toNat (ApiModZ)).Path) r1.1) false) then
      need ((v15.length + [(ApiModEta (List.getD a0 (v14).toNat (ApiModZ)))].length) * 96 ≤ maxBytes) <|
      scopeMergeInJ2 a0 v14 (v15 ++ [(ApiModEta (List.getD a0 (v14).toNat (ApiModZ)))]) r1
    else
      scopeMergeInJ2 a0 v14 v15 r1
  else
    some (.inr v15)
def scopeMergeIn (a0 : (List ApiMod)) (a1 : (List ApiMod)) : Option (List ApiMod) :=
  Option.bind (iter (fun v : (Int × (List ((List UInt8) × Bool)) × (List ApiMod)) => scopeMergeInL1 a0 a1 v.1 v.2.1 v.2.2) ((0 : Int), ([] : (List ((List UInt8) × Bool))), [])) fun r1 =>
    Option.bind (iter (fun v : (Int × (List ApiMod)) => scopeMergeInL2 a0 r1 v.1 v.2) ((0 : Int), r1.2)) fun r2 =>
      some r2
def exprClone_1 (a0 : ApiExpr) : Option ApiExpr :=
  some (⟨a0.Op, a0.Name, a0.N, []⟩ : ApiExpr)
def exprMapBL1 (R : ApiExpr → Option ApiExpr) (a0 : ApiExpr) (v1 : Int) (v2 : (List ApiExpr)) : Option ((Int × (List ApiExpr)) ⊕ (List ApiExpr)) :=
  if decide (v1 < (a0.Kids.length : Int)) then
    need (inRange v1 a0.Kids.length) <|
    Option.bind (R (ApiExprEta (List.getD a0.Kids (v1).toNat (ApiExprZ)))) fun y2 =>
    need ((v2.length + [(ApiExprEta y2)].length) * 64 ≤ maxBytes) <|
    some (.inl (IntKind.wrap .i64 (v1 + (1 : Int)), v2 ++ [(ApiExprEta y2)]))
  else
    some (.inr v2)
def exprMapB (R : ApiExpr → Option ApiExpr) (a0 : ApiExpr) : Option ApiExpr :=
  if decide ((a0.Kids.length : Int) = (0 : Int)) then
    Option.bind (exprClone_1 (ApiExprEta a0)) fun y1 =>
    some (ApiExprEta y1)
  else
    Option.bind (iter (fun v : (Int × (List ApiExpr)) => exprMapBL1 R a0 v.1 v.2) ((0 : Int), [])) fun r1 =>
      some (⟨a0.Op, a0.Name, a0.N, r1⟩ : ApiExpr)
def exprMapIt : Nat → ApiExpr → Option ApiExpr
  | 0 => fun _ => none
  | k + 1 => exprMapB (exprMapIt k)
def exprMap : ApiExpr → Option ApiExpr := fun a0 => exprMapIt (SizeOf.sizeOf a0 + 1) a0
def exprClone (a0 : ApiExpr) : Option ApiExpr :=
  Option.bind (exprMap (ApiExprEta a0)) fun y1 =>
  some (ApiExprEta y1)
def scopeCloneModsL1 (a0 : (List ApiMod)) (v1 : Int) (v2 : (List ApiMod)) : Option ((Int × (List ApiMod)) ⊕ (List ApiMod)) :=
  if decide (v1 < (a0.length : Int)) then
    need (inRange v1 v2.length) <|
    Option.bind (exprClone (ApiExprEta ((List.getD v2 v1.toNat (ApiModZ)).Value))) fun y1 =>
    need (inRange v1 v2.length) <|
    some (.inl (IntKind.wrap .i64 (v1 + (1 : Int)), List.set v2 v1.toNat (⟨(List.getD v2 v1.toNat (ApiModZ)).Path, (List.getD v2 v1.toNat (ApiModZ)).Type_, (ApiExprEta y1)⟩ : ApiMod)))
  else
    some (.inr v2)
def scopeCloneMods (a0 : (List ApiMod)) : Option (List ApiMod) :=
  need (0 ≤ (a0.length : Int)) <|
  need ((a0.length : Int) ≤ (a0.length : Int)) <|
  need ((a0.length : Int) * ((96 : Nat) : Int) ≤ (maxBytes : Int)) <|
  need (a0.length = (List.replicate ((a0.length : Int)).toNat (⟨([] : List UInt8), ([] : List UInt8), (⟨(0 : Int), ([] : List UInt8), (⟨(0 : Int), (0 : Int)⟩ : ApiRat), []⟩ : ApiExpr)⟩ : ApiMod)).length) <|
  Option.bind (iter (fun v : (Int × (List ApiMod)) => scopeCloneModsL1 a0 v.1 v.2) ((0 : Int), a0)) fun r1 =>
    some r1
def scopeMergeL1 (a0 : (List ApiMod)) (a1 : (List ApiMod)) (v1 : Int) : Option (Int ⊕ (Unit ⊕ ((List ApiMod) × Int))) :=
  if decide (v1 < ([a0, a1].length : Int)) then
    need (inRange v1 [a0, a1].length) <|
    if decide ((8 : Int) < ((List.getD [a0, a1] (v1).toNat ([] : (List ApiMod))).length : Int)) then
      some (.inr (.inr ([], (3 : Int))))
    else
      some (.inl (IntKind.wrap .i64 (v1 + (1 : Int))))
  else
    some (.inr (.inl ()))
def scopeMergeL3 (a0 : (List ApiMod)) (a1 : (List ApiMod)) (v2 : Int) (v3 : Int) (v4 : Int) : Option ((Int × Int) ⊕ (Unit ⊕ ((List ApiMod) × Int))) :=
  if decide (v4 < v3) then
    need (inRange v4 (List.getD [a0, a1] (v2).toNat ([] : (List ApiMod))).length) <|
    Option.bind (scopeIsPath ((List.getD (List.getD [a0, a1] (v2).toNat ([] : (List ApiMod))) (v4).toNat (ApiModZ)).Path)) fun y1 =>
    if !y1 then
      some (.inr (.inr ([], (1 : Int))))
    else
      some (.inl (v3, IntKind.wrap .i64 (v4 + (1 : Int))))
  else
    some (.inr (.inl ()))
def scopeMergeL2 (a0 : (List ApiMod)) (a1 : (List ApiMod)) (v2 : Int) : Option (Int ⊕ (Unit ⊕ ((List ApiMod) × Int))) :=
  if decide (v2 < ([a0, a1].length : Int)) then
    need (inRange v2 [a0, a1].length) <|
    Option.bind (iter (fun v : (Int × Int) => scopeMergeL3 a0 a1 v2 v.1 v.2) (((List.getD [a0, a1] (v2).toNat ([] : (List ApiMod))).length : Int), (0 : Int))) fun r =>
    match r with
    | .inl r2 =>
      some (.inl (IntKind.wrap .i64 (v2 + (1 : Int))))
    | .inr r3 =>
      some (.inr (.inr r3))
  else
    some (.inr (.inl ()))
def scopeMergeJ1 : Option ((List ApiMod) × Int) :=
  some ([], (5 : Int))
def scopeMerge (a0 : (List ApiMod)) (a1 : (List ApiMod)) : Option ((List ApiMod) × Int) :=
  Option.bind (iter (fun v : Int => scopeMergeL1 a0 a1 v) (0 : Int)) fun r =>
  match r with
  | .inl r1 =>
    Option.bind (iter (fun v : Int => scopeMergeL2 a0 a1 v) (0 : Int)) fun r =>
    match r with
    | .inl r4 =>
      Option.bind (scopeIsClean a0) fun y2 =>
      if !y2 then
        scopeMergeJ1
      else
        Option.bind (scopeIsClean a1) fun y3 =>
        if !y3 then
          scopeMergeJ1
        else
          Option.bind (scopeMergeIn a0 a1) fun y4 =>
          if decide ((8 : Int) < (y4.length : Int)) then
            some ([], (3 : Int))
          else
            Option.bind (scopeCloneMods y4) fun y5 =>
            some (y5, (0 : Int))
    | .inr r5 =>
      some r5
  | .inr r6 =>
    some r6
def isoclineref07EqualBJ1 (R : ApiExpr → ApiExpr → Option Bool) : Option Bool :=
  some false
def isoclineref07EqualBL1 (R : ApiExpr → ApiExpr → Option Bool) (a0 : ApiExpr) (a1 : ApiExpr) (v1 : Int) : Option (Int ⊕ (Unit ⊕ Bool)) :=
  if decide (v1 < (a0.Kids.length : Int)) then
    need (inRange v1 a0.Kids.length) <|
    need (inRange v1 a1.Kids.length) <|
    Option.bind (R (ApiExprEta (List.getD a0.Kids (v1).toNat (ApiExprZ))) (ApiExprEta (List.getD a1.Kids (v1).toNat (ApiExprZ)))) fun y1 =>
    if !y1 then
      some (.inr (.inr false))
    else
      some (.inl (IntKind.wrap .i64 (v1 + (1 : Int))))
  else
    some (.inr (.inl ()))
def isoclineref07EqualB (R : ApiExpr → ApiExpr → Option Bool) (a0 : ApiExpr) (a1 : ApiExpr) : Option Bool :=
  if !decide (a0.Op = a1.Op) then
    isoclineref07EqualBJ1 R
  else
    if !decide (a0.Name = a1.Name) then
      isoclineref07EqualBJ1 R
    else
      if !(decide (a0.N.N = a1.N.N) && (decide (a0.N.D = a1.N.D) && true)) then
        isoclineref07EqualBJ1 R
      else
        if !decide ((a0.Kids.length : Int) = (a1.Kids.length : Int)) then
          isoclineref07EqualBJ1 R
        else
          Option.bind (iter (fun v : Int => isoclineref07EqualBL1 R a0 a1 v) (0 : Int)) fun r =>
          match r with
          | .inl r1 =>
            some true
          | .inr r2 =>
            some r2
def isoclineref07EqualIt : Nat → ApiExpr → ApiExpr → Option Bool
  | 0 => fun _ _ => none
  | k + 1 => isoclineref07EqualB (isoclineref07EqualIt k)
def isoclineref07Equal : ApiExpr → ApiExpr → Option Bool := fun a0 a1 => isoclineref07EqualIt (SizeOf.sizeOf a0 + 1) a0 a1
def isoclineref09SameModsJ1 : Option (Int ⊕ (Unit ⊕ Bool)) :=
  some (.inr (.inr false))
def isoclineref09SameModsL1 (a0 : (List ApiMod)) (a1 : (List ApiMod)) (v1 : Int) : Option (Int ⊕ (Unit ⊕ Bool)) :=
  if decide (v1 < (a0.length : Int)) then
    need (inRange v1 a0.length) <|
    need (inRange v1 a1.length) <|
    if !decide (((List.getD a0 (v1).toNat (ApiModZ)).Path) = ((List.getD a1 (v1).toNat (ApiModZ)).Path)) then
      isoclineref09SameModsJ1
    else
      need (inRange v1 a0.length) <|
      need (inRange v1 a1.length) <|
      if !decide (((List.getD a0 (v1).toNat (ApiModZ)).Type_) = ((List.getD a1 (v1).toNat (ApiModZ)).Type_)) then
        isoclineref09SameModsJ1
      else
        need (inRange v1 a0.length) <|
        need (inRange v1 a1.length) <|
        Option.bind (isoclineref07Equal (ApiExprEta ((List.getD a0 (v1).toNat (ApiModZ)).Value)) (ApiExprEta ((List.getD a1 (v1).toNat (ApiModZ)).Value))) fun y1 =>
        if !y1 then
          isoclineref09SameModsJ1
        else
          some (.inl (IntKind.wrap .i64 (v1 + (1 : Int))))
  else
    some (.inr (.inl ()))
def isoclineref09SameMods (a0 : (List ApiMod)) (a1 : (List ApiMod)) : Option Bool :=
  if !decide ((a0.length : Int) = (a1.length : Int)) then
    some false
  else
    Option.bind (iter (fun v : Int => isoclineref09SameModsL1 a0 a1 v) (0 : Int)) fun r =>
    match r with
    | .inl r1 =>
      some true
    | .inr r2 =>
      some r2
def isoclinelaw09ScopeMergeTwice (a0 : (List ApiMod)) (a1 : (List ApiMod)) : Option Bool :=
  Option.bind (scopeMerge a0 a1) fun y1 =>
  if !decide (y1.2 = (0 : Int)) then
    Option.bind (isoclinelaw09Known) fun y2 =>
    some y2
  else
    Option.bind (scopeMerge a0 y1.1) fun y3 =>
    Option.bind (scopeMerge [] y1.1) fun y4 =>
    if decide (y3.2 = (0 : Int)) then
      Option.bind (isoclineref09SameMods y1.1 y3.1) fun y5 =>
      if y5 then
        if decide (y4.2 = (0 : Int)) then
          Option.bind (isoclineref09SameMods y1.1 y4.1) fun y6 =>
          if y6 then
            Option.bind (isoclinelaw09Known) fun y7 =>
            some y7
          else
            some false
        else
          some false
      else
        some false
    else
      some false
end
end Go.Ab
namespace Go.Ab
open Go
set_option linter.unusedVariables false
@[reducible] def ydE : Nat → Type
  | 0 => ApiRat
  | 1 => ApiExpr
  | 2 => ApiMod
  | 3 => ApiBase
  | 4 => ApiComp
  | 5 => ApiEq
  | 6 => ApiLink
  | 7 => ApiSet
  | 8 => ApiWhen
  | 9 => ApiClass
  | 10 => ScopeStep
  | 11 => ScopeLook
  | 12 => ModelPart
  | _ => Unit
def avApiRat (z : ApiRat) : List AV := [.int .i64 z.N] ++ ([.int .i64 z.D])
def ydToApiRat (z : ApiRat) : List (Leaf ydE) := [.int .i64 z.N] ++ ([.int .i64 z.D])
def ydPApiRat : Prs ydE ApiRat := pMap (pSeq (pInt .i64) (pInt .i64)) fun x => ⟨x.1, x.2⟩
theorem ydPApiRat_spec : Prs.Spec ydPApiRat ydToApiRat := pMap_spec (pSeq_spec (pInt_spec _) ((pInt_spec _))) _ _ fun _ => rfl
mutual
def avApiExpr : ApiExpr → List AV
  | ⟨Op, Name, N, Kids⟩ => [.int .i64 Op] ++ ([.str Name] ++ (avApiRat N ++ ([.sl 5 false (avApiExprs Kids)])))
def avApiExprs : List ApiExpr → List AV
  | [] => []
  | k :: r => AV.ag (avApiExpr k) :: avApiExprs r
end
theorem avApiExprs_eq : ∀ l : List ApiExpr, avApiExprs l = List.map (fun z => AV.ag (avApiExpr z)) l
  | [] => rfl
  | k :: r => by rw [avApiExprs, avApiExprs_eq r]; rfl
theorem avApiExpr_eq (z : ApiExpr) : avApiExpr z = [.int .i64 z.Op] ++ ([.str z.Name] ++ (avApiRat z.N ++ ([.sl 5 false (List.map (fun z => AV.ag (avApiExpr z)) z.Kids)]))) := by cases z; rw [avApiExpr, avApiExprs_eq]
def ydToApiExpr (z : ApiExpr) : List (Leaf ydE) := [.int .i64 z.Op] ++ ([.str z.Name] ++ (ydToApiRat z.N ++ ([.sl (.nm 1) false z.Kids])))
def ydPApiExpr : Prs ydE ApiExpr := pMap (pSeq (pInt .i64) (pSeq (pStr) (pSeq (ydPApiRat) (pSl (.nm 1) false)))) fun x => ⟨x.1, x.2.1, x.2.2.1, x.2.2.2⟩
theorem ydPApiExpr_spec : Prs.Spec ydPApiExpr ydToApiExpr := pMap_spec (pSeq_spec (pInt_spec _) (pSeq_spec pStr_spec (pSeq_spec ydPApiRat_spec ((pSl_spec _ _))))) _ _ fun _ => rfl
def avApiMod (z : ApiMod) : List AV := [.str z.Path] ++ ([.str z.Type_] ++ (avApiExpr z.Value))
def ydToApiMod (z : ApiMod) : List (Leaf ydE) := [.str z.Path] ++ ([.str z.Type_] ++ (ydToApiExpr z.Value))
def ydPApiMod : Prs ydE ApiMod := pMap (pSeq (pStr) (pSeq (pStr) (ydPApiExpr))) fun x => ⟨x.1, x.2.1, x.2.2⟩
theorem ydPApiMod_spec : Prs.Spec ydPApiMod ydToApiMod := pMap_spec (pSeq_spec pStr_spec (pSeq_spec pStr_spec (ydPApiExpr_spec))) _ _ fun _ => rfl
def avApiBase (z : ApiBase) : List AV := [.str z.Name] ++ ([.sl 7 false (List.map (fun z => AV.ag (avApiMod z)) z.Mods)])
def ydToApiBase (z : ApiBase) : List (Leaf ydE) := [.str z.Name] ++ ([.sl (.nm 2) false z.Mods])
def ydPApiBase : Prs ydE ApiBase := pMap (pSeq (pStr) (pSl (.nm 2) false)) fun x => ⟨x.1, x.2⟩
theorem ydPApiBase_spec : Prs.Spec ydPApiBase ydToApiBase := pMap_spec (pSeq_spec pStr_spec ((pSl_spec _ _))) _ _ fun _ => rfl
def avApiComp (z : ApiComp) : List AV := [.str z.Name] ++ ([.str z.Type_] ++ ([.int .i64 z.Var] ++ ([.bool z.Flow] ++ ([.int .i64 z.Size] ++ ([.int .i64 z.Scope] ++ ([.bool z.Replace] ++ (avApiExpr z.Cond ++ (avApiExpr z.Value ++ ([.str z.Unit] ++ ([.sl 7 false (List.map (fun z => AV.ag (avApiMod z)) z.Mods)]))))))))))
def ydToApiComp (z : ApiComp) : List (Leaf ydE) := [.str z.Name] ++ ([.str z.Type_] ++ ([.int .i64 z.Var] ++ ([.bool z.Flow] ++ ([.int .i64 z.Size] ++ ([.int .i64 z.Scope] ++ ([.bool z.Replace] ++ (ydToApiExpr z.Cond ++ (ydToApiExpr z.Value ++ ([.str z.Unit] ++ ([.sl (.nm 2) false z.Mods]))))))))))
def ydPApiComp : Prs ydE ApiComp := pMap (pSeq (pStr) (pSeq (pStr) (pSeq (pInt .i64) (pSeq (pBool) (pSeq (pInt .i64) (pSeq (pInt .i64) (pSeq (pBool) (pSeq (ydPApiExpr) (pSeq (ydPApiExpr) (pSeq (pStr) (pSl (.nm 2) false))))))))))) fun x => ⟨x.1, x.2.1, x.2.2.1, x.2.2.2.1, x.2.2.2.2.1, x.2.2.2.2.2.1, x.2.2.2.2.2.2.1, x.2.2.2.2.2.2.2.1, x.2.2.2.2.2.2.2.2.1, x.2.2.2.2.2.2.2.2.2.1, x.2.2.2.2.2.2.2.2.2.2⟩
theorem ydPApiComp_spec : Prs.Spec ydPApiComp ydToApiComp := pMap_spec (pSeq_spec pStr_spec (pSeq_spec pStr_spec (pSeq_spec (pInt_spec _) (pSeq_spec pBool_spec (pSeq_spec (pInt_spec _) (pSeq_spec (pInt_spec _) (pSeq_spec pBool_spec (pSeq_spec ydPApiExpr_spec (pSeq_spec ydPApiExpr_spec (pSeq_spec pStr_spec ((pSl_spec _ _)))))))))))) _ _ fun _ => rfl
def avApiEq (z : ApiEq) : List AV := [.bool z.Init] ++ (avApiExpr z.L ++ (avApiExpr z.R))
def ydToApiEq (z : ApiEq) : List (Leaf ydE) := [.bool z.Init] ++ (ydToApiExpr z.L ++ (ydToApiExpr z.R))
def ydPApiEq : Prs ydE ApiEq := pMap (pSeq (pBool) (pSeq (ydPApiExpr) (ydPApiExpr))) fun x => ⟨x.1, x.2.1, x.2.2⟩
theorem ydPApiEq_spec : Prs.Spec ydPApiEq ydToApiEq := pMap_spec (pSeq_spec pBool_spec (pSeq_spec ydPApiExpr_spec (ydPApiExpr_spec))) _ _ fun _ => rfl
def avApiLink (z : ApiLink) : List AV := [.str z.A] ++ ([.str z.B] ++ ([.str z.In]))
def ydToApiLink (z : ApiLink) : List (Leaf ydE) := [.str z.A] ++ ([.str z.B] ++ ([.str z.In]))
def ydPApiLink : Prs ydE ApiLink := pMap (pSeq (pStr) (pSeq (pStr) (pStr))) fun x => ⟨x.1, x.2.1, x.2.2⟩
theorem ydPApiLink_spec : Prs.Spec ydPApiLink ydToApiLink := pMap_spec (pSeq_spec pStr_spec (pSeq_spec pStr_spec (pStr_spec))) _ _ fun _ => rfl
def avApiSet (z : ApiSet) : List AV := [.str z.Name] ++ (avApiExpr z.E)
def ydToApiSet (z : ApiSet) : List (Leaf ydE) := [.str z.Name] ++ (ydToApiExpr z.E)
def ydPApiSet : Prs ydE ApiSet := pMap (pSeq (pStr) (ydPApiExpr)) fun x => ⟨x.1, x.2⟩
theorem ydPApiSet_spec : Prs.Spec ydPApiSet ydToApiSet := pMap_spec (pSeq_spec pStr_spec (ydPApiExpr_spec)) _ _ fun _ => rfl
def avApiWhen (z : ApiWhen) : List AV := avApiExpr z.C ++ ([.sl 6 false (List.map (fun z => AV.ag (avApiSet z)) z.Sets)])
def ydToApiWhen (z : ApiWhen) : List (Leaf ydE) := ydToApiExpr z.C ++ ([.sl (.nm 7) false z.Sets])
def ydPApiWhen : Prs ydE ApiWhen := pMap (pSeq (ydPApiExpr) (pSl (.nm 7) false)) fun x => ⟨x.1, x.2⟩
theorem ydPApiWhen_spec : Prs.Spec ydPApiWhen ydToApiWhen := pMap_spec (pSeq_spec ydPApiExpr_spec ((pSl_spec _ _))) _ _ fun _ => rfl
def avApiClass (z : ApiClass) : List AV := [.str z.Name] ++ ([.int .i64 z.Kind] ++ ([.sl 2 false (List.map (fun z => AV.ag (avApiBase z)) z.Bases)] ++ ([.sl 19 false (List.map (fun z => AV.ag (avApiComp z)) z.Comps)] ++ ([.sl 11 false (List.map (fun z => AV.ag (avApiEq z)) z.Eqs)] ++ ([.sl 3 false (List.map (fun z => AV.ag (avApiLink z)) z.Links)] ++ ([.sl 6 false (List.map (fun z => AV.ag (avApiWhen z)) z.Whens)]))))))
def ydToApiClass (z : ApiClass) : List (Leaf ydE) := [.str z.Name] ++ ([.int .i64 z.Kind] ++ ([.sl (.nm 3) false z.Bases] ++ ([.sl (.nm 4) false z.Comps] ++ ([.sl (.nm 5) false z.Eqs] ++ ([.sl (.nm 6) false z.Links] ++ ([.sl (.nm 8) false z.Whens]))))))
def ydPApiClass : Prs ydE ApiClass := pMap (pSeq (pStr) (pSeq (pInt .i64) (pSeq (pSl (.nm 3) false) (pSeq (pSl (.nm 4) false) (pSeq (pSl (.nm 5) false) (pSeq (pSl (.nm 6) false) (pSl (.nm 8) false))))))) fun x => ⟨x.1, x.2.1, x.2.2.1, x.2.2.2.1, x.2.2.2.2.1, x.2.2.2.2.2.1, x.2.2.2.2.2.2⟩
theorem ydPApiClass_spec : Prs.Spec ydPApiClass ydToApiClass := pMap_spec (pSeq_spec pStr_spec (pSeq_spec (pInt_spec _) (pSeq_spec (pSl_spec _ _) (pSeq_spec (pSl_spec _ _) (pSeq_spec (pSl_spec _ _) (pSeq_spec (pSl_spec _ _) ((pSl_spec _ _)))))))) _ _ fun _ => rfl
def avScopeStep (z : ScopeStep) : List AV := [.int .i64 z.class_] ++ ([.int .i64 z.by_] ++ ([.int .i64 z.base]))
def ydToScopeStep (z : ScopeStep) : List (Leaf ydE) := [.int .i64 z.class_] ++ ([.int .i64 z.by_] ++ ([.int .i64 z.base]))
def ydPScopeStep : Prs ydE ScopeStep := pMap (pSeq (pInt .i64) (pSeq (pInt .i64) (pInt .i64))) fun x => ⟨x.1, x.2.1, x.2.2⟩
theorem ydPScopeStep_spec : Prs.Spec ydPScopeStep ydToScopeStep := pMap_spec (pSeq_spec (pInt_spec _) (pSeq_spec (pInt_spec _) ((pInt_spec _)))) _ _ fun _ => rfl
def avScopeLook (z : ScopeLook) : List AV := [.sl 19 false (List.map (fun z => AV.ag (avApiComp z)) z.comps)] ++ ([.sl 7 false (List.map (fun z => AV.ag (avApiMod z)) z.mods)])
def ydToScopeLook (z : ScopeLook) : List (Leaf ydE) := [.sl (.nm 4) false z.comps] ++ ([.sl (.nm 2) false z.mods])
def ydPScopeLook : Prs ydE ScopeLook := pMap (pSeq (pSl (.nm 4) false) (pSl (.nm 2) false)) fun x => ⟨x.1, x.2⟩
theorem ydPScopeLook_spec : Prs.Spec ydPScopeLook ydToScopeLook := pMap_spec (pSeq_spec (pSl_spec _ _) ((pSl_spec _ _))) _ _ fun _ => rfl
def avModelPart (z : ModelPart) : List AV := avApiExpr z.e ++ ([.bool z.cond])
def ydToModelPart (z : ModelPart) : List (Leaf ydE) := ydToApiExpr z.e ++ ([.bool z.cond])
def ydPModelPart : Prs ydE ModelPart := pMap (pSeq (ydPApiExpr) (pBool)) fun x => ⟨x.1, x.2⟩
theorem ydPModelPart_spec : Prs.Spec ydPModelPart ydToModelPart := pMap_spec (pSeq_spec ydPApiExpr_spec (pBool_spec)) _ _ fun _ => rfl
@[reducible] def ydT : Tab where
  E := ydE
  sz := fun n => match n with
    | 0 => 2
    | 1 => 5
    | 2 => 7
    | 3 => 2
    | 4 => 19
    | 5 => 11
    | 6 => 3
    | 7 => 6
    | 8 => 6
    | 9 => 7
    | 10 => 3
    | 11 => 2
    | 12 => 6
    | _ => 0
  df := fun n => match n with
    | 0 => ApiRatZ
    | 1 => ApiExprZ
    | 2 => ApiModZ
    | 3 => ApiBaseZ
    | 4 => ApiCompZ
    | 5 => ApiEqZ
    | 6 => ApiLinkZ
    | 7 => ApiSetZ
    | 8 => ApiWhenZ
    | 9 => ApiClassZ
    | 10 => ScopeStepZ
    | 11 => ScopeLookZ
    | 12 => ModelPartZ
    | _ + 13 => ()
  toL := fun n => match n with
    | 0 => ydToApiRat
    | 1 => ydToApiExpr
    | 2 => ydToApiMod
    | 3 => ydToApiBase
    | 4 => ydToApiComp
    | 5 => ydToApiEq
    | 6 => ydToApiLink
    | 7 => ydToApiSet
    | 8 => ydToApiWhen
    | 9 => ydToApiClass
    | 10 => ydToScopeStep
    | 11 => ydToScopeLook
    | 12 => ydToModelPart
    | _ + 13 => fun _ => []
  ofL := fun n => match n with
    | 0 => pAll ydPApiRat
    | 1 => pAll ydPApiExpr
    | 2 => pAll ydPApiMod
    | 3 => pAll ydPApiBase
    | 4 => pAll ydPApiComp
    | 5 => pAll ydPApiEq
    | 6 => pAll ydPApiLink
    | 7 => pAll ydPApiSet
    | 8 => pAll ydPApiWhen
    | 9 => pAll ydPApiClass
    | 10 => pAll ydPScopeStep
    | 11 => pAll ydPScopeLook
    | 12 => pAll ydPModelPart
    | _ + 13 => fun _ => none
  av := fun n => match n with
    | 0 => avApiRat
    | 1 => avApiExpr
    | 2 => avApiMod
    | 3 => avApiBase
    | 4 => avApiComp
    | 5 => avApiEq
    | 6 => avApiLink
    | 7 => avApiSet
    | 8 => avApiWhen
    | 9 => avApiClass
    | 10 => avScopeStep
    | 11 => avScopeLook
    | 12 => avModelPart
    | _ + 13 => fun _ => []
theorem ydT_ok : Tab.Ok ydT where
  av := fun n => match n with
    | 0 => fun _ => rfl
    | 1 => fun z => by show _ = (avApiExpr z).map some; rw [avApiExpr_eq]; rfl
    | 2 => fun z => by show _ = (avApiMod z).map some; unfold avApiMod; rw [avApiExpr_eq z.Value]; rfl
    | 3 => fun _ => rfl
    | 4 => fun z => by show _ = (avApiComp z).map some; unfold avApiComp; rw [avApiExpr_eq z.Cond, avApiExpr_eq z.Value]; rfl
    | 5 => fun z => by show _ = (avApiEq z).map some; unfold avApiEq; rw [avApiExpr_eq z.L, avApiExpr_eq z.R]; rfl
    | 6 => fun _ => rfl
    | 7 => fun z => by show _ = (avApiSet z).map some; unfold avApiSet; rw [avApiExpr_eq z.E]; rfl
    | 8 => fun z => by show _ = (avApiWhen z).map some; unfold avApiWhen; rw [avApiExpr_eq z.C]; rfl
    | 9 => fun _ => rfl
    | 10 => fun _ => rfl
    | 11 => fun _ => rfl
    | 12 => fun z => by show _ = (avModelPart z).map some; unfold avModelPart; rw [avApiExpr_eq z.e]; rfl
    | _ + 13 => fun _ => rfl
  len := fun n => match n with
    | 0 => fun _ => rfl
    | 1 => fun _ => rfl
    | 2 => fun _ => rfl
    | 3 => fun _ => rfl
    | 4 => fun _ => rfl
    | 5 => fun _ => rfl
    | 6 => fun _ => rfl
    | 7 => fun _ => rfl
    | 8 => fun _ => rfl
    | 9 => fun _ => rfl
    | 10 => fun _ => rfl
    | 11 => fun _ => rfl
    | 12 => fun _ => rfl
    | _ + 13 => fun _ => rfl
  ofL := fun n => match n with
    | 0 => fun ls x h => pAll_coe ydPApiRat_spec h
    | 1 => fun ls x h => pAll_coe ydPApiExpr_spec h
    | 2 => fun ls x h => pAll_coe ydPApiMod_spec h
    | 3 => fun ls x h => pAll_coe ydPApiBase_spec h
    | 4 => fun ls x h => pAll_coe ydPApiComp_spec h
    | 5 => fun ls x h => pAll_coe ydPApiEq_spec h
    | 6 => fun ls x h => pAll_coe ydPApiLink_spec h
    | 7 => fun ls x h => pAll_coe ydPApiSet_spec h
    | 8 => fun ls x h => pAll_coe ydPApiWhen_spec h
    | 9 => fun ls x h => pAll_coe ydPApiClass_spec h
    | 10 => fun ls x h => pAll_coe ydPScopeStep_spec h
    | 11 => fun ls x h => pAll_coe ydPScopeLook_spec h
    | 12 => fun ls x h => pAll_coe ydPModelPart_spec h
    | _ + 13 => fun ls x h => by cases h
def ydRows : List (TypeId × TI ydE) := [
  (3, ⟨.int .i64, 1, 8, [.int .i64 (0 : Int)], (.int .i64)⟩),
  (4, ⟨.bool, 1, 1, [.bool false], .bool⟩),
  (5, ⟨.int .u8, 1, 1, [.int .u8 (0 : Int)], (.int .u8)⟩),
  (9, ⟨.str, 1, 16, [.str ([] : List UInt8)], .str⟩),
  (21, ⟨.int .i32, 1, 4, [.int .i32 (0 : Int)], (.int .i32)⟩),
  (22, ⟨.slice 29, 1, 24, [.sl (.nm 9) true []], (.sl (.nm 9))⟩),
  (23, ⟨.slice 62, 1, 24, [.sl (.nm 3) true []], (.sl (.nm 3))⟩),
  (24, ⟨.slice 70, 1, 24, [.sl (.nm 4) true []], (.sl (.nm 4))⟩),
  (25, ⟨.slice 100, 1, 24, [.sl (.nm 5) true []], (.sl (.nm 5))⟩),
  (26, ⟨.slice 123, 1, 24, [.sl (.nm 6) true []], (.sl (.nm 6))⟩),
  (27, ⟨.slice 126, 1, 24, [.sl (.nm 8) true []], (.sl (.nm 8))⟩),
  (29, ⟨.struct [(0, 9), (1, 3), (2, 23), (3, 24), (4, 25), (5, 26), (6, 27)], 7, 144, [.str ([] : List UInt8), .int .i64 (0 : Int), .sl (.nm 3) true [], .sl (.nm 4) true [], .sl (.nm 5) true [], .sl (.nm 6) true [], .sl (.nm 8) true []], (.nm 9)⟩),
  (30, ⟨.int .i64, 1, 8, [.int .i64 (0 : Int)], (.int .i64)⟩),
  (42, ⟨.slice 9, 1, 24, [.sl .str true []], (.sl .str)⟩),
  (54, ⟨.slice 75, 1, 24, [.sl (.nm 2) true []], (.sl (.nm 2))⟩),
  (62, ⟨.struct [(0, 9), (1, 54)], 2, 40, [.str ([] : List UInt8), .sl (.nm 2) true []], (.nm 3)⟩),
  (65, ⟨.struct [(0, 3), (1, 3)], 2, 16, [.int .i64 (0 : Int), .int .i64 (0 : Int)], (.nm 0)⟩),
  (66, ⟨.slice 68, 1, 24, [.sl (.nm 1) true []], (.sl (.nm 1))⟩),
  (68, ⟨.struct [(0, 3), (1, 9), (2, 65), (4, 66)], 5, 64, [.int .i64 (0 : Int), .str ([] : List UInt8), .int .i64 (0 : Int), .int .i64 (0 : Int), .sl (.nm 1) true []], (.nm 1)⟩),
  (70, ⟨.struct [(0, 9), (1, 9), (2, 3), (3, 4), (4, 3), (5, 3), (6, 4), (7, 68), (12, 68), (17, 9), (18, 54)], 19, 240, [.str ([] : List UInt8), .str ([] : List UInt8), .int .i64 (0 : Int), .bool false, .int .i64 (0 : Int), .int .i64 (0 : Int), .bool false, .int .i64 (0 : Int), .str ([] : List UInt8), .int .i64 (0 : Int), .int .i64 (0 : Int), .sl (.nm 1) true [], .int .i64 (0 : Int), .str ([] : List UInt8), .int .i64 (0 : Int), .int .i64 (0 : Int), .sl (.nm 1) true [], .str ([] : List UInt8), .sl (.nm 2) true []], (.nm 4)⟩),
  (75, ⟨.struct [(0, 9), (1, 9), (2, 68)], 7, 96, [.str ([] : List UInt8), .str ([] : List UInt8), .int .i64 (0 : Int), .str ([] : List UInt8), .int .i64 (0 : Int), .int .i64 (0 : Int), .sl (.nm 1) true []], (.nm 2)⟩),
  (77, ⟨.map 129 4, 1, 8, [.nmp], .bool⟩),
  (80, ⟨.slice 84, 1, 24, [.sl (.nm 10) true []], (.sl (.nm 10))⟩),
  (84, ⟨.struct [(0, 3), (1, 3), (2, 3)], 3, 24, [.int .i64 (0 : Int), .int .i64 (0 : Int), .int .i64 (0 : Int)], (.nm 10)⟩),
  (88, ⟨.slice 3, 1, 24, [.sl (.int .i64) true []], (.sl (.int .i64))⟩),
  (89, ⟨.slice 54, 1, 24, [.sl (.sl (.nm 2)) true []], (.sl (.sl (.nm 2)))⟩),
  (100, ⟨.struct [(0, 4), (1, 68), (6, 68)], 11, 136, [.bool false, .int .i64 (0 : Int), .str ([] : List UInt8), .int .i64 (0 : Int), .int .i64 (0 : Int), .sl (.nm 1) true [], .int .i64 (0 : Int), .str ([] : List UInt8), .int .i64 (0 : Int), .int .i64 (0 : Int), .sl (.nm 1) true []], (.nm 5)⟩),
  (114, ⟨.slice 118, 1, 24, [.sl (.nm 11) true []], (.sl (.nm 11))⟩),
  (118, ⟨.struct [(0, 24), (1, 54)], 2, 48, [.sl (.nm 4) true [], .sl (.nm 2) true []], (.nm 11)⟩),
  (119, ⟨.slice 30, 1, 24, [.sl (.int .i64) true []], (.sl (.int .i64))⟩),
  (123, ⟨.struct [(0, 9), (1, 9), (2, 9)], 3, 48, [.str ([] : List UInt8), .str ([] : List UInt8), .str ([] : List UInt8)], (.nm 6)⟩),
  (124, ⟨.slice 128, 1, 24, [.sl (.nm 7) true []], (.sl (.nm 7))⟩),
  (126, ⟨.struct [(0, 68), (5, 124)], 6, 88, [.int .i64 (0 : Int), .str ([] : List UInt8), .int .i64 (0 : Int), .int .i64 (0 : Int), .sl (.nm 1) true [], .sl (.nm 7) true []], (.nm 8)⟩),
  (128, ⟨.struct [(0, 9), (1, 68)], 6, 80, [.str ([] : List UInt8), .int .i64 (0 : Int), .str ([] : List UInt8), .int .i64 (0 : Int), .int .i64 (0 : Int), .sl (.nm 1) true []], (.nm 7)⟩),
  (140, ⟨.map 3 4, 1, 8, [.nmp], .bool⟩),
  (151, ⟨.map 9 4, 1, 8, [.nmp], .bool⟩),
  (156, ⟨.map 3 54, 1, 8, [.nmp], .bool⟩),
  (178, ⟨.slice 181, 1, 24, [.sl (.nm 12) true []], (.sl (.nm 12))⟩),
  (181, ⟨.struct [(0, 68), (5, 4)], 6, 72, [.int .i64 (0 : Int), .str ([] : List UInt8), .int .i64 (0 : Int), .int .i64 (0 : Int), .sl (.nm 1) true [], .bool false], (.nm 12)⟩),
  (194, ⟨.ptr 3, 1, 8, [.nptr], .bool⟩),
  (259, ⟨.int .u32, 1, 4, [.int .u32 (0 : Int)], (.int .u32)⟩)]
def ydTi : TypeId → Option (TI ydE) := fun t => look t ydRows
def ydLive : Nat → Nat → Option (List Nat) := fun f r => match look f [
  (20, [(9, [0, 9, 30, 31, 32])]),
  (22, [(4, [0, 1, 5])]),
  (32, [(5, [0, 13, 14, 15])]),
  (33, [(10, [0, 6, 9, 12, 51, 52, 53, 79, 80, 81, 82, 85, 86, 87, 88, 91, 92, 93, 94]), (13, [0, 6, 9, 12, 14, 51, 52, 53, 57, 58, 59, 79, 80, 81, 82, 85, 86, 87, 88, 91, 92, 93, 94]), (22, [6, 9, 98, 99, 100])]),
  (43, [(1, [0, 1, 2])]),
  (56, [(4, [0, 5, 6, 13, 14, 15]), (13, [5, 6, 36, 37, 38])]),
  (57, [(4, [3, 12, 13])]),
  (62, [(4, [0, 11, 12, 13])]),
  (63, [(7, [0, 1, 2, 6, 7, 9, 10, 58, 59, 60]), (10, [0, 1, 2, 6, 7, 9, 10, 58, 59, 60, 69, 70, 71]), (19, [0, 6, 7, 9, 15, 16]), (28, [0, 6, 7, 15, 137, 138, 139]), (32, [0, 6, 7, 15, 21, 22, 137, 138, 139, 149, 150, 151]), (47, [0, 6, 7, 15, 22, 137, 138, 139, 216, 217, 218]), (53, [0, 6, 7, 15, 137, 138, 139, 244, 245, 246]), (57, [0, 6, 7, 15, 32, 137, 138, 139, 244, 245, 246, 255, 256, 257])]),
  (64, [(4, [0, 6, 24, 25, 26, 73, 74]), (7, [0, 6, 10, 24, 25, 26, 35, 36, 37, 73, 74])]),
  (65, [(2, [0, 1, 3, 17, 18, 19, 49, 52, 53, 54, 55, 56, 57, 58, 59, 60, 67, 68, 69, 72, 73, 74, 75, 76, 77, 78, 79, 80, 81, 82, 83, 84, 85, 86, 87])]),
  (68, [(2, [0, 1, 7, 8])]),
  (70, [(2, [0, 1, 7, 8])]),
  (75, [(7, [0, 2, 3, 4, 6, 36, 37, 38])]),
  (84, [(4, [0, 23, 24, 33, 34, 35, 36, 37, 40, 41, 42, 43])]),
  (85, [(2, [0, 1, 7, 8])]),
  (90, [(11, [5, 28, 29, 30]), (18, [5, 41, 42, 43]), (24, [51, 52, 53])]),
  (91, [(3, [0, 1, 8, 14, 15, 16])]),
  (92, [(3, [2, 4, 5, 11, 12, 13])]),
  (119, [(6, [1, 4, 5, 18, 19, 20])]),
  (122, [(4, [1, 38, 39, 40]), (10, [1, 50, 51, 52]), (16, [62, 63, 64])]),
  (123, [(4, [1, 28, 29, 30, 39, 40, 41, 42, 68, 69, 70, 71, 74, 75, 76]), (10, [1, 46, 47, 48, 68, 69, 70, 71, 74, 75, 76]), (16, [1, 57, 58, 59, 68, 69, 70, 71, 74, 75, 76]), (22, [80, 81, 82]), (25, [80, 81, 82, 87, 88, 89])]),
  (124, [(2, [1, 9, 10]), (14, [40, 41, 42])]),
  (125, [(4, [1, 3, 4, 17, 18, 19]), (9, [1, 3, 4, 29, 30, 31]), (18, [1, 3, 61, 62, 63]), (23, [3, 78, 79, 80]), (27, [3, 78, 79, 80, 91, 92, 93])]),
  (127, [(8, [23, 24, 25])]),
  (145, [(2, [5, 6, 7, 16, 17, 18, 19, 20, 21, 22, 23, 24, 27, 28, 29, 30, 31, 32, 33])]),
  (147, [(4, [10, 11, 12, 21, 22, 23, 24, 25, 28, 29, 30, 31, 32, 35, 36, 37, 38, 39, 42, 43, 44, 45, 46])]),
  (149, [(1, [1, 5, 6, 7])]),
  (152, [(4, [1, 12, 13, 14])]),
  (154, [(2, [1, 6, 7, 8])]),
  (155, [(12, [0, 6, 8]), (18, [1, 45])]),
  (156, [(15, [0, 1, 5, 6, 7, 8, 9, 10, 85, 86, 87, 88, 89, 90, 91, 92, 103, 104, 105, 106, 122, 123, 124, 125, 126, 129, 130, 131])]),
  (161, [(2, [6, 7, 8])]),
  (168, [(4, [0, 22, 23])]),
  (173, [(2, [0, 2, 4])]),
  (178, [(11, [0, 1, 5, 6, 7, 8, 10, 69, 70, 71, 72, 73, 74, 75, 76])]),
  (196, [(11, [0, 1, 2, 3, 9, 10])]),
  (197, [(2, [0, 1, 7, 8])]),
  (204, [(3, [0, 4, 5])]),
  (236, [(6, [0, 1, 6, 7])]),
  (237, [(6, [0, 1, 5])])] with
  | some l => look r l
  | none => none
def ydEqs : TypeId → Bool := fun t => memB t [65]
theorem ydBase : Base ydT ydTi ydEqs Go.Proofs.Tryz.prog where
  tab := ydT_ok
  types := envOk_of ydRows rfl (by kernel_rfl)
  eqs := eqsOk_of (V := envOf ydT ydTi ydEqs []) (envOk_of ydRows rfl (by kernel_rfl)) rfl (by kernel_rfl)
  mixed := by kernel_rfl
theorem m0c {V : Env} {P : Program} {fn : Func} {f : FuncId} {S : FC V.E} (hn : ∀ c x, S.f c x = none) (h1 : P.funcs[f]? = some fn := by kernel_rfl) (h2 : fn.body.isSome = true := by kernel_rfl) (h3 : (fn.name == "runtime.NumGoroutine") = false := by kernel_rfl) : MeetsC V P f S := ⟨⟨fn, h1, h2, h3⟩, fun c x y h => by rw [hn c x] at h; cases h⟩
abbrev ST := Ab.St ydE
abbrev MT := MeetsT ydT ydTi ydEqs Go.Proofs.Tryz.prog
abbrev EV := envW ydT ydTi ydEqs
abbrev EC := envC ydT ydTi ydEqs
abbrev MCT := MeetsCT ydT ydTi ydEqs Go.Proofs.Tryz.prog
theorem GC {fs : List (FuncId × FS ydE)} {ws : List (FuncId × FW ydE)} {cs : List (FuncId × FC ydE)} {t0 : Bool} (h : AllMeet ydT ydTi ydEqs Go.Proofs.Tryz.prog fs) (hw : AllMeetW ydT ydTi ydEqs Go.Proofs.Tryz.prog ws) (hc : AllMeetC ydT ydTi ydEqs Go.Proofs.Tryz.prog cs) : Good (EC fs ws cs t0) Go.Proofs.Tryz.prog := good_ofC ydBase h hw hc
theorem GB {fs : List (FuncId × FS ydE)} {ws : List (FuncId × FW ydE)} {t0 : Bool} (h : AllMeet ydT ydTi ydEqs Go.Proofs.Tryz.prog fs) (hw : AllMeetW ydT ydTi ydEqs Go.Proofs.Tryz.prog ws) : Good (EV fs ws t0) Go.Proofs.Tryz.prog := good_ofW ydBase h hw
end Go.Ab
