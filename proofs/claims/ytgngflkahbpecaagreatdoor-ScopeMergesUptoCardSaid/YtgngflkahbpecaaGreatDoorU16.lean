/- The tables of the types. DERIVED: THE SHELF's CONTRACTS AT THIS DUMP, IN PLAIN WORDS (tools/lay-plain.mjs out of 'TryzShelf.lean', which tools/lay-shelf.mjs wrote): THE SAME DECLARATIONS UNDER THE SAME NAMES: 'import', 'namespace', 'open', 'def', 'theorem' AND NOTHING ELSE: no command of the shelf's: FOR A HAND-IN. Each laying: the table of numbers ('.._ren') and one theorem, a field a fact of the dump's own or the kernel's comparison; each contract: ONE APPLICATION. A range over strings.SplitSeq at a point: isPath of the package scope. The function isPath of the package scope returns whether all pieces between points pass. Conditions: none beyond those that each theorem names. -/
import Derived.Test.YtgngflkahbpecaaGreatDoorU15
import Derived.Test.YtgngflkahbpecaaGreatDoorU11
import Derived.Test.YtgngflkahbpecaaGreatDoorU10
import Derived.Test.YtgngflkahbpecaaGreatDoorProg
import Derived.Shelf.LaysM
import Derived.Shelf.Strings.Search1
import Derived.Shelf.Strings.Search3
import Derived.Shelf.Strings.Count
import Derived.Shelf.Strings.IndexAny
import Derived.RangeFuncNested
import Derived.RangeFuncBound
import Derived.RangeFuncCalls
import Derived.RangeFuncLeaves
import Derived.Shelf.Abstract
import Derived.Shelf.RegionOpen
import Derived.WalkKit
import Derived.OwnWalkIn
import Derived.TacticsInMore
import Derived.LoopNIn
import Derived.LoopIn
import Derived.Maps.AppendAt
import Derived.Maps.Range
import Derived.Maps.RangeWalk
namespace Go.Ab
open Go
set_option linter.unusedVariables false
@[reducible] def ydE : Nat → Type
  | 0 => ApiRat
  | 1 => ApiExpr
  | 2 => ApiMod
  | 3 => ApiBase
  | 4 => ApiComp
  | 5 => ApiEq
  | 6 => ApiLink
  | 7 => ApiSet
  | 8 => ApiWhen
  | 9 => ApiClass
  | 10 => ScopeStep
  | 11 => ScopeLook
  | 12 => ModelPart
  | _ => Unit
def avApiRat (z : ApiRat) : List AV := [.int .i64 z.N] ++ ([.int .i64 z.D])
def ydToApiRat (z : ApiRat) : List (Leaf ydE) := [.int .i64 z.N] ++ ([.int .i64 z.D])
def ydPApiRat : Prs ydE ApiRat := pMap (pSeq (pInt .i64) (pInt .i64)) fun x => ⟨x.1, x.2⟩
theorem ydPApiRat_spec : Prs.Spec ydPApiRat ydToApiRat := pMap_spec (pSeq_spec (pInt_spec _) ((pInt_spec _))) _ _ fun _ => rfl
mutual
def avApiExpr : ApiExpr → List AV
  | ⟨Op, Name, N, Kids⟩ => [.int .i64 Op] ++ ([.str Name] ++ (avApiRat N ++ ([.sl 5 false (avApiExprs Kids)])))
def avApiExprs : List ApiExpr → List AV
  | [] => []
  | k :: r => AV.ag (avApiExpr k) :: avApiExprs r
end
theorem avApiExprs_eq : ∀ l : List ApiExpr, avApiExprs l = List.map (fun z => AV.ag (avApiExpr z)) l
  | [] => rfl
  | k :: r => by rw [avApiExprs, avApiExprs_eq r]; rfl
theorem avApiExpr_eq (z : ApiExpr) : avApiExpr z = [.int .i64 z.Op] ++ ([.str z.Name] ++ (avApiRat z.N ++ ([.sl 5 false (List.map (fun z => AV.ag (avApiExpr z)) z.Kids)]))) := by cases z; rw [avApiExpr, avApiExprs_eq]
def ydToApiExpr (z : ApiExpr) : List (Leaf ydE) := [.int .i64 z.Op] ++ ([.str z.Name] ++ (ydToApiRat z.N ++ ([.sl (.nm 1) false z.Kids])))
def ydPApiExpr : Prs ydE ApiExpr := pMap (pSeq (pInt .i64) (pSeq (pStr) (pSeq (ydPApiRat) (pSl (.nm 1) false)))) fun x => ⟨x.1, x.2.1, x.2.2.1, x.2.2.2⟩
theorem ydPApiExpr_spec : Prs.Spec ydPApiExpr ydToApiExpr := pMap_spec (pSeq_spec (pInt_spec _) (pSeq_spec pStr_spec (pSeq_spec ydPApiRat_spec ((pSl_spec _ _))))) _ _ fun _ => rfl
def avApiMod (z : ApiMod) : List AV := [.str z.Path] ++ ([.str z.Type_] ++ (avApiExpr z.Value))
def ydToApiMod (z : ApiMod) : List (Leaf ydE) := [.str z.Path] ++ ([.str z.Type_] ++ (ydToApiExpr z.Value))
def ydPApiMod : Prs ydE ApiMod := pMap (pSeq (pStr) (pSeq (pStr) (ydPApiExpr))) fun x => ⟨x.1, x.2.1, x.2.2⟩
theorem ydPApiMod_spec : Prs.Spec ydPApiMod ydToApiMod := pMap_spec (pSeq_spec pStr_spec (pSeq_spec pStr_spec (ydPApiExpr_spec))) _ _ fun _ => rfl
def avApiBase (z : ApiBase) : List AV := [.str z.Name] ++ ([.sl 7 false (List.map (fun z => AV.ag (avApiMod z)) z.Mods)])
def ydToApiBase (z : ApiBase) : List (Leaf ydE) := [.str z.Name] ++ ([.sl (.nm 2) false z.Mods])
def ydPApiBase : Prs ydE ApiBase := pMap (pSeq (pStr) (pSl (.nm 2) false)) fun x => ⟨x.1, x.2⟩
theorem ydPApiBase_spec : Prs.Spec ydPApiBase ydToApiBase := pMap_spec (pSeq_spec pStr_spec ((pSl_spec _ _))) _ _ fun _ => rfl
def avApiComp (z : ApiComp) : List AV := [.str z.Name] ++ ([.str z.Type_] ++ ([.int .i64 z.Var] ++ ([.bool z.Flow] ++ ([.int .i64 z.Size] ++ ([.int .i64 z.Scope] ++ ([.bool z.Replace] ++ (avApiExpr z.Cond ++ (avApiExpr z.Value ++ ([.str z.Unit] ++ ([.sl 7 false (List.map (fun z => AV.ag (avApiMod z)) z.Mods)]))))))))))
def ydToApiComp (z : ApiComp) : List (Leaf ydE) := [.str z.Name] ++ ([.str z.Type_] ++ ([.int .i64 z.Var] ++ ([.bool z.Flow] ++ ([.int .i64 z.Size] ++ ([.int .i64 z.Scope] ++ ([.bool z.Replace] ++ (ydToApiExpr z.Cond ++ (ydToApiExpr z.Value ++ ([.str z.Unit] ++ ([.sl (.nm 2) false z.Mods]))))))))))
def ydPApiComp : Prs ydE ApiComp := pMap (pSeq (pStr) (pSeq (pStr) (pSeq (pInt .i64) (pSeq (pBool) (pSeq (pInt .i64) (pSeq (pInt .i64) (pSeq (pBool) (pSeq (ydPApiExpr) (pSeq (ydPApiExpr) (pSeq (pStr) (pSl (.nm 2) false))))))))))) fun x => ⟨x.1, x.2.1, x.2.2.1, x.2.2.2.1, x.2.2.2.2.1, x.2.2.2.2.2.1, x.2.2.2.2.2.2.1, x.2.2.2.2.2.2.2.1, x.2.2.2.2.2.2.2.2.1, x.2.2.2.2.2.2.2.2.2.1, x.2.2.2.2.2.2.2.2.2.2⟩
theorem ydPApiComp_spec : Prs.Spec ydPApiComp ydToApiComp := pMap_spec (pSeq_spec pStr_spec (pSeq_spec pStr_spec (pSeq_spec (pInt_spec _) (pSeq_spec pBool_spec (pSeq_spec (pInt_spec _) (pSeq_spec (pInt_spec _) (pSeq_spec pBool_spec (pSeq_spec ydPApiExpr_spec (pSeq_spec ydPApiExpr_spec (pSeq_spec pStr_spec ((pSl_spec _ _)))))))))))) _ _ fun _ => rfl
def avApiEq (z : ApiEq) : List AV := [.bool z.Init] ++ (avApiExpr z.L ++ (avApiExpr z.R))
def ydToApiEq (z : ApiEq) : List (Leaf ydE) := [.bool z.Init] ++ (ydToApiExpr z.L ++ (ydToApiExpr z.R))
def ydPApiEq : Prs ydE ApiEq := pMap (pSeq (pBool) (pSeq (ydPApiExpr) (ydPApiExpr))) fun x => ⟨x.1, x.2.1, x.2.2⟩
theorem ydPApiEq_spec : Prs.Spec ydPApiEq ydToApiEq := pMap_spec (pSeq_spec pBool_spec (pSeq_spec ydPApiExpr_spec (ydPApiExpr_spec))) _ _ fun _ => rfl
def avApiLink (z : ApiLink) : List AV := [.str z.A] ++ ([.str z.B] ++ ([.str z.In]))
def ydToApiLink (z : ApiLink) : List (Leaf ydE) := [.str z.A] ++ ([.str z.B] ++ ([.str z.In]))
def ydPApiLink : Prs ydE ApiLink := pMap (pSeq (pStr) (pSeq (pStr) (pStr))) fun x => ⟨x.1, x.2.1, x.2.2⟩
theorem ydPApiLink_spec : Prs.Spec ydPApiLink ydToApiLink := pMap_spec (pSeq_spec pStr_spec (pSeq_spec pStr_spec (pStr_spec))) _ _ fun _ => rfl
def avApiSet (z : ApiSet) : List AV := [.str z.Name] ++ (avApiExpr z.E)
def ydToApiSet (z : ApiSet) : List (Leaf ydE) := [.str z.Name] ++ (ydToApiExpr z.E)
def ydPApiSet : Prs ydE ApiSet := pMap (pSeq (pStr) (ydPApiExpr)) fun x => ⟨x.1, x.2⟩
theorem ydPApiSet_spec : Prs.Spec ydPApiSet ydToApiSet := pMap_spec (pSeq_spec pStr_spec (ydPApiExpr_spec)) _ _ fun _ => rfl
def avApiWhen (z : ApiWhen) : List AV := avApiExpr z.C ++ ([.sl 6 false (List.map (fun z => AV.ag (avApiSet z)) z.Sets)])
def ydToApiWhen (z : ApiWhen) : List (Leaf ydE) := ydToApiExpr z.C ++ ([.sl (.nm 7) false z.Sets])
def ydPApiWhen : Prs ydE ApiWhen := pMap (pSeq (ydPApiExpr) (pSl (.nm 7) false)) fun x => ⟨x.1, x.2⟩
theorem ydPApiWhen_spec : Prs.Spec ydPApiWhen ydToApiWhen := pMap_spec (pSeq_spec ydPApiExpr_spec ((pSl_spec _ _))) _ _ fun _ => rfl
def avApiClass (z : ApiClass) : List AV := [.str z.Name] ++ ([.int .i64 z.Kind] ++ ([.sl 2 false (List.map (fun z => AV.ag (avApiBase z)) z.Bases)] ++ ([.sl 19 false (List.map (fun z => AV.ag (avApiComp z)) z.Comps)] ++ ([.sl 11 false (List.map (fun z => AV.ag (avApiEq z)) z.Eqs)] ++ ([.sl 3 false (List.map (fun z => AV.ag (avApiLink z)) z.Links)] ++ ([.sl 6 false (List.map (fun z => AV.ag (avApiWhen z)) z.Whens)]))))))
def ydToApiClass (z : ApiClass) : List (Leaf ydE) := [.str z.Name] ++ ([.int .i64 z.Kind] ++ ([.sl (.nm 3) false z.Bases] ++ ([.sl (.nm 4) false z.Comps] ++ ([.sl (.nm 5) false z.Eqs] ++ ([.sl (.nm 6) false z.Links] ++ ([.sl (.nm 8) false z.Whens]))))))
def ydPApiClass : Prs ydE ApiClass := pMap (pSeq (pStr) (pSeq (pInt .i64) (pSeq (pSl (.nm 3) false) (pSeq (pSl (.nm 4) false) (pSeq (pSl (.nm 5) false) (pSeq (pSl (.nm 6) false) (pSl (.nm 8) false))))))) fun x => ⟨x.1, x.2.1, x.2.2.1, x.2.2.2.1, x.2.2.2.2.1, x.2.2.2.2.2.1, x.2.2.2.2.2.2⟩
theorem ydPApiClass_spec : Prs.Spec ydPApiClass ydToApiClass := pMap_spec (pSeq_spec pStr_spec (pSeq_spec (pInt_spec _) (pSeq_spec (pSl_spec _ _) (pSeq_spec (pSl_spec _ _) (pSeq_spec (pSl_spec _ _) (pSeq_spec (pSl_spec _ _) ((pSl_spec _ _)))))))) _ _ fun _ => rfl
def avScopeStep (z : ScopeStep) : List AV := [.int .i64 z.class_] ++ ([.int .i64 z.by_] ++ ([.int .i64 z.base]))
def ydToScopeStep (z : ScopeStep) : List (Leaf ydE) := [.int .i64 z.class_] ++ ([.int .i64 z.by_] ++ ([.int .i64 z.base]))
def ydPScopeStep : Prs ydE ScopeStep := pMap (pSeq (pInt .i64) (pSeq (pInt .i64) (pInt .i64))) fun x => ⟨x.1, x.2.1, x.2.2⟩
theorem ydPScopeStep_spec : Prs.Spec ydPScopeStep ydToScopeStep := pMap_spec (pSeq_spec (pInt_spec _) (pSeq_spec (pInt_spec _) ((pInt_spec _)))) _ _ fun _ => rfl
def avScopeLook (z : ScopeLook) : List AV := [.sl 19 false (List.map (fun z => AV.ag (avApiComp z)) z.comps)] ++ ([.sl 7 false (List.map (fun z => AV.ag (avApiMod z)) z.mods)])
def ydToScopeLook (z : ScopeLook) : List (Leaf ydE) := [.sl (.nm 4) false z.comps] ++ ([.sl (.nm 2) false z.mods])
def ydPScopeLook : Prs ydE ScopeLook := pMap (pSeq (pSl (.nm 4) false) (pSl (.nm 2) false)) fun x => ⟨x.1, x.2⟩
theorem ydPScopeLook_spec : Prs.Spec ydPScopeLook ydToScopeLook := pMap_spec (pSeq_spec (pSl_spec _ _) ((pSl_spec _ _))) _ _ fun _ => rfl
def avModelPart (z : ModelPart) : List AV := avApiExpr z.e ++ ([.bool z.cond])
def ydToModelPart (z : ModelPart) : List (Leaf ydE) := ydToApiExpr z.e ++ ([.bool z.cond])
def ydPModelPart : Prs ydE ModelPart := pMap (pSeq (ydPApiExpr) (pBool)) fun x => ⟨x.1, x.2⟩
theorem ydPModelPart_spec : Prs.Spec ydPModelPart ydToModelPart := pMap_spec (pSeq_spec ydPApiExpr_spec (pBool_spec)) _ _ fun _ => rfl
@[reducible] def ydT : Tab where
  E := ydE
  sz := fun n => match n with
    | 0 => 2
    | 1 => 5
    | 2 => 7
    | 3 => 2
    | 4 => 19
    | 5 => 11
    | 6 => 3
    | 7 => 6
    | 8 => 6
    | 9 => 7
    | 10 => 3
    | 11 => 2
    | 12 => 6
    | _ => 0
  df := fun n => match n with
    | 0 => ApiRatZ
    | 1 => ApiExprZ
    | 2 => ApiModZ
    | 3 => ApiBaseZ
    | 4 => ApiCompZ
    | 5 => ApiEqZ
    | 6 => ApiLinkZ
    | 7 => ApiSetZ
    | 8 => ApiWhenZ
    | 9 => ApiClassZ
    | 10 => ScopeStepZ
    | 11 => ScopeLookZ
    | 12 => ModelPartZ
    | _ + 13 => ()
  toL := fun n => match n with
    | 0 => ydToApiRat
    | 1 => ydToApiExpr
    | 2 => ydToApiMod
    | 3 => ydToApiBase
    | 4 => ydToApiComp
    | 5 => ydToApiEq
    | 6 => ydToApiLink
    | 7 => ydToApiSet
    | 8 => ydToApiWhen
    | 9 => ydToApiClass
    | 10 => ydToScopeStep
    | 11 => ydToScopeLook
    | 12 => ydToModelPart
    | _ + 13 => fun _ => []
  ofL := fun n => match n with
    | 0 => pAll ydPApiRat
    | 1 => pAll ydPApiExpr
    | 2 => pAll ydPApiMod
    | 3 => pAll ydPApiBase
    | 4 => pAll ydPApiComp
    | 5 => pAll ydPApiEq
    | 6 => pAll ydPApiLink
    | 7 => pAll ydPApiSet
    | 8 => pAll ydPApiWhen
    | 9 => pAll ydPApiClass
    | 10 => pAll ydPScopeStep
    | 11 => pAll ydPScopeLook
    | 12 => pAll ydPModelPart
    | _ + 13 => fun _ => none
  av := fun n => match n with
    | 0 => avApiRat
    | 1 => avApiExpr
    | 2 => avApiMod
    | 3 => avApiBase
    | 4 => avApiComp
    | 5 => avApiEq
    | 6 => avApiLink
    | 7 => avApiSet
    | 8 => avApiWhen
    | 9 => avApiClass
    | 10 => avScopeStep
    | 11 => avScopeLook
    | 12 => avModelPart
    | _ + 13 => fun _ => []
theorem ydT_ok : Tab.Ok ydT where
  av := fun n => match n with
    | 0 => fun _ => rfl
    | 1 => fun z => by show _ = (avApiExpr z).map some; rw [avApiExpr_eq]; rfl
    | 2 => fun z => by show _ = (avApiMod z).map some; unfold avApiMod; rw [avApiExpr_eq z.Value]; rfl
    | 3 => fun _ => rfl
    | 4 => fun z => by show _ = (avApiComp z).map some; unfold avApiComp; rw [avApiExpr_eq z.Cond, avApiExpr_eq z.Value]; rfl
    | 5 => fun z => by show _ = (avApiEq z).map some; unfold avApiEq; rw [avApiExpr_eq z.L, avApiExpr_eq z.R]; rfl
    | 6 => fun _ => rfl
    | 7 => fun z => by show _ = (avApiSet z).map some; unfold avApiSet; rw [avApiExpr_eq z.E]; rfl
    | 8 => fun z => by show _ = (avApiWhen z).map some; unfold avApiWhen; rw [avApiExpr_eq z.C]; rfl
    | 9 => fun _ => rfl
    | 10 => fun _ => rfl
    | 11 => fun _ => rfl
    | 12 => fun z => by show _ = (avModelPart z).map some; unfold avModelPart; rw [avApiExpr_eq z.e]; rfl
    | _ + 13 => fun _ => rfl
  len := fun n => match n with
    | 0 => fun _ => rfl
    | 1 => fun _ => rfl
    | 2 => fun _ => rfl
    | 3 => fun _ => rfl
    | 4 => fun _ => rfl
    | 5 => fun _ => rfl
    | 6 => fun _ => rfl
    | 7 => fun _ => rfl
    | 8 => fun _ => rfl
    | 9 => fun _ => rfl
    | 10 => fun _ => rfl
    | 11 => fun _ => rfl
    | 12 => fun _ => rfl
    | _ + 13 => fun _ => rfl
  ofL := fun n => match n with
    | 0 => fun ls x h => pAll_coe ydPApiRat_spec h
    | 1 => fun ls x h => pAll_coe ydPApiExpr_spec h
    | 2 => fun ls x h => pAll_coe ydPApiMod_spec h
    | 3 => fun ls x h => pAll_coe ydPApiBase_spec h
    | 4 => fun ls x h => pAll_coe ydPApiComp_spec h
    | 5 => fun ls x h => pAll_coe ydPApiEq_spec h
    | 6 => fun ls x h => pAll_coe ydPApiLink_spec h
    | 7 => fun ls x h => pAll_coe ydPApiSet_spec h
    | 8 => fun ls x h => pAll_coe ydPApiWhen_spec h
    | 9 => fun ls x h => pAll_coe ydPApiClass_spec h
    | 10 => fun ls x h => pAll_coe ydPScopeStep_spec h
    | 11 => fun ls x h => pAll_coe ydPScopeLook_spec h
    | 12 => fun ls x h => pAll_coe ydPModelPart_spec h
    | _ + 13 => fun ls x h => by cases h
def ydRows : List (TypeId × TI ydE) := [
  (3, ⟨.int .i64, 1, 8, [.int .i64 (0 : Int)], (.int .i64)⟩),
  (4, ⟨.bool, 1, 1, [.bool false], .bool⟩),
  (5, ⟨.int .u8, 1, 1, [.int .u8 (0 : Int)], (.int .u8)⟩),
  (9, ⟨.str, 1, 16, [.str ([] : List UInt8)], .str⟩),
  (21, ⟨.int .i32, 1, 4, [.int .i32 (0 : Int)], (.int .i32)⟩),
  (22, ⟨.slice 29, 1, 24, [.sl (.nm 9) true []], (.sl (.nm 9))⟩),
  (23, ⟨.slice 62, 1, 24, [.sl (.nm 3) true []], (.sl (.nm 3))⟩),
  (24, ⟨.slice 70, 1, 24, [.sl (.nm 4) true []], (.sl (.nm 4))⟩),
  (25, ⟨.slice 100, 1, 24, [.sl (.nm 5) true []], (.sl (.nm 5))⟩),
  (26, ⟨.slice 123, 1, 24, [.sl (.nm 6) true []], (.sl (.nm 6))⟩),
  (27, ⟨.slice 126, 1, 24, [.sl (.nm 8) true []], (.sl (.nm 8))⟩),
  (29, ⟨.struct [(0, 9), (1, 3), (2, 23), (3, 24), (4, 25), (5, 26), (6, 27)], 7, 144, [.str ([] : List UInt8), .int .i64 (0 : Int), .sl (.nm 3) true [], .sl (.nm 4) true [], .sl (.nm 5) true [], .sl (.nm 6) true [], .sl (.nm 8) true []], (.nm 9)⟩),
  (30, ⟨.int .i64, 1, 8, [.int .i64 (0 : Int)], (.int .i64)⟩),
  (42, ⟨.slice 9, 1, 24, [.sl .str true []], (.sl .str)⟩),
  (54, ⟨.slice 75, 1, 24, [.sl (.nm 2) true []], (.sl (.nm 2))⟩),
  (62, ⟨.struct [(0, 9), (1, 54)], 2, 40, [.str ([] : List UInt8), .sl (.nm 2) true []], (.nm 3)⟩),
  (65, ⟨.struct [(0, 3), (1, 3)], 2, 16, [.int .i64 (0 : Int), .int .i64 (0 : Int)], (.nm 0)⟩),
  (66, ⟨.slice 68, 1, 24, [.sl (.nm 1) true []], (.sl (.nm 1))⟩),
  (68, ⟨.struct [(0, 3), (1, 9), (2, 65), (4, 66)], 5, 64, [.int .i64 (0 : Int), .str ([] : List UInt8), .int .i64 (0 : Int), .int .i64 (0 : Int), .sl (.nm 1) true []], (.nm 1)⟩),
  (70, ⟨.struct [(0, 9), (1, 9), (2, 3), (3, 4), (4, 3), (5, 3), (6, 4), (7, 68), (12, 68), (17, 9), (18, 54)], 19, 240, [.str ([] : List UInt8), .str ([] : List UInt8), .int .i64 (0 : Int), .bool false, .int .i64 (0 : Int), .int .i64 (0 : Int), .bool false, .int .i64 (0 : Int), .str ([] : List UInt8), .int .i64 (0 : Int), .int .i64 (0 : Int), .sl (.nm 1) true [], .int .i64 (0 : Int), .str ([] : List UInt8), .int .i64 (0 : Int), .int .i64 (0 : Int), .sl (.nm 1) true [], .str ([] : List UInt8), .sl (.nm 2) true []], (.nm 4)⟩),
  (75, ⟨.struct [(0, 9), (1, 9), (2, 68)], 7, 96, [.str ([] : List UInt8), .str ([] : List UInt8), .int .i64 (0 : Int), .str ([] : List UInt8), .int .i64 (0 : Int), .int .i64 (0 : Int), .sl (.nm 1) true []], (.nm 2)⟩),
  (77, ⟨.map 129 4, 1, 8, [.nmp], .bool⟩),
  (80, ⟨.slice 84, 1, 24, [.sl (.nm 10) true []], (.sl (.nm 10))⟩),
  (84, ⟨.struct [(0, 3), (1, 3), (2, 3)], 3, 24, [.int .i64 (0 : Int), .int .i64 (0 : Int), .int .i64 (0 : Int)], (.nm 10)⟩),
  (88, ⟨.slice 3, 1, 24, [.sl (.int .i64) true []], (.sl (.int .i64))⟩),
  (89, ⟨.slice 54, 1, 24, [.sl (.sl (.nm 2)) true []], (.sl (.sl (.nm 2)))⟩),
  (100, ⟨.struct [(0, 4), (1, 68), (6, 68)], 11, 136, [.bool false, .int .i64 (0 : Int), .str ([] : List UInt8), .int .i64 (0 : Int), .int .i64 (0 : Int), .sl (.nm 1) true [], .int .i64 (0 : Int), .str ([] : List UInt8), .int .i64 (0 : Int), .int .i64 (0 : Int), .sl (.nm 1) true []], (.nm 5)⟩),
  (114, ⟨.slice 118, 1, 24, [.sl (.nm 11) true []], (.sl (.nm 11))⟩),
  (118, ⟨.struct [(0, 24), (1, 54)], 2, 48, [.sl (.nm 4) true [], .sl (.nm 2) true []], (.nm 11)⟩),
  (119, ⟨.slice 30, 1, 24, [.sl (.int .i64) true []], (.sl (.int .i64))⟩),
  (123, ⟨.struct [(0, 9), (1, 9), (2, 9)], 3, 48, [.str ([] : List UInt8), .str ([] : List UInt8), .str ([] : List UInt8)], (.nm 6)⟩),
  (124, ⟨.slice 128, 1, 24, [.sl (.nm 7) true []], (.sl (.nm 7))⟩),
  (126, ⟨.struct [(0, 68), (5, 124)], 6, 88, [.int .i64 (0 : Int), .str ([] : List UInt8), .int .i64 (0 : Int), .int .i64 (0 : Int), .sl (.nm 1) true [], .sl (.nm 7) true []], (.nm 8)⟩),
  (128, ⟨.struct [(0, 9), (1, 68)], 6, 80, [.str ([] : List UInt8), .int .i64 (0 : Int), .str ([] : List UInt8), .int .i64 (0 : Int), .int .i64 (0 : Int), .sl (.nm 1) true []], (.nm 7)⟩),
  (140, ⟨.map 3 4, 1, 8, [.nmp], .bool⟩),
  (151, ⟨.map 9 4, 1, 8, [.nmp], .bool⟩),
  (156, ⟨.map 3 54, 1, 8, [.nmp], .bool⟩),
  (178, ⟨.slice 181, 1, 24, [.sl (.nm 12) true []], (.sl (.nm 12))⟩),
  (181, ⟨.struct [(0, 68), (5, 4)], 6, 72, [.int .i64 (0 : Int), .str ([] : List UInt8), .int .i64 (0 : Int), .int .i64 (0 : Int), .sl (.nm 1) true [], .bool false], (.nm 12)⟩),
  (194, ⟨.ptr 3, 1, 8, [.nptr], .bool⟩),
  (259, ⟨.int .u32, 1, 4, [.int .u32 (0 : Int)], (.int .u32)⟩)]
def ydTi : TypeId → Option (TI ydE) := fun t => look t ydRows
def ydLive : Nat → Nat → Option (List Nat) := fun f r => match look f [
  (20, [(9, [0, 9, 30, 31, 32])]),
  (22, [(4, [0, 1, 5])]),
  (32, [(5, [0, 13, 14, 15])]),
  (33, [(10, [0, 6, 9, 12, 51, 52, 53, 79, 80, 81, 82, 85, 86, 87, 88, 91, 92, 93, 94]), (13, [0, 6, 9, 12, 14, 51, 52, 53, 57, 58, 59, 79, 80, 81, 82, 85, 86, 87, 88, 91, 92, 93, 94]), (22, [6, 9, 98, 99, 100])]),
  (43, [(1, [0, 1, 2])]),
  (56, [(4, [0, 5, 6, 13, 14, 15]), (13, [5, 6, 36, 37, 38])]),
  (57, [(4, [3, 12, 13])]),
  (62, [(4, [0, 11, 12, 13])]),
  (63, [(7, [0, 1, 2, 6, 7, 9, 10, 58, 59, 60]), (10, [0, 1, 2, 6, 7, 9, 10, 58, 59, 60, 69, 70, 71]), (19, [0, 6, 7, 9, 15, 16]), (28, [0, 6, 7, 15, 137, 138, 139]), (32, [0, 6, 7, 15, 21, 22, 137, 138, 139, 149, 150, 151]), (47, [0, 6, 7, 15, 22, 137, 138, 139, 216, 217, 218]), (53, [0, 6, 7, 15, 137, 138, 139, 244, 245, 246]), (57, [0, 6, 7, 15, 32, 137, 138, 139, 244, 245, 246, 255, 256, 257])]),
  (64, [(4, [0, 6, 24, 25, 26, 73, 74]), (7, [0, 6, 10, 24, 25, 26, 35, 36, 37, 73, 74])]),
  (65, [(2, [0, 1, 3, 17, 18, 19, 49, 52, 53, 54, 55, 56, 57, 58, 59, 60, 67, 68, 69, 72, 73, 74, 75, 76, 77, 78, 79, 80, 81, 82, 83, 84, 85, 86, 87])]),
  (68, [(2, [0, 1, 7, 8])]),
  (70, [(2, [0, 1, 7, 8])]),
  (75, [(7, [0, 2, 3, 4, 6, 36, 37, 38])]),
  (84, [(4, [0, 23, 24, 33, 34, 35, 36, 37, 40, 41, 42, 43])]),
  (85, [(2, [0, 1, 7, 8])]),
  (90, [(11, [5, 28, 29, 30]), (18, [5, 41, 42, 43]), (24, [51, 52, 53])]),
  (91, [(3, [0, 1, 8, 14, 15, 16])]),
  (92, [(3, [2, 4, 5, 11, 12, 13])]),
  (119, [(6, [1, 4, 5, 18, 19, 20])]),
  (122, [(4, [1, 38, 39, 40]), (10, [1, 50, 51, 52]), (16, [62, 63, 64])]),
  (123, [(4, [1, 28, 29, 30, 39, 40, 41, 42, 68, 69, 70, 71, 74, 75, 76]), (10, [1, 46, 47, 48, 68, 69, 70, 71, 74, 75, 76]), (16, [1, 57, 58, 59, 68, 69, 70, 71, 74, 75, 76]), (22, [80, 81, 82]), (25, [80, 81, 82, 87, 88, 89])]),
  (124, [(2, [1, 9, 10]), (14, [40, 41, 42])]),
  (125, [(4, [1, 3, 4, 17, 18, 19]), (9, [1, 3, 4, 29, 30, 31]), (18, [1, 3, 61, 62, 63]), (23, [3, 78, 79, 80]), (27, [3, 78, 79, 80, 91, 92, 93])]),
  (127, [(8, [23, 24, 25])]),
  (145, [(2, [5, 6, 7, 16, 17, 18, 19, 20, 21, 22, 23, 24, 27, 28, 29, 30, 31, 32, 33])]),
  (147, [(4, [10, 11, 12, 21, 22, 23, 24, 25, 28, 29, 30, 31, 32, 35, 36, 37, 38, 39, 42, 43, 44, 45, 46])]),
  (149, [(1, [1, 5, 6, 7])]),
  (152, [(4, [1, 12, 13, 14])]),
  (154, [(2, [1, 6, 7, 8])]),
  (155, [(12, [0, 6, 8]), (18, [1, 45])]),
  (156, [(15, [0, 1, 5, 6, 7, 8, 9, 10, 85, 86, 87, 88, 89, 90, 91, 92, 103, 104, 105, 106, 122, 123, 124, 125, 126, 129, 130, 131])]),
  (161, [(2, [6, 7, 8])]),
  (168, [(4, [0, 22, 23])]),
  (173, [(2, [0, 2, 4])]),
  (178, [(11, [0, 1, 5, 6, 7, 8, 10, 69, 70, 71, 72, 73, 74, 75, 76])]),
  (196, [(11, [0, 1, 2, 3, 9, 10])]),
  (197, [(2, [0, 1, 7, 8])]),
  (204, [(3, [0, 4, 5])]),
  (236, [(6, [0, 1, 6, 7])]),
  (237, [(6, [0, 1, 5])])] with
  | some l => look r l
  | none => none
def ydEqs : TypeId → Bool := fun t => memB t [65]
theorem ydBase : Base ydT ydTi ydEqs Go.Proofs.Tryz.prog where
  tab := ydT_ok
  types := envOk_of ydRows rfl (by kernel_rfl)
  eqs := eqsOk_of (V := envOf ydT ydTi ydEqs []) (envOk_of ydRows rfl (by kernel_rfl)) rfl (by kernel_rfl)
  mixed := by kernel_rfl
theorem m0c {V : Env} {P : Program} {fn : Func} {f : FuncId} {S : FC V.E} (hn : ∀ c x, S.f c x = none) (h1 : P.funcs[f]? = some fn := by kernel_rfl) (h2 : fn.body.isSome = true := by kernel_rfl) (h3 : (fn.name == "runtime.NumGoroutine") = false := by kernel_rfl) : MeetsC V P f S := ⟨⟨fn, h1, h2, h3⟩, fun c x y h => by rw [hn c x] at h; cases h⟩
abbrev ST := Ab.St ydE
abbrev MT := MeetsT ydT ydTi ydEqs Go.Proofs.Tryz.prog
abbrev EV := envW ydT ydTi ydEqs
abbrev EC := envC ydT ydTi ydEqs
abbrev MCT := MeetsCT ydT ydTi ydEqs Go.Proofs.Tryz.prog
theorem GC {fs : List (FuncId × FS ydE)} {ws : List (FuncId × FW ydE)} {cs : List (FuncId × FC ydE)} {t0 : Bool} (h : AllMeet ydT ydTi ydEqs Go.Proofs.Tryz.prog fs) (hw : AllMeetW ydT ydTi ydEqs Go.Proofs.Tryz.prog ws) (hc : AllMeetC ydT ydTi ydEqs Go.Proofs.Tryz.prog cs) : Good (EC fs ws cs t0) Go.Proofs.Tryz.prog := good_ofC ydBase h hw hc
theorem GB {fs : List (FuncId × FS ydE)} {ws : List (FuncId × FW ydE)} {t0 : Bool} (h : AllMeet ydT ydTi ydEqs Go.Proofs.Tryz.prog fs) (hw : AllMeetW ydT ydTi ydEqs Go.Proofs.Tryz.prog ws) : Good (EV fs ws t0) Go.Proofs.Tryz.prog := good_ofW ydBase h hw
end Go.Ab
namespace Go.Proofs
open Go.Shelf
def Tryz.lays217_ren : Go.Shelf.Ren := ⟨fun | 217 => 175 | 266 => 203 | n => n, fun | 9 => 9 | 5 => 5 | 3 => 3 | n => n, fun | n => n⟩
theorem Tryz.lays217 : Go.Proofs.Lays.n217 Tryz.prog Tryz.lays217_ren := {
  mixed := by kernel_rfl
  f217 := Tryz.func175.trans (congrArg some (by kernel_rfl))
  f266 := Tryz.func203.trans (congrArg some (by kernel_rfl))
  t3 := Tryz.underlying3
  a3 := Tryz.isAgg3
  z3 := Tryz.sizeOf3
  v3 := Tryz.zeroValue3
  t5 := Tryz.underlying5
  a5 := Tryz.isAgg5
  z5 := Tryz.sizeOf5
  v5 := Tryz.zeroValue5
  t9 := Tryz.underlying9
  a9 := Tryz.isAgg9
  z9 := Tryz.sizeOf9
  v9 := Tryz.zeroValue9 }
open Go.RowKit Go.Lib in
theorem Tryz.stringslite_IndexByte (s : ByteArray) (c : Int) (w : World) :
    Calls Tryz.prog 175 #[.string s, .int .u8 c] w fun e w' => e = .returned (.int .i64 (Lib.indexByte s.data.toList c.toNat.toUInt8)) ∧ w' = w := Any.stringslite_IndexByte Tryz.lays217 s c w
def Tryz.lays143_ren : Go.Shelf.Ren := ⟨fun | 143 => 143 | 219 => 156 | 217 => 175 | 225 => 176 | 224 => 177 | 267 => 178 | 266 => 203 | 314 => 204 | n => n, fun | 9 => 9 | 3 => 3 | 4 => 4 | 5 => 5 | 46 => 211 | 146 => 260 | 51 => 259 | n => n, fun | 1 => 0 | n => n⟩
theorem Tryz.lays143 : Go.Proofs.Lays.n143 Tryz.prog Tryz.lays143_ren := {
  mixed := by kernel_rfl
  f143 := Tryz.func143.trans (congrArg some (by kernel_rfl))
  f217 := Tryz.func175.trans (congrArg some (by kernel_rfl))
  f219 := Tryz.func156.trans (congrArg some (by kernel_rfl))
  f224 := Tryz.func177.trans (congrArg some (by kernel_rfl))
  f225 := Tryz.func176.trans (congrArg some (by kernel_rfl))
  f266 := Tryz.func203.trans (congrArg some (by kernel_rfl))
  f267 := Tryz.func178.trans (congrArg some (by kernel_rfl))
  f314 := Tryz.func204.trans (congrArg some (by kernel_rfl))
  t3 := Tryz.underlying3
  a3 := Tryz.isAgg3
  z3 := Tryz.sizeOf3
  v3 := Tryz.zeroValue3
  t4 := Tryz.underlying4
  a4 := Tryz.isAgg4
  z4 := Tryz.sizeOf4
  v4 := Tryz.zeroValue4
  t5 := Tryz.underlying5
  a5 := Tryz.isAgg5
  z5 := Tryz.sizeOf5
  v5 := Tryz.zeroValue5
  t9 := Tryz.underlying9
  a9 := Tryz.isAgg9
  z9 := Tryz.sizeOf9
  v9 := Tryz.zeroValue9
  t46 := Tryz.underlying211
  a46 := Tryz.isAgg211
  z46 := Tryz.sizeOf211
  v46 := Tryz.zeroValue211
  t51 := Tryz.underlying259
  a51 := Tryz.isAgg259
  z51 := Tryz.sizeOf259
  v51 := Tryz.zeroValue259
  t146 := Tryz.underlying260
  a146 := Tryz.isAgg260
  z146 := Tryz.sizeOf260
  v146 := Tryz.zeroValue260
  g1 := by kernel_rfl }
open Go.RowKit Go.Lib in
theorem Tryz.strings_Index_one (s : ByteArray) (c : UInt8) (w : World) :
    Calls Tryz.prog 143 #[.string s, .string ⟨#[c]⟩] w fun e w' => e = .returned (.int .i64 (Lib.indexByte s.data.toList c)) ∧ w' = w := Any.strings_Index_one Tryz.lays143 s c w
def Tryz.lays138_ren : Go.Shelf.Ren := ⟨fun | 138 => 237 | 195 => 264 | 218 => 265 | 143 => 143 | 219 => 156 | 217 => 175 | 225 => 176 | 224 => 177 | 267 => 178 | 266 => 203 | 314 => 204 | n => n, fun | 9 => 9 | 3 => 3 | 4 => 4 | 5 => 5 | 0 => 0 | 46 => 211 | 146 => 260 | 51 => 259 | n => n, fun | 1 => 0 | n => n⟩
theorem Tryz.lays138 : Go.Proofs.Lays.n138 Tryz.prog Tryz.lays138_ren := {
  mixed := by kernel_rfl
  f138 := Tryz.func237.trans (congrArg some (by kernel_rfl))
  f143 := Tryz.func143.trans (congrArg some (by kernel_rfl))
  f195 := Tryz.func264.trans (congrArg some (by kernel_rfl))
  f217 := Tryz.func175.trans (congrArg some (by kernel_rfl))
  f218 := Tryz.func265.trans (congrArg some (by kernel_rfl))
  f219 := Tryz.func156.trans (congrArg some (by kernel_rfl))
  f224 := Tryz.func177.trans (congrArg some (by kernel_rfl))
  f225 := Tryz.func176.trans (congrArg some (by kernel_rfl))
  f266 := Tryz.func203.trans (congrArg some (by kernel_rfl))
  f267 := Tryz.func178.trans (congrArg some (by kernel_rfl))
  f314 := Tryz.func204.trans (congrArg some (by kernel_rfl))
  t0 := Tryz.underlying0
  a0 := Tryz.isAgg0
  z0 := Tryz.sizeOf0
  v0 := Tryz.zeroValue0
  t3 := Tryz.underlying3
  a3 := Tryz.isAgg3
  z3 := Tryz.sizeOf3
  v3 := Tryz.zeroValue3
  t4 := Tryz.underlying4
  a4 := Tryz.isAgg4
  z4 := Tryz.sizeOf4
  v4 := Tryz.zeroValue4
  t5 := Tryz.underlying5
  a5 := Tryz.isAgg5
  z5 := Tryz.sizeOf5
  v5 := Tryz.zeroValue5
  t9 := Tryz.underlying9
  a9 := Tryz.isAgg9
  z9 := Tryz.sizeOf9
  v9 := Tryz.zeroValue9
  t46 := Tryz.underlying211
  a46 := Tryz.isAgg211
  z46 := Tryz.sizeOf211
  v46 := Tryz.zeroValue211
  t51 := Tryz.underlying259
  a51 := Tryz.isAgg259
  z51 := Tryz.sizeOf259
  v51 := Tryz.zeroValue259
  t146 := Tryz.underlying260
  a146 := Tryz.isAgg260
  z146 := Tryz.sizeOf260
  v146 := Tryz.zeroValue260
  g1 := by kernel_rfl }
open Go.RowKit Go.Lib in
theorem Tryz.strings_Count_one (s : ByteArray) (c : UInt8) (w : World) :
    Calls Tryz.prog 237 #[.string s, .string ⟨#[c]⟩] w fun e w' => e = .returned (.int .i64 (Lib.countByte s.data.toList c)) ∧ w' = w := Any.strings_Count_one Tryz.lays138 s c w
def Tryz.lays153_ren : Go.Shelf.Ren := ⟨fun | 153 => 155 | 152 => 171 | 226 => 172 | 227 => 173 | 228 => 174 | 137 => 201 | 119 => 202 | 224 => 177 | 225 => 176 | 217 => 175 | 266 => 203 | n => n, fun | 9 => 9 | 3 => 3 | 4 => 4 | 5 => 5 | 21 => 21 | 117 => 209 | 116 => 208 | 0 => 0 | 46 => 211 | 124 => 258 | n => n, fun | n => n⟩
theorem Tryz.lays153 : Go.Proofs.Lays.n153 Tryz.prog Tryz.lays153_ren := {
  mixed := by kernel_rfl
  f119 := Tryz.func202.trans (congrArg some (by kernel_rfl))
  f137 := Tryz.func201.trans (congrArg some (by kernel_rfl))
  f152 := Tryz.func171.trans (congrArg some (by kernel_rfl))
  f153 := Tryz.func155.trans (congrArg some (by kernel_rfl))
  f217 := Tryz.func175.trans (congrArg some (by kernel_rfl))
  f224 := Tryz.func177.trans (congrArg some (by kernel_rfl))
  f225 := Tryz.func176.trans (congrArg some (by kernel_rfl))
  f226 := Tryz.func172.trans (congrArg some (by kernel_rfl))
  f227 := Tryz.func173.trans (congrArg some (by kernel_rfl))
  f228 := Tryz.func174.trans (congrArg some (by kernel_rfl))
  f266 := Tryz.func203.trans (congrArg some (by kernel_rfl))
  t0 := Tryz.underlying0
  a0 := Tryz.isAgg0
  z0 := Tryz.sizeOf0
  v0 := Tryz.zeroValue0
  t3 := Tryz.underlying3
  a3 := Tryz.isAgg3
  z3 := Tryz.sizeOf3
  v3 := Tryz.zeroValue3
  t4 := Tryz.underlying4
  a4 := Tryz.isAgg4
  z4 := Tryz.sizeOf4
  v4 := Tryz.zeroValue4
  t5 := Tryz.underlying5
  a5 := Tryz.isAgg5
  z5 := Tryz.sizeOf5
  v5 := Tryz.zeroValue5
  t9 := Tryz.underlying9
  a9 := Tryz.isAgg9
  z9 := Tryz.sizeOf9
  v9 := Tryz.zeroValue9
  t21 := Tryz.underlying21
  a21 := Tryz.isAgg21
  z21 := Tryz.sizeOf21
  v21 := Tryz.zeroValue21
  t46 := Tryz.underlying211
  a46 := Tryz.isAgg211
  z46 := Tryz.sizeOf211
  v46 := Tryz.zeroValue211
  t116 := Tryz.underlying208
  a116 := Tryz.isAgg208
  z116 := Tryz.sizeOf208
  t117 := Tryz.underlying209
  a117 := Tryz.isAgg209
  z117 := Tryz.sizeOf209
  v117 := Tryz.zeroValue209
  t124 := Tryz.underlying258
  a124 := Tryz.isAgg258
  z124 := Tryz.sizeOf258
  v124 := Tryz.zeroValue258 }
open Go.RowKit Go.Lib in
theorem Tryz.strings_IndexAny_short (s chars : ByteArray) (w : World) (h2 : 2 ≤ chars.size) (h8 : s.size ≤ 8) (hascii : ∀ (j : Nat) b, s.data.toList[j]? = some b → b.toNat < 128) :
    Calls Tryz.prog 155 #[.string s, .string chars] w fun e w' => e = .returned (.int .i64 (Lib.indexAny s.data.toList chars.data.toList)) ∧ ∃ pos, w' = w.iter s pos := Any.strings_IndexAny_short Tryz.lays153 s chars w h2 h8 hascii
end Go.Proofs
namespace Go.Proofs
open Go.RowKit Go.Shelf
attribute [local go_sem] Oper.semAt_some
def allIn (g : List UInt8 → Bool) : List UInt8 → List UInt8 → Bool
  | acc, [] => g acc
  | acc, c :: r => if c == 46 then g acc && allIn g [] r else allIn g (acc ++ [c]) r
def lenAt (W : World) (b : Nat) : Nat := match W.cell? ⟨b, 0, none⟩ with
  | some (.string s) => s.size
  | _ => 0
theorem lenAt_of {W : World} {b : Nat} {s : ByteArray} (h : W.cell? ⟨b, 0, none⟩ = some (.string s)) : lenAt W b = s.size := by unfold lenAt; rw [h]
theorem allIn_nil (g : List UInt8 → Bool) (acc : List UInt8) : allIn g acc [] = g acc := by unfold allIn; rfl
theorem allIn_cons (g : List UInt8 → Bool) (acc : List UInt8) (c : UInt8) (r : List UInt8) : allIn g acc (c :: r) = if c == 46 then g acc && allIn g [] r else allIn g (acc ++ [c]) r := by rw [allIn]
theorem allIn_no (g : List UInt8 → Bool) : ∀ (s acc : List UInt8), Lib.indexByte s 46 = -1 → allIn g acc s = g (acc ++ s)
  | [], acc, _ => by simp [allIn_nil]
  | c :: r, acc, h => by
    have hg := Lib.indexByte_ge r 46
    unfold Lib.indexByte at h
    rw [allIn_cons]
    cases hc : c == 46 with
    | true => rw [hc] at h; simp at h
    | false =>
      rw [hc] at h
      by_cases h2 : Lib.indexByte r 46 = -1
      · rw [if_neg (by simp), allIn_no g r _ h2]; simp
      · have h3 : (Lib.indexByte r 46 == -1) = false := by simpa using h2
        simp only [h3, Bool.false_eq_true, if_false] at h; omega
theorem allIn_at (g : List UInt8 → Bool) : ∀ (s acc : List UInt8) (i : Nat), Lib.indexByte s 46 = i → i < s.length ∧ allIn g acc s = (g (acc ++ s.take i) && allIn g [] (s.drop (i + 1)))
  | [], acc, i, h => by simp only [Lib.indexByte] at h; omega
  | c :: r, acc, i, h => by
    have hg := Lib.indexByte_ge r 46
    unfold Lib.indexByte at h
    rw [allIn_cons]
    cases hc : c == 46 with
    | true =>
      rw [hc] at h; simp only [if_true] at h
      obtain rfl : i = 0 := by omega
      simp
    | false =>
      rw [hc] at h
      by_cases h2 : Lib.indexByte r 46 = -1
      · rw [h2] at h; simp only [Bool.false_eq_true, if_false, beq_self_eq_true, if_true] at h; omega
      · have h3 : (Lib.indexByte r 46 == -1) = false := by simpa using h2
        simp only [h3, Bool.false_eq_true, if_false] at h
        obtain ⟨j, rfl⟩ : ∃ j, i = j + 1 := ⟨i - 1, by omega⟩
        obtain ⟨h4, h5⟩ := allIn_at g r (acc ++ [c]) j (by omega)
        rw [if_neg (by simp), h5]
        refine ⟨by simp; omega, ?_⟩
        rw [List.take_succ_cons, List.drop_succ_cons, List.append_assoc]; rfl
theorem ext_take (r : List UInt8) (k : Nat) : (⟨r.toArray⟩ : ByteArray).extract 0 k = ⟨(r.take k).toArray⟩ := by
  apply ByteArray.ext
  rw [ByteArray.data_extract]
  simp
theorem ext_drop (r : List UInt8) (k : Nat) : (⟨r.toArray⟩ : ByteArray).extract k r.length = ⟨(r.drop k).toArray⟩ := by
  apply ByteArray.ext
  rw [ByteArray.data_extract]
  simp only [List.extract_toArray, List.extract_eq_take_drop]
  rw [List.take_of_length_le (by simp)]
theorem Tryz.index_dot (r : List UInt8) (i : Int) (h : Lib.indexByte r 46 = i) (w : World) : CallsIn Fence.wide 2 Tryz.prog 143 #[.string ⟨r.toArray⟩, .string ⟨#[46]⟩] w fun e w' => e = .returned (.int .i64 i) ∧ w' = w :=
  (callsIn_wide.2 (Tryz.strings_Index_one ⟨r.toArray⟩ 46 w)).mono fun e w' ⟨h1, h2⟩ => ⟨by rw [h1, ← h], h2⟩
set_option maxRecDepth 100000 in
set_option maxHeartbeats 2000000 in
theorem Tryz.split_in (l bsep bs bsave : Nat) (g : List UInt8 → Bool) (J : List UInt8 → World → Prop) (Jx : World → Prop)
    (hJ : ∀ r W, J r W → W.cell? ⟨bsep, 0, none⟩ = some (.string ⟨#[46]⟩) ∧ W.cell? ⟨bs, 0, none⟩ = some (.string ⟨r.toArray⟩) ∧ W.frozen? ⟨bs, 0, none⟩ = false ∧ W.cell? ⟨bsave, 0, none⟩ = some (.int .i64 0))
    (hset : ∀ r r' W, J r W → J r' (W.setCell ⟨bs, 0, none⟩ (.string ⟨r'.toArray⟩)))
    (hY : ∀ x r W, J r W → x.length ≤ maxLen → YieldAt Fence.wide 2 Tryz.prog l #[.string ⟨x.toArray⟩] W fun e W' => (e = .returned (.bool true) ∧ g x = true ∧ J r W') ∨ (e = .returned (.bool false) ∧ g x = false ∧ Jx W'))
    (s : List UInt8) (W : World) (h0 : J s W) (hs : s.length ≤ maxLen) :
    CallsIn Fence.wide 3 Tryz.prog 141 #[.func (.yield l) #[] #[], .pointer (some ⟨bsep, 0, none⟩), .pointer (some ⟨bs, 0, none⟩), .pointer (some ⟨bsave, 0, none⟩)] W fun e W' => (∃ v, e = .returned v) ∧
      ((allIn g [] s = true ∧ ∃ r, J r W') ∨ (allIn g [] s = false ∧ Jx W')) := by
  refine callsIn_of_wp Tryz.func141 rfl trivial ?_ rfl
  simp only [Tryz.ntmps141, List.size_toArray, List.length_cons, List.length_nil, Nat.reduceAdd, Nat.reduceSub, Array.replicate_succ, Array.replicate_zero, List.push_toArray, List.append_toArray, List.nil_append, List.cons_append]
  obtain ⟨c1, c2, c3, c4⟩ := hJ s W h0
  gi_wp2
  gi_loopw [] (fun wr => ∃ r, J r wr ∧ allIn g [] s = allIn g [] r ∧ r.length ≤ maxLen) (fun wr => lenAt wr bs)
  case atStart => exact ⟨s, h0, rfl, hs⟩
  case round =>
    obtain ⟨r, hr, ha, hl⟩ := hrel
    obtain ⟨c1, c2, c3, c4⟩ := hJ r wr hr
    have hg := Lib.indexByte_ge r 46
    by_cases hi : Lib.indexByte r 46 = -1
    · have hcall := Tryz.index_dot r _ hi
      obtain ⟨fn, tmps, assign, body, hy, hR⟩ := hY r r wr hr hl
      gi_wp2_with (refine ⟨trivial, ?_⟩; refine (hcall _).mono ?_; rintro e w' ⟨rfl, rfl⟩)
      refine hR.mono ?_
      rintro e W3 (⟨rfl, hg1, hJ3⟩ | ⟨rfl, hg1, hx3⟩)
      · gi_wp2
        go_end0
        exact ⟨⟨_, rfl⟩, .inl ⟨by rw [ha, allIn_no g r [] hi]; exact hg1, _, hJ3⟩⟩
      · gi_wp2
        go_end0
        exact ⟨⟨_, rfl⟩, .inr ⟨by rw [ha, allIn_no g r [] hi]; exact hg1, hx3⟩⟩
    · obtain ⟨k, hk⟩ : ∃ k : Nat, Lib.indexByte r 46 = k := ⟨(Lib.indexByte r 46).toNat, by omega⟩
      have hcall := Tryz.index_dot r _ hk
      obtain ⟨hk1, hk2⟩ := allIn_at g r [] k hk
      have hml : (maxLen : Int) = 9223372036854775807 := by decide
      have hw : wrap64 (k : Int) = k := by unfold maxLen at hl; unfold wrap64; omega
      have hw1 : wrap64 ((k : Int) + 1) = ((k + 1 : Nat) : Int) := by unfold maxLen at hl; unfold wrap64; omega
      have hx := ext_take r k
      have hx2 := ext_drop r (k + 1)
      have hle1 : (k : Int) + 1 ≤ r.length := by omega
      have h0k1 : (0 : Int) ≤ (k : Int) + 1 := by omega
      have hle : (k : Int) ≤ r.length := by omega
      have h0k : (0 : Int) ≤ k := by omega
      have hnk : ¬ (k : Int) < 0 := by omega
      obtain ⟨fn, tmps, assign, body, hy, hR⟩ := hY (r.take k) r wr hr (by simp; omega)
      gi_wp2_with (refine ⟨trivial, ?_⟩; refine (hcall _).mono ?_; rintro e w' ⟨rfl, rfl⟩)
      refine hR.mono ?_
      rintro e W3 (⟨rfl, hg1, hJ3⟩ | ⟨rfl, hg1, hx3⟩)
      · obtain ⟨d1, d2, d3, d4⟩ := hJ r W3 hJ3
        gi_wp2
        have hJ4 := hset r (r.drop (k + 1)) W3 hJ3
        refine ⟨⟨_, hJ4, by rw [ha, hk2]; simp [hg1], by simp; omega⟩, ?_⟩
        rw [lenAt_of (hJ _ _ hJ4).2.1, lenAt_of c2]
        simp [ByteArray.size]; omega
      · gi_wp2
        refine bodyPost_ret (results_none rfl _ _ _) rfl ?_
        exact ⟨⟨_, rfl⟩, .inr ⟨by rw [ha, hk2]; simp [hg1], hx3⟩⟩
set_option maxHeartbeats 2000000 in
theorem Tryz.splitSeq1_in (s sep : ByteArray) (w : World) : CallsIn Fence.wide 2 Tryz.prog 115 #[.string s, .string sep, .int .i64 0] w fun e w' =>
    e = .returned (.func (.func 141) #[] #[.pointer (some ⟨w.heap.size + 1, 0, none⟩), .pointer (some ⟨w.heap.size, 0, none⟩), .pointer (some ⟨w.heap.size + 1 + 1, 0, none⟩)]) ∧
    w' = ((w.alloc (.cells #[.string s] 9)).alloc (.cells #[.string sep] 9)).alloc (.cells #[.int .i64 0] 3) := by
  refine callsIn_of_wp Tryz.func115 rfl trivial ?_ rfl
  simp only [Tryz.ntmps115, List.size_toArray, List.length_cons, List.length_nil, Nat.reduceAdd, Nat.reduceSub, Array.replicate_succ, Array.replicate_zero, List.push_toArray, List.append_toArray, List.nil_append, List.cons_append]
  gi_wp2
  go_ret
  exact ⟨rfl, rfl⟩
set_option maxHeartbeats 2000000 in
theorem Tryz.splitSeq_in (s sep : ByteArray) (w : World) : CallsIn Fence.wide 3 Tryz.prog 83 #[.string s, .string sep] w fun e w' =>
    e = .returned (.func (.func 141) #[] #[.pointer (some ⟨w.heap.size + 1, 0, none⟩), .pointer (some ⟨w.heap.size, 0, none⟩), .pointer (some ⟨w.heap.size + 1 + 1, 0, none⟩)]) ∧
    w' = ((w.alloc (.cells #[.string s] 9)).alloc (.cells #[.string sep] 9)).alloc (.cells #[.int .i64 0] 3) := by
  refine callsIn_of_wp Tryz.func83 rfl trivial ?_ rfl
  simp only [Tryz.ntmps83, List.size_toArray, List.length_cons, List.length_nil, Nat.reduceAdd, Nat.reduceSub, Array.replicate_succ, Array.replicate_zero, List.push_toArray, List.append_toArray, List.nil_append, List.cons_append]
  gi_wp2_with (refine ⟨trivial, ?_⟩; refine (Tryz.splitSeq1_in _ _ _).mono ?_; rintro e w' ⟨rfl, rfl⟩)
  go_ret
  exact ⟨rfl, rfl⟩
end Go.Proofs
namespace Go.Proofs
open Go.RowKit Go.Shelf
attribute [local go_sem] Oper.semAt_some
theorem cell_laid (w : World) (v : Value) (t : TypeId) : (w.alloc (.cells #[v] t)).cell? ⟨w.heap.size, 0, none⟩ = some v ∧ (w.alloc (.cells #[v] t)).frozen? ⟨w.heap.size, 0, none⟩ = false := ⟨by simp, by simp⟩
theorem cell_later {w : World} {b : Nat} {v : Value} (o : Obj) (h : w.cell? ⟨b, 0, none⟩ = some v ∧ w.frozen? ⟨b, 0, none⟩ = false) : (w.alloc o).cell? ⟨b, 0, none⟩ = some v ∧ (w.alloc o).frozen? ⟨b, 0, none⟩ = false := by
  have hb : b < w.heap.size := by
    have h1 := h.1
    unfold World.cell? at h1
    cases hk : w.heap[b]? with
    | none => simp [hk] at h1
    | some o => exact (Array.getElem?_eq_some_iff.1 hk).1
  have hk : (w.alloc o).heap[b]? = w.heap[b]? := Below.heap_alloc w o b hb
  exact ⟨(World.cell?_of_block hk).trans h.1, (World.frozen?_of_block hk).trans h.2⟩
theorem cell_kept0 {W W' : World} {row : Option Nat} {b : Nat} {v : Value} (hb : b < W.heap.size) (hr : some b ≠ row) (hg : W.grownBy W' row) (h : W.cell? ⟨b, 0, none⟩ = some v ∧ W.frozen? ⟨b, 0, none⟩ = false) : W'.cell? ⟨b, 0, none⟩ = some v ∧ W'.frozen? ⟨b, 0, none⟩ = false :=
  ⟨(World.cell?_of_block (hg.block b hb hr)).trans h.1, (World.frozen?_of_block (hg.block b hb hr)).trans h.2⟩
theorem cell_put {W : World} {b l : Nat} {v : Value} (o : Obj) (hn : b ≠ l) (h : W.cell? ⟨b, 0, none⟩ = some v ∧ W.frozen? ⟨b, 0, none⟩ = false) : (W.putObj l o).cell? ⟨b, 0, none⟩ = some v ∧ (W.putObj l o).frozen? ⟨b, 0, none⟩ = false :=
  ⟨(World.cell?_of_block (World.putObj_heap_other hn)).trans h.1, (World.frozen?_of_block (World.putObj_heap_other hn)).trans h.2⟩
theorem round_kept {W1 W w' : World} {bs l : Nat} {o o2 : Obj} (h1 : W1.grownBy W (some bs)) (hgr : (W.putObj l o).grownBy w' none) (hl : W1.heap[l]? = some o2) : W1.grownBy (w'.putObj l o2) (some bs) := by
  have hl1 : l < W1.heap.size := (Array.getElem?_eq_some_iff.1 hl).1
  have hz : W.heap.size ≤ w'.heap.size := by have := hgr.size; simpa using this
  refine ⟨hgr.os.trans h1.os, hgr.tape.trans h1.tape, hgr.output.trans h1.output, by simp; exact Nat.le_trans h1.size hz, fun k hk hn => ?_⟩
  by_cases e : k = l
  · subst e; rw [World.putObj_heap_same (by have := h1.size; omega), hl]
  · rw [World.putObj_heap_other e, hgr.block k (by simp; have := h1.size; omega) (by simp), World.putObj_heap_other e, h1.block k hk hn]
theorem grown_far {w a c : World} {b : Nat} (h : w.grownBy a none) (k : a.grownBy c (some b)) (hb : w.heap.size ≤ b) : w.grownBy c none :=
  h.andThen k fun j e => by cases e; exact .inl hb
theorem wide_range {n : Nat} {P : Program} {o : Operand} {ps : Array Tmp} {ac bd : Code} {Q : Exit → Act → World → Prop} {a : Act} {w : World} {gf : Nat} {lb : Array Value} (ho : a.eval o = .func (.func gf) #[] lb)
    (eg : ∀ args w, (callFunc gf args).run P w = .ok (.enter gf args) w)
    (h : ∀ (fn : FuncId) (rec : LoopState → Option Code → Loop) (W1 : World), (∀ st pe, rec st pe = { state := st, pending := pe, fn, tmps := a.tmps, params := ps, assign := ac, body := bd, defers := w.heap.size }) →
      w.grownBy W1 none → W1.heap.size = w.heap.size + 1 + 1 → W1.heap[w.heap.size]? = some (.deferred (some [])) → W1.heap[w.heap.size + 1]? = some (.loop (rec .ready none)) →
      CallsIn Fence.wide (n - 1) P gf (#[.func (.yield (w.heap.size + 1)) #[] #[]] ++ lb) W1 (rangePost Fence.wide n P (w.heap.size + 1) Q { a with defers := { target := .collected w.heap.size, args := #[] } :: a.defers })) :
    (Code.rangeFunc o ps ac bd).wpIn Fence.wide n P Q a w := by
  refine wpIn_rangeFunc ?_
  intro fn _
  have hL := World.alloc_heap_new (w.alloc (.deferred (some []))) (.loop { state := .ready, pending := none, fn, tmps := a.tmps, params := ps, assign := ac, body := bd, defers := w.heap.size })
  rw [World.size_alloc] at hL
  have hD := (Below.heap_alloc (w.alloc (.deferred (some []))) (.loop { state := .ready, pending := none, fn, tmps := a.tmps, params := ps, assign := ac, body := bd, defers := w.heap.size }) w.heap.size (by simp)).trans (World.alloc_heap_new w _)
  have hgr : w.grownBy ((w.alloc (.deferred (some []))).alloc (.loop { state := .ready, pending := none, fn, tmps := a.tmps, params := ps, assign := ac, body := bd, defers := w.heap.size })) none := (World.grownBy_alloc _ _ none).trans (World.grownBy_alloc _ _ none)
  have hsz : ((w.alloc (.deferred (some []))).alloc (.loop { state := .ready, pending := none, fn, tmps := a.tmps, params := ps, assign := ac, body := bd, defers := w.heap.size })).heap.size = w.heap.size + 1 + 1 := by simp
  have hrun : (Instr.enterLoop fn a.tmps ps ac bd Fence.wide.round).run P w = _ := run_enterLoop_outer fn a.tmps ps ac bd
  generalize (w.alloc (.deferred (some []))).alloc (.loop { state := .ready, pending := none, fn, tmps := a.tmps, params := ps, assign := ac, body := bd, defers := w.heap.size }) = W1 at hL hD hgr hsz hrun
  refine ⟨w.heap.size + 1, [{ target := .collected w.heap.size, args := #[] }], W1, { target := .fn (.func gf) lb, args := #[.func (.yield (w.heap.size + 1)) #[] #[]] }, W1, gf,
    #[.func (.yield (w.heap.size + 1)) #[] #[]] ++ lb, W1, hrun, ?_, fun _ _ => trivial, ?_, fun hd => (by cases hd), ?_⟩
  · simp only [resolve, ho]
    simp [go_sem]
  · simp [invoke, go_sem, eg]
  · exact h fn (fun st pe => { state := st, pending := pe, fn, tmps := a.tmps, params := ps, assign := ac, body := bd, defers := w.heap.size }) W1 (fun _ _ => rfl) hgr hsz hD hL
set_option maxRecDepth 100000 in
set_option maxHeartbeats 4000000 in
theorem Tryz.isPath_in (g : List UInt8 → Bool) (hg : ∀ (x : List UInt8) (w : World), x.length ≤ maxLen → Calls Tryz.prog 84 #[.string ⟨x.toArray⟩] w fun e w' => e = .returned (.bool (g x)) ∧ w.grownBy w' none)
    (s : List UInt8) (hs : s.length ≤ maxLen) (w : World) : CallsIn Fence.wide 4 Tryz.prog 54 #[.string ⟨s.toArray⟩] w fun e w' => e = .returned (.bool (allIn g [] s)) ∧ w.grownBy w' none := by
  refine callsIn_of_wp_marks Tryz.func54 rfl trivial ?_ rfl
  simp only [Tryz.ntmps54, List.size_toArray, List.length_cons, List.length_nil, Nat.reduceAdd, Nat.reduceSub, Array.replicate_succ, Array.replicate_zero, List.push_toArray, List.append_toArray, List.nil_append, List.cons_append]
  gi_wp2_with (refine ⟨trivial, ?_⟩; refine (Tryz.splitSeq_in _ _ _).mono ?_; rintro e w' ⟨rfl, rfl⟩)
  obtain ⟨w0, hw0⟩ : ∃ w0, (((w.alloc (.cells #[.bool false] 4)).alloc (.cells #[.string ⟨s.toArray⟩] 9)).alloc (.cells #[.string ⟨#[46]⟩] 9)).alloc (.cells #[.int .i64 0] 3) = w0 := ⟨_, rfl⟩
  have hz0 : w0.heap.size = w.heap.size + 1 + 1 + 1 + 1 := by rw [← hw0]; simp
  have hgw0 : w.grownBy w0 none := by
    rw [← hw0]; exact (((World.grownBy_alloc _ _ none).trans (World.grownBy_alloc _ _ none)).trans (World.grownBy_alloc _ _ none)).trans (World.grownBy_alloc _ _ none)
  have e0 := cell_laid w (.bool false) 4
  have e1 := cell_laid (w.alloc (.cells #[.bool false] 4)) (.string ⟨s.toArray⟩) 9
  have e2 := cell_laid ((w.alloc (.cells #[.bool false] 4)).alloc (.cells #[.string ⟨s.toArray⟩] 9)) (.string ⟨#[46]⟩) 9
  have e3 := cell_laid (((w.alloc (.cells #[.bool false] 4)).alloc (.cells #[.string ⟨s.toArray⟩] 9)).alloc (.cells #[.string ⟨#[46]⟩] 9)) (.int .i64 0) 3
  simp only [World.size_alloc] at e1 e2 e3
  have r0 := cell_later (.cells #[.int .i64 0] 3) (cell_later (.cells #[.string ⟨#[46]⟩] 9) (cell_later (.cells #[.string ⟨s.toArray⟩] 9) e0))
  have r1 := cell_later (.cells #[.int .i64 0] 3) (cell_later (.cells #[.string ⟨#[46]⟩] 9) e1)
  have r2 := (cell_later (.cells #[.int .i64 0] 3) e2).1
  have r3 := e3.1
  rw [hw0] at r0 r1 r2 r3
  rw [hw0]
  refine wide_range (gf := 141) rfl (enters_of Tryz.func141 (by kernel_rfl) rfl) ?_
  intro fn rec W1 hrec hg1 hz1 hD1 hL1
  have hlt : w.heap.size + 1 + 1 + 1 < w0.heap.size := by omega
  have hn1 : some (w.heap.size + 1 + 1) ≠ some (w.heap.size + 1) := by simp
  have hn2 : some (w.heap.size + 1 + 1 + 1) ≠ some (w.heap.size + 1) := by simp; omega
  have hlt1 : w.heap.size + 1 < W1.heap.size := by omega
  have hlt0 : w.heap.size < w0.heap.size := by omega
  have hn0 : some w.heap.size ≠ some (w.heap.size + 1) := by simp
  have r00 := cell_kept0 hlt0 (by simp) hg1 r0
  have r11 := cell_kept0 (by omega) (by simp) hg1 r1
  generalize w0.heap.size = D at hrec hz1 hD1 hL1 hlt ⊢
  clear hz0 hw0 e0 e1 e2 e3 hlt0
  refine (Tryz.split_in (D + 1) (w.heap.size + 1 + 1) (w.heap.size + 1) (w.heap.size + 1 + 1 + 1) g
    (fun r W => W1.grownBy W (some (w.heap.size + 1)) ∧ W.cell? ⟨w.heap.size + 1, 0, none⟩ = some (.string ⟨r.toArray⟩) ∧ W.frozen? ⟨w.heap.size + 1, 0, none⟩ = false)
    (fun W => w.grownBy W none ∧ W.heap[D + 1]? = some (.loop (rec .done (some .ret))) ∧ W.heap[D]? = some (.deferred (some [])) ∧ W.cell? ⟨w.heap.size, 0, none⟩ = some (.bool false))
    ?_ ?_ ?_ s W1 ?_ hs).mono ?_
  · rintro r W ⟨h1, h2, h3⟩
    exact ⟨h1.cell (hg1.cell r2 (by simp)) hn1, h2, h3, h1.cell (hg1.cell r3 (by simp)) hn2⟩
  · rintro r r' W ⟨h1, h2, h3⟩
    exact ⟨h1.trans (grownBy_setCell' _ _ _), World.cell?_setCell_same' _ _ _ (by rw [h2]; rfl), by rw [World.frozen?_setCell]; exact h3⟩
  · rintro x r W ⟨h1, h2, h3⟩ hx
    have hl : W.heap[D + 1]? = some (.loop (rec .ready none)) := (h1.block _ (by omega) (by simp; omega)).trans hL1
    have hd : W.heap[D]? = some (.deferred (some [])) := (h1.block _ (by omega) (by simp; omega)).trans hD1
    have q0 := cell_kept0 (by omega) hn0 h1 r00
    have hy := run_yield (P := Tryz.prog) (args := #[.string ⟨x.toArray⟩]) hl (by rw [hrec]; rfl)
    simp only [hrec] at hy
    refine ⟨fn, _, _, _, hy, roundIn_of_wpIn trivial ?_⟩
    gi_wp2
    have hbeg := run_beginRound (P := Tryz.prog) hl (by rw [hrec])
    have hfin : ∀ (jump : Option Code) (w' : World), w'.heap[D + 1]? = some (.loop { rec .ready none with state := .busy }) → (Instr.endRound (D + 1) jump).run Tryz.prog w' = .ok (.bool jump.isNone) (w'.putObj (D + 1) (.loop (rec (if jump.isNone then .ready else .done) jump))) := by
      intro jump w' h
      have := run_endRound (P := Tryz.prog) jump h
      simp only [hrec] at this ⊢
      exact this
    have hrd := hrec .done (some .ret)
    clear hrec
    have hl2 : (W.putObj (D + 1) (.loop { rec .ready none with state := .busy })).heap[D + 1]? = some (.loop { rec .ready none with state := .busy }) := World.putObj_heap_same (Array.getElem?_eq_some_iff.1 hl).1
    have hd2 : (W.putObj (D + 1) (.loop { rec .ready none with state := .busy })).heap[D]? = some (.deferred (some [])) := (World.putObj_heap_other (by omega)).trans hd
    have q2 := cell_put (.loop { rec .ready none with state := .busy }) (by omega : w.heap.size ≠ D + 1) q0
    have s2 := cell_put (.loop { rec .ready none with state := .busy }) (by omega : w.heap.size + 1 ≠ D + 1) ⟨h2, h3⟩
    have hz2 : (W.putObj (D + 1) (.loop { rec .ready none with state := .busy })).heap.size = W.heap.size := by simp
    have hWz := h1.size
    have key : ∀ w' : World, (W.putObj (D + 1) (.loop { rec .ready none with state := .busy })).grownBy w' none → W1.grownBy (w'.putObj (D + 1) (.loop (rec .ready none))) (some (w.heap.size + 1)) := fun w' hgr => round_kept h1 hgr hL1
    have hkeep : w.grownBy (W.putObj (D + 1) (.loop { rec .ready none with state := .busy })) none := ((grown_far (hgw0.trans hg1) h1 (by omega))).andThen (grownBy_putObj' _ _ _) fun j e => by cases e; exact .inl (by omega)
    generalize W.putObj (D + 1) (.loop { rec .ready none with state := .busy }) = W2 at hl2 hd2 q2 s2 hz2 key hkeep hbeg
    refine ⟨_, hbeg, ?_⟩
    have hl4 : D + 1 < W2.heap.size := (Array.getElem?_eq_some_iff.1 hl2).1
    have hlb : w.heap.size < W2.heap.size := by omega
    have hlb1 : w.heap.size + 1 < W2.heap.size := by omega
    have hlD : D < W2.heap.size := by omega
    have hne : w.heap.size + 1 ≠ D + 1 := by omega
    have hne0 : w.heap.size ≠ D + 1 := by omega
    clear hy h1 h2 h3 hl hd q0 hz2 hWz hbeg
    cases hgx : g x with
    | true =>
      have hcall := fun w => hg x w hx
      rw [hgx] at hcall
      gi_wp2_with (refine ⟨trivial, ?_⟩; refine (CallsIn.inRound (D + 1) (callsIn_wide.2 (hcall _))).mono ?_; rintro e w' ⟨rfl, hgr⟩)
      have hl3 := (hgr.block (D + 1) hl4 (by simp)).trans hl2
      have s3 := cell_put (.loop (rec .ready none)) hne (cell_kept0 hlb1 (by simp) hgr s2)
      exact ⟨_, _, hfin none _ hl3, rfl, key _ hgr, s3.1, s3.2⟩
    | false =>
      have hcall := fun w => hg x w hx
      rw [hgx] at hcall
      gi_wp2_with (refine ⟨trivial, ?_⟩; refine (CallsIn.inRound (D + 1) (callsIn_wide.2 (hcall _))).mono ?_; rintro e w' ⟨rfl, hgr⟩; obtain ⟨q3, q4⟩ := cell_kept0 hlb (by simp) hgr q2)
      have hz3 := hgr.size
      have hl3 := ((grownBy_setCell' w' w.heap.size (.bool false)).block (D + 1) (by omega) (by simp; omega)).trans ((hgr.block (D + 1) hl4 (by simp)).trans hl2)
      have hd3 := ((grownBy_setCell' w' w.heap.size (.bool false)).block D (by omega) (by simp; omega)).trans ((hgr.block D hlD (by simp)).trans hd2)
      have hk3 := ((hkeep.trans hgr).andThen (grownBy_setCell' w' w.heap.size (.bool false)) (row := none) fun j e => by cases e; exact .inl (Nat.le_refl _)).andThen (grownBy_putObj' _ (D + 1) (.loop (rec .done (some .ret)))) (row := none) fun j e => by cases e; exact .inl (by omega)
      refine ⟨_, _, hfin (some .ret) _ hl3, rfl, hk3, ?_, (World.putObj_heap_other (by omega)).trans hd3, ?_⟩
      · rw [← hrd]; exact World.putObj_heap_same (Array.getElem?_eq_some_iff.1 hl3).1
      · exact (World.cell?_of_block (World.putObj_heap_other hne0)).trans (World.cell?_setCell_same' _ _ _ (by rw [q3]; rfl))
  · exact ⟨.refl _ _, r11⟩
  · rintro e w' ⟨⟨v, rfl⟩, (⟨ht, r, h1, _, _⟩ | ⟨hf, h1, hl, hd, hc⟩)⟩
    · have hl := (h1.block (D + 1) (by omega) (by simp; omega)).trans hL1
      have hd := (h1.block D (by omega) (by simp; omega)).trans hD1
      have hpe : (rec .ready none).pending = none := by rw [hrec]
      have hend : (Instr.endLoop (D + 1)).run Tryz.prog w' = .ok none (w'.putObj (D + 1) (.loop { rec .ready none with state := .exhausted })) := (run_endLoop (P := Tryz.prog) hl (by rw [hrec]; simp)).trans (congrArg (fun j => Result.ok j _) hpe)
      refine ⟨none, _, hend, ?_⟩
      have q1 := cell_put (.loop { rec .ready none with state := .exhausted }) (by omega : w.heap.size ≠ D + 1) (cell_kept0 (by omega) hn0 h1 r00)
      have d1 := (World.putObj_heap_other (o := .loop { rec .ready none with state := .exhausted }) (by omega : D ≠ D + 1)).trans hd
      have g1 := (grown_far (hgw0.trans hg1) h1 (by omega)).andThen (grownBy_putObj' w' (D + 1) (.loop { rec .ready none with state := .exhausted })) (row := none) fun j e => by cases e; exact .inl (by omega)
      generalize w'.putObj (D + 1) (.loop { rec .ready none with state := .exhausted }) = W4 at q1 d1 g1 ⊢
      clear hrec hpe hend
      have hz4 : D < W4.heap.size := (Array.getElem?_eq_some_iff.1 d1).1
      obtain ⟨q1, q2⟩ := q1
      gi_wp2
      have d2 := ((grownBy_setCell' W4 w.heap.size (.bool true)).block D hz4 (by simp; omega)).trans d1
      refine ⟨by simp, .inl ⟨_, _, rfl, run_takeDeferred d2, ?_⟩⟩
      have c5 : (W4.setCell ⟨w.heap.size, 0, none⟩ (.bool true)).cell? ⟨w.heap.size, 0, none⟩ = some (.bool true) := World.cell?_setCell_same' _ _ _ (by rw [q1]; rfl)
      have c6 := (World.cell?_of_block (a := ⟨w.heap.size, 0, none⟩) (World.putObj_heap_other (w := W4.setCell ⟨w.heap.size, 0, none⟩ (.bool true)) (o := .deferred none) (by omega : w.heap.size ≠ D))).trans c5
      refine ⟨.bool true, ?_, by rw [ht], (g1.andThen (grownBy_setCell' W4 w.heap.size (.bool true)) (row := none) fun j e => by cases e; exact .inl (Nat.le_refl _)).andThen (grownBy_putObj' _ D (.deferred none)) (row := none) fun j e => by cases e; exact .inl (by omega)⟩
      simp [results, Tryz.f54, go_sem, c6]
    · have hpe : (rec .done (some .ret)).pending = some .ret := by rw [hrec]
      have hend : (Instr.endLoop (D + 1)).run Tryz.prog w' = .ok (some .ret) (w'.putObj (D + 1) (.loop { rec .done (some .ret) with state := .exhausted })) := (run_endLoop (P := Tryz.prog) hl (by rw [hrec]; simp)).trans (congrArg (fun j => Result.ok j _) hpe)
      refine ⟨some .ret, _, hend, ?_⟩
      have q1 := (World.cell?_of_block (a := ⟨w.heap.size, 0, none⟩) (World.putObj_heap_other (w := w') (o := .loop { rec .done (some .ret) with state := .exhausted }) (by omega : w.heap.size ≠ D + 1))).trans hc
      have d1 := (World.putObj_heap_other (o := .loop { rec .done (some .ret) with state := .exhausted }) (by omega : D ≠ D + 1)).trans hd
      have g1 := h1.andThen (grownBy_putObj' w' (D + 1) (.loop { rec .done (some .ret) with state := .exhausted })) (row := none) fun j e => by cases e; exact .inl (by omega)
      generalize w'.putObj (D + 1) (.loop { rec .done (some .ret) with state := .exhausted }) = W4 at q1 d1 g1 ⊢
      clear hrec hpe hend
      gi_wp2
      refine ⟨by simp, .inl ⟨_, _, rfl, run_takeDeferred d1, ?_⟩⟩
      have c6 := (World.cell?_of_block (a := ⟨w.heap.size, 0, none⟩) (World.putObj_heap_other (w := W4) (o := .deferred none) (by omega : w.heap.size ≠ D))).trans q1
      refine ⟨.bool false, ?_, by rw [hf], g1.andThen (grownBy_putObj' _ D (.deferred none)) (row := none) fun j e => by cases e; exact .inl (by omega)⟩
      simp [results, Tryz.f54, go_sem, c6]
end Go.Proofs
