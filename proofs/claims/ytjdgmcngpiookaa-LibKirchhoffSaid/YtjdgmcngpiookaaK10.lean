/- What the functions compute, as plain functions. Conditions: none beyond those that each theorem names. -/
import Derived.Test.YtjdgmcngpiookaaK08
namespace Go.Ab
open Go
set_option linter.unusedVariables false
structure ApiRat where
  N : Int
  D : Int
def ApiRatZ : ApiRat := ⟨(0 : Int), (0 : Int)⟩
structure ApiArm where
  A : Int
  B : Int
  R : ApiRat
  E : ApiRat
def ApiArmZ : ApiArm := ⟨(0 : Int), (0 : Int), (ApiRatZ), (ApiRatZ)⟩
structure ApiGrid where
  Nodes : Int
  Arms : List ApiArm
def ApiGridZ : ApiGrid := ⟨(0 : Int), ([] : (List ApiArm))⟩
structure NumZ where
  v : Int
  m : List Int
  neg : Bool
def NumZZ : NumZ := ⟨(0 : Int), ([] : (List Int)), false⟩
structure NumQ where
  N : NumZ
  D : NumZ
def NumQZ : NumQ := ⟨(NumZZ), (NumZZ)⟩
structure QmM where
  C : Int
  V : List (List NumQ)
def QmMZ : QmM := ⟨(0 : Int), ([] : (List (List NumQ)))⟩
structure Isoclineref01Whole where
  d : List Int
  minus : Bool
def Isoclineref01WholeZ : Isoclineref01Whole := ⟨([] : (List Int)), false⟩
structure Isoclineref01Q where
  n : Isoclineref01Whole
  d : Isoclineref01Whole
def Isoclineref01QZ : Isoclineref01Q := ⟨(Isoclineref01WholeZ), (Isoclineref01WholeZ)⟩
noncomputable section
def numValidJ1 : Option Bool :=
  some false
def numValidL1 (v1 : Int) (v2 : Int) : Option ((Int × Int) ⊕ Int) :=
  if !decide (v2 = (0 : Int)) then
    need (v2 ≠ 0) <|
    some (.inl (v2, Int.tmod v1 v2))
  else
    some (.inr v1)
def numValid (a0 : ApiRat) : Option Bool :=
  if decide (a0.D < (1 : Int)) then
    numValidJ1
  else
    if decide ((1000000000000 : Int) < a0.D) then
      numValidJ1
    else
      if decide ((1000000000000 : Int) < a0.N) then
        numValidJ1
      else
        if decide (a0.N < (-1000000000000 : Int)) then
          numValidJ1
        else
          Option.bind (iter (fun v : (Int × Int) => numValidL1 v.1 v.2) (a0.N, a0.D)) fun r1 =>
            if decide (r1 = (1 : Int)) then
              some true
            else
              some (decide (r1 = (-1 : Int)))
def libGridJ1 : Option Int :=
  some (1 : Int)
def libGridJ2 : Option (Int ⊕ (Unit ⊕ Int)) :=
  some (.inr (.inr (1 : Int)))
def libGridL1 (a0 : ApiGrid) (v1 : Int) : Option (Int ⊕ (Unit ⊕ Int)) :=
  if decide (v1 < ((a0.Arms.length : Nat) : Int)) then
    need (inRange v1 a0.Arms.length) <|
    if decide (((List.getD a0.Arms (v1).toNat (ApiArmZ)).A) < (0 : Int)) then
      libGridJ2
    else
      if decide (a0.Nodes ≤ ((List.getD a0.Arms (v1).toNat (ApiArmZ)).A)) then
        libGridJ2
      else
        if decide (((List.getD a0.Arms (v1).toNat (ApiArmZ)).B) < (0 : Int)) then
          libGridJ2
        else
          if decide (a0.Nodes ≤ ((List.getD a0.Arms (v1).toNat (ApiArmZ)).B)) then
            libGridJ2
          else
            Option.bind (numValid ((List.getD a0.Arms (v1).toNat (ApiArmZ)).R)) fun y1 =>
            if !y1 then
              libGridJ2
            else
              if decide ((((List.getD a0.Arms (v1).toNat (ApiArmZ)).R).N) < (1 : Int)) then
                libGridJ2
              else
                Option.bind (numValid ((List.getD a0.Arms (v1).toNat (ApiArmZ)).E)) fun y2 =>
                if !y2 then
                  libGridJ2
                else
                  some (.inl (IntKind.wrap .i64 (v1 + (1 : Int))))
  else
    some (.inr (.inl ()))
def libGrid (a0 : ApiGrid) : Option Int :=
  if decide ((40 : Int) < ((a0.Arms.length : Nat) : Int)) then
    some (3 : Int)
  else
    if decide (a0.Nodes < (1 : Int)) then
      libGridJ1
    else
      if decide ((12 : Int) < a0.Nodes) then
        libGridJ1
      else
        Option.bind (iter (fun v : Int => libGridL1 a0 v) (0 : Int)) fun r =>
        match r with
        | .inl r1 =>
          some (0 : Int)
        | .inr r2 =>
          some r2
def libJoinedL1 (a0 : ApiGrid) (v1 : Int) (v2 : Int) (v3 : (List Int)) : Option ((Int × Int × (List Int)) ⊕ (List Int)) :=
  if decide (v2 < v1) then
    need (inRange v2 v3.length) <|
    some (.inl (v1, IntKind.wrap .i64 (v2 + (1 : Int)), List.set v3 v2.toNat v2))
  else
    some (.inr v3)
def libJoinedL3 (a0 : ApiGrid) (v5 : Int) (v7 : Int) (v8 : (List Int)) : Option ((Int × (List Int)) ⊕ (List Int)) :=
  if decide (v7 < ((a0.Arms.length : Nat) : Int)) then
    need (inRange v7 a0.Arms.length) <|
    need (inRange ((List.getD a0.Arms (v7).toNat (ApiArmZ)).A) v8.length) <|
    need (inRange ((List.getD a0.Arms (v7).toNat (ApiArmZ)).B) v8.length) <|
    need (inRange ((List.getD a0.Arms (v7).toNat (ApiArmZ)).A) v8.length) <|
    need (inRange ((List.getD a0.Arms (v7).toNat (ApiArmZ)).B) (List.set v8 ((List.getD a0.Arms (v7).toNat (ApiArmZ)).A).toNat (if (List.getD v8 ((List.getD a0.Arms (v7).toNat (ApiArmZ)).B).toNat (0 : Int)) < (List.getD v8 ((List.getD a0.Arms (v7).toNat (ApiArmZ)).A).toNat (0 : Int)) then (List.getD v8 ((List.getD a0.Arms (v7).toNat (ApiArmZ)).B).toNat (0 : Int)) else (List.getD v8 ((List.getD a0.Arms (v7).toNat (ApiArmZ)).A).toNat (0 : Int)))).length) <|
    some (.inl (IntKind.wrap .i64 (v7 + (1 : Int)), List.set (List.set v8 ((List.getD a0.Arms (v7).toNat (ApiArmZ)).A).toNat (if (List.getD v8 ((List.getD a0.Arms (v7).toNat (ApiArmZ)).B).toNat (0 : Int)) < (List.getD v8 ((List.getD a0.Arms (v7).toNat (ApiArmZ)).A).toNat (0 : Int)) then (List.getD v8 ((List.getD a0.Arms (v7).toNat (ApiArmZ)).B).toNat (0 : Int)) else (List.getD v8 ((List.getD a0.Arms (v7).toNat (ApiArmZ)).A).toNat (0 : Int)))) ((List.getD a0.Arms (v7).toNat (ApiArmZ)).B).toNat (if (List.getD v8 ((List.getD a0.Arms (v7).toNat (ApiArmZ)).B).toNat (0 : Int)) < (List.getD v8 ((List.getD a0.Arms (v7).toNat (ApiArmZ)).A).toNat (0 : Int)) then (List.getD v8 ((List.getD a0.Arms (v7).toNat (ApiArmZ)).B).toNat (0 : Int)) else (List.getD v8 ((List.getD a0.Arms (v7).toNat (ApiArmZ)).A).toNat (0 : Int)))))
  else
    some (.inr v8)
def libJoinedL2 (a0 : ApiGrid) (v5 : Int) (v6 : (List Int)) : Option ((Int × (List Int)) ⊕ (List Int)) :=
  if decide (v5 < a0.Nodes) then
    Option.bind (iter (fun v : (Int × (List Int)) => libJoinedL3 a0 v5 v.1 v.2) ((0 : Int), v6)) fun r2 =>
      some (.inl (IntKind.wrap .i64 (v5 + (1 : Int)), r2))
  else
    some (.inr v6)
def libJoined (a0 : ApiGrid) : Option (List Int) :=
  need (0 ≤ a0.Nodes) <|
  need (a0.Nodes ≤ a0.Nodes) <|
  need (a0.Nodes * ((8 : Nat) : Int) ≤ ((maxBytes : Nat) : Int)) <|
  Option.bind (iter (fun v : (Int × Int × (List Int)) => libJoinedL1 a0 v.1 v.2.1 v.2.2) ((((List.replicate (a0.Nodes).toNat (0 : Int)).length : Nat) : Int), (0 : Int), List.replicate (a0.Nodes).toNat (0 : Int))) fun r1 =>
    Option.bind (iter (fun v : (Int × (List Int)) => libJoinedL2 a0 v.1 v.2) ((0 : Int), r1)) fun r3 =>
      some r3
def numI (a0 : Int) : Option NumZ :=
  some (⟨a0, [], false⟩ : NumZ)
def numInt (a0 : Int) : Option NumQ :=
  Option.bind (numI a0) fun y1 =>
  Option.bind (numI (1 : Int)) fun y2 =>
  some (⟨y1, y2⟩ : NumQ)
def numZSignJ1 : Option Int :=
  some (-1 : Int)
def numZSignJ3 : Option Int :=
  some (1 : Int)
def numZSignJ2 (a0 : NumZ) : Option Int :=
  if List.isEmpty a0.m then
    if decide (a0.v = (0 : Int)) then
      some (0 : Int)
    else
      numZSignJ3
  else
    numZSignJ3
def numZSign (a0 : NumZ) : Option Int :=
  if !List.isEmpty a0.m then
    if a0.neg then
      numZSignJ1
    else
      if List.isEmpty a0.m then
        if decide (a0.v < (0 : Int)) then
          numZSignJ1
        else
          numZSignJ2 a0
      else
        numZSignJ2 a0
  else
    if List.isEmpty a0.m then
      if decide (a0.v < (0 : Int)) then
        numZSignJ1
      else
        numZSignJ2 a0
    else
      numZSignJ2 a0
def numZWordsJ1 (a0 : NumZ) (v1 : Int) : Option ((List Int) × Bool) :=
  if decide (v1 = (0 : Int)) then
    some ([], false)
  else
    need ((0 : Int) ≤ (32 : Int)) <|
    if decide ((Int.fdiv v1 (2 ^ (min (32 : Int).toNat (IntKind.bits .u64)))) = (0 : Int)) then
      some ([IntKind.wrap .u32 v1], decide (a0.v < (0 : Int)))
    else
      need ((0 : Int) ≤ (32 : Int)) <|
      some ([IntKind.wrap .u32 v1, IntKind.wrap .u32 (Int.fdiv v1 (2 ^ (min (32 : Int).toNat (IntKind.bits .u64))))], decide (a0.v < (0 : Int)))
def numZWords (a0 : NumZ) : Option ((List Int) × Bool) :=
  if !List.isEmpty a0.m then
    some (a0.m, a0.neg)
  else
    if decide (a0.v < (0 : Int)) then
      numZWordsJ1 a0 (IntKind.wrap .u64 (0 - (IntKind.wrap .u64 a0.v)))
    else
      numZWordsJ1 a0 (IntKind.wrap .u64 a0.v)
def numMadeL1 (a1 : Bool) (v1 : (List Int)) : Option ((List Int) ⊕ (List Int)) :=
  if decide ((0 : Int) < ((v1.length : Nat) : Int)) then
    need (inRange (IntKind.wrap .i64 (((v1.length : Nat) : Int) - (1 : Int))) v1.length) <|
    if decide ((List.getD v1 (IntKind.wrap .i64 (((v1.length : Nat) : Int) - (1 : Int))).toNat (0 : Int)) = (0 : Int)) then
      need ((0 : Int) ≤ (0 : Int)) <|
      need ((0 : Int) ≤ (IntKind.wrap .i64 (((v1.length : Nat) : Int) - (1 : Int)))) <|
      need ((IntKind.wrap .i64 (((v1.length : Nat) : Int) - (1 : Int))) ≤ ((v1.length : Nat) : Int)) <|
      some (.inl (List.take ((IntKind.wrap .i64 (((v1.length : Nat) : Int) - (1 : Int))).toNat - (0 : Int).toNat) (List.drop (0 : Int).toNat v1)))
    else
      some (.inr v1)
  else
    some (.inr v1)
def numMadeL2 (a1 : Bool) (r1 : (List Int)) (v3 : Int) (v4 : Int) : Option ((Int × Int) ⊕ Int) :=
  if decide ((0 : Int) ≤ v4) then
    need ((0 : Int) ≤ (32 : Int)) <|
    need (inRange v4 r1.length) <|
    some (.inl (IntKind.wrap .u64 ((((BitVec.ofInt (IntKind.bits .u64) (IntKind.wrap .u64 (v3 * 2 ^ (min (32 : Int).toNat (IntKind.bits .u64)))) ||| BitVec.ofInt (IntKind.bits .u64) (IntKind.wrap .u64 (List.getD r1 (v4).toNat (0 : Int)))).toNat : Nat) : Int)), IntKind.wrap .i64 (v4 - (1 : Int))))
  else
    some (.inr v3)
def numMadeJ1 (a1 : Bool) (r1 : (List Int)) : Option NumZ :=
  need (r1 ≠ []) <|
  some (⟨(0 : Int), r1, a1⟩ : NumZ)
def numMade (a0 : (List Int)) (a1 : Bool) : Option NumZ :=
  Option.bind (iter (fun v : (List Int) => numMadeL1 a1 v) a0) fun r1 =>
    if decide (((r1.length : Nat) : Int) ≤ (2 : Int)) then
      Option.bind (iter (fun v : (Int × Int) => numMadeL2 a1 r1 v.1 v.2) ((0 : Int), IntKind.wrap .i64 (((r1.length : Nat) : Int) - (1 : Int)))) fun r2 =>
        if decide (r2 < (9223372036854775808 : Int)) then
          if a1 then
            some (⟨IntKind.wrap .i64 (0 - (IntKind.wrap .i64 r2)), [], false⟩ : NumZ)
          else
            some (⟨IntKind.wrap .i64 r2, [], false⟩ : NumZ)
        else
          numMadeJ1 a1 r1
    else
      numMadeJ1 a1 r1
def numAddWordsJ2 (v1 : (List Int)) (v2 : (List Int)) (v4 : Int) (v5 : (List Int)) (v6 : Int) : Option ((Int × Int × (List Int)) ⊕ (Int × (List Int))) :=
  need ((v5.length + [IntKind.wrap .u32 v6].length) * 4 ≤ maxBytes) <|
  need ((0 : Int) ≤ (32 : Int)) <|
  some (.inl (Int.fdiv v6 (2 ^ (min (32 : Int).toNat (IntKind.bits .u64))), IntKind.wrap .i64 (v4 + (1 : Int)), v5 ++ [IntKind.wrap .u32 v6]))
def numAddWordsL1 (v1 : (List Int)) (v2 : (List Int)) (v3 : Int) (v4 : Int) (v5 : (List Int)) : Option ((Int × Int × (List Int)) ⊕ (Int × (List Int))) :=
  if decide (v4 < ((v1.length : Nat) : Int)) then
    need (inRange v4 v1.length) <|
    if decide (v4 < ((v2.length : Nat) : Int)) then
      need (inRange v4 v2.length) <|
      numAddWordsJ2 v1 v2 v4 v5 (IntKind.wrap .u64 ((IntKind.wrap .u64 ((IntKind.wrap .u64 (List.getD v1 (v4).toNat (0 : Int))) + v3)) + (IntKind.wrap .u64 (List.getD v2 (v4).toNat (0 : Int)))))
    else
      numAddWordsJ2 v1 v2 v4 v5 (IntKind.wrap .u64 ((IntKind.wrap .u64 (List.getD v1 (v4).toNat (0 : Int))) + v3))
  else
    some (.inr (v3, v5))
def numAddWordsJ1 (v1 : (List Int)) (v2 : (List Int)) : Option (List Int) :=
  need (0 ≤ (0 : Int)) <|
  need ((0 : Int) ≤ (IntKind.wrap .i64 (((v1.length : Nat) : Int) + (1 : Int)))) <|
  need ((IntKind.wrap .i64 (((v1.length : Nat) : Int) + (1 : Int))) * ((4 : Nat) : Int) ≤ ((maxBytes : Nat) : Int)) <|
  Option.bind (iter (fun v : (Int × Int × (List Int)) => numAddWordsL1 v1 v2 v.1 v.2.1 v.2.2) ((0 : Int), (0 : Int), [])) fun r1 =>
    need ((r1.2.length + [IntKind.wrap .u32 r1.1].length) * 4 ≤ maxBytes) <|
    some (r1.2 ++ [IntKind.wrap .u32 r1.1])
def numAddWords (a0 : (List Int)) (a1 : (List Int)) : Option (List Int) :=
  if decide (((a0.length : Nat) : Int) < ((a1.length : Nat) : Int)) then
    numAddWordsJ1 a1 a0
  else
    numAddWordsJ1 a0 a1
def numCmpWordsL1 (a0 : (List Int)) (a1 : (List Int)) (v1 : Int) : Option (Int ⊕ (Unit ⊕ Int)) :=
  if decide ((0 : Int) ≤ v1) then
    need (inRange v1 a0.length) <|
    need (inRange v1 a1.length) <|
    if !decide ((List.getD a0 (v1).toNat (0 : Int)) = (List.getD a1 (v1).toNat (0 : Int))) then
      need (inRange v1 a0.length) <|
      need (inRange v1 a1.length) <|
      if decide ((List.getD a0 (v1).toNat (0 : Int)) < (List.getD a1 (v1).toNat (0 : Int))) then
        some (.inr (.inr (-1 : Int)))
      else
        some (.inr (.inr (1 : Int)))
    else
      some (.inl (IntKind.wrap .i64 (v1 - (1 : Int))))
  else
    some (.inr (.inl ()))
def numCmpWords (a0 : (List Int)) (a1 : (List Int)) : Option Int :=
  if !decide (((a0.length : Nat) : Int) = ((a1.length : Nat) : Int)) then
    if decide (((a0.length : Nat) : Int) < ((a1.length : Nat) : Int)) then
      some (-1 : Int)
    else
      some (1 : Int)
  else
    Option.bind (iter (fun v : Int => numCmpWordsL1 a0 a1 v) (IntKind.wrap .i64 (((a0.length : Nat) : Int) - (1 : Int)))) fun r =>
    match r with
    | .inl r1 =>
      some (0 : Int)
    | .inr r2 =>
      some r2
def numSubWordsJ2 (a0 : (List Int)) (a1 : (List Int)) (v2 : Int) (v3 : (List Int)) (v5 : Int) (v6 : Int) : Option ((Int × Int × (List Int)) ⊕ (List Int)) :=
  need ((v3.length + [IntKind.wrap .u32 v6].length) * 4 ≤ maxBytes) <|
  some (.inl (v5, IntKind.wrap .i64 (v2 + (1 : Int)), v3 ++ [IntKind.wrap .u32 v6]))
def numSubWordsJ1 (a0 : (List Int)) (a1 : (List Int)) (v2 : Int) (v3 : (List Int)) (v4 : Int) : Option ((Int × Int × (List Int)) ⊕ (List Int)) :=
  if decide (v4 < (0 : Int)) then
    numSubWordsJ2 a0 a1 v2 v3 (1 : Int) (IntKind.wrap .i64 (v4 + (4294967296 : Int)))
  else
    numSubWordsJ2 a0 a1 v2 v3 (0 : Int) v4
def numSubWordsL1 (a0 : (List Int)) (a1 : (List Int)) (v1 : Int) (v2 : Int) (v3 : (List Int)) : Option ((Int × Int × (List Int)) ⊕ (List Int)) :=
  if decide (v2 < ((a0.length : Nat) : Int)) then
    need (inRange v2 a0.length) <|
    if decide (v2 < ((a1.length : Nat) : Int)) then
      need (inRange v2 a1.length) <|
      numSubWordsJ1 a0 a1 v2 v3 (IntKind.wrap .i64 ((IntKind.wrap .i64 ((IntKind.wrap .i64 (List.getD a0 (v2).toNat (0 : Int))) - v1)) - (IntKind.wrap .i64 (List.getD a1 (v2).toNat (0 : Int)))))
    else
      numSubWordsJ1 a0 a1 v2 v3 (IntKind.wrap .i64 ((IntKind.wrap .i64 (List.getD a0 (v2).toNat (0 : Int))) - v1))
  else
    some (.inr v3)
def numSubWords (a0 : (List Int)) (a1 : (List Int)) : Option (List Int) :=
  need (0 ≤ (0 : Int)) <|
  need ((0 : Int) ≤ ((a0.length : Nat) : Int)) <|
  need (((a0.length : Nat) : Int) * ((4 : Nat) : Int) ≤ ((maxBytes : Nat) : Int)) <|
  Option.bind (iter (fun v : (Int × Int × (List Int)) => numSubWordsL1 a0 a1 v.1 v.2.1 v.2.2) ((0 : Int), (0 : Int), [])) fun r1 =>
    some r1
def numZAddJ1 (a0 : NumZ) (a1 : NumZ) : Option NumZ :=
  Option.bind (numZWords a0) fun y1 =>
  Option.bind (numZWords a1) fun y2 =>
  if (y1.2 == y2.2) then
    Option.bind (numAddWords y1.1 y2.1) fun y3 =>
    Option.bind (numMade y3 y1.2) fun y4 =>
    some y4
  else
    Option.bind (numCmpWords y1.1 y2.1) fun y5 =>
    if decide ((0 : Int) ≤ y5) then
      Option.bind (numSubWords y1.1 y2.1) fun y6 =>
      Option.bind (numMade y6 y1.2) fun y7 =>
      some y7
    else
      Option.bind (numSubWords y2.1 y1.1) fun y8 =>
      Option.bind (numMade y8 y2.2) fun y9 =>
      some y9
def numZAdd (a0 : NumZ) (a1 : NumZ) : Option NumZ :=
  if List.isEmpty a0.m then
    if List.isEmpty a1.m then
      if ((decide (a0.v < (IntKind.wrap .i64 (a0.v + a1.v)))) == (decide ((0 : Int) < a1.v))) then
        some (⟨IntKind.wrap .i64 (a0.v + a1.v), [], false⟩ : NumZ)
      else
        numZAddJ1 a0 a1
    else
      numZAddJ1 a0 a1
  else
    numZAddJ1 a0 a1
def numZNegJ1 (a0 : NumZ) : Option NumZ :=
  Option.bind (numZWords a0) fun y1 =>
  Option.bind (numMade y1.1 (!y1.2)) fun y2 =>
  some y2
def numZNeg (a0 : NumZ) : Option NumZ :=
  if List.isEmpty a0.m then
    if !decide (a0.v = (-9223372036854775808 : Int)) then
      some (⟨IntKind.wrap .i64 (0 - a0.v), [], false⟩ : NumZ)
    else
      numZNegJ1 a0
  else
    numZNegJ1 a0
def numZSub (a0 : NumZ) (a1 : NumZ) : Option NumZ :=
  Option.bind (numZNeg a1) fun y1 =>
  Option.bind (numZAdd a0 y1) fun y2 =>
  some y2
def numZCmpJ1 (a0 : NumZ) (a1 : NumZ) : Option Int :=
  Option.bind (numZSub a0 a1) fun y1 =>
  Option.bind (numZSign y1) fun y2 =>
  some y2
def numZCmp (a0 : NumZ) (a1 : NumZ) : Option Int :=
  if List.isEmpty a0.m then
    if List.isEmpty a1.m then
      if decide (a0.v < a1.v) then
        some (-1 : Int)
      else
        if decide (a1.v < a0.v) then
          some (1 : Int)
        else
          some (0 : Int)
    else
      numZCmpJ1 a0 a1
  else
    numZCmpJ1 a0 a1
def numQIsInt (a0 : NumQ) : Option Bool :=
  Option.bind (numI (1 : Int)) fun y1 =>
  Option.bind (numZCmp a0.D y1) fun y2 =>
  some (decide (y2 = (0 : Int)))
def bitsLen32J2 (v3 : Int) (v4 : Int) : Option Int :=
  need (inRange (IntKind.wrap .u8 v3) ([0, 1, 2, 2, 3, 3, 3, 3, 4, 4, 4, 4, 4, 4, 4, 4, 5, 5, 5, 5, 5, 5, 5, 5, 5, 5, 5, 5, 5, 5, 5, 5, 6, 6, 6, 6, 6, 6, 6, 6, 6, 6, 6, 6, 6, 6, 6, 6, 6, 6, 6, 6, 6, 6, 6, 6, 6, 6, 6, 6, 6, 6, 6, 6, 7, 7, 7, 7, 7, 7, 7, 7, 7, 7, 7, 7, 7, 7, 7, 7, 7, 7, 7, 7, 7, 7, 7, 7, 7, 7, 7, 7, 7, 7, 7, 7, 7, 7, 7, 7, 7, 7, 7, 7, 7, 7, 7, 7, 7, 7, 7, 7, 7, 7, 7, 7, 7, 7, 7, 7, 7, 7, 7, 7, 7, 7, 7, 7, 8, 8, 8, 8, 8, 8, 8, 8, 8, 8, 8, 8, 8, 8, 8, 8, 8, 8, 8, 8, 8, 8, 8, 8, 8, 8, 8, 8, 8, 8, 8, 8, 8, 8, 8, 8, 8, 8, 8, 8, 8, 8, 8, 8, 8, 8, 8, 8, 8, 8, 8, 8, 8, 8, 8, 8, 8, 8, 8, 8, 8, 8, 8, 8, 8, 8, 8, 8, 8, 8, 8, 8, 8, 8, 8, 8, 8, 8, 8, 8, 8, 8, 8, 8, 8, 8, 8, 8, 8, 8, 8, 8, 8, 8, 8, 8, 8, 8, 8, 8, 8, 8, 8, 8, 8, 8, 8, 8, 8, 8, 8, 8, 8, 8, 8, 8, 8, 8, 8, 8, 8, 8, 8, 8, 8, 8, 8, 8] : List UInt8).length) <|
  some (IntKind.wrap .i64 (v4 + (IntKind.wrap .i64 ((List.getD ([0, 1, 2, 2, 3, 3, 3, 3, 4, 4, 4, 4, 4, 4, 4, 4, 5, 5, 5, 5, 5, 5, 5, 5, 5, 5, 5, 5, 5, 5, 5, 5, 6, 6, 6, 6, 6, 6, 6, 6, 6, 6, 6, 6, 6, 6, 6, 6, 6, 6, 6, 6, 6, 6, 6, 6, 6, 6, 6, 6, 6, 6, 6, 6, 7, 7, 7, 7, 7, 7, 7, 7, 7, 7, 7, 7, 7, 7, 7, 7, 7, 7, 7, 7, 7, 7, 7, 7, 7, 7, 7, 7, 7, 7, 7, 7, 7, 7, 7, 7, 7, 7, 7, 7, 7, 7, 7, 7, 7, 7, 7, 7, 7, 7, 7, 7, 7, 7, 7, 7, 7, 7, 7, 7, 7, 7, 7, 7, 8, 8, 8, 8, 8, 8, 8, 8, 8, 8, 8, 8, 8, 8, 8, 8, 8, 8, 8, 8, 8, 8, 8, 8, 8, 8, 8, 8, 8, 8, 8, 8, 8, 8, 8, 8, 8, 8, 8, 8, 8, 8, 8, 8, 8, 8, 8, 8, 8, 8, 8, 8, 8, 8, 8, 8, 8, 8, 8, 8, 8, 8, 8, 8, 8, 8, 8, 8, 8, 8, 8, 8, 8, 8, 8, 8, 8, 8, 8, 8, 8, 8, 8, 8, 8, 8, 8, 8, 8, 8, 8, 8, 8, 8, 8, 8, 8, 8, 8, 8, 8, 8, 8, 8, 8, 8, 8, 8, 8, 8, 8, 8, 8, 8, 8, 8, 8, 8, 8, 8, 8, 8, 8, 8, 8, 8, 8, 8] : List UInt8) (IntKind.wrap .u8 v3).toNat 0).toNat : Int))))
def bitsLen32J1 (v1 : Int) (v2 : Int) : Option Int :=
  if decide ((256 : Int) ≤ v1) then
    need ((0 : Int) ≤ (8 : Int)) <|
    bitsLen32J2 (Int.fdiv v1 (2 ^ (min (8 : Int).toNat (IntKind.bits .u32)))) (IntKind.wrap .i64 (v2 + (8 : Int)))
  else
    bitsLen32J2 v1 v2
def bitsLen32 (a0 : Int) : Option Int :=
  if decide ((65536 : Int) ≤ a0) then
    need ((0 : Int) ≤ (16 : Int)) <|
    bitsLen32J1 (Int.fdiv a0 (2 ^ (min (16 : Int).toNat (IntKind.bits .u32)))) (16 : Int)
  else
    bitsLen32J1 a0 (0 : Int)
def bitsLeadingZeros32 (a0 : Int) : Option Int :=
  Option.bind (bitsLen32 a0) fun y1 =>
  some (IntKind.wrap .i64 ((32 : Int) - y1))
def numQuoWordsL1 (a0 : (List Int)) (a1 : (List Int)) (v1 : Int) (v2 : Int) (v3 : (List Int)) : Option ((Int × Int × (List Int)) ⊕ (Int × (List Int))) :=
  if decide ((0 : Int) ≤ v2) then
    need ((0 : Int) ≤ (32 : Int)) <|
    need (inRange v2 a0.length) <|
    need (inRange (0 : Int) a1.length) <|
    need ((IntKind.wrap .u64 (List.getD a1 ((0 : Int)).toNat (0 : Int))) ≠ 0) <|
    need (inRange v2 v3.length) <|
    need (inRange (0 : Int) a1.length) <|
    need ((IntKind.wrap .u64 (List.getD a1 ((0 : Int)).toNat (0 : Int))) ≠ 0) <|
    some (.inl (Int.tmod (IntKind.wrap .u64 ((((BitVec.ofInt (IntKind.bits .u64) (IntKind.wrap .u64 (v1 * 2 ^ (min (32 : Int).toNat (IntKind.bits .u64)))) ||| BitVec.ofInt (IntKind.bits .u64) (IntKind.wrap .u64 (List.getD a0 (v2).toNat (0 : Int)))).toNat : Nat) : Int))) (IntKind.wrap .u64 (List.getD a1 ((0 : Int)).toNat (0 : Int))), IntKind.wrap .i64 (v2 - (1 : Int)), List.set v3 v2.toNat (IntKind.wrap .u32 (IntKind.wrap .u64 (Int.tdiv (IntKind.wrap .u64 ((((BitVec.ofInt (IntKind.bits .u64) (IntKind.wrap .u64 (v1 * 2 ^ (min (32 : Int).toNat (IntKind.bits .u64)))) ||| BitVec.ofInt (IntKind.bits .u64) (IntKind.wrap .u64 (List.getD a0 (v2).toNat (0 : Int)))).toNat : Nat) : Int))) (IntKind.wrap .u64 (List.getD a1 ((0 : Int)).toNat (0 : Int))))))))
  else
    some (.inr (v1, v3))
def numQuoWordsJ1 (a0 : (List Int)) (a1 : (List Int)) (v6 : Int) (v7 : (List Int)) (v9 : (List Int)) (y2 : Int) : Option ((Int × (List Int) × (List Int)) ⊕ ((List Int) × (List Int))) :=
  some (.inl (IntKind.wrap .i64 (v6 + (1 : Int)), v7, v9))
def numQuoWordsL2 (a0 : (List Int)) (a1 : (List Int)) (y2 : Int) (v6 : Int) (v7 : (List Int)) (v8 : (List Int)) : Option ((Int × (List Int) × (List Int)) ⊕ ((List Int) × (List Int))) :=
  if decide (v6 < ((a1.length : Nat) : Int)) then
    need (inRange v6 a1.length) <|
    need ((0 : Int) ≤ (IntKind.wrap .u64 y2)) <|
    need (inRange v6 v8.length) <|
    if decide ((0 : Int) < v6) then
      if decide ((0 : Int) < (IntKind.wrap .u64 y2)) then
        need (inRange v6 (List.set v8 v6.toNat (IntKind.wrap .u32 ((List.getD a1 (v6).toNat (0 : Int)) * 2 ^ (min (IntKind.wrap .u64 y2).toNat (IntKind.bits .u32))))).length) <|
        need (inRange (IntKind.wrap .i64 (v6 - (1 : Int))) a1.length) <|
        need ((0 : Int) ≤ (IntKind.wrap .u64 ((32 : Int) - (IntKind.wrap .u64 y2)))) <|
        need (inRange v6 (List.set v8 v6.toNat (IntKind.wrap .u32 ((List.getD a1 (v6).toNat (0 : Int)) * 2 ^ (min (IntKind.wrap .u64 y2).toNat (IntKind.bits .u32))))).length) <|
        numQuoWordsJ1 a0 a1 v6 v7 (List.set (List.set v8 v6.toNat (IntKind.wrap .u32 ((List.getD a1 (v6).toNat (0 : Int)) * 2 ^ (min (IntKind.wrap .u64 y2).toNat (IntKind.bits .u32))))) v6.toNat (IntKind.wrap .u32 ((((BitVec.ofInt (IntKind.bits .u32) (List.getD (List.set v8 v6.toNat (IntKind.wrap .u32 ((List.getD a1 (v6).toNat (0 : Int)) * 2 ^ (min (IntKind.wrap .u64 y2).toNat (IntKind.bits .u32))))) v6.toNat (0 : Int)) ||| BitVec.ofInt (IntKind.bits .u32) (Int.fdiv (List.getD a1 (IntKind.wrap .i64 (v6 - (1 : Int))).toNat (0 : Int)) (2 ^ (min (IntKind.wrap .u64 ((32 : Int) - (IntKind.wrap .u64 y2))).toNat (IntKind.bits .u32))))).toNat : Nat) : Int)))) y2
      else
        numQuoWordsJ1 a0 a1 v6 v7 (List.set v8 v6.toNat (IntKind.wrap .u32 ((List.getD a1 (v6).toNat (0 : Int)) * 2 ^ (min (IntKind.wrap .u64 y2).toNat (IntKind.bits .u32))))) y2
    else
      numQuoWordsJ1 a0 a1 v6 v7 (List.set v8 v6.toNat (IntKind.wrap .u32 ((List.getD a1 (v6).toNat (0 : Int)) * 2 ^ (min (IntKind.wrap .u64 y2).toNat (IntKind.bits .u32))))) y2
  else
    some (.inr (v7, v8))
def numQuoWordsJ3 (a0 : (List Int)) (v12 : Int) (v15 : (List Int)) (r2 : ((List Int) × (List Int))) (y2 : Int) : Option ((Int × (List Int)) ⊕ (List Int)) :=
  some (.inl (IntKind.wrap .i64 (v12 + (1 : Int)), v15))
def numQuoWordsJ2 (a0 : (List Int)) (v12 : Int) (v14 : (List Int)) (r2 : ((List Int) × (List Int))) (y2 : Int) : Option ((Int × (List Int)) ⊕ (List Int)) :=
  if decide ((0 : Int) < v12) then
    if decide ((0 : Int) < (IntKind.wrap .u64 y2)) then
      need (inRange v12 v14.length) <|
      need (inRange (IntKind.wrap .i64 (v12 - (1 : Int))) a0.length) <|
      need ((0 : Int) ≤ (IntKind.wrap .u64 ((32 : Int) - (IntKind.wrap .u64 y2)))) <|
      need (inRange v12 v14.length) <|
      numQuoWordsJ3 a0 v12 (List.set v14 v12.toNat (IntKind.wrap .u32 ((((BitVec.ofInt (IntKind.bits .u32) (List.getD v14 v12.toNat (0 : Int)) ||| BitVec.ofInt (IntKind.bits .u32) (Int.fdiv (List.getD a0 (IntKind.wrap .i64 (v12 - (1 : Int))).toNat (0 : Int)) (2 ^ (min (IntKind.wrap .u64 ((32 : Int) - (IntKind.wrap .u64 y2))).toNat (IntKind.bits .u32))))).toNat : Nat) : Int)))) r2 y2
    else
      numQuoWordsJ3 a0 v12 v14 r2 y2
  else
    numQuoWordsJ3 a0 v12 v14 r2 y2
def numQuoWordsL3 (a0 : (List Int)) (r2 : ((List Int) × (List Int))) (y2 : Int) (v12 : Int) (v13 : (List Int)) : Option ((Int × (List Int)) ⊕ (List Int)) :=
  if decide (v12 < ((r2.1.length : Nat) : Int)) then
    if decide (v12 < ((a0.length : Nat) : Int)) then
      need (inRange v12 a0.length) <|
      need ((0 : Int) ≤ (IntKind.wrap .u64 y2)) <|
      need (inRange v12 v13.length) <|
      numQuoWordsJ2 a0 v12 (List.set v13 v12.toNat (IntKind.wrap .u32 ((List.getD a0 (v12).toNat (0 : Int)) * 2 ^ (min (IntKind.wrap .u64 y2).toNat (IntKind.bits .u32))))) r2 y2
    else
      numQuoWordsJ2 a0 v12 v13 r2 y2
  else
    some (.inr v13)
def numQuoWordsJ4 (v17 : Int) (v18 : (List Int)) (v19 : (List Int)) (v20 : Int) (v21 : Int) (r2 : ((List Int) × (List Int))) (y2 : Int) : Option ((Int × Int) ⊕ Int) :=
  need (inRange (IntKind.wrap .i64 (((r2.2.length : Nat) : Int) - (1 : Int))) r2.2.length) <|
  if decide ((4294967296 : Int) ≤ (IntKind.wrap .u64 (v21 + (IntKind.wrap .u64 (List.getD r2.2 (IntKind.wrap .i64 (((r2.2.length : Nat) : Int) - (1 : Int))).toNat (0 : Int)))))) then
    some (.inr (IntKind.wrap .u64 (v20 - (1 : Int))))
  else
    some (.inl (IntKind.wrap .u64 (v20 - (1 : Int)), IntKind.wrap .u64 (v21 + (IntKind.wrap .u64 (List.getD r2.2 (IntKind.wrap .i64 (((r2.2.length : Nat) : Int) - (1 : Int))).toNat (0 : Int))))))
def numQuoWordsL5 (v17 : Int) (v18 : (List Int)) (v19 : (List Int)) (r2 : ((List Int) × (List Int))) (y2 : Int) (v20 : Int) (v21 : Int) : Option ((Int × Int) ⊕ Int) :=
  if decide ((4294967296 : Int) ≤ v20) then
    numQuoWordsJ4 v17 v18 v19 v20 v21 r2 y2
  else
    need (inRange (IntKind.wrap .i64 (((r2.2.length : Nat) : Int) - (2 : Int))) r2.2.length) <|
    need ((0 : Int) ≤ (32 : Int)) <|
    need (inRange (IntKind.wrap .i64 ((IntKind.wrap .i64 (v17 + ((r2.2.length : Nat) : Int))) - (2 : Int))) v18.length) <|
    if decide ((IntKind.wrap .u64 ((((BitVec.ofInt (IntKind.bits .u64) (IntKind.wrap .u64 (v21 * 2 ^ (min (32 : Int).toNat (IntKind.bits .u64)))) ||| BitVec.ofInt (IntKind.bits .u64) (IntKind.wrap .u64 (List.getD v18 (IntKind.wrap .i64 ((IntKind.wrap .i64 (v17 + ((r2.2.length : Nat) : Int))) - (2 : Int))).toNat (0 : Int)))).toNat : Nat) : Int))) < (IntKind.wrap .u64 (v20 * (IntKind.wrap .u64 (List.getD r2.2 (IntKind.wrap .i64 (((r2.2.length : Nat) : Int) - (2 : Int))).toNat (0 : Int)))))) then
      numQuoWordsJ4 v17 v18 v19 v20 v21 r2 y2
    else
      some (.inr v20)
def numQuoWordsJ5 (v17 : Int) (v19 : (List Int)) (v25 : Int) (v27 : Int) (v28 : Int) (v29 : (List Int)) (r2 : ((List Int) × (List Int))) (r4 : Int) (y2 : Int) : Option ((Int × Int × Int × (List Int)) ⊕ (Int × Int × (List Int))) :=
  some (.inl (v27, v28, IntKind.wrap .i64 (v25 + (1 : Int)), v29))
def numQuoWordsL6 (v17 : Int) (v19 : (List Int)) (r2 : ((List Int) × (List Int))) (r4 : Int) (y2 : Int) (v23 : Int) (v24 : Int) (v25 : Int) (v26 : (List Int)) : Option ((Int × Int × Int × (List Int)) ⊕ (Int × Int × (List Int))) :=
  if decide (v25 < ((r2.2.length : Nat) : Int)) then
    need (inRange v25 r2.2.length) <|
    need ((0 : Int) ≤ (32 : Int)) <|
    need (inRange (IntKind.wrap .i64 (v25 + v17)) v26.length) <|
    need (inRange (IntKind.wrap .i64 (v25 + v17)) v26.length) <|
    if decide ((IntKind.wrap .i64 ((IntKind.wrap .i64 ((IntKind.wrap .i64 (List.getD v26 (IntKind.wrap .i64 (v25 + v17)).toNat (0 : Int))) - v23)) - (IntKind.wrap .i64 (IntKind.wrap .u32 (IntKind.wrap .u64 ((IntKind.wrap .u64 (r4 * (IntKind.wrap .u64 (List.getD r2.2 v25.toNat (0 : Int))))) + v24)))))) < (0 : Int)) then
      numQuoWordsJ5 v17 v19 v25 (1 : Int) (Int.fdiv (IntKind.wrap .u64 ((IntKind.wrap .u64 (r4 * (IntKind.wrap .u64 (List.getD r2.2 v25.toNat (0 : Int))))) + v24)) (2 ^ (min (32 : Int).toNat (IntKind.bits .u64)))) (List.set v26 (IntKind.wrap .i64 (v25 + v17)).toNat (IntKind.wrap .u32 (IntKind.wrap .i64 ((IntKind.wrap .i64 ((IntKind.wrap .i64 (List.getD v26 (IntKind.wrap .i64 (v25 + v17)).toNat (0 : Int))) - v23)) - (IntKind.wrap .i64 (IntKind.wrap .u32 (IntKind.wrap .u64 ((IntKind.wrap .u64 (r4 * (IntKind.wrap .u64 (List.getD r2.2 v25.toNat (0 : Int))))) + v24)))))))) r2 r4 y2
    else
      numQuoWordsJ5 v17 v19 v25 (0 : Int) (Int.fdiv (IntKind.wrap .u64 ((IntKind.wrap .u64 (r4 * (IntKind.wrap .u64 (List.getD r2.2 v25.toNat (0 : Int))))) + v24)) (2 ^ (min (32 : Int).toNat (IntKind.bits .u64)))) (List.set v26 (IntKind.wrap .i64 (v25 + v17)).toNat (IntKind.wrap .u32 (IntKind.wrap .i64 ((IntKind.wrap .i64 ((IntKind.wrap .i64 (List.getD v26 (IntKind.wrap .i64 (v25 + v17)).toNat (0 : Int))) - v23)) - (IntKind.wrap .i64 (IntKind.wrap .u32 (IntKind.wrap .u64 ((IntKind.wrap .u64 (r4 * (IntKind.wrap .u64 (List.getD r2.2 v25.toNat (0 : Int))))) + v24)))))))) r2 r4 y2
  else
    some (.inr (v23, v24, v26))
def numQuoWordsL7 (v17 : Int) (v19 : (List Int)) (r2 : ((List Int) × (List Int))) (r4 : Int) (y2 : Int) (v33 : Int) (v34 : Int) (v35 : (List Int)) : Option ((Int × Int × (List Int)) ⊕ (Int × (List Int))) :=
  if decide (v34 < ((r2.2.length : Nat) : Int)) then
    need (inRange (IntKind.wrap .i64 (v34 + v17)) v35.length) <|
    need (inRange v34 r2.2.length) <|
    need (inRange (IntKind.wrap .i64 (v34 + v17)) v35.length) <|
    need ((0 : Int) ≤ (32 : Int)) <|
    some (.inl (Int.fdiv (IntKind.wrap .u64 ((IntKind.wrap .u64 ((IntKind.wrap .u64 (List.getD v35 (IntKind.wrap .i64 (v34 + v17)).toNat (0 : Int))) + (IntKind.wrap .u64 (List.getD r2.2 v34.toNat (0 : Int))))) + v33)) (2 ^ (min (32 : Int).toNat (IntKind.bits .u64))), IntKind.wrap .i64 (v34 + (1 : Int)), List.set v35 (IntKind.wrap .i64 (v34 + v17)).toNat (IntKind.wrap .u32 (IntKind.wrap .u64 ((IntKind.wrap .u64 ((IntKind.wrap .u64 (List.getD v35 (IntKind.wrap .i64 (v34 + v17)).toNat (0 : Int))) + (IntKind.wrap .u64 (List.getD r2.2 v34.toNat (0 : Int))))) + v33)))))
  else
    some (.inr (v33, v35))
def numQuoWordsJ6 (v17 : Int) (v19 : (List Int)) (v38 : Int) (v39 : (List Int)) (r2 : ((List Int) × (List Int))) (y2 : Int) : Option ((Int × (List Int) × (List Int)) ⊕ ((List Int) × (List Int))) :=
  need (inRange v17 v19.length) <|
  some (.inl (IntKind.wrap .i64 (v17 - (1 : Int)), v39, List.set v19 v17.toNat (IntKind.wrap .u32 v38)))
def numQuoWordsL4 (r2 : ((List Int) × (List Int))) (y2 : Int) (v17 : Int) (v18 : (List Int)) (v19 : (List Int)) : Option ((Int × (List Int) × (List Int)) ⊕ ((List Int) × (List Int))) :=
  if decide ((0 : Int) ≤ v17) then
    need (inRange (IntKind.wrap .i64 (v17 + ((r2.2.length : Nat) : Int))) v18.length) <|
    need ((0 : Int) ≤ (32 : Int)) <|
    need (inRange (IntKind.wrap .i64 ((IntKind.wrap .i64 (v17 + ((r2.2.length : Nat) : Int))) - (1 : Int))) v18.length) <|
    need (inRange (IntKind.wrap .i64 (((r2.2.length : Nat) : Int) - (1 : Int))) r2.2.length) <|
    need ((IntKind.wrap .u64 (List.getD r2.2 (IntKind.wrap .i64 (((r2.2.length : Nat) : Int) - (1 : Int))).toNat (0 : Int))) ≠ 0) <|
    need (inRange (IntKind.wrap .i64 (((r2.2.length : Nat) : Int) - (1 : Int))) r2.2.length) <|
    need ((IntKind.wrap .u64 (List.getD r2.2 (IntKind.wrap .i64 (((r2.2.length : Nat) : Int) - (1 : Int))).toNat (0 : Int))) ≠ 0) <|
    Option.bind (iter (fun v : (Int × Int) => numQuoWordsL5 v17 v18 v19 r2 y2 v.1 v.2) (IntKind.wrap .u64 (Int.tdiv (IntKind.wrap .u64 ((((BitVec.ofInt (IntKind.bits .u64) (IntKind.wrap .u64 ((IntKind.wrap .u64 (List.getD v18 (IntKind.wrap .i64 (v17 + ((r2.2.length : Nat) : Int))).toNat (0 : Int))) * 2 ^ (min (32 : Int).toNat (IntKind.bits .u64)))) ||| BitVec.ofInt (IntKind.bits .u64) (IntKind.wrap .u64 (List.getD v18 (IntKind.wrap .i64 ((IntKind.wrap .i64 (v17 + ((r2.2.length : Nat) : Int))) - (1 : Int))).toNat (0 : Int)))).toNat : Nat) : Int))) (IntKind.wrap .u64 (List.getD r2.2 (IntKind.wrap .i64 (((r2.2.length : Nat) : Int) - (1 : Int))).toNat (0 : Int)))), Int.tmod (IntKind.wrap .u64 ((((BitVec.ofInt (IntKind.bits .u64) (IntKind.wrap .u64 ((IntKind.wrap .u64 (List.getD v18 (IntKind.wrap .i64 (v17 + ((r2.2.length : Nat) : Int))).toNat (0 : Int))) * 2 ^ (min (32 : Int).toNat (IntKind.bits .u64)))) ||| BitVec.ofInt (IntKind.bits .u64) (IntKind.wrap .u64 (List.getD v18 (IntKind.wrap .i64 ((IntKind.wrap .i64 (v17 + ((r2.2.length : Nat) : Int))) - (1 : Int))).toNat (0 : Int)))).toNat : Nat) : Int))) (IntKind.wrap .u64 (List.getD r2.2 (IntKind.wrap .i64 (((r2.2.length : Nat) : Int) - (1 : Int))).toNat (0 : Int))))) fun r4 =>
      Option.bind (iter (fun v : (Int × Int × Int × (List Int)) => numQuoWordsL6 v17 v19 r2 r4 y2 v.1 v.2.1 v.2.2.1 v.2.2.2) ((0 : Int), (0 : Int), (0 : Int), v18)) fun r5 =>
        need (inRange (IntKind.wrap .i64 (v17 + ((r2.2.length : Nat) : Int))) r5.2.2.length) <|
        need (inRange (IntKind.wrap .i64 (v17 + ((r2.2.length : Nat) : Int))) r5.2.2.length) <|
        if decide ((IntKind.wrap .i64 ((IntKind.wrap .i64 ((IntKind.wrap .i64 (List.getD r5.2.2 (IntKind.wrap .i64 (v17 + ((r2.2.length : Nat) : Int))).toNat (0 : Int))) - r5.1)) - (IntKind.wrap .i64 r5.2.1))) < (0 : Int)) then
          Option.bind (iter (fun v : (Int × Int × (List Int)) => numQuoWordsL7 v17 v19 r2 r4 y2 v.1 v.2.1 v.2.2) ((0 : Int), (0 : Int), List.set r5.2.2 (IntKind.wrap .i64 (v17 + ((r2.2.length : Nat) : Int))).toNat (IntKind.wrap .u32 (IntKind.wrap .i64 ((IntKind.wrap .i64 ((IntKind.wrap .i64 (List.getD r5.2.2 (IntKind.wrap .i64 (v17 + ((r2.2.length : Nat) : Int))).toNat (0 : Int))) - r5.1)) - (IntKind.wrap .i64 r5.2.1)))))) fun r6 =>
            need (inRange (IntKind.wrap .i64 (v17 + ((r2.2.length : Nat) : Int))) r6.2.length) <|
            need (inRange (IntKind.wrap .i64 (v17 + ((r2.2.length : Nat) : Int))) r6.2.length) <|
            numQuoWordsJ6 v17 v19 (IntKind.wrap .u64 (r4 - (1 : Int))) (List.set r6.2 (IntKind.wrap .i64 (v17 + ((r2.2.length : Nat) : Int))).toNat (IntKind.wrap .u32 ((List.getD r6.2 (IntKind.wrap .i64 (v17 + ((r2.2.length : Nat) : Int))).toNat (0 : Int)) + (IntKind.wrap .u32 r6.1)))) r2 y2
        else
          numQuoWordsJ6 v17 v19 r4 (List.set r5.2.2 (IntKind.wrap .i64 (v17 + ((r2.2.length : Nat) : Int))).toNat (IntKind.wrap .u32 (IntKind.wrap .i64 ((IntKind.wrap .i64 ((IntKind.wrap .i64 (List.getD r5.2.2 (IntKind.wrap .i64 (v17 + ((r2.2.length : Nat) : Int))).toNat (0 : Int))) - r5.1)) - (IntKind.wrap .i64 r5.2.1))))) r2 y2
  else
    some (.inr (v18, v19))
def numQuoWordsJ7 (v42 : Int) (v44 : (List Int)) (r2 : ((List Int) × (List Int))) (r7 : ((List Int) × (List Int))) (y2 : Int) : Option ((Int × (List Int)) ⊕ (List Int)) :=
  some (.inl (IntKind.wrap .i64 (v42 + (1 : Int)), v44))
def numQuoWordsL8 (r2 : ((List Int) × (List Int))) (r7 : ((List Int) × (List Int))) (y2 : Int) (v42 : Int) (v43 : (List Int)) : Option ((Int × (List Int)) ⊕ (List Int)) :=
  if decide (v42 < ((r2.2.length : Nat) : Int)) then
    need (inRange v42 r7.1.length) <|
    need ((0 : Int) ≤ (IntKind.wrap .u64 y2)) <|
    need (inRange v42 v43.length) <|
    if decide ((0 : Int) < (IntKind.wrap .u64 y2)) then
      need (inRange v42 (List.set v43 v42.toNat (Int.fdiv (List.getD r7.1 v42.toNat (0 : Int)) (2 ^ (min (IntKind.wrap .u64 y2).toNat (IntKind.bits .u32))))).length) <|
      need (inRange (IntKind.wrap .i64 (v42 + (1 : Int))) r7.1.length) <|
      need ((0 : Int) ≤ (IntKind.wrap .u64 ((32 : Int) - (IntKind.wrap .u64 y2)))) <|
      need (inRange v42 (List.set v43 v42.toNat (Int.fdiv (List.getD r7.1 v42.toNat (0 : Int)) (2 ^ (min (IntKind.wrap .u64 y2).toNat (IntKind.bits .u32))))).length) <|
      numQuoWordsJ7 v42 (List.set (List.set v43 v42.toNat (Int.fdiv (List.getD r7.1 v42.toNat (0 : Int)) (2 ^ (min (IntKind.wrap .u64 y2).toNat (IntKind.bits .u32))))) v42.toNat (IntKind.wrap .u32 ((((BitVec.ofInt (IntKind.bits .u32) (List.getD (List.set v43 v42.toNat (Int.fdiv (List.getD r7.1 v42.toNat (0 : Int)) (2 ^ (min (IntKind.wrap .u64 y2).toNat (IntKind.bits .u32))))) v42.toNat (0 : Int)) ||| BitVec.ofInt (IntKind.bits .u32) (IntKind.wrap .u32 ((List.getD r7.1 (IntKind.wrap .i64 (v42 + (1 : Int))).toNat (0 : Int)) * 2 ^ (min (IntKind.wrap .u64 ((32 : Int) - (IntKind.wrap .u64 y2))).toNat (IntKind.bits .u32))))).toNat : Nat) : Int)))) r2 r7 y2
    else
      numQuoWordsJ7 v42 (List.set v43 v42.toNat (Int.fdiv (List.getD r7.1 v42.toNat (0 : Int)) (2 ^ (min (IntKind.wrap .u64 y2).toNat (IntKind.bits .u32))))) r2 r7 y2
  else
    some (.inr v43)
def numQuoWords (a0 : (List Int)) (a1 : (List Int)) : Option ((List Int) × (List Int)) :=
  Option.bind (numCmpWords a0 a1) fun y1 =>
  if decide (y1 < (0 : Int)) then
    need (a0.length * 4 ≤ maxBytes) <|
    some ([], a0)
  else
    if decide (((a1.length : Nat) : Int) = (1 : Int)) then
      need (0 ≤ ((a0.length : Nat) : Int)) <|
      need (((a0.length : Nat) : Int) ≤ ((a0.length : Nat) : Int)) <|
      need (((a0.length : Nat) : Int) * ((4 : Nat) : Int) ≤ ((maxBytes : Nat) : Int)) <|
      Option.bind (iter (fun v : (Int × Int × (List Int)) => numQuoWordsL1 a0 a1 v.1 v.2.1 v.2.2) ((0 : Int), IntKind.wrap .i64 (((a0.length : Nat) : Int) - (1 : Int)), List.replicate (((a0.length : Nat) : Int)).toNat (0 : Int))) fun r1 =>
        some (r1.2, [IntKind.wrap .u32 r1.1])
    else
      need (inRange (IntKind.wrap .i64 (((a1.length : Nat) : Int) - (1 : Int))) a1.length) <|
      Option.bind (bitsLeadingZeros32 (List.getD a1 (IntKind.wrap .i64 (((a1.length : Nat) : Int) - (1 : Int))).toNat (0 : Int))) fun y2 =>
      need (0 ≤ (IntKind.wrap .i64 (((a0.length : Nat) : Int) + (1 : Int)))) <|
      need ((IntKind.wrap .i64 (((a0.length : Nat) : Int) + (1 : Int))) ≤ (IntKind.wrap .i64 (((a0.length : Nat) : Int) + (1 : Int)))) <|
      need ((IntKind.wrap .i64 (((a0.length : Nat) : Int) + (1 : Int))) * ((4 : Nat) : Int) ≤ ((maxBytes : Nat) : Int)) <|
      need (0 ≤ ((a1.length : Nat) : Int)) <|
      need (((a1.length : Nat) : Int) ≤ ((a1.length : Nat) : Int)) <|
      need (((a1.length : Nat) : Int) * ((4 : Nat) : Int) ≤ ((maxBytes : Nat) : Int)) <|
      Option.bind (iter (fun v : (Int × (List Int) × (List Int)) => numQuoWordsL2 a0 a1 y2 v.1 v.2.1 v.2.2) ((0 : Int), List.replicate (IntKind.wrap .i64 (((a0.length : Nat) : Int) + (1 : Int))).toNat (0 : Int), List.replicate (((a1.length : Nat) : Int)).toNat (0 : Int))) fun r2 =>
        Option.bind (iter (fun v : (Int × (List Int)) => numQuoWordsL3 a0 r2 y2 v.1 v.2) ((0 : Int), r2.1)) fun r3 =>
          need (0 ≤ (IntKind.wrap .i64 ((IntKind.wrap .i64 (((a0.length : Nat) : Int) - ((r2.2.length : Nat) : Int))) + (1 : Int)))) <|
          need ((IntKind.wrap .i64 ((IntKind.wrap .i64 (((a0.length : Nat) : Int) - ((r2.2.length : Nat) : Int))) + (1 : Int))) ≤ (IntKind.wrap .i64 ((IntKind.wrap .i64 (((a0.length : Nat) : Int) - ((r2.2.length : Nat) : Int))) + (1 : Int)))) <|
          need ((IntKind.wrap .i64 ((IntKind.wrap .i64 (((a0.length : Nat) : Int) - ((r2.2.length : Nat) : Int))) + (1 : Int))) * ((4 : Nat) : Int) ≤ ((maxBytes : Nat) : Int)) <|
          Option.bind (iter (fun v : (Int × (List Int) × (List Int)) => numQuoWordsL4 r2 y2 v.1 v.2.1 v.2.2) (IntKind.wrap .i64 (((a0.length : Nat) : Int) - ((r2.2.length : Nat) : Int)), r3, List.replicate (IntKind.wrap .i64 ((IntKind.wrap .i64 (((a0.length : Nat) : Int) - ((r2.2.length : Nat) : Int))) + (1 : Int))).toNat (0 : Int))) fun r7 =>
            need (0 ≤ ((r2.2.length : Nat) : Int)) <|
            need (((r2.2.length : Nat) : Int) ≤ ((r2.2.length : Nat) : Int)) <|
            need (((r2.2.length : Nat) : Int) * ((4 : Nat) : Int) ≤ ((maxBytes : Nat) : Int)) <|
            Option.bind (iter (fun v : (Int × (List Int)) => numQuoWordsL8 r2 r7 y2 v.1 v.2) ((0 : Int), List.replicate (((r2.2.length : Nat) : Int)).toNat (0 : Int))) fun r8 =>
              some (r7.2, r8)
def numZQuoJ1 (a0 : NumZ) (a1 : NumZ) : Option (NumZ × NumZ) :=
  Option.bind (numZWords a0) fun y1 =>
  Option.bind (numZWords a1) fun y2 =>
  Option.bind (numQuoWords y1.1 y2.1) fun y3 =>
  Option.bind (numMade y3.1 (!(y1.2 == y2.2))) fun y4 =>
  Option.bind (numMade y3.2 y1.2) fun y5 =>
  some (y4, y5)
def numZQuo (a0 : NumZ) (a1 : NumZ) : Option (NumZ × NumZ) :=
  if List.isEmpty a0.m then
    if List.isEmpty a1.m then
      if !decide (a0.v = (-9223372036854775808 : Int)) then
        need (a1.v ≠ 0) <|
        need (a1.v ≠ 0) <|
        some ((⟨IntKind.wrap .i64 (Int.tdiv a0.v a1.v), [], false⟩ : NumZ), (⟨Int.tmod a0.v a1.v, [], false⟩ : NumZ))
      else
        numZQuoJ1 a0 a1
    else
      numZQuoJ1 a0 a1
  else
    numZQuoJ1 a0 a1
def numZAbs (a0 : NumZ) : Option NumZ :=
  Option.bind (numZSign a0) fun y1 =>
  if decide (y1 < (0 : Int)) then
    Option.bind (numZNeg a0) fun y2 =>
    some y2
  else
    some a0
def numGcdL2 (v7 : Int) (v8 : Int) : Option ((Int × Int) ⊕ Int) :=
  if !decide (v8 = (0 : Int)) then
    need (v8 ≠ 0) <|
    some (.inl (v8, Int.tmod v7 v8))
  else
    some (.inr v7)
def numGcdJ1 (v1 : Int) (v2 : (List Int)) (v3 : Bool) (v4 : Int) (v5 : (List Int)) (v6 : Bool) : Option ((Int × (List Int) × Bool × Int × (List Int) × Bool) ⊕ ((Int × (List Int) × Bool) ⊕ NumZ)) :=
  Option.bind (numZQuo (⟨v1, v2, v3⟩ : NumZ) (⟨v4, v5, v6⟩ : NumZ)) fun y4 =>
  some (.inl (v4, v5, v6, y4.2.v, y4.2.m, y4.2.neg))
def numGcdL1 (v1 : Int) (v2 : (List Int)) (v3 : Bool) (v4 : Int) (v5 : (List Int)) (v6 : Bool) : Option ((Int × (List Int) × Bool × Int × (List Int) × Bool) ⊕ ((Int × (List Int) × Bool) ⊕ NumZ)) :=
  Option.bind (numZSign (⟨v4, v5, v6⟩ : NumZ)) fun y3 =>
  if !decide (y3 = (0 : Int)) then
    if List.isEmpty v2 then
      if List.isEmpty v5 then
        Option.bind (iter (fun v : (Int × Int) => numGcdL2 v.1 v.2) (v1, v4)) fun r1 =>
          some (.inr (.inr (⟨r1, [], false⟩ : NumZ)))
      else
        numGcdJ1 v1 v2 v3 v4 v5 v6
    else
      numGcdJ1 v1 v2 v3 v4 v5 v6
  else
    some (.inr (.inl (v1, v2, v3)))
def numGcd (a0 : NumZ) (a1 : NumZ) : Option NumZ :=
  Option.bind (numZAbs a0) fun y1 =>
  Option.bind (numZAbs a1) fun y2 =>
  Option.bind (iter (fun v : (Int × (List Int) × Bool × Int × (List Int) × Bool) => numGcdL1 v.1 v.2.1 v.2.2.1 v.2.2.2.1 v.2.2.2.2.1 v.2.2.2.2.2) (y1.v, y1.m, y1.neg, y2.v, y2.m, y2.neg)) fun r =>
  match r with
  | .inl r2 =>
    some (⟨r2.1, r2.2.1, r2.2.2⟩ : NumZ)
  | .inr r3 =>
    some r3
def numOverJ3 (v7 : Int) (v8 : (List Int)) (v9 : Bool) (v10 : Int) (v11 : (List Int)) (v12 : Bool) : Option NumQ :=
  some (⟨(⟨v7, v8, v9⟩ : NumZ), (⟨v10, v11, v12⟩ : NumZ)⟩ : NumQ)
def numOverJ2 (v1 : Int) (v2 : (List Int)) (v3 : Bool) (v4 : Int) (v5 : (List Int)) (v6 : Bool) (y4 : NumZ) : Option NumQ :=
  Option.bind (numZQuo (⟨v1, v2, v3⟩ : NumZ) y4) fun y5 =>
  Option.bind (numZQuo (⟨v4, v5, v6⟩ : NumZ) y4) fun y6 =>
  numOverJ3 y5.1.v y5.1.m y5.1.neg y6.1.v y6.1.m y6.1.neg
def numOverJ1 (v1 : Int) (v2 : (List Int)) (v3 : Bool) (v4 : Int) (v5 : (List Int)) (v6 : Bool) : Option NumQ :=
  Option.bind (numGcd (⟨v1, v2, v3⟩ : NumZ) (⟨v4, v5, v6⟩ : NumZ)) fun y4 =>
  if !List.isEmpty y4.m then
    numOverJ2 v1 v2 v3 v4 v5 v6 y4
  else
    if !decide (y4.v = (1 : Int)) then
      numOverJ2 v1 v2 v3 v4 v5 v6 y4
    else
      numOverJ3 v1 v2 v3 v4 v5 v6
def numOver (a0 : NumZ) (a1 : NumZ) : Option NumQ :=
  Option.bind (numZSign a1) fun y1 =>
  if decide (y1 < (0 : Int)) then
    Option.bind (numZNeg a0) fun y2 =>
    Option.bind (numZNeg a1) fun y3 =>
    numOverJ1 y2.v y2.m y2.neg y3.v y3.m y3.neg
  else
    numOverJ1 a0.v a0.m a0.neg a1.v a1.m a1.neg
def bitsMul64 (a0 : Int) (a1 : Int) : Option (Int × Int) :=
  need ((0 : Int) ≤ (32 : Int)) <|
  need ((0 : Int) ≤ (32 : Int)) <|
  need ((0 : Int) ≤ (32 : Int)) <|
  need ((0 : Int) ≤ (32 : Int)) <|
  need ((0 : Int) ≤ (32 : Int)) <|
  some (IntKind.wrap .u64 ((IntKind.wrap .u64 ((IntKind.wrap .u64 ((Int.fdiv a0 (2 ^ (min (32 : Int).toNat (IntKind.bits .u64)))) * (Int.fdiv a1 (2 ^ (min (32 : Int).toNat (IntKind.bits .u64)))))) + (Int.fdiv (IntKind.wrap .u64 ((IntKind.wrap .u64 ((Int.fdiv a0 (2 ^ (min (32 : Int).toNat (IntKind.bits .u64)))) * (IntKind.wrap .u64 ((((BitVec.ofInt (IntKind.bits .u64) a1 &&& BitVec.ofInt (IntKind.bits .u64) (4294967295 : Int)).toNat : Nat) : Int))))) + (Int.fdiv (IntKind.wrap .u64 ((IntKind.wrap .u64 ((((BitVec.ofInt (IntKind.bits .u64) a0 &&& BitVec.ofInt (IntKind.bits .u64) (4294967295 : Int)).toNat : Nat) : Int))) * (IntKind.wrap .u64 ((((BitVec.ofInt (IntKind.bits .u64) a1 &&& BitVec.ofInt (IntKind.bits .u64) (4294967295 : Int)).toNat : Nat) : Int))))) (2 ^ (min (32 : Int).toNat (IntKind.bits .u64)))))) (2 ^ (min (32 : Int).toNat (IntKind.bits .u64)))))) + (Int.fdiv (IntKind.wrap .u64 ((IntKind.wrap .u64 ((((BitVec.ofInt (IntKind.bits .u64) (IntKind.wrap .u64 ((IntKind.wrap .u64 ((Int.fdiv a0 (2 ^ (min (32 : Int).toNat (IntKind.bits .u64)))) * (IntKind.wrap .u64 ((((BitVec.ofInt (IntKind.bits .u64) a1 &&& BitVec.ofInt (IntKind.bits .u64) (4294967295 : Int)).toNat : Nat) : Int))))) + (Int.fdiv (IntKind.wrap .u64 ((IntKind.wrap .u64 ((((BitVec.ofInt (IntKind.bits .u64) a0 &&& BitVec.ofInt (IntKind.bits .u64) (4294967295 : Int)).toNat : Nat) : Int))) * (IntKind.wrap .u64 ((((BitVec.ofInt (IntKind.bits .u64) a1 &&& BitVec.ofInt (IntKind.bits .u64) (4294967295 : Int)).toNat : Nat) : Int))))) (2 ^ (min (32 : Int).toNat (IntKind.bits .u64)))))) &&& BitVec.ofInt (IntKind.bits .u64) (4294967295 : Int)).toNat : Nat) : Int))) + (IntKind.wrap .u64 ((IntKind.wrap .u64 ((((BitVec.ofInt (IntKind.bits .u64) a0 &&& BitVec.ofInt (IntKind.bits .u64) (4294967295 : Int)).toNat : Nat) : Int))) * (Int.fdiv a1 (2 ^ (min (32 : Int).toNat (IntKind.bits .u64)))))))) (2 ^ (min (32 : Int).toNat (IntKind.bits .u64))))), IntKind.wrap .u64 (a0 * a1))
def numZMulL2 (v3 : Int) (y2 : ((List Int) × Bool)) (y3 : ((List Int) × Bool)) (v5 : Int) (v6 : Int) (v7 : (List Int)) : Option ((Int × Int × (List Int)) ⊕ (Int × (List Int))) :=
  if decide (v6 < ((y3.1.length : Nat) : Int)) then
    need (inRange (IntKind.wrap .i64 (v3 + v6)) v7.length) <|
    need (inRange v3 y2.1.length) <|
    need (inRange v6 y3.1.length) <|
    need (inRange (IntKind.wrap .i64 (v3 + v6)) v7.length) <|
    need ((0 : Int) ≤ (32 : Int)) <|
    some (.inl (Int.fdiv (IntKind.wrap .u64 ((IntKind.wrap .u64 ((IntKind.wrap .u64 (List.getD v7 (IntKind.wrap .i64 (v3 + v6)).toNat (0 : Int))) + (IntKind.wrap .u64 ((IntKind.wrap .u64 (List.getD y2.1 (v3).toNat (0 : Int))) * (IntKind.wrap .u64 (List.getD y3.1 (v6).toNat (0 : Int))))))) + v5)) (2 ^ (min (32 : Int).toNat (IntKind.bits .u64))), IntKind.wrap .i64 (v6 + (1 : Int)), List.set v7 (IntKind.wrap .i64 (v3 + v6)).toNat (IntKind.wrap .u32 (IntKind.wrap .u64 ((IntKind.wrap .u64 ((IntKind.wrap .u64 (List.getD v7 (IntKind.wrap .i64 (v3 + v6)).toNat (0 : Int))) + (IntKind.wrap .u64 ((IntKind.wrap .u64 (List.getD y2.1 (v3).toNat (0 : Int))) * (IntKind.wrap .u64 (List.getD y3.1 (v6).toNat (0 : Int))))))) + v5)))))
  else
    some (.inr (v5, v7))
def numZMulL1 (y2 : ((List Int) × Bool)) (y3 : ((List Int) × Bool)) (v3 : Int) (v4 : (List Int)) : Option ((Int × (List Int)) ⊕ (List Int)) :=
  if decide (v3 < ((y2.1.length : Nat) : Int)) then
    Option.bind (iter (fun v : (Int × Int × (List Int)) => numZMulL2 v3 y2 y3 v.1 v.2.1 v.2.2) ((0 : Int), (0 : Int), v4)) fun r1 =>
      need (inRange (IntKind.wrap .i64 (v3 + ((y3.1.length : Nat) : Int))) r1.2.length) <|
      some (.inl (IntKind.wrap .i64 (v3 + (1 : Int)), List.set r1.2 (IntKind.wrap .i64 (v3 + ((y3.1.length : Nat) : Int))).toNat (IntKind.wrap .u32 r1.1)))
  else
    some (.inr v4)
def numZMulJ3 (a0 : NumZ) (a1 : NumZ) : Option NumZ :=
  Option.bind (numZWords a0) fun y2 =>
  Option.bind (numZWords a1) fun y3 =>
  need (0 ≤ (IntKind.wrap .i64 (((y2.1.length : Nat) : Int) + ((y3.1.length : Nat) : Int)))) <|
  need ((IntKind.wrap .i64 (((y2.1.length : Nat) : Int) + ((y3.1.length : Nat) : Int))) ≤ (IntKind.wrap .i64 (((y2.1.length : Nat) : Int) + ((y3.1.length : Nat) : Int)))) <|
  need ((IntKind.wrap .i64 (((y2.1.length : Nat) : Int) + ((y3.1.length : Nat) : Int))) * ((4 : Nat) : Int) ≤ ((maxBytes : Nat) : Int)) <|
  Option.bind (iter (fun v : (Int × (List Int)) => numZMulL1 y2 y3 v.1 v.2) ((0 : Int), List.replicate (IntKind.wrap .i64 (((y2.1.length : Nat) : Int) + ((y3.1.length : Nat) : Int))).toNat (0 : Int))) fun r2 =>
    Option.bind (numMade r2 (!(y2.2 == y3.2))) fun y4 =>
    some y4
def numZMulJ2 (a0 : NumZ) (a1 : NumZ) (v1 : Int) (v2 : Int) : Option NumZ :=
  Option.bind (bitsMul64 v1 v2) fun y1 =>
  if decide (y1.1 = (0 : Int)) then
    if decide (y1.2 < (9223372036854775808 : Int)) then
      if !((decide (a0.v < (0 : Int))) == (decide (a1.v < (0 : Int)))) then
        some (⟨IntKind.wrap .i64 (0 - (IntKind.wrap .i64 y1.2)), [], false⟩ : NumZ)
      else
        some (⟨IntKind.wrap .i64 y1.2, [], false⟩ : NumZ)
    else
      numZMulJ3 a0 a1
  else
    numZMulJ3 a0 a1
def numZMulJ1 (a0 : NumZ) (a1 : NumZ) (v1 : Int) : Option NumZ :=
  if decide (a1.v < (0 : Int)) then
    numZMulJ2 a0 a1 v1 (IntKind.wrap .u64 (0 - (IntKind.wrap .u64 a1.v)))
  else
    numZMulJ2 a0 a1 v1 (IntKind.wrap .u64 a1.v)
def numZMul (a0 : NumZ) (a1 : NumZ) : Option NumZ :=
  if List.isEmpty a0.m then
    if List.isEmpty a1.m then
      if decide (a0.v < (0 : Int)) then
        numZMulJ1 a0 a1 (IntKind.wrap .u64 (0 - (IntKind.wrap .u64 a0.v)))
      else
        numZMulJ1 a0 a1 (IntKind.wrap .u64 a0.v)
    else
      numZMulJ3 a0 a1
  else
    numZMulJ3 a0 a1
def numQAddJ1 (a0 : NumQ) (a1 : NumQ) : Option NumQ :=
  Option.bind (numZMul a0.N a1.D) fun y4 =>
  Option.bind (numZMul a1.N a0.D) fun y5 =>
  Option.bind (numZAdd y4 y5) fun y6 =>
  Option.bind (numZMul a0.D a1.D) fun y7 =>
  Option.bind (numOver y6 y7) fun y8 =>
  some y8
def numQAdd (a0 : NumQ) (a1 : NumQ) : Option NumQ :=
  Option.bind (numQIsInt a0) fun y1 =>
  if y1 then
    Option.bind (numQIsInt a1) fun y2 =>
    if y2 then
      Option.bind (numZAdd a0.N a1.N) fun y3 =>
      some (⟨y3, a0.D⟩ : NumQ)
    else
      numQAddJ1 a0 a1
  else
    numQAddJ1 a0 a1
def numQNeg (a0 : NumQ) : Option NumQ :=
  Option.bind (numZNeg a0.N) fun y1 =>
  some (⟨y1, a0.D⟩ : NumQ)
def numQSub (a0 : NumQ) (a1 : NumQ) : Option NumQ :=
  Option.bind (numQNeg a1) fun y1 =>
  Option.bind (numQAdd a0 y1) fun y2 =>
  some y2
def numQDiv (a0 : NumQ) (a1 : NumQ) : Option NumQ :=
  Option.bind (numZMul a0.N a1.D) fun y1 =>
  Option.bind (numZMul a0.D a1.N) fun y2 =>
  Option.bind (numOver y1 y2) fun y3 =>
  some y3
def numOf (a0 : ApiRat) : Option NumQ :=
  Option.bind (numI a0.N) fun y1 =>
  Option.bind (numI a0.D) fun y2 =>
  some (⟨y1, y2⟩ : NumQ)
def libGuide (a0 : ApiArm) : Option NumQ :=
  Option.bind (numInt (1 : Int)) fun y1 =>
  Option.bind (numOf a0.R) fun y2 =>
  Option.bind (numQDiv y1 y2) fun y3 =>
  some y3
def qmNewL2 (a1 : Int) (v1 : Int) (v2 : Int) (v4 : Int) (v5 : Int) (v6 : (List (List NumQ))) : Option ((Int × Int × (List (List NumQ))) ⊕ (List (List NumQ))) :=
  if decide (v5 < v4) then
    need (inRange v2 v6.length) <|
    Option.bind (numInt (0 : Int)) fun y1 =>
    need (inRange v5 (List.getD v6 v2.toNat []).length) <|
    some (.inl (v4, IntKind.wrap .i64 (v5 + (1 : Int)), List.set v6 v2.toNat (List.set (List.getD v6 v2.toNat []) v5.toNat y1)))
  else
    some (.inr v6)
def qmNewL1 (a1 : Int) (v1 : Int) (v2 : Int) (v3 : (List (List NumQ))) : Option ((Int × Int × (List (List NumQ))) ⊕ (List (List NumQ))) :=
  if decide (v2 < v1) then
    need (0 ≤ a1) <|
    need (a1 ≤ a1) <|
    need (a1 * ((80 : Nat) : Int) ≤ ((maxBytes : Nat) : Int)) <|
    need (inRange v2 v3.length) <|
    need (inRange v2 (List.set v3 v2.toNat (List.replicate (a1).toNat (⟨(⟨(0 : Int), [], false⟩ : NumZ), (⟨(0 : Int), [], false⟩ : NumZ)⟩ : NumQ))).length) <|
    Option.bind (iter (fun v : (Int × Int × (List (List NumQ))) => qmNewL2 a1 v1 v2 v.1 v.2.1 v.2.2) ((((List.getD (List.set v3 v2.toNat (List.replicate (a1).toNat (⟨(⟨(0 : Int), [], false⟩ : NumZ), (⟨(0 : Int), [], false⟩ : NumZ)⟩ : NumQ))) v2.toNat []).length : Nat) : Int), (0 : Int), List.set v3 v2.toNat (List.replicate (a1).toNat (⟨(⟨(0 : Int), [], false⟩ : NumZ), (⟨(0 : Int), [], false⟩ : NumZ)⟩ : NumQ)))) fun r1 =>
      some (.inl (v1, IntKind.wrap .i64 (v2 + (1 : Int)), r1))
  else
    some (.inr v3)
def qmNew (a0 : Int) (a1 : Int) : Option QmM :=
  need (0 ≤ a0) <|
  need (a0 ≤ a0) <|
  need (a0 * ((24 : Nat) : Int) ≤ ((maxBytes : Nat) : Int)) <|
  Option.bind (iter (fun v : (Int × Int × (List (List NumQ))) => qmNewL1 a1 v.1 v.2.1 v.2.2) ((((List.replicate (a0).toNat ([] : (List NumQ))).length : Nat) : Int), (0 : Int), List.replicate (a0).toNat ([] : (List NumQ)))) fun r2 =>
    some (⟨a1, r2⟩ : QmM)
def libLaplaceL1 (a0 : ApiGrid) (y1 : QmM) (v1 : Int) (v2 : (List (List NumQ))) : Option ((Int × (List (List NumQ))) ⊕ (List (List NumQ))) :=
  if decide (v1 < ((a0.Arms.length : Nat) : Int)) then
    need (inRange v1 a0.Arms.length) <|
    if decide (((List.getD a0.Arms (v1).toNat (ApiArmZ)).A) = ((List.getD a0.Arms (v1).toNat (ApiArmZ)).B)) then
      some (.inl (IntKind.wrap .i64 (v1 + (1 : Int)), v2))
    else
      Option.bind (libGuide (⟨(List.getD a0.Arms (v1).toNat (ApiArmZ)).A, (List.getD a0.Arms (v1).toNat (ApiArmZ)).B, ((List.getD a0.Arms (v1).toNat (ApiArmZ)).R), ((List.getD a0.Arms (v1).toNat (ApiArmZ)).E)⟩ : ApiArm)) fun y2 =>
      need (inRange ((List.getD a0.Arms (v1).toNat (ApiArmZ)).A) v2.length) <|
      need (inRange ((List.getD a0.Arms (v1).toNat (ApiArmZ)).A) v2.length) <|
      need (inRange ((List.getD a0.Arms (v1).toNat (ApiArmZ)).A) (List.getD v2 ((List.getD a0.Arms (v1).toNat (ApiArmZ)).A).toNat []).length) <|
      Option.bind (numQAdd (⟨((List.getD (List.getD v2 ((List.getD a0.Arms (v1).toNat (ApiArmZ)).A).toNat []) ((List.getD a0.Arms (v1).toNat (ApiArmZ)).A).toNat (NumQZ)).N), ((List.getD (List.getD v2 ((List.getD a0.Arms (v1).toNat (ApiArmZ)).A).toNat []) ((List.getD a0.Arms (v1).toNat (ApiArmZ)).A).toNat (NumQZ)).D)⟩ : NumQ) y2) fun y3 =>
      need (inRange ((List.getD a0.Arms (v1).toNat (ApiArmZ)).A) (List.getD v2 ((List.getD a0.Arms (v1).toNat (ApiArmZ)).A).toNat []).length) <|
      need (inRange ((List.getD a0.Arms (v1).toNat (ApiArmZ)).B) (List.set v2 ((List.getD a0.Arms (v1).toNat (ApiArmZ)).A).toNat (List.set (List.getD v2 ((List.getD a0.Arms (v1).toNat (ApiArmZ)).A).toNat []) ((List.getD a0.Arms (v1).toNat (ApiArmZ)).A).toNat y3)).length) <|
      need (inRange ((List.getD a0.Arms (v1).toNat (ApiArmZ)).B) (List.set v2 ((List.getD a0.Arms (v1).toNat (ApiArmZ)).A).toNat (List.set (List.getD v2 ((List.getD a0.Arms (v1).toNat (ApiArmZ)).A).toNat []) ((List.getD a0.Arms (v1).toNat (ApiArmZ)).A).toNat y3)).length) <|
      need (inRange ((List.getD a0.Arms (v1).toNat (ApiArmZ)).B) (List.getD (List.set v2 ((List.getD a0.Arms (v1).toNat (ApiArmZ)).A).toNat (List.set (List.getD v2 ((List.getD a0.Arms (v1).toNat (ApiArmZ)).A).toNat []) ((List.getD a0.Arms (v1).toNat (ApiArmZ)).A).toNat y3)) ((List.getD a0.Arms (v1).toNat (ApiArmZ)).B).toNat []).length) <|
      Option.bind (numQAdd (⟨((List.getD (List.getD (List.set v2 ((List.getD a0.Arms (v1).toNat (ApiArmZ)).A).toNat (List.set (List.getD v2 ((List.getD a0.Arms (v1).toNat (ApiArmZ)).A).toNat []) ((List.getD a0.Arms (v1).toNat (ApiArmZ)).A).toNat y3)) ((List.getD a0.Arms (v1).toNat (ApiArmZ)).B).toNat []) ((List.getD a0.Arms (v1).toNat (ApiArmZ)).B).toNat (NumQZ)).N), ((List.getD (List.getD (List.set v2 ((List.getD a0.Arms (v1).toNat (ApiArmZ)).A).toNat (List.set (List.getD v2 ((List.getD a0.Arms (v1).toNat (ApiArmZ)).A).toNat []) ((List.getD a0.Arms (v1).toNat (ApiArmZ)).A).toNat y3)) ((List.getD a0.Arms (v1).toNat (ApiArmZ)).B).toNat []) ((List.getD a0.Arms (v1).toNat (ApiArmZ)).B).toNat (NumQZ)).D)⟩ : NumQ) y2) fun y4 =>
      need (inRange ((List.getD a0.Arms (v1).toNat (ApiArmZ)).B) (List.getD (List.set v2 ((List.getD a0.Arms (v1).toNat (ApiArmZ)).A).toNat (List.set (List.getD v2 ((List.getD a0.Arms (v1).toNat (ApiArmZ)).A).toNat []) ((List.getD a0.Arms (v1).toNat (ApiArmZ)).A).toNat y3)) ((List.getD a0.Arms (v1).toNat (ApiArmZ)).B).toNat []).length) <|
      need (inRange ((List.getD a0.Arms (v1).toNat (ApiArmZ)).A) (List.set (List.set v2 ((List.getD a0.Arms (v1).toNat (ApiArmZ)).A).toNat (List.set (List.getD v2 ((List.getD a0.Arms (v1).toNat (ApiArmZ)).A).toNat []) ((List.getD a0.Arms (v1).toNat (ApiArmZ)).A).toNat y3)) ((List.getD a0.Arms (v1).toNat (ApiArmZ)).B).toNat (List.set (List.getD (List.set v2 ((List.getD a0.Arms (v1).toNat (ApiArmZ)).A).toNat (List.set (List.getD v2 ((List.getD a0.Arms (v1).toNat (ApiArmZ)).A).toNat []) ((List.getD a0.Arms (v1).toNat (ApiArmZ)).A).toNat y3)) ((List.getD a0.Arms (v1).toNat (ApiArmZ)).B).toNat []) ((List.getD a0.Arms (v1).toNat (ApiArmZ)).B).toNat y4)).length) <|
      need (inRange ((List.getD a0.Arms (v1).toNat (ApiArmZ)).A) (List.set (List.set v2 ((List.getD a0.Arms (v1).toNat (ApiArmZ)).A).toNat (List.set (List.getD v2 ((List.getD a0.Arms (v1).toNat (ApiArmZ)).A).toNat []) ((List.getD a0.Arms (v1).toNat (ApiArmZ)).A).toNat y3)) ((List.getD a0.Arms (v1).toNat (ApiArmZ)).B).toNat (List.set (List.getD (List.set v2 ((List.getD a0.Arms (v1).toNat (ApiArmZ)).A).toNat (List.set (List.getD v2 ((List.getD a0.Arms (v1).toNat (ApiArmZ)).A).toNat []) ((List.getD a0.Arms (v1).toNat (ApiArmZ)).A).toNat y3)) ((List.getD a0.Arms (v1).toNat (ApiArmZ)).B).toNat []) ((List.getD a0.Arms (v1).toNat (ApiArmZ)).B).toNat y4)).length) <|
      need (inRange ((List.getD a0.Arms (v1).toNat (ApiArmZ)).B) (List.getD (List.set (List.set v2 ((List.getD a0.Arms (v1).toNat (ApiArmZ)).A).toNat (List.set (List.getD v2 ((List.getD a0.Arms (v1).toNat (ApiArmZ)).A).toNat []) ((List.getD a0.Arms (v1).toNat (ApiArmZ)).A).toNat y3)) ((List.getD a0.Arms (v1).toNat (ApiArmZ)).B).toNat (List.set (List.getD (List.set v2 ((List.getD a0.Arms (v1).toNat (ApiArmZ)).A).toNat (List.set (List.getD v2 ((List.getD a0.Arms (v1).toNat (ApiArmZ)).A).toNat []) ((List.getD a0.Arms (v1).toNat (ApiArmZ)).A).toNat y3)) ((List.getD a0.Arms (v1).toNat (ApiArmZ)).B).toNat []) ((List.getD a0.Arms (v1).toNat (ApiArmZ)).B).toNat y4)) ((List.getD a0.Arms (v1).toNat (ApiArmZ)).A).toNat []).length) <|
      Option.bind (numQSub (⟨((List.getD (List.getD (List.set (List.set v2 ((List.getD a0.Arms (v1).toNat (ApiArmZ)).A).toNat (List.set (List.getD v2 ((List.getD a0.Arms (v1).toNat (ApiArmZ)).A).toNat []) ((List.getD a0.Arms (v1).toNat (ApiArmZ)).A).toNat y3)) ((List.getD a0.Arms (v1).toNat (ApiArmZ)).B).toNat (List.set (List.getD (List.set v2 ((List.getD a0.Arms (v1).toNat (ApiArmZ)).A).toNat (List.set (List.getD v2 ((List.getD a0.Arms (v1).toNat (ApiArmZ)).A).toNat []) ((List.getD a0.Arms (v1).toNat (ApiArmZ)).A).toNat y3)) ((List.getD a0.Arms (v1).toNat (ApiArmZ)).B).toNat []) ((List.getD a0.Arms (v1).toNat (ApiArmZ)).B).toNat y4)) ((List.getD a0.Arms (v1).toNat (ApiArmZ)).A).toNat []) ((List.getD a0.Arms (v1).toNat (ApiArmZ)).B).toNat (NumQZ)).N), ((List.getD (List.getD (List.set (List.set v2 ((List.getD a0.Arms (v1).toNat (ApiArmZ)).A).toNat (List.set (List.getD v2 ((List.getD a0.Arms (v1).toNat (ApiArmZ)).A).toNat []) ((List.getD a0.Arms (v1).toNat (ApiArmZ)).A).toNat y3)) ((List.getD a0.Arms (v1).toNat (ApiArmZ)).B).toNat (List.set (List.getD (List.set v2 ((List.getD a0.Arms (v1).toNat (ApiArmZ)).A).toNat (List.set (List.getD v2 ((List.getD a0.Arms (v1).toNat (ApiArmZ)).A).toNat []) ((List.getD a0.Arms (v1).toNat (ApiArmZ)).A).toNat y3)) ((List.getD a0.Arms (v1).toNat (ApiArmZ)).B).toNat []) ((List.getD a0.Arms (v1).toNat (ApiArmZ)).B).toNat y4)) ((List.getD a0.Arms (v1).toNat (ApiArmZ)).A).toNat []) ((List.getD a0.Arms (v1).toNat (ApiArmZ)).B).toNat (NumQZ)).D)⟩ : NumQ) y2) fun y5 =>
      need (inRange ((List.getD a0.Arms (v1).toNat (ApiArmZ)).B) (List.getD (List.set (List.set v2 ((List.getD a0.Arms (v1).toNat (ApiArmZ)).A).toNat (List.set (List.getD v2 ((List.getD a0.Arms (v1).toNat (ApiArmZ)).A).toNat []) ((List.getD a0.Arms (v1).toNat (ApiArmZ)).A).toNat y3)) ((List.getD a0.Arms (v1).toNat (ApiArmZ)).B).toNat (List.set (List.getD (List.set v2 ((List.getD a0.Arms (v1).toNat (ApiArmZ)).A).toNat (List.set (List.getD v2 ((List.getD a0.Arms (v1).toNat (ApiArmZ)).A).toNat []) ((List.getD a0.Arms (v1).toNat (ApiArmZ)).A).toNat y3)) ((List.getD a0.Arms (v1).toNat (ApiArmZ)).B).toNat []) ((List.getD a0.Arms (v1).toNat (ApiArmZ)).B).toNat y4)) ((List.getD a0.Arms (v1).toNat (ApiArmZ)).A).toNat []).length) <|
      need (inRange ((List.getD a0.Arms (v1).toNat (ApiArmZ)).B) (List.set (List.set (List.set v2 ((List.getD a0.Arms (v1).toNat (ApiArmZ)).A).toNat (List.set (List.getD v2 ((List.getD a0.Arms (v1).toNat (ApiArmZ)).A).toNat []) ((List.getD a0.Arms (v1).toNat (ApiArmZ)).A).toNat y3)) ((List.getD a0.Arms (v1).toNat (ApiArmZ)).B).toNat (List.set (List.getD (List.set v2 ((List.getD a0.Arms (v1).toNat (ApiArmZ)).A).toNat (List.set (List.getD v2 ((List.getD a0.Arms (v1).toNat (ApiArmZ)).A).toNat []) ((List.getD a0.Arms (v1).toNat (ApiArmZ)).A).toNat y3)) ((List.getD a0.Arms (v1).toNat (ApiArmZ)).B).toNat []) ((List.getD a0.Arms (v1).toNat (ApiArmZ)).B).toNat y4)) ((List.getD a0.Arms (v1).toNat (ApiArmZ)).A).toNat (List.set (List.getD (List.set (List.set v2 ((List.getD a0.Arms (v1).toNat (ApiArmZ)).A).toNat (List.set (List.getD v2 ((List.getD a0.Arms (v1).toNat (ApiArmZ)).A).toNat []) ((List.getD a0.Arms (v1).toNat (ApiArmZ)).A).toNat y3)) ((List.getD a0.Arms (v1).toNat (ApiArmZ)).B).toNat (List.set (List.getD (List.set v2 ((List.getD a0.Arms (v1).toNat (ApiArmZ)).A).toNat (List.set (List.getD v2 ((List.getD a0.Arms (v1).toNat (ApiArmZ)).A).toNat []) ((List.getD a0.Arms (v1).toNat (ApiArmZ)).A).toNat y3)) ((List.getD a0.Arms (v1).toNat (ApiArmZ)).B).toNat []) ((List.getD a0.Arms (v1).toNat (ApiArmZ)).B).toNat y4)) ((List.getD a0.Arms (v1).toNat (ApiArmZ)).A).toNat []) ((List.getD a0.Arms (v1).toNat (ApiArmZ)).B).toNat y5)).length) <|
      need (inRange ((List.getD a0.Arms (v1).toNat (ApiArmZ)).B) (List.set (List.set (List.set v2 ((List.getD a0.Arms (v1).toNat (ApiArmZ)).A).toNat (List.set (List.getD v2 ((List.getD a0.Arms (v1).toNat (ApiArmZ)).A).toNat []) ((List.getD a0.Arms (v1).toNat (ApiArmZ)).A).toNat y3)) ((List.getD a0.Arms (v1).toNat (ApiArmZ)).B).toNat (List.set (List.getD (List.set v2 ((List.getD a0.Arms (v1).toNat (ApiArmZ)).A).toNat (List.set (List.getD v2 ((List.getD a0.Arms (v1).toNat (ApiArmZ)).A).toNat []) ((List.getD a0.Arms (v1).toNat (ApiArmZ)).A).toNat y3)) ((List.getD a0.Arms (v1).toNat (ApiArmZ)).B).toNat []) ((List.getD a0.Arms (v1).toNat (ApiArmZ)).B).toNat y4)) ((List.getD a0.Arms (v1).toNat (ApiArmZ)).A).toNat (List.set (List.getD (List.set (List.set v2 ((List.getD a0.Arms (v1).toNat (ApiArmZ)).A).toNat (List.set (List.getD v2 ((List.getD a0.Arms (v1).toNat (ApiArmZ)).A).toNat []) ((List.getD a0.Arms (v1).toNat (ApiArmZ)).A).toNat y3)) ((List.getD a0.Arms (v1).toNat (ApiArmZ)).B).toNat (List.set (List.getD (List.set v2 ((List.getD a0.Arms (v1).toNat (ApiArmZ)).A).toNat (List.set (List.getD v2 ((List.getD a0.Arms (v1).toNat (ApiArmZ)).A).toNat []) ((List.getD a0.Arms (v1).toNat (ApiArmZ)).A).toNat y3)) ((List.getD a0.Arms (v1).toNat (ApiArmZ)).B).toNat []) ((List.getD a0.Arms (v1).toNat (ApiArmZ)).B).toNat y4)) ((List.getD a0.Arms (v1).toNat (ApiArmZ)).A).toNat []) ((List.getD a0.Arms (v1).toNat (ApiArmZ)).B).toNat y5)).length) <|
      need (inRange ((List.getD a0.Arms (v1).toNat (ApiArmZ)).A) (List.getD (List.set (List.set (List.set v2 ((List.getD a0.Arms (v1).toNat (ApiArmZ)).A).toNat (List.set (List.getD v2 ((List.getD a0.Arms (v1).toNat (ApiArmZ)).A).toNat []) ((List.getD a0.Arms (v1).toNat (ApiArmZ)).A).toNat y3)) ((List.getD a0.Arms (v1).toNat (ApiArmZ)).B).toNat (List.set (List.getD (List.set v2 ((List.getD a0.Arms (v1).toNat (ApiArmZ)).A).toNat (List.set (List.getD v2 ((List.getD a0.Arms (v1).toNat (ApiArmZ)).A).toNat []) ((List.getD a0.Arms (v1).toNat (ApiArmZ)).A).toNat y3)) ((List.getD a0.Arms (v1).toNat (ApiArmZ)).B).toNat []) ((List.getD a0.Arms (v1).toNat (ApiArmZ)).B).toNat y4)) ((List.getD a0.Arms (v1).toNat (ApiArmZ)).A).toNat (List.set (List.getD (List.set (List.set v2 ((List.getD a0.Arms (v1).toNat (ApiArmZ)).A).toNat (List.set (List.getD v2 ((List.getD a0.Arms (v1).toNat (ApiArmZ)).A).toNat []) ((List.getD a0.Arms (v1).toNat (ApiArmZ)).A).toNat y3)) ((List.getD a0.Arms (v1).toNat (ApiArmZ)).B).toNat (List.set (List.getD (List.set v2 ((List.getD a0.Arms (v1).toNat (ApiArmZ)).A).toNat (List.set (List.getD v2 ((List.getD a0.Arms (v1).toNat (ApiArmZ)).A).toNat []) ((List.getD a0.Arms (v1).toNat (ApiArmZ)).A).toNat y3)) ((List.getD a0.Arms (v1).toNat (ApiArmZ)).B).toNat []) ((List.getD a0.Arms (v1).toNat (ApiArmZ)).B).toNat y4)) ((List.getD a0.Arms (v1).toNat (ApiArmZ)).A).toNat []) ((List.getD a0.Arms (v1).toNat (ApiArmZ)).B).toNat y5)) ((List.getD a0.Arms (v1).toNat (ApiArmZ)).B).toNat []).length) <|
      Option.bind (numQSub (⟨((List.getD (List.getD (List.set (List.set (List.set v2 ((List.getD a0.Arms (v1).toNat (ApiArmZ)).A).toNat (List.set (List.getD v2 ((List.getD a0.Arms (v1).toNat (ApiArmZ)).A).toNat []) ((List.getD a0.Arms (v1).toNat (ApiArmZ)).A).toNat y3)) ((List.getD a0.Arms (v1).toNat (ApiArmZ)).B).toNat (List.set (List.getD (List.set v2 ((List.getD a0.Arms (v1).toNat (ApiArmZ)).A).toNat (List.set (List.getD v2 ((List.getD a0.Arms (v1).toNat (ApiArmZ)).A).toNat []) ((List.getD a0.Arms (v1).toNat (ApiArmZ)).A).toNat y3)) ((List.getD a0.Arms (v1).toNat (ApiArmZ)).B).toNat []) ((List.getD a0.Arms (v1).toNat (ApiArmZ)).B).toNat y4)) ((List.getD a0.Arms (v1).toNat (ApiArmZ)).A).toNat (List.set (List.getD (List.set (List.set v2 ((List.getD a0.Arms (v1).toNat (ApiArmZ)).A).toNat (List.set (List.getD v2 ((List.getD a0.Arms (v1).toNat (ApiArmZ)).A).toNat []) ((List.getD a0.Arms (v1).toNat (ApiArmZ)).A).toNat y3)) ((List.getD a0.Arms (v1).toNat (ApiArmZ)).B).toNat (List.set (List.getD (List.set v2 ((List.getD a0.Arms (v1).toNat (ApiArmZ)).A).toNat (List.set (List.getD v2 ((List.getD a0.Arms (v1).toNat (ApiArmZ)).A).toNat []) ((List.getD a0.Arms (v1).toNat (ApiArmZ)).A).toNat y3)) ((List.getD a0.Arms (v1).toNat (ApiArmZ)).B).toNat []) ((List.getD a0.Arms (v1).toNat (ApiArmZ)).B).toNat y4)) ((List.getD a0.Arms (v1).toNat (ApiArmZ)).A).toNat []) ((List.getD a0.Arms (v1).toNat (ApiArmZ)).B).toNat y5)) ((List.getD a0.Arms (v1).toNat (ApiArmZ)).B).toNat []) ((List.getD a0.Arms (v1).toNat (ApiArmZ)).A).toNat (NumQZ)).N), ((List.getD (List.getD (List.set (List.set (List.set v2 ((List.getD a0.Arms (v1).toNat (ApiArmZ)).A).toNat (List.set (List.getD v2 ((List.getD a0.Arms (v1).toNat (ApiArmZ)).A).toNat []) ((List.getD a0.Arms (v1).toNat (ApiArmZ)).A).toNat y3)) ((List.getD a0.Arms (v1).toNat (ApiArmZ)).B).toNat (List.set (List.getD (List.set v2 ((List.getD a0.Arms (v1).toNat (ApiArmZ)).A).toNat (List.set (List.getD v2 ((List.getD a0.Arms (v1).toNat (ApiArmZ)).A).toNat []) ((List.getD a0.Arms (v1).toNat (ApiArmZ)).A).toNat y3)) ((List.getD a0.Arms (v1).toNat (ApiArmZ)).B).toNat []) ((List.getD a0.Arms (v1).toNat (ApiArmZ)).B).toNat y4)) ((List.getD a0.Arms (v1).toNat (ApiArmZ)).A).toNat (List.set (List.getD (List.set (List.set v2 ((List.getD a0.Arms (v1).toNat (ApiArmZ)).A).toNat (List.set (List.getD v2 ((List.getD a0.Arms (v1).toNat (ApiArmZ)).A).toNat []) ((List.getD a0.Arms (v1).toNat (ApiArmZ)).A).toNat y3)) ((List.getD a0.Arms (v1).toNat (ApiArmZ)).B).toNat (List.set (List.getD (List.set v2 ((List.getD a0.Arms (v1).toNat (ApiArmZ)).A).toNat (List.set (List.getD v2 ((List.getD a0.Arms (v1).toNat (ApiArmZ)).A).toNat []) ((List.getD a0.Arms (v1).toNat (ApiArmZ)).A).toNat y3)) ((List.getD a0.Arms (v1).toNat (ApiArmZ)).B).toNat []) ((List.getD a0.Arms (v1).toNat (ApiArmZ)).B).toNat y4)) ((List.getD a0.Arms (v1).toNat (ApiArmZ)).A).toNat []) ((List.getD a0.Arms (v1).toNat (ApiArmZ)).B).toNat y5)) ((List.getD a0.Arms (v1).toNat (ApiArmZ)).B).toNat []) ((List.getD a0.Arms (v1).toNat (ApiArmZ)).A).toNat (NumQZ)).D)⟩ : NumQ) y2) fun y6 =>
      need (inRange ((List.getD a0.Arms (v1).toNat (ApiArmZ)).A) (List.getD (List.set (List.set (List.set v2 ((List.getD a0.Arms (v1).toNat (ApiArmZ)).A).toNat (List.set (List.getD v2 ((List.getD a0.Arms (v1).toNat (ApiArmZ)).A).toNat []) ((List.getD a0.Arms (v1).toNat (ApiArmZ)).A).toNat y3)) ((List.getD a0.Arms (v1).toNat (ApiArmZ)).B).toNat (List.set (List.getD (List.set v2 ((List.getD a0.Arms (v1).toNat (ApiArmZ)).A).toNat (List.set (List.getD v2 ((List.getD a0.Arms (v1).toNat (ApiArmZ)).A).toNat []) ((List.getD a0.Arms (v1).toNat (ApiArmZ)).A).toNat y3)) ((List.getD a0.Arms (v1).toNat (ApiArmZ)).B).toNat []) ((List.getD a0.Arms (v1).toNat (ApiArmZ)).B).toNat y4)) ((List.getD a0.Arms (v1).toNat (ApiArmZ)).A).toNat (List.set (List.getD (List.set (List.set v2 ((List.getD a0.Arms (v1).toNat (ApiArmZ)).A).toNat (List.set (List.getD v2 ((List.getD a0.Arms (v1).toNat (ApiArmZ)).A).toNat []) ((List.getD a0.Arms (v1).toNat (ApiArmZ)).A).toNat y3)) ((List.getD a0.Arms (v1).toNat (ApiArmZ)).B).toNat (List.set (List.getD (List.set v2 ((List.getD a0.Arms (v1).toNat (ApiArmZ)).A).toNat (List.set (List.getD v2 ((List.getD a0.Arms (v1).toNat (ApiArmZ)).A).toNat []) ((List.getD a0.Arms (v1).toNat (ApiArmZ)).A).toNat y3)) ((List.getD a0.Arms (v1).toNat (ApiArmZ)).B).toNat []) ((List.getD a0.Arms (v1).toNat (ApiArmZ)).B).toNat y4)) ((List.getD a0.Arms (v1).toNat (ApiArmZ)).A).toNat []) ((List.getD a0.Arms (v1).toNat (ApiArmZ)).B).toNat y5)) ((List.getD a0.Arms (v1).toNat (ApiArmZ)).B).toNat []).length) <|
      some (.inl (IntKind.wrap .i64 (v1 + (1 : Int)), List.set (List.set (List.set (List.set v2 ((List.getD a0.Arms (v1).toNat (ApiArmZ)).A).toNat (List.set (List.getD v2 ((List.getD a0.Arms (v1).toNat (ApiArmZ)).A).toNat []) ((List.getD a0.Arms (v1).toNat (ApiArmZ)).A).toNat y3)) ((List.getD a0.Arms (v1).toNat (ApiArmZ)).B).toNat (List.set (List.getD (List.set v2 ((List.getD a0.Arms (v1).toNat (ApiArmZ)).A).toNat (List.set (List.getD v2 ((List.getD a0.Arms (v1).toNat (ApiArmZ)).A).toNat []) ((List.getD a0.Arms (v1).toNat (ApiArmZ)).A).toNat y3)) ((List.getD a0.Arms (v1).toNat (ApiArmZ)).B).toNat []) ((List.getD a0.Arms (v1).toNat (ApiArmZ)).B).toNat y4)) ((List.getD a0.Arms (v1).toNat (ApiArmZ)).A).toNat (List.set (List.getD (List.set (List.set v2 ((List.getD a0.Arms (v1).toNat (ApiArmZ)).A).toNat (List.set (List.getD v2 ((List.getD a0.Arms (v1).toNat (ApiArmZ)).A).toNat []) ((List.getD a0.Arms (v1).toNat (ApiArmZ)).A).toNat y3)) ((List.getD a0.Arms (v1).toNat (ApiArmZ)).B).toNat (List.set (List.getD (List.set v2 ((List.getD a0.Arms (v1).toNat (ApiArmZ)).A).toNat (List.set (List.getD v2 ((List.getD a0.Arms (v1).toNat (ApiArmZ)).A).toNat []) ((List.getD a0.Arms (v1).toNat (ApiArmZ)).A).toNat y3)) ((List.getD a0.Arms (v1).toNat (ApiArmZ)).B).toNat []) ((List.getD a0.Arms (v1).toNat (ApiArmZ)).B).toNat y4)) ((List.getD a0.Arms (v1).toNat (ApiArmZ)).A).toNat []) ((List.getD a0.Arms (v1).toNat (ApiArmZ)).B).toNat y5)) ((List.getD a0.Arms (v1).toNat (ApiArmZ)).B).toNat (List.set (List.getD (List.set (List.set (List.set v2 ((List.getD a0.Arms (v1).toNat (ApiArmZ)).A).toNat (List.set (List.getD v2 ((List.getD a0.Arms (v1).toNat (ApiArmZ)).A).toNat []) ((List.getD a0.Arms (v1).toNat (ApiArmZ)).A).toNat y3)) ((List.getD a0.Arms (v1).toNat (ApiArmZ)).B).toNat (List.set (List.getD (List.set v2 ((List.getD a0.Arms (v1).toNat (ApiArmZ)).A).toNat (List.set (List.getD v2 ((List.getD a0.Arms (v1).toNat (ApiArmZ)).A).toNat []) ((List.getD a0.Arms (v1).toNat (ApiArmZ)).A).toNat y3)) ((List.getD a0.Arms (v1).toNat (ApiArmZ)).B).toNat []) ((List.getD a0.Arms (v1).toNat (ApiArmZ)).B).toNat y4)) ((List.getD a0.Arms (v1).toNat (ApiArmZ)).A).toNat (List.set (List.getD (List.set (List.set v2 ((List.getD a0.Arms (v1).toNat (ApiArmZ)).A).toNat (List.set (List.getD v2 ((List.getD a0.Arms (v1).toNat (ApiArmZ)).A).toNat []) ((List.getD a0.Arms (v1).toNat (ApiArmZ)).A).toNat y3)) ((List.getD a0.Arms (v1).toNat (ApiArmZ)).B).toNat (List.set (List.getD (List.set v2 ((List.getD a0.Arms (v1).toNat (ApiArmZ)).A).toNat (List.set (List.getD v2 ((List.getD a0.Arms (v1).toNat (ApiArmZ)).A).toNat []) ((List.getD a0.Arms (v1).toNat (ApiArmZ)).A).toNat y3)) ((List.getD a0.Arms (v1).toNat (ApiArmZ)).B).toNat []) ((List.getD a0.Arms (v1).toNat (ApiArmZ)).B).toNat y4)) ((List.getD a0.Arms (v1).toNat (ApiArmZ)).A).toNat []) ((List.getD a0.Arms (v1).toNat (ApiArmZ)).B).toNat y5)) ((List.getD a0.Arms (v1).toNat (ApiArmZ)).B).toNat []) ((List.getD a0.Arms (v1).toNat (ApiArmZ)).A).toNat y6)))
  else
    some (.inr v2)
def libLaplace (a0 : ApiGrid) : Option QmM :=
  Option.bind (qmNew a0.Nodes a0.Nodes) fun y1 =>
  Option.bind (iter (fun v : (Int × (List (List NumQ))) => libLaplaceL1 a0 y1 v.1 v.2) ((0 : Int), y1.V)) fun r1 =>
    some (⟨y1.C, r1⟩ : QmM)
def numQIsZero (a0 : NumQ) : Option Bool :=
  Option.bind (numZSign a0.N) fun y1 =>
  some (decide (y1 = (0 : Int)))
def numQMulJ1 (a0 : NumQ) (a1 : NumQ) : Option NumQ :=
  Option.bind (numZMul a0.N a1.N) fun y4 =>
  Option.bind (numZMul a0.D a1.D) fun y5 =>
  Option.bind (numOver y4 y5) fun y6 =>
  some y6
def numQMul (a0 : NumQ) (a1 : NumQ) : Option NumQ :=
  Option.bind (numQIsInt a0) fun y1 =>
  if y1 then
    Option.bind (numQIsInt a1) fun y2 =>
    if y2 then
      Option.bind (numZMul a0.N a1.N) fun y3 =>
      some (⟨y3, a0.D⟩ : NumQ)
    else
      numQMulJ1 a0 a1
  else
    numQMulJ1 a0 a1
def qmMCopyL1 (a0 : QmM) (v1 : Int) (v2 : (List (List NumQ))) : Option ((Int × (List (List NumQ))) ⊕ (List (List NumQ))) :=
  if decide (v1 < ((a0.V.length : Nat) : Int)) then
    need (inRange v1 a0.V.length) <|
    need ((List.getD a0.V (v1).toNat ([] : (List NumQ))).length * 80 ≤ maxBytes) <|
    need ((v2.length + 1) * 24 ≤ maxBytes) <|
    some (.inl (IntKind.wrap .i64 (v1 + (1 : Int)), v2 ++ [List.getD a0.V (v1).toNat ([] : (List NumQ))]))
  else
    some (.inr v2)
def qmMCopy (a0 : QmM) : Option QmM :=
  Option.bind (iter (fun v : (Int × (List (List NumQ))) => qmMCopyL1 a0 v.1 v.2) ((0 : Int), [])) fun r1 =>
    some (⟨a0.C, r1⟩ : QmM)
def qmMReduceL2 (a1 : Int) (v1 : Int) (v2 : Int) (v3 : (List Int)) (v4 : Bool) (v5 : Int) (v6 : (List Int)) (v7 : Bool) (v8 : (List Int)) (v9 : (List (List NumQ))) (y1 : QmM) (v10 : Int) (v11 : Bool) : Option ((Int × Bool) ⊕ (Int × Bool)) :=
  if decide (v10 < ((v9.length : Nat) : Int)) then
    need (inRange v10 v9.length) <|
    need (inRange v1 (List.getD v9 v10.toNat []).length) <|
    Option.bind (numQIsZero (⟨((List.getD (List.getD v9 v10.toNat []) v1.toNat (NumQZ)).N), ((List.getD (List.getD v9 v10.toNat []) v1.toNat (NumQZ)).D)⟩ : NumQ)) fun y3 =>
    if y3 then
      some (.inl (IntKind.wrap .i64 (v10 + (1 : Int)), v11))
    else
      some (.inr (v10, v11))
  else
    some (.inr (v10, v11))
def qmMReduceL3 (a1 : Int) (v1 : Int) (v8 : (List Int)) (v9 : (List (List NumQ))) (r1 : (Int × Bool)) (y1 : QmM) (y5 : NumQ) (v21 : Int) (v22 : Int) (v23 : Int) (v24 : (List Int)) (v25 : Bool) (v26 : Int) (v27 : (List Int)) (v28 : Bool) (v29 : (List (List NumQ))) : Option ((Int × Int × Int × (List Int) × Bool × Int × (List Int) × Bool × (List (List NumQ))) ⊕ (List (List NumQ))) :=
  if decide (v22 < v21) then
    need (inRange ((v8.length : Nat) : Int) v29.length) <|
    need (inRange ((v8.length : Nat) : Int) v29.length) <|
    need (inRange v22 (List.getD v29 ((v8.length : Nat) : Int).toNat []).length) <|
    Option.bind (numQDiv (⟨((List.getD (List.getD v29 ((v8.length : Nat) : Int).toNat []) v22.toNat (NumQZ)).N), ((List.getD (List.getD v29 ((v8.length : Nat) : Int).toNat []) v22.toNat (NumQZ)).D)⟩ : NumQ) (⟨(⟨v23, v24, v25⟩ : NumZ), (⟨v26, v27, v28⟩ : NumZ)⟩ : NumQ)) fun y6 =>
    need (inRange v22 (List.getD v29 ((v8.length : Nat) : Int).toNat []).length) <|
    some (.inl (v21, IntKind.wrap .i64 (v22 + (1 : Int)), v23, v24, v25, v26, v27, v28, List.set v29 ((v8.length : Nat) : Int).toNat (List.set (List.getD v29 ((v8.length : Nat) : Int).toNat []) v22.toNat y6)))
  else
    some (.inr v29)
def qmMReduceJ2 (a1 : Int) (v1 : Int) (v8 : (List Int)) (v9 : (List (List NumQ))) (v31 : Int) (v32 : (List (List NumQ))) (r1 : (Int × Bool)) (r2 : (List (List NumQ))) (y1 : QmM) (y5 : NumQ) : Option ((Int × (List (List NumQ))) ⊕ (List (List NumQ))) :=
  some (.inl (IntKind.wrap .i64 (v31 + (1 : Int)), v32))
def qmMReduceJ3 (a1 : Int) (v1 : Int) (v8 : (List Int)) (v9 : (List (List NumQ))) (v31 : Int) (v32 : (List (List NumQ))) (v33 : NumQ) (v34 : Int) (v35 : Int) (v36 : (List Int)) (v37 : Bool) (v38 : Int) (v39 : (List Int)) (v40 : Bool) (v42 : (List (List NumQ))) (r1 : (Int × Bool)) (r2 : (List (List NumQ))) (y1 : QmM) (y5 : NumQ) (y7 : Bool) : Option ((NumQ × Int × Int × (List Int) × Bool × Int × (List Int) × Bool × (List (List NumQ))) ⊕ (NumQ × (List (List NumQ)))) :=
  some (.inl (v33, IntKind.wrap .i64 (v34 + (1 : Int)), v35, v36, v37, v38, v39, v40, v42))
def qmMReduceL5 (a1 : Int) (v1 : Int) (v8 : (List Int)) (v9 : (List (List NumQ))) (v31 : Int) (v32 : (List (List NumQ))) (r1 : (Int × Bool)) (r2 : (List (List NumQ))) (y1 : QmM) (y5 : NumQ) (y7 : Bool) (v33 : NumQ) (v34 : Int) (v35 : Int) (v36 : (List Int)) (v37 : Bool) (v38 : Int) (v39 : (List Int)) (v40 : Bool) (v41 : (List (List NumQ))) : Option ((NumQ × Int × Int × (List Int) × Bool × Int × (List Int) × Bool × (List (List NumQ))) ⊕ (NumQ × (List (List NumQ)))) :=
  if decide (v34 < (((List.getD v32 v31.toNat []).length : Nat) : Int)) then
    need (inRange ((v8.length : Nat) : Int) v41.length) <|
    need (inRange v34 (List.getD v41 ((v8.length : Nat) : Int).toNat []).length) <|
    Option.bind (numQIsZero (⟨((List.getD (List.getD v41 ((v8.length : Nat) : Int).toNat []) v34.toNat (NumQZ)).N), ((List.getD (List.getD v41 ((v8.length : Nat) : Int).toNat []) v34.toNat (NumQZ)).D)⟩ : NumQ)) fun y8 =>
    if !y8 then
      need (inRange v31 v41.length) <|
      need (inRange v31 v41.length) <|
      need (inRange v34 (List.getD v41 v31.toNat []).length) <|
      need (inRange ((v8.length : Nat) : Int) v41.length) <|
      need (inRange v34 (List.getD v41 ((v8.length : Nat) : Int).toNat []).length) <|
      Option.bind (numQMul (⟨(⟨v35, v36, v37⟩ : NumZ), (⟨v38, v39, v40⟩ : NumZ)⟩ : NumQ) (⟨((List.getD (List.getD v41 ((v8.length : Nat) : Int).toNat []) v34.toNat (NumQZ)).N), ((List.getD (List.getD v41 ((v8.length : Nat) : Int).toNat []) v34.toNat (NumQZ)).D)⟩ : NumQ)) fun y9 =>
      Option.bind (numQSub (⟨((List.getD (List.getD v41 v31.toNat []) v34.toNat (NumQZ)).N), ((List.getD (List.getD v41 v31.toNat []) v34.toNat (NumQZ)).D)⟩ : NumQ) y9) fun y10 =>
      need (inRange v34 (List.getD v41 v31.toNat []).length) <|
      qmMReduceJ3 a1 v1 v8 v9 v31 v32 v33 v34 v35 v36 v37 v38 v39 v40 (List.set v41 v31.toNat (List.set (List.getD v41 v31.toNat []) v34.toNat y10)) r1 r2 y1 y5 y7
    else
      qmMReduceJ3 a1 v1 v8 v9 v31 v32 v33 v34 v35 v36 v37 v38 v39 v40 v41 r1 r2 y1 y5 y7
  else
    some (.inr (v33, v41))
def qmMReduceL4 (a1 : Int) (v1 : Int) (v8 : (List Int)) (v9 : (List (List NumQ))) (r1 : (Int × Bool)) (r2 : (List (List NumQ))) (y1 : QmM) (y5 : NumQ) (v31 : Int) (v32 : (List (List NumQ))) : Option ((Int × (List (List NumQ))) ⊕ (List (List NumQ))) :=
  if decide (v31 < ((r2.length : Nat) : Int)) then
    need (inRange v31 v32.length) <|
    need (inRange v1 (List.getD v32 v31.toNat []).length) <|
    if decide (v31 = ((v8.length : Nat) : Int)) then
      qmMReduceJ2 a1 v1 v8 v9 v31 v32 r1 r2 y1 y5
    else
      Option.bind (numQIsZero (⟨((List.getD (List.getD v32 v31.toNat []) v1.toNat (NumQZ)).N), ((List.getD (List.getD v32 v31.toNat []) v1.toNat (NumQZ)).D)⟩ : NumQ)) fun y7 =>
      if y7 then
        qmMReduceJ2 a1 v1 v8 v9 v31 v32 r1 r2 y1 y5
      else
        need (inRange v31 v32.length) <|
        Option.bind (iter (fun v : (NumQ × Int × Int × (List Int) × Bool × Int × (List Int) × Bool × (List (List NumQ))) => qmMReduceL5 a1 v1 v8 v9 v31 v32 r1 r2 y1 y5 y7 v.1 v.2.1 v.2.2.1 v.2.2.2.1 v.2.2.2.2.1 v.2.2.2.2.2.1 v.2.2.2.2.2.2.1 v.2.2.2.2.2.2.2.1 v.2.2.2.2.2.2.2.2) ((⟨((List.getD (List.getD v32 v31.toNat []) v1.toNat (NumQZ)).N), ((List.getD (List.getD v32 v31.toNat []) v1.toNat (NumQZ)).D)⟩ : NumQ), (0 : Int), ((List.getD (List.getD v32 v31.toNat []) v1.toNat (NumQZ)).N).v, ((List.getD (List.getD v32 v31.toNat []) v1.toNat (NumQZ)).N).m, ((List.getD (List.getD v32 v31.toNat []) v1.toNat (NumQZ)).N).neg, ((List.getD (List.getD v32 v31.toNat []) v1.toNat (NumQZ)).D).v, ((List.getD (List.getD v32 v31.toNat []) v1.toNat (NumQZ)).D).m, ((List.getD (List.getD v32 v31.toNat []) v1.toNat (NumQZ)).D).neg, v32)) fun r3 =>
          some (.inl (IntKind.wrap .i64 (v31 + (1 : Int)), r3.2))
  else
    some (.inr v32)
def qmMReduceJ1 (a1 : Int) (v1 : Int) (v8 : (List Int)) (v9 : (List (List NumQ))) (v14 : Int) (v15 : (List Int)) (v16 : Bool) (v17 : Int) (v18 : (List Int)) (v19 : Bool) (v20 : (List (List NumQ))) (r1 : (Int × Bool)) (y1 : QmM) : Option ((Int × Int × (List Int) × Bool × Int × (List Int) × Bool × (List Int) × (List (List NumQ))) ⊕ (Int × (List Int) × Bool × Int × (List Int) × Bool × (List Int) × (List (List NumQ)))) :=
  need (inRange ((v8.length : Nat) : Int) v20.length) <|
  need (inRange v1 (List.getD v20 ((v8.length : Nat) : Int).toNat []).length) <|
  Option.bind (numQMul (⟨(⟨v14, v15, v16⟩ : NumZ), (⟨v17, v18, v19⟩ : NumZ)⟩ : NumQ) (⟨((List.getD (List.getD v20 ((v8.length : Nat) : Int).toNat []) v1.toNat (NumQZ)).N), ((List.getD (List.getD v20 ((v8.length : Nat) : Int).toNat []) v1.toNat (NumQZ)).D)⟩ : NumQ)) fun y5 =>
  need (inRange ((v8.length : Nat) : Int) v20.length) <|
  Option.bind (iter (fun v : (Int × Int × Int × (List Int) × Bool × Int × (List Int) × Bool × (List (List NumQ))) => qmMReduceL3 a1 v1 v8 v9 r1 y1 y5 v.1 v.2.1 v.2.2.1 v.2.2.2.1 v.2.2.2.2.1 v.2.2.2.2.2.1 v.2.2.2.2.2.2.1 v.2.2.2.2.2.2.2.1 v.2.2.2.2.2.2.2.2) ((((List.getD v20 ((v8.length : Nat) : Int).toNat []).length : Nat) : Int), (0 : Int), ((List.getD (List.getD v20 ((v8.length : Nat) : Int).toNat []) v1.toNat (NumQZ)).N).v, ((List.getD (List.getD v20 ((v8.length : Nat) : Int).toNat []) v1.toNat (NumQZ)).N).m, ((List.getD (List.getD v20 ((v8.length : Nat) : Int).toNat []) v1.toNat (NumQZ)).N).neg, ((List.getD (List.getD v20 ((v8.length : Nat) : Int).toNat []) v1.toNat (NumQZ)).D).v, ((List.getD (List.getD v20 ((v8.length : Nat) : Int).toNat []) v1.toNat (NumQZ)).D).m, ((List.getD (List.getD v20 ((v8.length : Nat) : Int).toNat []) v1.toNat (NumQZ)).D).neg, v20)) fun r2 =>
    Option.bind (iter (fun v : (Int × (List (List NumQ))) => qmMReduceL4 a1 v1 v8 v9 r1 r2 y1 y5 v.1 v.2) ((0 : Int), r2)) fun r4 =>
      need ((v8.length + [v1].length) * 8 ≤ maxBytes) <|
      some (.inl (IntKind.wrap .i64 (v1 + (1 : Int)), y5.N.v, y5.N.m, y5.N.neg, y5.D.v, y5.D.m, y5.D.neg, v8 ++ [v1], r4))
def qmMReduceL1 (a1 : Int) (y1 : QmM) (v1 : Int) (v2 : Int) (v3 : (List Int)) (v4 : Bool) (v5 : Int) (v6 : (List Int)) (v7 : Bool) (v8 : (List Int)) (v9 : (List (List NumQ))) : Option ((Int × Int × (List Int) × Bool × Int × (List Int) × Bool × (List Int) × (List (List NumQ))) ⊕ (Int × (List Int) × Bool × Int × (List Int) × Bool × (List Int) × (List (List NumQ)))) :=
  if decide (v1 < a1) then
    if decide (((v8.length : Nat) : Int) < ((v9.length : Nat) : Int)) then
      Option.bind (iter (fun v : (Int × Bool) => qmMReduceL2 a1 v1 v2 v3 v4 v5 v6 v7 v8 v9 y1 v.1 v.2) (((v8.length : Nat) : Int), decide (((v8.length : Nat) : Int) < ((v9.length : Nat) : Int)))) fun r1 =>
        if decide (r1.1 = ((v9.length : Nat) : Int)) then
          some (.inl (IntKind.wrap .i64 (v1 + (1 : Int)), v2, v3, v4, v5, v6, v7, v8, v9))
        else
          if !decide (r1.1 = ((v8.length : Nat) : Int)) then
            need (inRange ((v8.length : Nat) : Int) v9.length) <|
            need (inRange r1.1 v9.length) <|
            need (inRange r1.1 v9.length) <|
            need (inRange ((v8.length : Nat) : Int) v9.length) <|
            need (((v8.length : Nat) : Int) = ((v8.length : Nat) : Int)) <|
            need (r1.1 = r1.1) <|
            Option.bind (numQNeg (⟨(⟨v2, v3, v4⟩ : NumZ), (⟨v5, v6, v7⟩ : NumZ)⟩ : NumQ)) fun y4 =>
            qmMReduceJ1 a1 v1 v8 v9 y4.N.v y4.N.m y4.N.neg y4.D.v y4.D.m y4.D.neg (List.set (List.set v9 r1.1.toNat (List.getD v9 ((v8.length : Nat) : Int).toNat [])) ((v8.length : Nat) : Int).toNat (List.getD v9 r1.1.toNat [])) r1 y1
          else
            qmMReduceJ1 a1 v1 v8 v9 v2 v3 v4 v5 v6 v7 v9 r1 y1
    else
      some (.inr (v2, v3, v4, v5, v6, v7, v8, v9))
  else
    some (.inr (v2, v3, v4, v5, v6, v7, v8, v9))
def qmMReduce (a0 : QmM) (a1 : Int) : Option (QmM × (List Int) × NumQ) :=
  Option.bind (qmMCopy a0) fun y1 =>
  Option.bind (numInt (1 : Int)) fun y2 =>
  Option.bind (iter (fun v : (Int × Int × (List Int) × Bool × Int × (List Int) × Bool × (List Int) × (List (List NumQ))) => qmMReduceL1 a1 y1 v.1 v.2.1 v.2.2.1 v.2.2.2.1 v.2.2.2.2.1 v.2.2.2.2.2.1 v.2.2.2.2.2.2.1 v.2.2.2.2.2.2.2.1 v.2.2.2.2.2.2.2.2) ((0 : Int), y2.N.v, y2.N.m, y2.N.neg, y2.D.v, y2.D.m, y2.D.neg, [], y1.V)) fun r5 =>
    some ((⟨y1.C, r5.2.2.2.2.2.2.2⟩ : QmM), r5.2.2.2.2.2.2.1, (⟨(⟨r5.1, r5.2.1, r5.2.2.1⟩ : NumZ), (⟨r5.2.2.2.1, r5.2.2.2.2.1, r5.2.2.2.2.2.1⟩ : NumZ)⟩ : NumQ))
def qmMBesideL1 (a0 : QmM) (a1 : QmM) (v1 : Int) (v2 : (List (List NumQ))) : Option ((Int × (List (List NumQ))) ⊕ (List (List NumQ))) :=
  if decide (v1 < ((a0.V.length : Nat) : Int)) then
    need (inRange v1 a0.V.length) <|
    need ((List.getD a0.V (v1).toNat ([] : (List NumQ))).length * 80 ≤ maxBytes) <|
    need (inRange v1 a1.V.length) <|
    need (((List.getD a0.V (v1).toNat ([] : (List NumQ))).length + (List.getD a1.V (v1).toNat ([] : (List NumQ))).length) * 80 ≤ maxBytes) <|
    need ((v2.length + 1) * 24 ≤ maxBytes) <|
    some (.inl (IntKind.wrap .i64 (v1 + (1 : Int)), v2 ++ [(List.getD a0.V (v1).toNat ([] : (List NumQ))) ++ (List.getD a1.V (v1).toNat ([] : (List NumQ)))]))
  else
    some (.inr v2)
def qmMBeside (a0 : QmM) (a1 : QmM) : Option QmM :=
  Option.bind (iter (fun v : (Int × (List (List NumQ))) => qmMBesideL1 a0 a1 v.1 v.2) ((0 : Int), [])) fun r1 =>
    some (⟨IntKind.wrap .i64 (a0.C + a1.C), r1⟩ : QmM)
def qmColumnL1 (a0 : (List NumQ)) (v1 : Int) (v2 : (List (List NumQ))) : Option ((Int × (List (List NumQ))) ⊕ (List (List NumQ))) :=
  if decide (v1 < ((a0.length : Nat) : Int)) then
    need (inRange v1 a0.length) <|
    need ((v2.length + [[(⟨((List.getD a0 (v1).toNat (NumQZ)).N), ((List.getD a0 (v1).toNat (NumQZ)).D)⟩ : NumQ)]].length) * 24 ≤ maxBytes) <|
    some (.inl (IntKind.wrap .i64 (v1 + (1 : Int)), v2 ++ [[(⟨((List.getD a0 (v1).toNat (NumQZ)).N), ((List.getD a0 (v1).toNat (NumQZ)).D)⟩ : NumQ)]]))
  else
    some (.inr v2)
def qmColumn (a0 : (List NumQ)) : Option QmM :=
  Option.bind (iter (fun v : (Int × (List (List NumQ))) => qmColumnL1 a0 v.1 v.2) ((0 : Int), [])) fun r1 =>
    some (⟨(1 : Int), r1⟩ : QmM)
def qmKernelL1 (a0 : QmM) (a1 : (List Int)) (a2 : Int) (v1 : Int) (v2 : (List Bool)) : Option ((Int × (List Bool)) ⊕ (List Bool)) :=
  if decide (v1 < ((a1.length : Nat) : Int)) then
    need (inRange v1 a1.length) <|
    need (inRange (List.getD a1 (v1).toNat (0 : Int)) v2.length) <|
    some (.inl (IntKind.wrap .i64 (v1 + (1 : Int)), List.set v2 (List.getD a1 (v1).toNat (0 : Int)).toNat true))
  else
    some (.inr v2)
def qmKernelL3 (a0 : QmM) (a1 : (List Int)) (a2 : Int) (v4 : Int) (v5 : (List (List NumQ))) (r1 : (List Bool)) (v6 : Int) (v7 : Int) (v8 : (List NumQ)) : Option ((Int × Int × (List NumQ)) ⊕ (List NumQ)) :=
  if decide (v7 < v6) then
    Option.bind (numInt (0 : Int)) fun y1 =>
    need (inRange v7 v8.length) <|
    some (.inl (v6, IntKind.wrap .i64 (v7 + (1 : Int)), List.set v8 v7.toNat y1))
  else
    some (.inr v8)
def qmKernelL4 (a0 : QmM) (a1 : (List Int)) (a2 : Int) (v4 : Int) (v5 : (List (List NumQ))) (r1 : (List Bool)) (v10 : Int) (v11 : (List NumQ)) : Option ((Int × (List NumQ)) ⊕ (List NumQ)) :=
  if decide (v10 < ((a1.length : Nat) : Int)) then
    need (inRange v10 a1.length) <|
    need (inRange v10 a0.V.length) <|
    need (inRange v4 (List.getD a0.V (v10).toNat ([] : (List NumQ))).length) <|
    Option.bind (numQNeg (⟨((List.getD (List.getD a0.V (v10).toNat ([] : (List NumQ))) (v4).toNat (NumQZ)).N), ((List.getD (List.getD a0.V (v10).toNat ([] : (List NumQ))) (v4).toNat (NumQZ)).D)⟩ : NumQ)) fun y3 =>
    need (inRange (List.getD a1 (v10).toNat (0 : Int)) v11.length) <|
    some (.inl (IntKind.wrap .i64 (v10 + (1 : Int)), List.set v11 (List.getD a1 (v10).toNat (0 : Int)).toNat y3))
  else
    some (.inr v11)
def qmKernelL2 (a0 : QmM) (a1 : (List Int)) (a2 : Int) (r1 : (List Bool)) (v4 : Int) (v5 : (List (List NumQ))) : Option ((Int × (List (List NumQ))) ⊕ (List (List NumQ))) :=
  if decide (v4 < a2) then
    need (inRange v4 r1.length) <|
    if List.getD r1 v4.toNat false then
      some (.inl (IntKind.wrap .i64 (v4 + (1 : Int)), v5))
    else
      need (0 ≤ a2) <|
      need (a2 ≤ a2) <|
      need (a2 * ((80 : Nat) : Int) ≤ ((maxBytes : Nat) : Int)) <|
      Option.bind (iter (fun v : (Int × Int × (List NumQ)) => qmKernelL3 a0 a1 a2 v4 v5 r1 v.1 v.2.1 v.2.2) ((((List.replicate (a2).toNat (⟨(⟨(0 : Int), [], false⟩ : NumZ), (⟨(0 : Int), [], false⟩ : NumZ)⟩ : NumQ)).length : Nat) : Int), (0 : Int), List.replicate (a2).toNat (⟨(⟨(0 : Int), [], false⟩ : NumZ), (⟨(0 : Int), [], false⟩ : NumZ)⟩ : NumQ))) fun r2 =>
        Option.bind (numInt (1 : Int)) fun y2 =>
        need (inRange v4 r2.length) <|
        Option.bind (iter (fun v : (Int × (List NumQ)) => qmKernelL4 a0 a1 a2 v4 v5 r1 v.1 v.2) ((0 : Int), List.set r2 v4.toNat y2)) fun r3 =>
          need ((v5.length + 1) * 24 ≤ maxBytes) <|
          some (.inl (IntKind.wrap .i64 (v4 + (1 : Int)), v5 ++ [r3]))
  else
    some (.inr v5)
def qmKernel (a0 : QmM) (a1 : (List Int)) (a2 : Int) : Option (List (List NumQ)) :=
  need (0 ≤ a2) <|
  need (a2 ≤ a2) <|
  need (a2 * ((1 : Nat) : Int) ≤ ((maxBytes : Nat) : Int)) <|
  Option.bind (iter (fun v : (Int × (List Bool)) => qmKernelL1 a0 a1 a2 v.1 v.2) ((0 : Int), List.replicate (a2).toNat false)) fun r1 =>
    Option.bind (iter (fun v : (Int × (List (List NumQ))) => qmKernelL2 a0 a1 a2 r1 v.1 v.2) ((0 : Int), [])) fun r4 =>
      some r4
def qmMSolveL1 (a0 : QmM) (y3 : (QmM × (List Int) × NumQ)) (v1 : Int) : Option (Int ⊕ (Unit ⊕ ((List NumQ) × (List (List NumQ)) × Bool))) :=
  if decide (v1 < ((y3.1.V.length : Nat) : Int)) then
    need (inRange v1 y3.1.V.length) <|
    need (inRange a0.C (List.getD y3.1.V (v1).toNat ([] : (List NumQ))).length) <|
    Option.bind (numQIsZero (⟨((List.getD (List.getD y3.1.V (v1).toNat ([] : (List NumQ))) (a0.C).toNat (NumQZ)).N), ((List.getD (List.getD y3.1.V (v1).toNat ([] : (List NumQ))) (a0.C).toNat (NumQZ)).D)⟩ : NumQ)) fun y4 =>
    if !y4 then
      some (.inr (.inr ([], [], false)))
    else
      some (.inl (IntKind.wrap .i64 (v1 + (1 : Int))))
  else
    some (.inr (.inl ()))
def qmMSolveL2 (a0 : QmM) (y3 : (QmM × (List Int) × NumQ)) (v2 : Int) (v3 : Int) (v4 : (List NumQ)) : Option ((Int × Int × (List NumQ)) ⊕ (List NumQ)) :=
  if decide (v3 < v2) then
    Option.bind (numInt (0 : Int)) fun y5 =>
    need (inRange v3 v4.length) <|
    some (.inl (v2, IntKind.wrap .i64 (v3 + (1 : Int)), List.set v4 v3.toNat y5))
  else
    some (.inr v4)
def qmMSolveL3 (a0 : QmM) (y3 : (QmM × (List Int) × NumQ)) (v6 : Int) (v7 : (List NumQ)) : Option ((Int × (List NumQ)) ⊕ (List NumQ)) :=
  if decide (v6 < ((y3.2.1.length : Nat) : Int)) then
    need (inRange v6 y3.2.1.length) <|
    need (inRange v6 y3.1.V.length) <|
    need (inRange a0.C (List.getD y3.1.V (v6).toNat ([] : (List NumQ))).length) <|
    need (inRange (List.getD y3.2.1 (v6).toNat (0 : Int)) v7.length) <|
    some (.inl (IntKind.wrap .i64 (v6 + (1 : Int)), List.set v7 (List.getD y3.2.1 (v6).toNat (0 : Int)).toNat (⟨((List.getD (List.getD y3.1.V (v6).toNat ([] : (List NumQ))) (a0.C).toNat (NumQZ)).N), ((List.getD (List.getD y3.1.V (v6).toNat ([] : (List NumQ))) (a0.C).toNat (NumQZ)).D)⟩ : NumQ)))
  else
    some (.inr v7)
def qmMSolve (a0 : QmM) (a1 : (List NumQ)) : Option ((List NumQ) × (List (List NumQ)) × Bool) :=
  Option.bind (qmColumn a1) fun y1 =>
  Option.bind (qmMBeside a0 y1) fun y2 =>
  Option.bind (qmMReduce y2 a0.C) fun y3 =>
  Option.bind (iter (fun v : Int => qmMSolveL1 a0 y3 v) ((y3.2.1.length : Nat) : Int)) fun r =>
  match r with
  | .inl r1 =>
    need (0 ≤ a0.C) <|
    need (a0.C ≤ a0.C) <|
    need (a0.C * ((80 : Nat) : Int) ≤ ((maxBytes : Nat) : Int)) <|
    Option.bind (iter (fun v : (Int × Int × (List NumQ)) => qmMSolveL2 a0 y3 v.1 v.2.1 v.2.2) ((((List.replicate (a0.C).toNat (⟨(⟨(0 : Int), [], false⟩ : NumZ), (⟨(0 : Int), [], false⟩ : NumZ)⟩ : NumQ)).length : Nat) : Int), (0 : Int), List.replicate (a0.C).toNat (⟨(⟨(0 : Int), [], false⟩ : NumZ), (⟨(0 : Int), [], false⟩ : NumZ)⟩ : NumQ))) fun r2 =>
      Option.bind (iter (fun v : (Int × (List NumQ)) => qmMSolveL3 a0 y3 v.1 v.2) ((0 : Int), r2)) fun r3 =>
        Option.bind (qmKernel y3.1 y3.2.1 a0.C) fun y6 =>
        some (r3, y6, true)
  | .inr r4 =>
    some r4
def libSolvedJ1 (a0 : ApiGrid) (v1 : Int) (v4 : (List NumQ)) (v5 : (List (List NumQ))) (y1 : QmM) (y2 : (List Int)) : Option ((Int × (List NumQ) × (List (List NumQ))) ⊕ ((List NumQ) × (List (List NumQ)))) :=
  some (.inl (IntKind.wrap .i64 (v1 + (1 : Int)), v4, v5))
def libSolvedL1 (a0 : ApiGrid) (y1 : QmM) (y2 : (List Int)) (v1 : Int) (v2 : (List NumQ)) (v3 : (List (List NumQ))) : Option ((Int × (List NumQ) × (List (List NumQ))) ⊕ ((List NumQ) × (List (List NumQ)))) :=
  if decide (v1 < ((y2.length : Nat) : Int)) then
    need (inRange v1 y2.length) <|
    if decide (v1 = (List.getD y2 (v1).toNat (0 : Int))) then
      Option.bind (qmNew (1 : Int) a0.Nodes) fun y3 =>
      need (inRange (0 : Int) y3.V.length) <|
      Option.bind (numInt (1 : Int)) fun y4 =>
      need (inRange v1 (List.getD y3.V (0 : Int).toNat []).length) <|
      Option.bind (numInt (0 : Int)) fun y5 =>
      need (inRange v1 v3.length) <|
      need (inRange v1 v2.length) <|
      libSolvedJ1 a0 v1 (List.set v2 v1.toNat y5) (List.set v3 v1.toNat (List.getD (List.set y3.V (0 : Int).toNat (List.set (List.getD y3.V (0 : Int).toNat []) v1.toNat y4)) (0 : Int).toNat [])) y1 y2
    else
      libSolvedJ1 a0 v1 v2 v3 y1 y2
  else
    some (.inr (v2, v3))
def libSolved (a0 : ApiGrid) (a1 : (List NumQ)) : Option (List NumQ) :=
  Option.bind (libLaplace a0) fun y1 =>
  Option.bind (libJoined a0) fun y2 =>
  Option.bind (iter (fun v : (Int × (List NumQ) × (List (List NumQ))) => libSolvedL1 a0 y1 y2 v.1 v.2.1 v.2.2) ((0 : Int), a1, y1.V)) fun r1 =>
    Option.bind (qmMSolve (⟨y1.C, r1.2⟩ : QmM) r1.1) fun y6 =>
    some y6.1
def numZIntJ1 : Option (Int × Bool) :=
  some ((0 : Int), false)
def numZInt (a0 : NumZ) (a1 : Int) : Option (Int × Bool) :=
  if !List.isEmpty a0.m then
    numZIntJ1
  else
    if decide (a1 < a0.v) then
      numZIntJ1
    else
      if decide (a0.v < (IntKind.wrap .i64 (0 - a1))) then
        numZIntJ1
      else
        some (a0.v, true)
def numQOutJ1 : Option (ApiRat × Bool) :=
  some ((⟨(0 : Int), (0 : Int)⟩ : ApiRat), false)
def numQOut (a0 : NumQ) : Option (ApiRat × Bool) :=
  Option.bind (numZInt a0.N (1000000000000 : Int)) fun y1 =>
  Option.bind (numZInt a0.D (1000000000000 : Int)) fun y2 =>
  if !y1.2 then
    numQOutJ1
  else
    if !y2.2 then
      numQOutJ1
    else
      some ((⟨y1.1, y2.1⟩ : ApiRat), true)
def libNumber (a0 : NumQ) : Option (ApiRat × Int) :=
  Option.bind (numQOut a0) fun y1 =>
  if !y1.2 then
    some ((⟨(0 : Int), (0 : Int)⟩ : ApiRat), (3 : Int))
  else
    some (y1.1, (0 : Int))
def libBetweenJ1 : Option (ApiRat × Int) :=
  some ((⟨(0 : Int), (0 : Int)⟩ : ApiRat), (1 : Int))
def libBetweenL1 (a0 : ApiGrid) (a1 : Int) (a2 : Int) (v1 : Int) (v2 : Int) (v3 : (List NumQ)) : Option ((Int × Int × (List NumQ)) ⊕ (List NumQ)) :=
  if decide (v2 < v1) then
    Option.bind (numInt (0 : Int)) fun y3 =>
    need (inRange v2 v3.length) <|
    some (.inl (v1, IntKind.wrap .i64 (v2 + (1 : Int)), List.set v3 v2.toNat y3))
  else
    some (.inr v3)
def libBetween (a0 : ApiGrid) (a1 : Int) (a2 : Int) : Option (ApiRat × Int) :=
  Option.bind (libGrid a0) fun y1 =>
  if !decide (y1 = (0 : Int)) then
    some ((⟨(0 : Int), (0 : Int)⟩ : ApiRat), y1)
  else
    if decide (a1 < (0 : Int)) then
      libBetweenJ1
    else
      if decide (a0.Nodes ≤ a1) then
        libBetweenJ1
      else
        if decide (a2 < (0 : Int)) then
          libBetweenJ1
        else
          if decide (a0.Nodes ≤ a2) then
            libBetweenJ1
          else
            Option.bind (libJoined a0) fun y2 =>
            need (inRange a1 y2.length) <|
            need (inRange a2 y2.length) <|
            if !decide ((List.getD y2 (a1).toNat (0 : Int)) = (List.getD y2 (a2).toNat (0 : Int))) then
              some ((⟨(0 : Int), (0 : Int)⟩ : ApiRat), (4 : Int))
            else
              need (0 ≤ a0.Nodes) <|
              need (a0.Nodes ≤ a0.Nodes) <|
              need (a0.Nodes * ((80 : Nat) : Int) ≤ ((maxBytes : Nat) : Int)) <|
              Option.bind (iter (fun v : (Int × Int × (List NumQ)) => libBetweenL1 a0 a1 a2 v.1 v.2.1 v.2.2) ((((List.replicate (a0.Nodes).toNat (⟨(⟨(0 : Int), [], false⟩ : NumZ), (⟨(0 : Int), [], false⟩ : NumZ)⟩ : NumQ)).length : Nat) : Int), (0 : Int), List.replicate (a0.Nodes).toNat (⟨(⟨(0 : Int), [], false⟩ : NumZ), (⟨(0 : Int), [], false⟩ : NumZ)⟩ : NumQ))) fun r1 =>
                need (inRange a1 r1.length) <|
                Option.bind (numInt (1 : Int)) fun y4 =>
                Option.bind (numQAdd (⟨((List.getD r1 a1.toNat (NumQZ)).N), ((List.getD r1 a1.toNat (NumQZ)).D)⟩ : NumQ) y4) fun y5 =>
                need (inRange a1 r1.length) <|
                need (inRange a2 (List.set r1 a1.toNat y5).length) <|
                Option.bind (numInt (1 : Int)) fun y6 =>
                Option.bind (numQSub (⟨((List.getD (List.set r1 a1.toNat y5) a2.toNat (NumQZ)).N), ((List.getD (List.set r1 a1.toNat y5) a2.toNat (NumQZ)).D)⟩ : NumQ) y6) fun y7 =>
                need (inRange a2 (List.set r1 a1.toNat y5).length) <|
                Option.bind (libSolved a0 (List.set (List.set r1 a1.toNat y5) a2.toNat y7)) fun y8 =>
                need (inRange a1 y8.length) <|
                need (inRange a2 y8.length) <|
                Option.bind (numQSub (⟨((List.getD y8 (a1).toNat (NumQZ)).N), ((List.getD y8 (a1).toNat (NumQZ)).D)⟩ : NumQ) (⟨((List.getD y8 (a2).toNat (NumQZ)).N), ((List.getD y8 (a2).toNat (NumQZ)).D)⟩ : NumQ)) fun y9 =>
                Option.bind (libNumber y9) fun y10 =>
                some (y10.1, y10.2)
def qmMDet (a0 : QmM) : Option NumQ :=
  Option.bind (qmMReduce a0 a0.C) fun y1 =>
  if decide (((y1.2.1.length : Nat) : Int) < ((a0.V.length : Nat) : Int)) then
    Option.bind (numInt (0 : Int)) fun y2 =>
    some y2
  else
    some y1.2.2
def libTreesL1 (a0 : ApiGrid) (v1 : (List (List NumQ))) (v2 : Int) (v3 : Int) (v4 : (List (List NumQ))) : Option (((List (List NumQ)) × Int × Int × (List (List NumQ))) ⊕ (List (List NumQ))) :=
  if decide (v3 < v2) then
    need (inRange v3 v1.length) <|
    need ((0 : Int) ≤ (1 : Int)) <|
    need ((1 : Int) ≤ (((List.getD v1 (v3).toNat ([] : (List NumQ))).length : Nat) : Int)) <|
    need ((((List.getD v1 (v3).toNat ([] : (List NumQ))).length : Nat) : Int) ≤ (((List.getD v1 (v3).toNat ([] : (List NumQ))).length : Nat) : Int)) <|
    need ((v4.length + [(List.take ((((List.getD v1 (v3).toNat ([] : (List NumQ))).length : Nat) : Int).toNat - (1 : Int).toNat) (List.drop (1 : Int).toNat (List.getD v1 (v3).toNat ([] : (List NumQ)))))].length) * 24 ≤ maxBytes) <|
    some (.inl (v1, v2, IntKind.wrap .i64 (v3 + (1 : Int)), v4 ++ [(List.take ((((List.getD v1 (v3).toNat ([] : (List NumQ))).length : Nat) : Int).toNat - (1 : Int).toNat) (List.drop (1 : Int).toNat (List.getD v1 (v3).toNat ([] : (List NumQ)))))]))
  else
    some (.inr v4)
def libTrees (a0 : ApiGrid) : Option (ApiRat × Int) :=
  Option.bind (libGrid a0) fun y1 =>
  if !decide (y1 = (0 : Int)) then
    some ((⟨(0 : Int), (0 : Int)⟩ : ApiRat), y1)
  else
    Option.bind (libLaplace a0) fun y2 =>
    need ((0 : Int) ≤ (1 : Int)) <|
    need ((1 : Int) ≤ ((y2.V.length : Nat) : Int)) <|
    need (((y2.V.length : Nat) : Int) ≤ ((y2.V.length : Nat) : Int)) <|
    Option.bind (iter (fun v : ((List (List NumQ)) × Int × Int × (List (List NumQ))) => libTreesL1 a0 v.1 v.2.1 v.2.2.1 v.2.2.2) ((List.take (((y2.V.length : Nat) : Int).toNat - (1 : Int).toNat) (List.drop (1 : Int).toNat y2.V)), (((List.take (((y2.V.length : Nat) : Int).toNat - (1 : Int).toNat) (List.drop (1 : Int).toNat y2.V)).length : Nat) : Int), (0 : Int), [])) fun r1 =>
      Option.bind (qmMDet (⟨IntKind.wrap .i64 (a0.Nodes - (1 : Int)), r1⟩ : QmM)) fun y3 =>
      Option.bind (libNumber y3) fun y4 =>
      some (y4.1, y4.2)
def isoclinelaw32Known_1 (a0 : Int) : Option ApiRat :=
  some (⟨a0, (1 : Int)⟩ : ApiRat)
def libFlowL1 (a0 : ApiGrid) (v1 : Int) (v2 : Int) (v3 : (List NumQ)) : Option ((Int × Int × (List NumQ)) ⊕ (List NumQ)) :=
  if decide (v2 < v1) then
    Option.bind (numInt (0 : Int)) fun y1 =>
    need (inRange v2 v3.length) <|
    some (.inl (v1, IntKind.wrap .i64 (v2 + (1 : Int)), List.set v3 v2.toNat y1))
  else
    some (.inr v3)
def libFlowL2 (a0 : ApiGrid) (v5 : Int) (v6 : (List NumQ)) : Option ((Int × (List NumQ)) ⊕ (List NumQ)) :=
  if decide (v5 < ((a0.Arms.length : Nat) : Int)) then
    need (inRange v5 a0.Arms.length) <|
    Option.bind (libGuide (⟨(List.getD a0.Arms (v5).toNat (ApiArmZ)).A, (List.getD a0.Arms (v5).toNat (ApiArmZ)).B, ((List.getD a0.Arms (v5).toNat (ApiArmZ)).R), ((List.getD a0.Arms (v5).toNat (ApiArmZ)).E)⟩ : ApiArm)) fun y2 =>
    Option.bind (numOf ((List.getD a0.Arms (v5).toNat (ApiArmZ)).E)) fun y3 =>
    Option.bind (numQMul y2 y3) fun y4 =>
    need (inRange ((List.getD a0.Arms (v5).toNat (ApiArmZ)).A) v6.length) <|
    Option.bind (numQSub (⟨((List.getD v6 ((List.getD a0.Arms (v5).toNat (ApiArmZ)).A).toNat (NumQZ)).N), ((List.getD v6 ((List.getD a0.Arms (v5).toNat (ApiArmZ)).A).toNat (NumQZ)).D)⟩ : NumQ) y4) fun y5 =>
    need (inRange ((List.getD a0.Arms (v5).toNat (ApiArmZ)).A) v6.length) <|
    need (inRange ((List.getD a0.Arms (v5).toNat (ApiArmZ)).B) (List.set v6 ((List.getD a0.Arms (v5).toNat (ApiArmZ)).A).toNat y5).length) <|
    Option.bind (numQAdd (⟨((List.getD (List.set v6 ((List.getD a0.Arms (v5).toNat (ApiArmZ)).A).toNat y5) ((List.getD a0.Arms (v5).toNat (ApiArmZ)).B).toNat (NumQZ)).N), ((List.getD (List.set v6 ((List.getD a0.Arms (v5).toNat (ApiArmZ)).A).toNat y5) ((List.getD a0.Arms (v5).toNat (ApiArmZ)).B).toNat (NumQZ)).D)⟩ : NumQ) y4) fun y6 =>
    need (inRange ((List.getD a0.Arms (v5).toNat (ApiArmZ)).B) (List.set v6 ((List.getD a0.Arms (v5).toNat (ApiArmZ)).A).toNat y5).length) <|
    some (.inl (IntKind.wrap .i64 (v5 + (1 : Int)), List.set (List.set v6 ((List.getD a0.Arms (v5).toNat (ApiArmZ)).A).toNat y5) ((List.getD a0.Arms (v5).toNat (ApiArmZ)).B).toNat y6))
  else
    some (.inr v6)
def libFlowL3 (a0 : ApiGrid) (y7 : (List NumQ)) (v8 : Int) (v9 : (List NumQ)) : Option ((Int × (List NumQ)) ⊕ (List NumQ)) :=
  if decide (v8 < ((a0.Arms.length : Nat) : Int)) then
    need (inRange v8 a0.Arms.length) <|
    need (inRange ((List.getD a0.Arms (v8).toNat (ApiArmZ)).A) y7.length) <|
    need (inRange ((List.getD a0.Arms (v8).toNat (ApiArmZ)).B) y7.length) <|
    Option.bind (numQSub (⟨((List.getD y7 ((List.getD a0.Arms (v8).toNat (ApiArmZ)).A).toNat (NumQZ)).N), ((List.getD y7 ((List.getD a0.Arms (v8).toNat (ApiArmZ)).A).toNat (NumQZ)).D)⟩ : NumQ) (⟨((List.getD y7 ((List.getD a0.Arms (v8).toNat (ApiArmZ)).B).toNat (NumQZ)).N), ((List.getD y7 ((List.getD a0.Arms (v8).toNat (ApiArmZ)).B).toNat (NumQZ)).D)⟩ : NumQ)) fun y8 =>
    Option.bind (numOf ((List.getD a0.Arms (v8).toNat (ApiArmZ)).E)) fun y9 =>
    Option.bind (numQAdd y8 y9) fun y10 =>
    Option.bind (libGuide (⟨(List.getD a0.Arms (v8).toNat (ApiArmZ)).A, (List.getD a0.Arms (v8).toNat (ApiArmZ)).B, ((List.getD a0.Arms (v8).toNat (ApiArmZ)).R), ((List.getD a0.Arms (v8).toNat (ApiArmZ)).E)⟩ : ApiArm)) fun y11 =>
    Option.bind (numQMul y10 y11) fun y12 =>
    need ((v9.length + [y12].length) * 80 ≤ maxBytes) <|
    some (.inl (IntKind.wrap .i64 (v8 + (1 : Int)), v9 ++ [y12]))
  else
    some (.inr v9)
def libFlow (a0 : ApiGrid) : Option ((List NumQ) × (List NumQ)) :=
  need (0 ≤ a0.Nodes) <|
  need (a0.Nodes ≤ a0.Nodes) <|
  need (a0.Nodes * ((80 : Nat) : Int) ≤ ((maxBytes : Nat) : Int)) <|
  Option.bind (iter (fun v : (Int × Int × (List NumQ)) => libFlowL1 a0 v.1 v.2.1 v.2.2) ((((List.replicate (a0.Nodes).toNat (⟨(⟨(0 : Int), [], false⟩ : NumZ), (⟨(0 : Int), [], false⟩ : NumZ)⟩ : NumQ)).length : Nat) : Int), (0 : Int), List.replicate (a0.Nodes).toNat (⟨(⟨(0 : Int), [], false⟩ : NumZ), (⟨(0 : Int), [], false⟩ : NumZ)⟩ : NumQ))) fun r1 =>
    Option.bind (iter (fun v : (Int × (List NumQ)) => libFlowL2 a0 v.1 v.2) ((0 : Int), r1)) fun r2 =>
      Option.bind (libSolved a0 r2) fun y7 =>
      Option.bind (iter (fun v : (Int × (List NumQ)) => libFlowL3 a0 y7 v.1 v.2) ((0 : Int), [])) fun r3 =>
        some (y7, r3)
def numOutsL1 (a0 : (List NumQ)) (v1 : Int) (v2 : (List ApiRat)) : Option ((Int × (List ApiRat)) ⊕ ((List ApiRat) ⊕ ((List ApiRat) × Bool))) :=
  if decide (v1 < ((a0.length : Nat) : Int)) then
    need (inRange v1 a0.length) <|
    Option.bind (numQOut (⟨((List.getD a0 (v1).toNat (NumQZ)).N), ((List.getD a0 (v1).toNat (NumQZ)).D)⟩ : NumQ)) fun y1 =>
    if !y1.2 then
      some (.inr (.inr ([], false)))
    else
      need (inRange v1 v2.length) <|
      some (.inl (IntKind.wrap .i64 (v1 + (1 : Int)), List.set v2 v1.toNat y1.1))
  else
    some (.inr (.inl v2))
def numOuts (a0 : (List NumQ)) : Option ((List ApiRat) × Bool) :=
  need (0 ≤ ((a0.length : Nat) : Int)) <|
  need (((a0.length : Nat) : Int) ≤ ((a0.length : Nat) : Int)) <|
  need (((a0.length : Nat) : Int) * ((16 : Nat) : Int) ≤ ((maxBytes : Nat) : Int)) <|
  Option.bind (iter (fun v : (Int × (List ApiRat)) => numOutsL1 a0 v.1 v.2) ((0 : Int), List.replicate (((a0.length : Nat) : Int)).toNat (⟨(0 : Int), (0 : Int)⟩ : ApiRat))) fun r =>
  match r with
  | .inl r1 =>
    some (r1, true)
  | .inr r2 =>
    some r2
def libPotentialsJ1 : Option ((List ApiRat) × (List ApiRat) × Int) :=
  some ([], [], (3 : Int))
def libPotentials (a0 : ApiGrid) : Option ((List ApiRat) × (List ApiRat) × Int) :=
  Option.bind (libGrid a0) fun y1 =>
  if !decide (y1 = (0 : Int)) then
    some ([], [], y1)
  else
    Option.bind (libFlow a0) fun y2 =>
    Option.bind (numOuts y2.1) fun y3 =>
    Option.bind (numOuts y2.2) fun y4 =>
    if !y3.2 then
      libPotentialsJ1
    else
      if !y4.2 then
        libPotentialsJ1
      else
        some (y3.1, y4.1, (0 : Int))
def isoclineref02SameL1 (a0 : (List ApiRat)) (a1 : (List ApiRat)) (v1 : Int) : Option (Int ⊕ (Unit ⊕ Bool)) :=
  if decide (v1 < ((a0.length : Nat) : Int)) then
    if decide (v1 < ((a1.length : Nat) : Int)) then
      need (inRange v1 a0.length) <|
      need (inRange v1 a1.length) <|
      if !(decide (((List.getD a0 (v1).toNat (ApiRatZ)).N) = ((List.getD a1 (v1).toNat (ApiRatZ)).N)) && (decide (((List.getD a0 (v1).toNat (ApiRatZ)).D) = ((List.getD a1 (v1).toNat (ApiRatZ)).D)) && true)) then
        some (.inr (.inr false))
      else
        some (.inl (IntKind.wrap .i64 (v1 + (1 : Int))))
    else
      some (.inr (.inl ()))
  else
    some (.inr (.inl ()))
def isoclineref02Same (a0 : (List ApiRat)) (a1 : (List ApiRat)) : Option Bool :=
  Option.bind (iter (fun v : Int => isoclineref02SameL1 a0 a1 v) (0 : Int)) fun r =>
  match r with
  | .inl r1 =>
    some (decide (((a0.length : Nat) : Int) = ((a1.length : Nat) : Int)))
  | .inr r2 =>
    some r2
def isoclinelaw32Known : Option Bool :=
  Option.bind (isoclinelaw32Known_1 (1 : Int)) fun y1 =>
  Option.bind (isoclinelaw32Known_1 (3 : Int)) fun y2 =>
  Option.bind (isoclinelaw32Known_1 (1 : Int)) fun y3 =>
  Option.bind (isoclinelaw32Known_1 (0 : Int)) fun y4 =>
  Option.bind (isoclinelaw32Known_1 (1 : Int)) fun y5 =>
  Option.bind (isoclinelaw32Known_1 (0 : Int)) fun y6 =>
  Option.bind (libPotentials (⟨(3 : Int), [(⟨(0 : Int), (1 : Int), y1, y2⟩ : ApiArm), (⟨(1 : Int), (2 : Int), y3, y4⟩ : ApiArm), (⟨(2 : Int), (0 : Int), y5, y6⟩ : ApiArm)]⟩ : ApiGrid)) fun y7 =>
  Option.bind (libTrees (⟨(3 : Int), [(⟨(0 : Int), (1 : Int), y1, y2⟩ : ApiArm), (⟨(1 : Int), (2 : Int), y3, y4⟩ : ApiArm), (⟨(2 : Int), (0 : Int), y5, y6⟩ : ApiArm)]⟩ : ApiGrid)) fun y8 =>
  Option.bind (libBetween (⟨(3 : Int), [(⟨(0 : Int), (1 : Int), y1, y2⟩ : ApiArm), (⟨(1 : Int), (2 : Int), y3, y4⟩ : ApiArm), (⟨(2 : Int), (0 : Int), y5, y6⟩ : ApiArm)]⟩ : ApiGrid) (0 : Int) (1 : Int)) fun y9 =>
  Option.bind (isoclinelaw32Known_1 (1 : Int)) fun y10 =>
  Option.bind (isoclinelaw32Known_1 (1 : Int)) fun y11 =>
  Option.bind (isoclinelaw32Known_1 (1 : Int)) fun y12 =>
  Option.bind (isoclineref02Same y7.2.1 [y10, y11, y12]) fun y13 =>
  if y13 then
    if decide (y7.2.2 = (0 : Int)) then
      Option.bind (isoclinelaw32Known_1 (3 : Int)) fun y14 =>
      if (decide (y8.1.N = y14.N) && (decide (y8.1.D = y14.D) && true)) then
        if decide (y8.2 = (0 : Int)) then
          if (decide (y9.1.N = (2 : Int)) && (decide (y9.1.D = (3 : Int)) && true)) then
            some (decide (y9.2 = (0 : Int)))
          else
            some false
        else
          some false
      else
        some false
    else
      some false
  else
    some false
def isoclineref01IsOne (a0 : Isoclineref01Whole) : Option Bool :=
  if decide (((a0.d.length : Nat) : Int) = (1 : Int)) then
    need (inRange (0 : Int) a0.d.length) <|
    if decide ((List.getD a0.d ((0 : Int)).toNat (0 : Int)) = (1 : Int)) then
      some (!a0.minus)
    else
      some false
  else
    some false
def isoclineref01WholeIsNought (a0 : Isoclineref01Whole) : Option Bool :=
  some (decide (((a0.d.length : Nat) : Int) = (0 : Int)))
def isoclineref01Signed (a0 : (List Int)) (a1 : Bool) : Option Isoclineref01Whole :=
  if a1 then
    some (⟨a0, decide ((0 : Int) < ((a0.length : Nat) : Int))⟩ : Isoclineref01Whole)
  else
    some (⟨a0, false⟩ : Isoclineref01Whole)
def isoclineref01WholeNeg (a0 : Isoclineref01Whole) : Option Isoclineref01Whole :=
  Option.bind (isoclineref01Signed a0.d (!a0.minus)) fun y1 =>
  some y1
def isoclineref01TrimL1 (v1 : (List Int)) : Option ((List Int) ⊕ (List Int)) :=
  if decide ((0 : Int) < ((v1.length : Nat) : Int)) then
    need (inRange (IntKind.wrap .i64 (((v1.length : Nat) : Int) - (1 : Int))) v1.length) <|
    if decide ((List.getD v1 (IntKind.wrap .i64 (((v1.length : Nat) : Int) - (1 : Int))).toNat (0 : Int)) = (0 : Int)) then
      need ((0 : Int) ≤ (IntKind.wrap .i64 (((v1.length : Nat) : Int) - (1 : Int)))) <|
      need ((IntKind.wrap .i64 (((v1.length : Nat) : Int) - (1 : Int))) ≤ ((v1.length : Nat) : Int)) <|
      some (.inl (List.take (IntKind.wrap .i64 (((v1.length : Nat) : Int) - (1 : Int))).toNat v1))
    else
      some (.inr v1)
  else
    some (.inr v1)
def isoclineref01Trim (a0 : (List Int)) : Option (List Int) :=
  Option.bind (iter (fun v : (List Int) => isoclineref01TrimL1 v) a0) fun r1 =>
    some r1
def isoclineref01OrderL1 (a0 : (List Int)) (a1 : (List Int)) (v1 : Int) : Option (Int ⊕ (Unit ⊕ Int)) :=
  if decide ((0 : Int) ≤ v1) then
    need (inRange v1 a0.length) <|
    need (inRange v1 a1.length) <|
    if decide ((List.getD a0 (v1).toNat (0 : Int)) < (List.getD a1 (v1).toNat (0 : Int))) then
      some (.inr (.inr (-1 : Int)))
    else
      need (inRange v1 a0.length) <|
      need (inRange v1 a1.length) <|
      if decide ((List.getD a1 (v1).toNat (0 : Int)) < (List.getD a0 (v1).toNat (0 : Int))) then
        some (.inr (.inr (1 : Int)))
      else
        some (.inl (IntKind.wrap .i64 (v1 - (1 : Int))))
  else
    some (.inr (.inl ()))
def isoclineref01Order (a0 : (List Int)) (a1 : (List Int)) : Option Int :=
  if !decide (((a0.length : Nat) : Int) = ((a1.length : Nat) : Int)) then
    if decide (((a0.length : Nat) : Int) < ((a1.length : Nat) : Int)) then
      some (-1 : Int)
    else
      some (1 : Int)
  else
    Option.bind (iter (fun v : Int => isoclineref01OrderL1 a0 a1 v) (IntKind.wrap .i64 (((a0.length : Nat) : Int) - (1 : Int)))) fun r =>
    match r with
    | .inl r1 =>
      some (0 : Int)
    | .inr r2 =>
      some r2
def isoclineref01ShiftedL1 (a0 : (List Int)) (a1 : Int) (v1 : Int) (v2 : (List Int)) : Option ((Int × (List Int)) ⊕ (List Int)) :=
  if decide (v1 < ((a0.length : Nat) : Int)) then
    need (inRange v1 a0.length) <|
    need ((0 : Int) ≤ a1) <|
    need (inRange v1 v2.length) <|
    need (inRange v1 v2.length) <|
    need ((0 : Int) ≤ (32 : Int)) <|
    need (inRange (IntKind.wrap .i64 (v1 + (1 : Int))) (List.set v2 v1.toNat (IntKind.wrap .u32 ((((BitVec.ofInt (IntKind.bits .u32) (List.getD v2 v1.toNat (0 : Int)) ||| BitVec.ofInt (IntKind.bits .u32) (IntKind.wrap .u32 (IntKind.wrap .u64 ((IntKind.wrap .u64 (List.getD a0 (v1).toNat (0 : Int))) * 2 ^ (min a1.toNat (IntKind.bits .u64)))))).toNat : Nat) : Int)))).length) <|
    some (.inl (IntKind.wrap .i64 (v1 + (1 : Int)), List.set (List.set v2 v1.toNat (IntKind.wrap .u32 ((((BitVec.ofInt (IntKind.bits .u32) (List.getD v2 v1.toNat (0 : Int)) ||| BitVec.ofInt (IntKind.bits .u32) (IntKind.wrap .u32 (IntKind.wrap .u64 ((IntKind.wrap .u64 (List.getD a0 (v1).toNat (0 : Int))) * 2 ^ (min a1.toNat (IntKind.bits .u64)))))).toNat : Nat) : Int)))) (IntKind.wrap .i64 (v1 + (1 : Int))).toNat (IntKind.wrap .u32 (Int.fdiv (IntKind.wrap .u64 ((IntKind.wrap .u64 (List.getD a0 (v1).toNat (0 : Int))) * 2 ^ (min a1.toNat (IntKind.bits .u64)))) (2 ^ (min (32 : Int).toNat (IntKind.bits .u64)))))))
  else
    some (.inr v2)
def isoclineref01Shifted (a0 : (List Int)) (a1 : Int) : Option (List Int) :=
  need (0 ≤ (IntKind.wrap .i64 (((a0.length : Nat) : Int) + (1 : Int)))) <|
  need ((IntKind.wrap .i64 (((a0.length : Nat) : Int) + (1 : Int))) ≤ (IntKind.wrap .i64 (((a0.length : Nat) : Int) + (1 : Int)))) <|
  need ((IntKind.wrap .i64 (((a0.length : Nat) : Int) + (1 : Int))) * ((4 : Nat) : Int) ≤ ((maxBytes : Nat) : Int)) <|
  Option.bind (iter (fun v : (Int × (List Int)) => isoclineref01ShiftedL1 a0 a1 v.1 v.2) ((0 : Int), List.replicate (IntKind.wrap .i64 (((a0.length : Nat) : Int) + (1 : Int))).toNat (0 : Int))) fun r1 =>
    some r1
def isoclineref01WordL1 (a0 : List Int) (a1 : (List Int)) (a2 : Int) (a3 : Int) (wi : Int) (wn : Int) (v1 : Int) (v2 : Int) : Option ((Int × Int) ⊕ Int) :=
  if decide (v2 < (4294967296 : Int)) then
    need ((0 : Int) ≤ (32 : Int)) <|
    need ((0 : Int) ≤ (IntKind.wrap .i64 (((a1.length : Nat) : Int) - (2 : Int)))) <|
    need ((IntKind.wrap .i64 (((a1.length : Nat) : Int) - (2 : Int))) < wn) <|
    if decide ((IntKind.wrap .u64 ((((BitVec.ofInt (IntKind.bits .u64) (IntKind.wrap .u64 (v2 * 2 ^ (min (32 : Int).toNat (IntKind.bits .u64)))) ||| BitVec.ofInt (IntKind.bits .u64) (IntKind.wrap .u64 (List.getD a0 (wi + (IntKind.wrap .i64 (((a1.length : Nat) : Int) - (2 : Int)))).toNat (0 : Int)))).toNat : Nat) : Int))) < (IntKind.wrap .u64 (v1 * a3))) then
      some (.inl (IntKind.wrap .u64 (v1 - (1 : Int)), IntKind.wrap .u64 (v2 + a2)))
    else
      some (.inr v1)
  else
    some (.inr v1)
def isoclineref01WordJ1 (a1 : (List Int)) (v4 : Int) (v6 : Int) (v7 : (List Int)) (v8 : Int) (r1 : Int) (wi : Int) (wn : Int) : Option ((Int × Int × Int × (List Int)) ⊕ (Int × (List Int))) :=
  need ((0 : Int) ≤ v6) <|
  need (v6 < wn) <|
  need ((0 : Int) ≤ v6) <|
  need (v6 < wn) <|
  need ((0 : Int) ≤ (63 : Int)) <|
  need ((0 : Int) ≤ (32 : Int)) <|
  some (.inl (Int.fdiv (IntKind.wrap .u64 ((IntKind.wrap .u64 ((IntKind.wrap .u64 (List.getD v7 (wi + v6).toNat (0 : Int))) - (IntKind.wrap .u64 (IntKind.wrap .u32 v8)))) - v4)) (2 ^ (min (63 : Int).toNat (IntKind.bits .u64))), Int.fdiv v8 (2 ^ (min (32 : Int).toNat (IntKind.bits .u64))), IntKind.wrap .i64 (v6 + (1 : Int)), List.set v7 (wi + v6).toNat (IntKind.wrap .u32 (IntKind.wrap .u64 ((IntKind.wrap .u64 ((IntKind.wrap .u64 (List.getD v7 (wi + v6).toNat (0 : Int))) - (IntKind.wrap .u64 (IntKind.wrap .u32 v8)))) - v4)))))
def isoclineref01WordL2 (a1 : (List Int)) (r1 : Int) (wi : Int) (wn : Int) (v4 : Int) (v5 : Int) (v6 : Int) (v7 : (List Int)) : Option ((Int × Int × Int × (List Int)) ⊕ (Int × (List Int))) :=
  if decide (v6 ≤ ((a1.length : Nat) : Int)) then
    if decide (v6 < ((a1.length : Nat) : Int)) then
      need (inRange v6 a1.length) <|
      isoclineref01WordJ1 a1 v4 v6 v7 (IntKind.wrap .u64 (v5 + (IntKind.wrap .u64 (r1 * (IntKind.wrap .u64 (List.getD a1 (v6).toNat (0 : Int))))))) r1 wi wn
    else
      isoclineref01WordJ1 a1 v4 v6 v7 v5 r1 wi wn
  else
    some (.inr (v4, v7))
def isoclineref01WordJ2 (a1 : (List Int)) (v12 : Int) (v13 : (List Int)) (v14 : Int) (r1 : Int) (wi : Int) (wn : Int) : Option ((Int × Int × (List Int)) ⊕ (List Int)) :=
  need ((0 : Int) ≤ v12) <|
  need (v12 < wn) <|
  need ((0 : Int) ≤ (32 : Int)) <|
  some (.inl (Int.fdiv v14 (2 ^ (min (32 : Int).toNat (IntKind.bits .u64))), IntKind.wrap .i64 (v12 + (1 : Int)), List.set v13 (wi + v12).toNat (IntKind.wrap .u32 v14)))
def isoclineref01WordL3 (a1 : (List Int)) (r1 : Int) (wi : Int) (wn : Int) (v11 : Int) (v12 : Int) (v13 : (List Int)) : Option ((Int × Int × (List Int)) ⊕ (List Int)) :=
  if decide (v12 ≤ ((a1.length : Nat) : Int)) then
    need ((0 : Int) ≤ v12) <|
    need (v12 < wn) <|
    if decide (v12 < ((a1.length : Nat) : Int)) then
      need (inRange v12 a1.length) <|
      isoclineref01WordJ2 a1 v12 v13 (IntKind.wrap .u64 ((IntKind.wrap .u64 (v11 + (IntKind.wrap .u64 (List.getD v13 (wi + v12).toNat (0 : Int))))) + (IntKind.wrap .u64 (List.getD a1 (v12).toNat (0 : Int))))) r1 wi wn
    else
      isoclineref01WordJ2 a1 v12 v13 (IntKind.wrap .u64 (v11 + (IntKind.wrap .u64 (List.getD v13 (wi + v12).toNat (0 : Int))))) r1 wi wn
  else
    some (.inr v13)
def isoclineref01Word (a0 : List Int) (wi : Int) (wn : Int) (a1 : (List Int)) (a2 : Int) (a3 : Int) : Option (List Int × Int) :=
  need ((0 : Int) ≤ ((a1.length : Nat) : Int)) <|
  need (((a1.length : Nat) : Int) < wn) <|
  need ((0 : Int) ≤ (32 : Int)) <|
  need ((0 : Int) ≤ (IntKind.wrap .i64 (((a1.length : Nat) : Int) - (1 : Int)))) <|
  need ((IntKind.wrap .i64 (((a1.length : Nat) : Int) - (1 : Int))) < wn) <|
  need (a2 ≠ 0) <|
  Option.bind (iter (fun v : (Int × Int) => isoclineref01WordL1 a0 a1 a2 a3 wi wn v.1 v.2) ((if (4294967295 : Int) < (IntKind.wrap .u64 (Int.tdiv (IntKind.wrap .u64 ((((BitVec.ofInt (IntKind.bits .u64) (IntKind.wrap .u64 ((IntKind.wrap .u64 (List.getD a0 (wi + ((a1.length : Nat) : Int)).toNat (0 : Int))) * 2 ^ (min (32 : Int).toNat (IntKind.bits .u64)))) ||| BitVec.ofInt (IntKind.bits .u64) (IntKind.wrap .u64 (List.getD a0 (wi + (IntKind.wrap .i64 (((a1.length : Nat) : Int) - (1 : Int)))).toNat (0 : Int)))).toNat : Nat) : Int))) a2)) then (4294967295 : Int) else (IntKind.wrap .u64 (Int.tdiv (IntKind.wrap .u64 ((((BitVec.ofInt (IntKind.bits .u64) (IntKind.wrap .u64 ((IntKind.wrap .u64 (List.getD a0 (wi + ((a1.length : Nat) : Int)).toNat (0 : Int))) * 2 ^ (min (32 : Int).toNat (IntKind.bits .u64)))) ||| BitVec.ofInt (IntKind.bits .u64) (IntKind.wrap .u64 (List.getD a0 (wi + (IntKind.wrap .i64 (((a1.length : Nat) : Int) - (1 : Int)))).toNat (0 : Int)))).toNat : Nat) : Int))) a2))), IntKind.wrap .u64 ((IntKind.wrap .u64 ((((BitVec.ofInt (IntKind.bits .u64) (IntKind.wrap .u64 ((IntKind.wrap .u64 (List.getD a0 (wi + ((a1.length : Nat) : Int)).toNat (0 : Int))) * 2 ^ (min (32 : Int).toNat (IntKind.bits .u64)))) ||| BitVec.ofInt (IntKind.bits .u64) (IntKind.wrap .u64 (List.getD a0 (wi + (IntKind.wrap .i64 (((a1.length : Nat) : Int) - (1 : Int)))).toNat (0 : Int)))).toNat : Nat) : Int))) - (IntKind.wrap .u64 ((if (4294967295 : Int) < (IntKind.wrap .u64 (Int.tdiv (IntKind.wrap .u64 ((((BitVec.ofInt (IntKind.bits .u64) (IntKind.wrap .u64 ((IntKind.wrap .u64 (List.getD a0 (wi + ((a1.length : Nat) : Int)).toNat (0 : Int))) * 2 ^ (min (32 : Int).toNat (IntKind.bits .u64)))) ||| BitVec.ofInt (IntKind.bits .u64) (IntKind.wrap .u64 (List.getD a0 (wi + (IntKind.wrap .i64 (((a1.length : Nat) : Int) - (1 : Int)))).toNat (0 : Int)))).toNat : Nat) : Int))) a2)) then (4294967295 : Int) else (IntKind.wrap .u64 (Int.tdiv (IntKind.wrap .u64 ((((BitVec.ofInt (IntKind.bits .u64) (IntKind.wrap .u64 ((IntKind.wrap .u64 (List.getD a0 (wi + ((a1.length : Nat) : Int)).toNat (0 : Int))) * 2 ^ (min (32 : Int).toNat (IntKind.bits .u64)))) ||| BitVec.ofInt (IntKind.bits .u64) (IntKind.wrap .u64 (List.getD a0 (wi + (IntKind.wrap .i64 (((a1.length : Nat) : Int) - (1 : Int)))).toNat (0 : Int)))).toNat : Nat) : Int))) a2))) * a2))))) fun r1 =>
    Option.bind (iter (fun v : (Int × Int × Int × (List Int)) => isoclineref01WordL2 a1 r1 wi wn v.1 v.2.1 v.2.2.1 v.2.2.2) ((0 : Int), (0 : Int), (0 : Int), a0)) fun r2 =>
      if decide (r2.1 = (0 : Int)) then
        some (r2.2, IntKind.wrap .u32 r1)
      else
        Option.bind (iter (fun v : (Int × Int × (List Int)) => isoclineref01WordL3 a1 r1 wi wn v.1 v.2.1 v.2.2) ((0 : Int), (0 : Int), r2.2)) fun r3 =>
          some (r3, IntKind.wrap .u32 (IntKind.wrap .u64 (r1 - (1 : Int))))
def isoclineref01PartsL1 (a0 : (List Int)) (a1 : (List Int)) (v1 : Int) (v2 : Int) (v3 : (List Int)) : Option ((Int × Int × (List Int)) ⊕ (Int × (List Int))) :=
  if decide ((0 : Int) ≤ v2) then
    need ((0 : Int) ≤ (32 : Int)) <|
    need (inRange v2 a0.length) <|
    need (inRange (0 : Int) a1.length) <|
    need ((IntKind.wrap .u64 (List.getD a1 ((0 : Int)).toNat (0 : Int))) ≠ 0) <|
    need (inRange v2 v3.length) <|
    need (inRange (0 : Int) a1.length) <|
    need ((IntKind.wrap .u64 (List.getD a1 ((0 : Int)).toNat (0 : Int))) ≠ 0) <|
    some (.inl (Int.tmod (IntKind.wrap .u64 ((((BitVec.ofInt (IntKind.bits .u64) (IntKind.wrap .u64 (v1 * 2 ^ (min (32 : Int).toNat (IntKind.bits .u64)))) ||| BitVec.ofInt (IntKind.bits .u64) (IntKind.wrap .u64 (List.getD a0 (v2).toNat (0 : Int)))).toNat : Nat) : Int))) (IntKind.wrap .u64 (List.getD a1 ((0 : Int)).toNat (0 : Int))), IntKind.wrap .i64 (v2 - (1 : Int)), List.set v3 v2.toNat (IntKind.wrap .u32 (IntKind.wrap .u64 (Int.tdiv (IntKind.wrap .u64 ((((BitVec.ofInt (IntKind.bits .u64) (IntKind.wrap .u64 (v1 * 2 ^ (min (32 : Int).toNat (IntKind.bits .u64)))) ||| BitVec.ofInt (IntKind.bits .u64) (IntKind.wrap .u64 (List.getD a0 (v2).toNat (0 : Int)))).toNat : Nat) : Int))) (IntKind.wrap .u64 (List.getD a1 ((0 : Int)).toNat (0 : Int))))))))
  else
    some (.inr (v1, v3))
def isoclineref01PartsL2 (y4 : Int) (y7 : (List Int)) (v6 : Int) (v7 : Int) (v8 : Int) (v9 : (List Int)) (v10 : (List Int)) : Option ((Int × Int × Int × (List Int) × (List Int)) ⊕ ((List Int) × (List Int))) :=
  if decide ((0 : Int) ≤ v8) then
    need ((0 : Int) ≤ v8) <|
    need (v8 < (IntKind.wrap .i64 ((IntKind.wrap .i64 (v8 + ((y7.length : Nat) : Int))) + (1 : Int)))) <|
    need ((IntKind.wrap .i64 ((IntKind.wrap .i64 (v8 + ((y7.length : Nat) : Int))) + (1 : Int))) ≤ ((v9.length : Nat) : Int)) <|
    Option.bind (isoclineref01Word v9 v8 ((IntKind.wrap .i64 ((IntKind.wrap .i64 (v8 + ((y7.length : Nat) : Int))) + (1 : Int))) - v8) y7 v6 v7) fun y8 =>
    need (y8.1.length = v9.length) <|
    need (inRange v8 v10.length) <|
    some (.inl (v6, v7, IntKind.wrap .i64 (v8 - (1 : Int)), y8.1, List.set v10 v8.toNat y8.2))
  else
    some (.inr (v9, v10))
def isoclineref01PartsJ1 (v13 : Int) (v15 : (List Int)) (r2 : ((List Int) × (List Int))) (y4 : Int) : Option ((Int × (List Int)) ⊕ (List Int)) :=
  some (.inl (IntKind.wrap .i64 (v13 + (1 : Int)), v15))
def isoclineref01PartsL3 (r2 : ((List Int) × (List Int))) (y4 : Int) (v13 : Int) (v14 : (List Int)) : Option ((Int × (List Int)) ⊕ (List Int)) :=
  if decide (v13 < ((v14.length : Nat) : Int)) then
    need (inRange v13 v14.length) <|
    need ((0 : Int) ≤ (IntKind.wrap .u64 y4)) <|
    need (inRange v13 v14.length) <|
    if decide ((IntKind.wrap .i64 (v13 + (1 : Int))) < (((List.set v14 v13.toNat (Int.fdiv (List.getD v14 v13.toNat (0 : Int)) (2 ^ (min (IntKind.wrap .u64 y4).toNat (IntKind.bits .u32))))).length : Nat) : Int)) then
      need (inRange v13 (List.set v14 v13.toNat (Int.fdiv (List.getD v14 v13.toNat (0 : Int)) (2 ^ (min (IntKind.wrap .u64 y4).toNat (IntKind.bits .u32))))).length) <|
      need (inRange (IntKind.wrap .i64 (v13 + (1 : Int))) (List.set v14 v13.toNat (Int.fdiv (List.getD v14 v13.toNat (0 : Int)) (2 ^ (min (IntKind.wrap .u64 y4).toNat (IntKind.bits .u32))))).length) <|
      need ((0 : Int) ≤ (IntKind.wrap .u64 ((32 : Int) - (IntKind.wrap .u64 y4)))) <|
      need (inRange v13 (List.set v14 v13.toNat (Int.fdiv (List.getD v14 v13.toNat (0 : Int)) (2 ^ (min (IntKind.wrap .u64 y4).toNat (IntKind.bits .u32))))).length) <|
      isoclineref01PartsJ1 v13 (List.set (List.set v14 v13.toNat (Int.fdiv (List.getD v14 v13.toNat (0 : Int)) (2 ^ (min (IntKind.wrap .u64 y4).toNat (IntKind.bits .u32))))) v13.toNat (IntKind.wrap .u32 ((((BitVec.ofInt (IntKind.bits .u32) (List.getD (List.set v14 v13.toNat (Int.fdiv (List.getD v14 v13.toNat (0 : Int)) (2 ^ (min (IntKind.wrap .u64 y4).toNat (IntKind.bits .u32))))) v13.toNat (0 : Int)) ||| BitVec.ofInt (IntKind.bits .u32) (IntKind.wrap .u32 (IntKind.wrap .u64 ((IntKind.wrap .u64 (List.getD (List.set v14 v13.toNat (Int.fdiv (List.getD v14 v13.toNat (0 : Int)) (2 ^ (min (IntKind.wrap .u64 y4).toNat (IntKind.bits .u32))))) (IntKind.wrap .i64 (v13 + (1 : Int))).toNat (0 : Int))) * 2 ^ (min (IntKind.wrap .u64 ((32 : Int) - (IntKind.wrap .u64 y4))).toNat (IntKind.bits .u64)))))).toNat : Nat) : Int)))) r2 y4
    else
      isoclineref01PartsJ1 v13 (List.set v14 v13.toNat (Int.fdiv (List.getD v14 v13.toNat (0 : Int)) (2 ^ (min (IntKind.wrap .u64 y4).toNat (IntKind.bits .u32))))) r2 y4
  else
    some (.inr v14)
def isoclineref01Parts (a0 : (List Int)) (a1 : (List Int)) : Option ((List Int) × (List Int)) :=
  Option.bind (isoclineref01Order a0 a1) fun y1 =>
  if decide (y1 < (0 : Int)) then
    some ([], a0)
  else
    if decide (((a1.length : Nat) : Int) = (1 : Int)) then
      need (0 ≤ ((a0.length : Nat) : Int)) <|
      need (((a0.length : Nat) : Int) ≤ ((a0.length : Nat) : Int)) <|
      need (((a0.length : Nat) : Int) * ((4 : Nat) : Int) ≤ ((maxBytes : Nat) : Int)) <|
      Option.bind (iter (fun v : (Int × Int × (List Int)) => isoclineref01PartsL1 a0 a1 v.1 v.2.1 v.2.2) ((0 : Int), IntKind.wrap .i64 (((a0.length : Nat) : Int) - (1 : Int)), List.replicate (((a0.length : Nat) : Int)).toNat (0 : Int))) fun r1 =>
        Option.bind (isoclineref01Trim r1.2) fun y2 =>
        Option.bind (isoclineref01Trim [IntKind.wrap .u32 r1.1]) fun y3 =>
        some (y2, y3)
    else
      need (inRange (IntKind.wrap .i64 (((a1.length : Nat) : Int) - (1 : Int))) a1.length) <|
      Option.bind (bitsLeadingZeros32 (List.getD a1 (IntKind.wrap .i64 (((a1.length : Nat) : Int) - (1 : Int))).toNat (0 : Int))) fun y4 =>
      Option.bind (isoclineref01Shifted a0 (IntKind.wrap .u64 y4)) fun y5 =>
      Option.bind (isoclineref01Shifted a1 (IntKind.wrap .u64 y4)) fun y6 =>
      Option.bind (isoclineref01Trim y6) fun y7 =>
      need (0 ≤ (IntKind.wrap .i64 (((y5.length : Nat) : Int) - ((y7.length : Nat) : Int)))) <|
      need ((IntKind.wrap .i64 (((y5.length : Nat) : Int) - ((y7.length : Nat) : Int))) ≤ (IntKind.wrap .i64 (((y5.length : Nat) : Int) - ((y7.length : Nat) : Int)))) <|
      need ((IntKind.wrap .i64 (((y5.length : Nat) : Int) - ((y7.length : Nat) : Int))) * ((4 : Nat) : Int) ≤ ((maxBytes : Nat) : Int)) <|
      need (inRange (IntKind.wrap .i64 (((y7.length : Nat) : Int) - (1 : Int))) y7.length) <|
      need (inRange (IntKind.wrap .i64 (((y7.length : Nat) : Int) - (2 : Int))) y7.length) <|
      Option.bind (iter (fun v : (Int × Int × Int × (List Int) × (List Int)) => isoclineref01PartsL2 y4 y7 v.1 v.2.1 v.2.2.1 v.2.2.2.1 v.2.2.2.2) (IntKind.wrap .u64 (List.getD y7 (IntKind.wrap .i64 (((y7.length : Nat) : Int) - (1 : Int))).toNat (0 : Int)), IntKind.wrap .u64 (List.getD y7 (IntKind.wrap .i64 (((y7.length : Nat) : Int) - (2 : Int))).toNat (0 : Int)), IntKind.wrap .i64 ((((List.replicate (IntKind.wrap .i64 (((y5.length : Nat) : Int) - ((y7.length : Nat) : Int))).toNat (0 : Int)).length : Nat) : Int) - (1 : Int)), y5, List.replicate (IntKind.wrap .i64 (((y5.length : Nat) : Int) - ((y7.length : Nat) : Int))).toNat (0 : Int))) fun r2 =>
        Option.bind (isoclineref01Trim r2.1) fun y9 =>
        Option.bind (iter (fun v : (Int × (List Int)) => isoclineref01PartsL3 r2 y4 v.1 v.2) ((0 : Int), y9)) fun r3 =>
          Option.bind (isoclineref01Trim r2.2) fun y10 =>
          Option.bind (isoclineref01Trim r3) fun y11 =>
          some (y10, y11)
def isoclineref01DivisorL1 (v1 : (List Int)) (v2 : (List Int)) : Option (((List Int) × (List Int)) ⊕ (List Int)) :=
  if decide ((0 : Int) < ((v2.length : Nat) : Int)) then
    Option.bind (isoclineref01Parts v1 v2) fun y1 =>
    some (.inl (v2, y1.2))
  else
    some (.inr v1)
def isoclineref01Divisor (a0 : (List Int)) (a1 : (List Int)) : Option (List Int) :=
  Option.bind (iter (fun v : ((List Int) × (List Int)) => isoclineref01DivisorL1 v.1 v.2) (a0, a1)) fun r1 =>
    some r1
def isoclineref01RatioJ3 (v5 : (List Int)) (v6 : Bool) (v7 : (List Int)) (v8 : Bool) : Option Isoclineref01Q :=
  some (⟨(⟨v5, v6⟩ : Isoclineref01Whole), (⟨v7, v8⟩ : Isoclineref01Whole)⟩ : Isoclineref01Q)
def isoclineref01RatioJ2 (v1 : (List Int)) (v2 : Bool) (v3 : (List Int)) (v4 : Bool) (y5 : (List Int)) : Option Isoclineref01Q :=
  Option.bind (isoclineref01Parts v1 y5) fun y6 =>
  Option.bind (isoclineref01Parts v3 y5) fun y7 =>
  Option.bind (isoclineref01Signed y6.1 v2) fun y8 =>
  Option.bind (isoclineref01Signed y7.1 false) fun y9 =>
  isoclineref01RatioJ3 y8.d y8.minus y9.d y9.minus
def isoclineref01RatioJ1 (v1 : (List Int)) (v2 : Bool) (v3 : (List Int)) (v4 : Bool) : Option Isoclineref01Q :=
  Option.bind (isoclineref01IsOne (⟨v3, v4⟩ : Isoclineref01Whole)) fun y4 =>
  if y4 then
    some (⟨(⟨v1, v2⟩ : Isoclineref01Whole), (⟨v3, v4⟩ : Isoclineref01Whole)⟩ : Isoclineref01Q)
  else
    Option.bind (isoclineref01Divisor v1 v3) fun y5 =>
    if !decide (((y5.length : Nat) : Int) = (1 : Int)) then
      isoclineref01RatioJ2 v1 v2 v3 v4 y5
    else
      need (inRange (0 : Int) y5.length) <|
      if !decide ((List.getD y5 ((0 : Int)).toNat (0 : Int)) = (1 : Int)) then
        isoclineref01RatioJ2 v1 v2 v3 v4 y5
      else
        isoclineref01RatioJ3 v1 v2 v3 v4
def isoclineref01Ratio (a0 : Isoclineref01Whole) (a1 : Isoclineref01Whole) : Option Isoclineref01Q :=
  Option.bind (isoclineref01WholeIsNought a1) fun y1 =>
  if y1 then
    some (⟨(⟨[], false⟩ : Isoclineref01Whole), (⟨[], false⟩ : Isoclineref01Whole)⟩ : Isoclineref01Q)
  else
    if a1.minus then
      Option.bind (isoclineref01WholeNeg a0) fun y2 =>
      Option.bind (isoclineref01WholeNeg a1) fun y3 =>
      isoclineref01RatioJ1 y2.d y2.minus y3.d y3.minus
    else
      isoclineref01RatioJ1 a0.d a0.minus a1.d a1.minus
def isoclineref01OfIntJ1 (a0 : Int) (v1 : Int) : Option Isoclineref01Whole :=
  need ((0 : Int) ≤ (32 : Int)) <|
  Option.bind (isoclineref01Trim [IntKind.wrap .u32 v1, IntKind.wrap .u32 (Int.fdiv v1 (2 ^ (min (32 : Int).toNat (IntKind.bits .u64))))]) fun y1 =>
  some (⟨y1, decide (a0 < (0 : Int))⟩ : Isoclineref01Whole)
def isoclineref01OfInt (a0 : Int) : Option Isoclineref01Whole :=
  if decide (a0 < (0 : Int)) then
    isoclineref01OfIntJ1 a0 (IntKind.wrap .u64 (0 - (IntKind.wrap .u64 a0)))
  else
    isoclineref01OfIntJ1 a0 (IntKind.wrap .u64 a0)
def isoclineref01Of (a0 : ApiRat) : Option Isoclineref01Q :=
  Option.bind (isoclineref01OfInt a0.N) fun y1 =>
  Option.bind (isoclineref01OfInt a0.D) fun y2 =>
  Option.bind (isoclineref01Ratio y1 y2) fun y3 =>
  some y3
def isoclineref01One : Option Isoclineref01Whole :=
  some (⟨[(1 : Int)], false⟩ : Isoclineref01Whole)
def isoclineref01QDen (a0 : Isoclineref01Q) : Option Isoclineref01Whole :=
  Option.bind (isoclineref01WholeIsNought a0.d) fun y1 =>
  if y1 then
    Option.bind (isoclineref01One) fun y2 =>
    some y2
  else
    some a0.d
def isoclineref01TimesL2 (a0 : (List Int)) (a1 : (List Int)) (v1 : Int) (v3 : Int) (v4 : Int) (v5 : (List Int)) : Option ((Int × Int × (List Int)) ⊕ (Int × (List Int))) :=
  if decide (v4 < ((a1.length : Nat) : Int)) then
    need (inRange v1 a0.length) <|
    need (inRange v4 a1.length) <|
    need (inRange (IntKind.wrap .i64 (v1 + v4)) v5.length) <|
    need (inRange (IntKind.wrap .i64 (v1 + v4)) v5.length) <|
    need ((0 : Int) ≤ (32 : Int)) <|
    some (.inl (Int.fdiv (IntKind.wrap .u64 (v3 + (IntKind.wrap .u64 ((IntKind.wrap .u64 ((IntKind.wrap .u64 (List.getD a0 (v1).toNat (0 : Int))) * (IntKind.wrap .u64 (List.getD a1 (v4).toNat (0 : Int))))) + (IntKind.wrap .u64 (List.getD v5 (IntKind.wrap .i64 (v1 + v4)).toNat (0 : Int))))))) (2 ^ (min (32 : Int).toNat (IntKind.bits .u64))), IntKind.wrap .i64 (v4 + (1 : Int)), List.set v5 (IntKind.wrap .i64 (v1 + v4)).toNat (IntKind.wrap .u32 (IntKind.wrap .u64 (v3 + (IntKind.wrap .u64 ((IntKind.wrap .u64 ((IntKind.wrap .u64 (List.getD a0 (v1).toNat (0 : Int))) * (IntKind.wrap .u64 (List.getD a1 (v4).toNat (0 : Int))))) + (IntKind.wrap .u64 (List.getD v5 (IntKind.wrap .i64 (v1 + v4)).toNat (0 : Int))))))))))
  else
    some (.inr (v3, v5))
def isoclineref01TimesL1 (a0 : (List Int)) (a1 : (List Int)) (v1 : Int) (v2 : (List Int)) : Option ((Int × (List Int)) ⊕ (List Int)) :=
  if decide (v1 < ((a0.length : Nat) : Int)) then
    Option.bind (iter (fun v : (Int × Int × (List Int)) => isoclineref01TimesL2 a0 a1 v1 v.1 v.2.1 v.2.2) ((0 : Int), (0 : Int), v2)) fun r1 =>
      need (inRange (IntKind.wrap .i64 (v1 + ((a1.length : Nat) : Int))) r1.2.length) <|
      some (.inl (IntKind.wrap .i64 (v1 + (1 : Int)), List.set r1.2 (IntKind.wrap .i64 (v1 + ((a1.length : Nat) : Int))).toNat (IntKind.wrap .u32 r1.1)))
  else
    some (.inr v2)
def isoclineref01Times (a0 : (List Int)) (a1 : (List Int)) : Option (List Int) :=
  need (0 ≤ (IntKind.wrap .i64 (((a0.length : Nat) : Int) + ((a1.length : Nat) : Int)))) <|
  need ((IntKind.wrap .i64 (((a0.length : Nat) : Int) + ((a1.length : Nat) : Int))) ≤ (IntKind.wrap .i64 (((a0.length : Nat) : Int) + ((a1.length : Nat) : Int)))) <|
  need ((IntKind.wrap .i64 (((a0.length : Nat) : Int) + ((a1.length : Nat) : Int))) * ((4 : Nat) : Int) ≤ ((maxBytes : Nat) : Int)) <|
  Option.bind (iter (fun v : (Int × (List Int)) => isoclineref01TimesL1 a0 a1 v.1 v.2) ((0 : Int), List.replicate (IntKind.wrap .i64 (((a0.length : Nat) : Int) + ((a1.length : Nat) : Int))).toNat (0 : Int))) fun r2 =>
    Option.bind (isoclineref01Trim r2) fun y1 =>
    some y1
def isoclineref01WholeMul (a0 : Isoclineref01Whole) (a1 : Isoclineref01Whole) : Option Isoclineref01Whole :=
  Option.bind (isoclineref01Times a0.d a1.d) fun y1 =>
  Option.bind (isoclineref01Signed y1 (!(a0.minus == a1.minus))) fun y2 =>
  some y2
def isoclineref01QMulJ1 (a0 : Isoclineref01Q) (a1 : Isoclineref01Q) (y1 : Isoclineref01Whole) (y2 : Isoclineref01Whole) : Option Isoclineref01Q :=
  Option.bind (isoclineref01WholeMul a0.n a1.n) fun y6 =>
  Option.bind (isoclineref01WholeMul y1 y2) fun y7 =>
  Option.bind (isoclineref01Ratio y6 y7) fun y8 =>
  some y8
def isoclineref01QMul (a0 : Isoclineref01Q) (a1 : Isoclineref01Q) : Option Isoclineref01Q :=
  Option.bind (isoclineref01QDen a0) fun y1 =>
  Option.bind (isoclineref01QDen a1) fun y2 =>
  Option.bind (isoclineref01IsOne y1) fun y3 =>
  if y3 then
    Option.bind (isoclineref01IsOne y2) fun y4 =>
    if y4 then
      Option.bind (isoclineref01WholeMul a0.n a1.n) fun y5 =>
      some (⟨y5, y1⟩ : Isoclineref01Q)
    else
      isoclineref01QMulJ1 a0 a1 y1 y2
  else
    isoclineref01QMulJ1 a0 a1 y1 y2
def isoclineref01WholeCmp (a0 : Isoclineref01Whole) (a1 : Isoclineref01Whole) : Option Int :=
  if !(a0.minus == a1.minus) then
    if a0.minus then
      some (-1 : Int)
    else
      some (1 : Int)
  else
    if a0.minus then
      Option.bind (isoclineref01Order a0.d a1.d) fun y1 =>
      some (IntKind.wrap .i64 (0 - y1))
    else
      Option.bind (isoclineref01Order a0.d a1.d) fun y2 =>
      some y2
def isoclineref01QCmp (a0 : Isoclineref01Q) (a1 : Isoclineref01Q) : Option Int :=
  Option.bind (isoclineref01QDen a1) fun y1 =>
  Option.bind (isoclineref01WholeMul a0.n y1) fun y2 =>
  Option.bind (isoclineref01QDen a0) fun y3 =>
  Option.bind (isoclineref01WholeMul a1.n y3) fun y4 =>
  Option.bind (isoclineref01WholeCmp y2 y4) fun y5 =>
  some y5
def isoclineref01PlusJ3 (a0 : (List Int)) (a1 : (List Int)) (v2 : Int) (v3 : (List Int)) (v5 : Int) : Option ((Int × Int × (List Int)) ⊕ (Int × (List Int))) :=
  need ((v3.length + [IntKind.wrap .u32 v5].length) * 4 ≤ maxBytes) <|
  need ((0 : Int) ≤ (32 : Int)) <|
  some (.inl (Int.fdiv v5 (2 ^ (min (32 : Int).toNat (IntKind.bits .u64))), IntKind.wrap .i64 (v2 + (1 : Int)), v3 ++ [IntKind.wrap .u32 v5]))
def isoclineref01PlusJ2 (a0 : (List Int)) (a1 : (List Int)) (v2 : Int) (v3 : (List Int)) (v4 : Int) : Option ((Int × Int × (List Int)) ⊕ (Int × (List Int))) :=
  if decide (v2 < ((a1.length : Nat) : Int)) then
    need (inRange v2 a1.length) <|
    isoclineref01PlusJ3 a0 a1 v2 v3 (IntKind.wrap .u64 (v4 + (IntKind.wrap .u64 (List.getD a1 (v2).toNat (0 : Int)))))
  else
    isoclineref01PlusJ3 a0 a1 v2 v3 v4
def isoclineref01PlusJ1 (a0 : (List Int)) (a1 : (List Int)) (v1 : Int) (v2 : Int) (v3 : (List Int)) : Option ((Int × Int × (List Int)) ⊕ (Int × (List Int))) :=
  if decide (v2 < ((a0.length : Nat) : Int)) then
    need (inRange v2 a0.length) <|
    isoclineref01PlusJ2 a0 a1 v2 v3 (IntKind.wrap .u64 (v1 + (IntKind.wrap .u64 (List.getD a0 (v2).toNat (0 : Int)))))
  else
    isoclineref01PlusJ2 a0 a1 v2 v3 v1
def isoclineref01PlusL1 (a0 : (List Int)) (a1 : (List Int)) (v1 : Int) (v2 : Int) (v3 : (List Int)) : Option ((Int × Int × (List Int)) ⊕ (Int × (List Int))) :=
  if decide (v2 < ((a0.length : Nat) : Int)) then
    isoclineref01PlusJ1 a0 a1 v1 v2 v3
  else
    if decide (v2 < ((a1.length : Nat) : Int)) then
      isoclineref01PlusJ1 a0 a1 v1 v2 v3
    else
      some (.inr (v1, v3))
def isoclineref01Plus (a0 : (List Int)) (a1 : (List Int)) : Option (List Int) :=
  need (0 ≤ (0 : Int)) <|
  need ((0 : Int) ≤ (IntKind.wrap .i64 ((if ((a0.length : Nat) : Int) < ((a1.length : Nat) : Int) then ((a1.length : Nat) : Int) else ((a0.length : Nat) : Int)) + (1 : Int)))) <|
  need ((IntKind.wrap .i64 ((if ((a0.length : Nat) : Int) < ((a1.length : Nat) : Int) then ((a1.length : Nat) : Int) else ((a0.length : Nat) : Int)) + (1 : Int))) * ((4 : Nat) : Int) ≤ ((maxBytes : Nat) : Int)) <|
  Option.bind (iter (fun v : (Int × Int × (List Int)) => isoclineref01PlusL1 a0 a1 v.1 v.2.1 v.2.2) ((0 : Int), (0 : Int), [])) fun r1 =>
    need ((r1.2.length + [IntKind.wrap .u32 r1.1].length) * 4 ≤ maxBytes) <|
    Option.bind (isoclineref01Trim (r1.2 ++ [IntKind.wrap .u32 r1.1])) fun y1 =>
    some y1
def isoclineref01LessJ1 (a0 : (List Int)) (a1 : (List Int)) (v2 : Int) (v3 : (List Int)) (v4 : Int) : Option ((Int × Int × (List Int)) ⊕ (List Int)) :=
  need ((v3.length + [IntKind.wrap .u32 v4].length) * 4 ≤ maxBytes) <|
  need ((0 : Int) ≤ (63 : Int)) <|
  some (.inl (Int.fdiv v4 (2 ^ (min (63 : Int).toNat (IntKind.bits .u64))), IntKind.wrap .i64 (v2 + (1 : Int)), v3 ++ [IntKind.wrap .u32 v4]))
def isoclineref01LessL1 (a0 : (List Int)) (a1 : (List Int)) (v1 : Int) (v2 : Int) (v3 : (List Int)) : Option ((Int × Int × (List Int)) ⊕ (List Int)) :=
  if decide (v2 < ((a0.length : Nat) : Int)) then
    need (inRange v2 a0.length) <|
    if decide (v2 < ((a1.length : Nat) : Int)) then
      need (inRange v2 a1.length) <|
      isoclineref01LessJ1 a0 a1 v2 v3 (IntKind.wrap .u64 ((IntKind.wrap .u64 ((IntKind.wrap .u64 (List.getD a0 (v2).toNat (0 : Int))) - v1)) - (IntKind.wrap .u64 (List.getD a1 (v2).toNat (0 : Int)))))
    else
      isoclineref01LessJ1 a0 a1 v2 v3 (IntKind.wrap .u64 ((IntKind.wrap .u64 (List.getD a0 (v2).toNat (0 : Int))) - v1))
  else
    some (.inr v3)
def isoclineref01Less (a0 : (List Int)) (a1 : (List Int)) : Option (List Int) :=
  need (0 ≤ (0 : Int)) <|
  need ((0 : Int) ≤ ((a0.length : Nat) : Int)) <|
  need (((a0.length : Nat) : Int) * ((4 : Nat) : Int) ≤ ((maxBytes : Nat) : Int)) <|
  Option.bind (iter (fun v : (Int × Int × (List Int)) => isoclineref01LessL1 a0 a1 v.1 v.2.1 v.2.2) ((0 : Int), (0 : Int), [])) fun r1 =>
    Option.bind (isoclineref01Trim r1) fun y1 =>
    some y1
def isoclineref01WholeAdd (a0 : Isoclineref01Whole) (a1 : Isoclineref01Whole) : Option Isoclineref01Whole :=
  if (a0.minus == a1.minus) then
    Option.bind (isoclineref01Plus a0.d a1.d) fun y1 =>
    Option.bind (isoclineref01Signed y1 a0.minus) fun y2 =>
    some y2
  else
    Option.bind (isoclineref01Order a0.d a1.d) fun y3 =>
    if decide ((0 : Int) ≤ y3) then
      Option.bind (isoclineref01Less a0.d a1.d) fun y4 =>
      Option.bind (isoclineref01Signed y4 a0.minus) fun y5 =>
      some y5
    else
      Option.bind (isoclineref01Less a1.d a0.d) fun y6 =>
      Option.bind (isoclineref01Signed y6 a1.minus) fun y7 =>
      some y7
def isoclineref01QAddJ1 (a0 : Isoclineref01Q) (a1 : Isoclineref01Q) (y1 : Isoclineref01Whole) (y2 : Isoclineref01Whole) : Option Isoclineref01Q :=
  Option.bind (isoclineref01WholeMul a0.n y2) fun y6 =>
  Option.bind (isoclineref01WholeMul a1.n y1) fun y7 =>
  Option.bind (isoclineref01WholeAdd y6 y7) fun y8 =>
  Option.bind (isoclineref01WholeMul y1 y2) fun y9 =>
  Option.bind (isoclineref01Ratio y8 y9) fun y10 =>
  some y10
def isoclineref01QAdd (a0 : Isoclineref01Q) (a1 : Isoclineref01Q) : Option Isoclineref01Q :=
  Option.bind (isoclineref01QDen a0) fun y1 =>
  Option.bind (isoclineref01QDen a1) fun y2 =>
  Option.bind (isoclineref01IsOne y1) fun y3 =>
  if y3 then
    Option.bind (isoclineref01IsOne y2) fun y4 =>
    if y4 then
      Option.bind (isoclineref01WholeAdd a0.n a1.n) fun y5 =>
      some (⟨y5, y1⟩ : Isoclineref01Q)
    else
      isoclineref01QAddJ1 a0 a1 y1 y2
  else
    isoclineref01QAddJ1 a0 a1 y1 y2
def isoclineref01QNeg (a0 : Isoclineref01Q) : Option Isoclineref01Q :=
  Option.bind (isoclineref01WholeNeg a0.n) fun y1 =>
  Option.bind (isoclineref01QDen a0) fun y2 =>
  some (⟨y1, y2⟩ : Isoclineref01Q)
def isoclineref01QSub (a0 : Isoclineref01Q) (a1 : Isoclineref01Q) : Option Isoclineref01Q :=
  Option.bind (isoclineref01QNeg a1) fun y1 =>
  Option.bind (isoclineref01QAdd a0 y1) fun y2 =>
  some y2
def isoclineref32IsPart (a0 : ApiRat) (a1 : ApiRat) (a2 : ApiRat) (a3 : ApiRat) : Option Bool :=
  Option.bind (isoclineref01Of a2) fun y1 =>
  Option.bind (isoclineref01Of a3) fun y2 =>
  Option.bind (isoclineref01Of a0) fun y3 =>
  Option.bind (isoclineref01QMul y3 y1) fun y4 =>
  Option.bind (isoclineref01QSub y1 y2) fun y5 =>
  Option.bind (isoclineref01Of a1) fun y6 =>
  Option.bind (isoclineref01QMul y5 y6) fun y7 =>
  Option.bind (isoclineref01QCmp y4 y7) fun y8 =>
  some (decide (y8 = (0 : Int)))
def isoclinelaw32LibKirchhoffJ1 : Option Bool :=
  Option.bind (isoclinelaw32Known) fun y1 =>
  some y1
def isoclinelaw32LibKirchhoffJ2 : Option Bool :=
  Option.bind (isoclinelaw32Known) fun y5 =>
  some y5
def isoclinelaw32LibKirchhoff (a0 : ApiGrid) (a1 : Int) : Option Bool :=
  if decide (a1 < (0 : Int)) then
    isoclinelaw32LibKirchhoffJ1
  else
    if decide (((a0.Arms.length : Nat) : Int) ≤ a1) then
      isoclinelaw32LibKirchhoffJ1
    else
      need (inRange a1 a0.Arms.length) <|
      need (inRange a1 a0.Arms.length) <|
      if decide (((List.getD a0.Arms (a1).toNat (ApiArmZ)).A) = ((List.getD a0.Arms (a1).toNat (ApiArmZ)).B)) then
        isoclinelaw32LibKirchhoffJ1
      else
        need ((0 : Int) ≤ (0 : Int)) <|
        need ((0 : Int) ≤ a1) <|
        need (a1 ≤ ((a0.Arms.length : Nat) : Int)) <|
        need ((List.take (a1.toNat - (0 : Int).toNat) (List.drop (0 : Int).toNat a0.Arms)).length * 48 ≤ maxBytes) <|
        need ((0 : Int) ≤ (IntKind.wrap .i64 (a1 + (1 : Int)))) <|
        need ((IntKind.wrap .i64 (a1 + (1 : Int))) ≤ ((a0.Arms.length : Nat) : Int)) <|
        need (((a0.Arms.length : Nat) : Int) ≤ ((a0.Arms.length : Nat) : Int)) <|
        need (((List.take (a1.toNat - (0 : Int).toNat) (List.drop (0 : Int).toNat a0.Arms)).length + (List.take (((a0.Arms.length : Nat) : Int).toNat - (IntKind.wrap .i64 (a1 + (1 : Int))).toNat) (List.drop (IntKind.wrap .i64 (a1 + (1 : Int))).toNat a0.Arms)).length) * 48 ≤ maxBytes) <|
        need (inRange a1 a0.Arms.length) <|
        need (inRange a1 a0.Arms.length) <|
        Option.bind (libBetween a0 ((List.getD a0.Arms (a1).toNat (ApiArmZ)).A) ((List.getD a0.Arms (a1).toNat (ApiArmZ)).B)) fun y2 =>
        Option.bind (libTrees a0) fun y3 =>
        Option.bind (libTrees (⟨a0.Nodes, (List.take (a1.toNat - (0 : Int).toNat) (List.drop (0 : Int).toNat a0.Arms)) ++ (List.take (((a0.Arms.length : Nat) : Int).toNat - (IntKind.wrap .i64 (a1 + (1 : Int))).toNat) (List.drop (IntKind.wrap .i64 (a1 + (1 : Int))).toNat a0.Arms))⟩ : ApiGrid)) fun y4 =>
        if !decide (y2.2 = (0 : Int)) then
          isoclinelaw32LibKirchhoffJ2
        else
          if !decide (y3.2 = (0 : Int)) then
            isoclinelaw32LibKirchhoffJ2
          else
            if !decide (y4.2 = (0 : Int)) then
              isoclinelaw32LibKirchhoffJ2
            else
              need (inRange a1 a0.Arms.length) <|
              Option.bind (isoclineref32IsPart y2.1 ((List.getD a0.Arms (a1).toNat (ApiArmZ)).R) y3.1 y4.1) fun y6 =>
              if y6 then
                Option.bind (isoclinelaw32Known) fun y7 =>
                some y7
              else
                some false
end
end Go.Ab
