/- What the functions compute, as plain functions. Conditions: none beyond those that each theorem names. -/
import Derived.Test.YtjdgmcngpiookaaGreatS09
namespace Go.Ab
open Go
set_option linter.unusedVariables false
structure Au where
 N : Int
 D : Int
def Cj : Au := ⟨(0 : Int), (0 : Int)⟩
structure D4 where
 A : Int
 B : Int
 R : Au
 E : Au
def Ac : D4 := ⟨(0 : Int), (0 : Int), Cj, Cj⟩
structure An where
 Nodes : Int
 Arms : List D4
def Apo : An := ⟨(0 : Int), ([] : List D4)⟩
structure A8 where
 v : Int
 m : List Int
 neg : Bool
def Asx : A8 := ⟨(0 : Int), ([] : List Int), false⟩
structure Al where
 N : A8
 D : A8
def Bd : Al := ⟨(Asx), Asx⟩
structure Ad where
 d : List Int
 minus : Bool
def Ip : Ad := ⟨([] : List Int), false⟩
structure Aa where
 n : Ad
 d : Ad
def Ao : Aa := ⟨(Ip), Ip⟩
structure QmM where
 C : Int
 V : List (List Al)
def Bkx : QmM := ⟨(0 : Int), ([] : (List (List Al)))⟩
structure F7 where
 x : Int
 y : Int
 signed : Bool
 code : Int
def Rn : F7 := ⟨(0 : Int), (0 : Int), false, (0 : Int)⟩
structure C8 where
 msg : List UInt8
 addr : Int
def Mn : C8 := ⟨([] : List UInt8), (0 : Int)⟩
noncomputable section
def Jg : Option Bool :=
 some false
def O2 (v1 : Int) (v2 : Int) : Option ((Int × Int) ⊕ Int) :=
 if !decide (v2 = (0 : Int)) then
   need (v2 ≠ 0) <|
   some (.inl (v2, Int.tmod v1 v2))
 else
   some (.inr v1)
def Mj (a0 : Au) : Option Bool :=
 if decide (a0.D < (1 : Int)) then
   Jg
 else
   if decide ((1000000000000 : Int) < a0.D) then
     Jg
   else
     if decide ((1000000000000 : Int) < a0.N) then
       Jg
     else
       if decide (a0.N < (-1000000000000 : Int)) then
         Jg
       else
         Option.bind (Bj (λ v : (Int × Int) => O2 v.1 v.2) (a0.N, a0.D)) λ r1 =>
           if decide (r1 = (1 : Int)) then
             some true
           else
             some (decide (r1 = (-1 : Int)))
def Nx : Option Int :=
 some (1 : Int)
def Ha : Option (Int ⊕ (Unit ⊕ Int)) :=
 some (.inr (.inr (1 : Int)))
def Q2 (a0 : An) (v1 : Int) : Option (Int ⊕ (Unit ⊕ Int)) :=
 if decide (v1 < (a0.Arms.length : Int)) then
   need (Af v1 a0.Arms.length) <|
   if decide (((List.getD a0.Arms v1.toNat Ac).A) < (0 : Int)) then
     Ha
   else
     if decide (a0.Nodes <= ((List.getD a0.Arms v1.toNat Ac).A)) then
       Ha
     else
       if decide (((List.getD a0.Arms v1.toNat Ac).B) < (0 : Int)) then
         Ha
       else
         if decide (a0.Nodes <= ((List.getD a0.Arms v1.toNat Ac).B)) then
           Ha
         else
           Option.bind (Mj ((List.getD a0.Arms v1.toNat Ac).R)) λ y1 =>
           if !y1 then
             Ha
           else
             if decide ((((List.getD a0.Arms v1.toNat Ac).R).N) < (1 : Int)) then
               Ha
             else
               Option.bind (Mj ((List.getD a0.Arms v1.toNat Ac).E)) λ y2 =>
               if !y2 then
                 Ha
               else
                 some (.inl (IntKind.wrap .i64 (v1 + (1 : Int))))
 else
   some (.inr (.inl ()))
def J7 (a0 : An) : Option Int :=
 if decide ((40 : Int) < (a0.Arms.length : Int)) then
   some (3 : Int)
 else
   if decide (a0.Nodes < (1 : Int)) then
     Nx
   else
     if decide ((12 : Int) < a0.Nodes) then
       Nx
     else
       Option.bind (Bj (λ v : Int => Q2 a0 v) (0 : Int)) λ r =>
       match r with
       | .inl r1 =>
         some (0 : Int)
       | .inr r2 =>
         some r2
def Xk (a0 : Int) : Option A8 :=
 some (⟨a0, [], false⟩ : A8)
def G8 (a0 : Int) : Option Al :=
 Option.bind (Xk a0) λ y1 =>
 Option.bind (Xk (1 : Int)) λ y2 =>
 some (⟨y1, y2⟩ : Al)
def Ki : Option Int :=
 some (-1 : Int)
def Ml : Option Int :=
 some (1 : Int)
def Jo (a0 : A8) : Option Int :=
 if List.isEmpty a0.m then
   if decide (a0.v = (0 : Int)) then
     some (0 : Int)
   else
     Ml
 else
   Ml
def I4 (a0 : A8) : Option Int :=
 if !List.isEmpty a0.m then
   if a0.neg then
     Ki
   else
     if List.isEmpty a0.m then
       if decide (a0.v < (0 : Int)) then
         Ki
       else
         Jo a0
     else
       Jo a0
 else
   if List.isEmpty a0.m then
     if decide (a0.v < (0 : Int)) then
       Ki
     else
       Jo a0
   else
     Jo a0
def Jr (a0 : A8) (v1 : Int) : Option ((List Int) × Bool) :=
 if decide (v1 = (0 : Int)) then
   some ([], false)
 else
   need ((0 : Int) <= (32 : Int)) <|
   if decide ((Int.fdiv v1 (2 ^ (min (32 : Int).toNat (IntKind.bits .u64)))) = (0 : Int)) then
     some ([IntKind.wrap .u32 v1], decide (a0.v < (0 : Int)))
   else
     need ((0 : Int) <= (32 : Int)) <|
     some ([IntKind.wrap .u32 v1, IntKind.wrap .u32 (Int.fdiv v1 (2 ^ (min (32 : Int).toNat (IntKind.bits .u64))))], decide (a0.v < (0 : Int)))
def F4 (a0 : A8) : Option ((List Int) × Bool) :=
 if !List.isEmpty a0.m then
   some (a0.m, a0.neg)
 else
   if decide (a0.v < (0 : Int)) then
     Jr a0 (IntKind.wrap .u64 (0 - (IntKind.wrap .u64 a0.v)))
   else
     Jr a0 (IntKind.wrap .u64 a0.v)
def Rb (a1 : Bool) (v1 : List Int) : Option ((List Int) ⊕ (List Int)) :=
 if decide ((0 : Int) < (v1.length : Int)) then
   need (Af (IntKind.wrap .i64 ((v1.length : Int) - (1 : Int))) v1.length) <|
   if decide ((List.getD v1 (IntKind.wrap .i64 ((v1.length : Int) - (1 : Int))).toNat (0 : Int)) = (0 : Int)) then
     need ((0 : Int) <= (0 : Int)) <|
     need ((0 : Int) <= (IntKind.wrap .i64 ((v1.length : Int) - (1 : Int)))) <|
     need ((IntKind.wrap .i64 ((v1.length : Int) - (1 : Int))) <= (v1.length : Int)) <|
     some (.inl (List.take ((IntKind.wrap .i64 ((v1.length : Int) - (1 : Int))).toNat - (0 : Int).toNat) (List.drop (0 : Int).toNat v1)))
   else
     some (.inr v1)
 else
   some (.inr v1)
def Nu (a1 : Bool) (r1 : List Int) (v3 : Int) (v4 : Int) : Option ((Int × Int) ⊕ Int) :=
 if decide ((0 : Int) <= v4) then
   need ((0 : Int) <= (32 : Int)) <|
   need (Af v4 r1.length) <|
   some (.inl (IntKind.wrap .u64 ((((BitVec.ofInt (IntKind.bits .u64) (IntKind.wrap .u64 (v3 * 2 ^ (min (32 : Int).toNat (IntKind.bits .u64)))) ||| BitVec.ofInt (IntKind.bits .u64) (IntKind.wrap .u64 (List.getD r1 v4.toNat (0 : Int)))).toNat : Nat) : Int)), IntKind.wrap .i64 (v4 - (1 : Int))))
 else
   some (.inr v3)
def Lm (a1 : Bool) (r1 : List Int) : Option A8 :=
 need (r1 ≠ []) <|
 some (⟨(0 : Int), r1, a1⟩ : A8)
def Je (a0 : List Int) (a1 : Bool) : Option A8 :=
 Option.bind (Bj (λ v : (List Int) => Rb a1 v) a0) λ r1 =>
   if decide ((r1.length : Int) <= (2 : Int)) then
     Option.bind (Bj (λ v : (Int × Int) => Nu a1 r1 v.1 v.2) ((0 : Int), IntKind.wrap .i64 ((r1.length : Int) - (1 : Int)))) λ r2 =>
       if decide (r2 < (9223372036854775808 : Int)) then
         if a1 then
           some (⟨IntKind.wrap .i64 (0 - (IntKind.wrap .i64 r2)), [], false⟩ : A8)
         else
           some (⟨IntKind.wrap .i64 r2, [], false⟩ : A8)
       else
         Lm a1 r1
   else
     Lm a1 r1
def H1 (v1 : List Int) (v2 : List Int) (v4 : Int) (v5 : List Int) (v6 : Int) : Option ((Int × Int × (List Int)) ⊕ (Int × (List Int))) :=
 need ((v5.length + [IntKind.wrap .u32 v6].length) * 4 <= Ap) <|
 need ((0 : Int) <= (32 : Int)) <|
 some (.inl (Int.fdiv v6 (2 ^ (min (32 : Int).toNat (IntKind.bits .u64))), IntKind.wrap .i64 (v4 + (1 : Int)), v5 ++ [IntKind.wrap .u32 v6]))
def Kt (v1 : List Int) (v2 : List Int) (v3 : Int) (v4 : Int) (v5 : List Int) : Option ((Int × Int × (List Int)) ⊕ (Int × (List Int))) :=
 if decide (v4 < (v1.length : Int)) then
   need (Af v4 v1.length) <|
   if decide (v4 < (v2.length : Int)) then
     need (Af v4 v2.length) <|
     H1 v1 v2 v4 v5 (IntKind.wrap .u64 ((IntKind.wrap .u64 ((IntKind.wrap .u64 (List.getD v1 v4.toNat (0 : Int))) + v3)) + (IntKind.wrap .u64 (List.getD v2 v4.toNat (0 : Int)))))
   else
     H1 v1 v2 v4 v5 (IntKind.wrap .u64 ((IntKind.wrap .u64 (List.getD v1 v4.toNat (0 : Int))) + v3))
 else
   some (.inr (v3, v5))
def Hz (v1 : List Int) (v2 : List Int) : Option (List Int) :=
 need (0 <= (0 : Int)) <|
 need ((0 : Int) <= (IntKind.wrap .i64 ((v1.length : Int) + (1 : Int)))) <|
 need ((IntKind.wrap .i64 ((v1.length : Int) + (1 : Int))) * ((4 : Nat) : Int) <= (Ap : Int)) <|
 Option.bind (Bj (λ v : (Int × Int × (List Int)) => Kt v1 v2 v.1 v.2.1 v.2.2) ((0 : Int), (0 : Int), [])) λ r1 =>
   need ((r1.2.length + [IntKind.wrap .u32 r1.1].length) * 4 <= Ap) <|
   some (r1.2 ++ [IntKind.wrap .u32 r1.1])
def J4 (a0 : List Int) (a1 : List Int) : Option (List Int) :=
 if decide ((a0.length : Int) < (a1.length : Int)) then
   Hz a1 a0
 else
   Hz a0 a1
def Ks (a0 : List Int) (a1 : List Int) (v1 : Int) : Option (Int ⊕ (Unit ⊕ Int)) :=
 if decide ((0 : Int) <= v1) then
   need (Af v1 a0.length) <|
   need (Af v1 a1.length) <|
   if !decide ((List.getD a0 v1.toNat (0 : Int)) = (List.getD a1 v1.toNat (0 : Int))) then
     need (Af v1 a0.length) <|
     need (Af v1 a1.length) <|
     if decide ((List.getD a0 v1.toNat (0 : Int)) < (List.getD a1 v1.toNat (0 : Int))) then
       some (.inr (.inr (-1 : Int)))
     else
       some (.inr (.inr (1 : Int)))
   else
     some (.inl (IntKind.wrap .i64 (v1 - (1 : Int))))
 else
   some (.inr (.inl ()))
def Ia (a0 : List Int) (a1 : List Int) : Option Int :=
 if !decide ((a0.length : Int) = (a1.length : Int)) then
   if decide ((a0.length : Int) < (a1.length : Int)) then
     some (-1 : Int)
   else
     some (1 : Int)
 else
   Option.bind (Bj (λ v : Int => Ks a0 a1 v) (IntKind.wrap .i64 ((a0.length : Int) - (1 : Int)))) λ r =>
   match r with
   | .inl r1 =>
     some (0 : Int)
   | .inr r2 =>
     some r2
def Hu (a0 : List Int) (a1 : List Int) (v2 : Int) (v3 : List Int) (v5 : Int) (v6 : Int) : Option ((Int × Int × (List Int)) ⊕ (List Int)) :=
 need ((v3.length + [IntKind.wrap .u32 v6].length) * 4 <= Ap) <|
 some (.inl (v5, IntKind.wrap .i64 (v2 + (1 : Int)), v3 ++ [IntKind.wrap .u32 v6]))
def Hs (a0 : List Int) (a1 : List Int) (v2 : Int) (v3 : List Int) (v4 : Int) : Option ((Int × Int × (List Int)) ⊕ (List Int)) :=
 if decide (v4 < (0 : Int)) then
   Hu a0 a1 v2 v3 (1 : Int) (IntKind.wrap .i64 (v4 + (4294967296 : Int)))
 else
   Hu a0 a1 v2 v3 (0 : Int) v4
def Ku (a0 : List Int) (a1 : List Int) (v1 : Int) (v2 : Int) (v3 : List Int) : Option ((Int × Int × (List Int)) ⊕ (List Int)) :=
 if decide (v2 < (a0.length : Int)) then
   need (Af v2 a0.length) <|
   if decide (v2 < (a1.length : Int)) then
     need (Af v2 a1.length) <|
     Hs a0 a1 v2 v3 (IntKind.wrap .i64 ((IntKind.wrap .i64 ((IntKind.wrap .i64 (List.getD a0 v2.toNat (0 : Int))) - v1)) - (IntKind.wrap .i64 (List.getD a1 v2.toNat (0 : Int)))))
   else
     Hs a0 a1 v2 v3 (IntKind.wrap .i64 ((IntKind.wrap .i64 (List.getD a0 v2.toNat (0 : Int))) - v1))
 else
   some (.inr v3)
def H7 (a0 : List Int) (a1 : List Int) : Option (List Int) :=
 need (0 <= (0 : Int)) <|
 need ((0 : Int) <= (a0.length : Int)) <|
 need ((a0.length : Int) * ((4 : Nat) : Int) <= (Ap : Int)) <|
 Option.bind (Bj (λ v : (Int × Int × (List Int)) => Ku a0 a1 v.1 v.2.1 v.2.2) ((0 : Int), (0 : Int), [])) λ r1 =>
   some r1
def Ko (a0 : A8) (a1 : A8) : Option A8 :=
 Option.bind (F4 a0) λ y1 =>
 Option.bind (F4 a1) λ y2 =>
 if (y1.2 == y2.2) then
   Option.bind (J4 y1.1 y2.1) λ y3 =>
   Option.bind (Je y3 y1.2) λ y4 =>
   some y4
 else
   Option.bind (Ia y1.1 y2.1) λ y5 =>
   if decide ((0 : Int) <= y5) then
     Option.bind (H7 y1.1 y2.1) λ y6 =>
     Option.bind (Je y6 y1.2) λ y7 =>
     some y7
   else
     Option.bind (H7 y2.1 y1.1) λ y8 =>
     Option.bind (Je y8 y2.2) λ y9 =>
     some y9
def Nb (a0 : A8) (a1 : A8) : Option A8 :=
 if List.isEmpty a0.m then
   if List.isEmpty a1.m then
     if ((decide (a0.v < (IntKind.wrap .i64 (a0.v + a1.v)))) == (decide ((0 : Int) < a1.v))) then
       some (⟨IntKind.wrap .i64 (a0.v + a1.v), [], false⟩ : A8)
     else
       Ko a0 a1
   else
     Ko a0 a1
 else
   Ko a0 a1
def Ls (a0 : A8) : Option A8 :=
 Option.bind (F4 a0) λ y1 =>
 Option.bind (Je y1.1 (!y1.2)) λ y2 =>
 some y2
def Kw (a0 : A8) : Option A8 :=
 if List.isEmpty a0.m then
   if !decide (a0.v = (-9223372036854775808 : Int)) then
     some (⟨IntKind.wrap .i64 (0 - a0.v), [], false⟩ : A8)
   else
     Ls a0
 else
   Ls a0
def Q3 (a0 : A8) (a1 : A8) : Option A8 :=
 Option.bind (Kw a1) λ y1 =>
 Option.bind (Nb a0 y1) λ y2 =>
 some y2
def Lx (a0 : A8) (a1 : A8) : Option Int :=
 Option.bind (Q3 a0 a1) λ y1 =>
 Option.bind (I4 y1) λ y2 =>
 some y2
def Q1 (a0 : A8) (a1 : A8) : Option Int :=
 if List.isEmpty a0.m then
   if List.isEmpty a1.m then
     if decide (a0.v < a1.v) then
       some (-1 : Int)
     else
       if decide (a1.v < a0.v) then
         some (1 : Int)
       else
         some (0 : Int)
   else
     Lx a0 a1
 else
   Lx a0 a1
def Ii (a0 : Al) : Option Bool :=
 Option.bind (Xk (1 : Int)) λ y1 =>
 Option.bind (Q1 a0.D y1) λ y2 =>
 some (decide (y2 = (0 : Int)))
def Jt (v3 : Int) (v4 : Int) : Option Int :=
 need (Af (IntKind.wrap .u8 v3) ([0, 1, 2, 2, 3, 3, 3, 3, 4, 4, 4, 4, 4, 4, 4, 4, 5, 5, 5, 5, 5, 5, 5, 5, 5, 5, 5, 5, 5, 5, 5, 5, 6, 6, 6, 6, 6, 6, 6, 6, 6, 6, 6, 6, 6, 6, 6, 6, 6, 6, 6, 6, 6, 6, 6, 6, 6, 6, 6, 6, 6, 6, 6, 6, 7, 7, 7, 7, 7, 7, 7, 7, 7, 7, 7, 7, 7, 7, 7, 7, 7, 7, 7, 7, 7, 7, 7, 7, 7, 7, 7, 7, 7, 7, 7, 7, 7, 7, 7, 7, 7, 7, 7, 7, 7, 7, 7, 7, 7, 7, 7, 7, 7, 7, 7, 7, 7, 7, 7, 7, 7, 7, 7, 7, 7, 7, 7, 7, 8, 8, 8, 8, 8, 8, 8, 8, 8, 8, 8, 8, 8, 8, 8, 8, 8, 8, 8, 8, 8, 8, 8, 8, 8, 8, 8, 8, 8, 8, 8, 8, 8, 8, 8, 8, 8, 8, 8, 8, 8, 8, 8, 8, 8, 8, 8, 8, 8, 8, 8, 8, 8, 8, 8, 8, 8, 8, 8, 8, 8, 8, 8, 8, 8, 8, 8, 8, 8, 8, 8, 8, 8, 8, 8, 8, 8, 8, 8, 8, 8, 8, 8, 8, 8, 8, 8, 8, 8, 8, 8, 8, 8, 8, 8, 8, 8, 8, 8, 8, 8, 8, 8, 8, 8, 8, 8, 8, 8, 8, 8, 8, 8, 8, 8, 8, 8, 8, 8, 8, 8, 8, 8, 8, 8, 8, 8, 8] : List UInt8).length) <|
 some (IntKind.wrap .i64 (v4 + (IntKind.wrap .i64 ((List.getD ([0, 1, 2, 2, 3, 3, 3, 3, 4, 4, 4, 4, 4, 4, 4, 4, 5, 5, 5, 5, 5, 5, 5, 5, 5, 5, 5, 5, 5, 5, 5, 5, 6, 6, 6, 6, 6, 6, 6, 6, 6, 6, 6, 6, 6, 6, 6, 6, 6, 6, 6, 6, 6, 6, 6, 6, 6, 6, 6, 6, 6, 6, 6, 6, 7, 7, 7, 7, 7, 7, 7, 7, 7, 7, 7, 7, 7, 7, 7, 7, 7, 7, 7, 7, 7, 7, 7, 7, 7, 7, 7, 7, 7, 7, 7, 7, 7, 7, 7, 7, 7, 7, 7, 7, 7, 7, 7, 7, 7, 7, 7, 7, 7, 7, 7, 7, 7, 7, 7, 7, 7, 7, 7, 7, 7, 7, 7, 7, 8, 8, 8, 8, 8, 8, 8, 8, 8, 8, 8, 8, 8, 8, 8, 8, 8, 8, 8, 8, 8, 8, 8, 8, 8, 8, 8, 8, 8, 8, 8, 8, 8, 8, 8, 8, 8, 8, 8, 8, 8, 8, 8, 8, 8, 8, 8, 8, 8, 8, 8, 8, 8, 8, 8, 8, 8, 8, 8, 8, 8, 8, 8, 8, 8, 8, 8, 8, 8, 8, 8, 8, 8, 8, 8, 8, 8, 8, 8, 8, 8, 8, 8, 8, 8, 8, 8, 8, 8, 8, 8, 8, 8, 8, 8, 8, 8, 8, 8, 8, 8, 8, 8, 8, 8, 8, 8, 8, 8, 8, 8, 8, 8, 8, 8, 8, 8, 8, 8, 8, 8, 8, 8, 8, 8, 8, 8, 8] : List UInt8) (IntKind.wrap .u8 v3).toNat 0).toNat : Int))))
def J0 (v1 : Int) (v2 : Int) : Option Int :=
 if decide ((256 : Int) <= v1) then
   need ((0 : Int) <= (8 : Int)) <|
   Jt (Int.fdiv v1 (2 ^ (min (8 : Int).toNat (IntKind.bits .u32)))) (IntKind.wrap .i64 (v2 + (8 : Int)))
 else
   Jt v1 v2
def Lt (a0 : Int) : Option Int :=
 if decide ((65536 : Int) <= a0) then
   need ((0 : Int) <= (16 : Int)) <|
   J0 (Int.fdiv a0 (2 ^ (min (16 : Int).toNat (IntKind.bits .u32)))) (16 : Int)
 else
   J0 a0 (0 : Int)
def Dk (a0 : Int) : Option Int :=
 Option.bind (Lt a0) λ y1 =>
 some (IntKind.wrap .i64 ((32 : Int) - y1))
def Hr (a0 : List Int) (a1 : List Int) (v1 : Int) (v2 : Int) (v3 : List Int) : Option ((Int × Int × (List Int)) ⊕ (Int × (List Int))) :=
 if decide ((0 : Int) <= v2) then
   need ((0 : Int) <= (32 : Int)) <|
   need (Af v2 a0.length) <|
   need (Af (0 : Int) a1.length) <|
   need ((IntKind.wrap .u64 (List.getD a1 ((0 : Int)).toNat (0 : Int))) ≠ 0) <|
   need (Af v2 v3.length) <|
   need (Af (0 : Int) a1.length) <|
   need ((IntKind.wrap .u64 (List.getD a1 ((0 : Int)).toNat (0 : Int))) ≠ 0) <|
   some (.inl (Int.tmod (IntKind.wrap .u64 ((((BitVec.ofInt (IntKind.bits .u64) (IntKind.wrap .u64 (v1 * 2 ^ (min (32 : Int).toNat (IntKind.bits .u64)))) ||| BitVec.ofInt (IntKind.bits .u64) (IntKind.wrap .u64 (List.getD a0 v2.toNat (0 : Int)))).toNat : Nat) : Int))) (IntKind.wrap .u64 (List.getD a1 ((0 : Int)).toNat (0 : Int))), IntKind.wrap .i64 (v2 - (1 : Int)), List.set v3 v2.toNat (IntKind.wrap .u32 (IntKind.wrap .u64 (Int.tdiv (IntKind.wrap .u64 ((((BitVec.ofInt (IntKind.bits .u64) (IntKind.wrap .u64 (v1 * 2 ^ (min (32 : Int).toNat (IntKind.bits .u64)))) ||| BitVec.ofInt (IntKind.bits .u64) (IntKind.wrap .u64 (List.getD a0 v2.toNat (0 : Int)))).toNat : Nat) : Int))) (IntKind.wrap .u64 (List.getD a1 ((0 : Int)).toNat (0 : Int))))))))
 else
   some (.inr (v1, v3))
def Gt (a0 : List Int) (a1 : List Int) (v6 : Int) (v7 : List Int) (v9 : List Int) (y2 : Int) : Option ((Int × (List Int) × (List Int)) ⊕ ((List Int) × (List Int))) :=
 some (.inl (IntKind.wrap .i64 (v6 + (1 : Int)), v7, v9))
def Iq (a0 : List Int) (a1 : List Int) (y2 : Int) (v6 : Int) (v7 : List Int) (v8 : List Int) : Option ((Int × (List Int) × (List Int)) ⊕ ((List Int) × (List Int))) :=
 if decide (v6 < (a1.length : Int)) then
   need (Af v6 a1.length) <|
   need ((0 : Int) <= (IntKind.wrap .u64 y2)) <|
   need (Af v6 v8.length) <|
   if decide ((0 : Int) < v6) then
     if decide ((0 : Int) < (IntKind.wrap .u64 y2)) then
       need (Af v6 (List.set v8 v6.toNat (IntKind.wrap .u32 ((List.getD a1 v6.toNat (0 : Int)) * 2 ^ (min (IntKind.wrap .u64 y2).toNat (IntKind.bits .u32))))).length) <|
       need (Af (IntKind.wrap .i64 (v6 - (1 : Int))) a1.length) <|
       need ((0 : Int) <= (IntKind.wrap .u64 ((32 : Int) - (IntKind.wrap .u64 y2)))) <|
       need (Af v6 (List.set v8 v6.toNat (IntKind.wrap .u32 ((List.getD a1 v6.toNat (0 : Int)) * 2 ^ (min (IntKind.wrap .u64 y2).toNat (IntKind.bits .u32))))).length) <|
       Gt a0 a1 v6 v7 (List.set (List.set v8 v6.toNat (IntKind.wrap .u32 ((List.getD a1 v6.toNat (0 : Int)) * 2 ^ (min (IntKind.wrap .u64 y2).toNat (IntKind.bits .u32))))) v6.toNat (IntKind.wrap .u32 ((((BitVec.ofInt (IntKind.bits .u32) (List.getD (List.set v8 v6.toNat (IntKind.wrap .u32 ((List.getD a1 v6.toNat (0 : Int)) * 2 ^ (min (IntKind.wrap .u64 y2).toNat (IntKind.bits .u32))))) v6.toNat (0 : Int)) ||| BitVec.ofInt (IntKind.bits .u32) (Int.fdiv (List.getD a1 (IntKind.wrap .i64 (v6 - (1 : Int))).toNat (0 : Int)) (2 ^ (min (IntKind.wrap .u64 ((32 : Int) - (IntKind.wrap .u64 y2))).toNat (IntKind.bits .u32))))).toNat : Nat) : Int)))) y2
     else
       Gt a0 a1 v6 v7 (List.set v8 v6.toNat (IntKind.wrap .u32 ((List.getD a1 v6.toNat (0 : Int)) * 2 ^ (min (IntKind.wrap .u64 y2).toNat (IntKind.bits .u32))))) y2
   else
     Gt a0 a1 v6 v7 (List.set v8 v6.toNat (IntKind.wrap .u32 ((List.getD a1 v6.toNat (0 : Int)) * 2 ^ (min (IntKind.wrap .u64 y2).toNat (IntKind.bits .u32))))) y2
 else
   some (.inr (v7, v8))
def F1 (a0 : List Int) (v12 : Int) (v15 : List Int) (r2 : ((List Int) × (List Int))) (y2 : Int) : Option ((Int × (List Int)) ⊕ (List Int)) :=
 some (.inl (IntKind.wrap .i64 (v12 + (1 : Int)), v15))
def Hw (a0 : List Int) (v12 : Int) (v14 : List Int) (r2 : ((List Int) × (List Int))) (y2 : Int) : Option ((Int × (List Int)) ⊕ (List Int)) :=
 if decide ((0 : Int) < v12) then
   if decide ((0 : Int) < (IntKind.wrap .u64 y2)) then
     need (Af v12 v14.length) <|
     need (Af (IntKind.wrap .i64 (v12 - (1 : Int))) a0.length) <|
     need ((0 : Int) <= (IntKind.wrap .u64 ((32 : Int) - (IntKind.wrap .u64 y2)))) <|
     need (Af v12 v14.length) <|
     F1 a0 v12 (List.set v14 v12.toNat (IntKind.wrap .u32 ((((BitVec.ofInt (IntKind.bits .u32) (List.getD v14 v12.toNat (0 : Int)) ||| BitVec.ofInt (IntKind.bits .u32) (Int.fdiv (List.getD a0 (IntKind.wrap .i64 (v12 - (1 : Int))).toNat (0 : Int)) (2 ^ (min (IntKind.wrap .u64 ((32 : Int) - (IntKind.wrap .u64 y2))).toNat (IntKind.bits .u32))))).toNat : Nat) : Int)))) r2 y2
   else
     F1 a0 v12 v14 r2 y2
 else
   F1 a0 v12 v14 r2 y2
def I0 (a0 : List Int) (r2 : ((List Int) × (List Int))) (y2 : Int) (v12 : Int) (v13 : List Int) : Option ((Int × (List Int)) ⊕ (List Int)) :=
 if decide (v12 < (r2.1.length : Int)) then
   if decide (v12 < (a0.length : Int)) then
     need (Af v12 a0.length) <|
     need ((0 : Int) <= (IntKind.wrap .u64 y2)) <|
     need (Af v12 v13.length) <|
     Hw a0 v12 (List.set v13 v12.toNat (IntKind.wrap .u32 ((List.getD a0 v12.toNat (0 : Int)) * 2 ^ (min (IntKind.wrap .u64 y2).toNat (IntKind.bits .u32))))) r2 y2
   else
     Hw a0 v12 v13 r2 y2
 else
   some (.inr v13)
def Hq (v17 : Int) (v18 : List Int) (v19 : List Int) (v20 : Int) (v21 : Int) (r2 : ((List Int) × (List Int))) (y2 : Int) : Option ((Int × Int) ⊕ Int) :=
 need (Af (IntKind.wrap .i64 ((r2.2.length : Int) - (1 : Int))) r2.2.length) <|
 if decide ((4294967296 : Int) <= (IntKind.wrap .u64 (v21 + (IntKind.wrap .u64 (List.getD r2.2 (IntKind.wrap .i64 ((r2.2.length : Int) - (1 : Int))).toNat (0 : Int)))))) then
   some (.inr (IntKind.wrap .u64 (v20 - (1 : Int))))
 else
   some (.inl (IntKind.wrap .u64 (v20 - (1 : Int)), IntKind.wrap .u64 (v21 + (IntKind.wrap .u64 (List.getD r2.2 (IntKind.wrap .i64 ((r2.2.length : Int) - (1 : Int))).toNat (0 : Int))))))
def I6 (v17 : Int) (v18 : List Int) (v19 : List Int) (r2 : ((List Int) × (List Int))) (y2 : Int) (v20 : Int) (v21 : Int) : Option ((Int × Int) ⊕ Int) :=
 if decide ((4294967296 : Int) <= v20) then
   Hq v17 v18 v19 v20 v21 r2 y2
 else
   need (Af (IntKind.wrap .i64 ((r2.2.length : Int) - (2 : Int))) r2.2.length) <|
   need ((0 : Int) <= (32 : Int)) <|
   need (Af (IntKind.wrap .i64 ((IntKind.wrap .i64 (v17 + (r2.2.length : Int))) - (2 : Int))) v18.length) <|
   if decide ((IntKind.wrap .u64 ((((BitVec.ofInt (IntKind.bits .u64) (IntKind.wrap .u64 (v21 * 2 ^ (min (32 : Int).toNat (IntKind.bits .u64)))) ||| BitVec.ofInt (IntKind.bits .u64) (IntKind.wrap .u64 (List.getD v18 (IntKind.wrap .i64 ((IntKind.wrap .i64 (v17 + (r2.2.length : Int))) - (2 : Int))).toNat (0 : Int)))).toNat : Nat) : Int))) < (IntKind.wrap .u64 (v20 * (IntKind.wrap .u64 (List.getD r2.2 (IntKind.wrap .i64 ((r2.2.length : Int) - (2 : Int))).toNat (0 : Int)))))) then
     Hq v17 v18 v19 v20 v21 r2 y2
   else
     some (.inr v20)
def H3 (v17 : Int) (v19 : List Int) (v25 : Int) (v27 : Int) (v28 : Int) (v29 : List Int) (r2 : ((List Int) × (List Int))) (r4 : Int) (y2 : Int) : Option ((Int × Int × Int × (List Int)) ⊕ (Int × Int × (List Int))) :=
 some (.inl (v27, v28, IntKind.wrap .i64 (v25 + (1 : Int)), v29))
def I3 (v17 : Int) (v19 : List Int) (r2 : ((List Int) × (List Int))) (r4 : Int) (y2 : Int) (v23 : Int) (v24 : Int) (v25 : Int) (v26 : List Int) : Option ((Int × Int × Int × (List Int)) ⊕ (Int × Int × (List Int))) :=
 if decide (v25 < (r2.2.length : Int)) then
   need (Af v25 r2.2.length) <|
   need ((0 : Int) <= (32 : Int)) <|
   need (Af (IntKind.wrap .i64 (v25 + v17)) v26.length) <|
   need (Af (IntKind.wrap .i64 (v25 + v17)) v26.length) <|
   if decide ((IntKind.wrap .i64 ((IntKind.wrap .i64 ((IntKind.wrap .i64 (List.getD v26 (IntKind.wrap .i64 (v25 + v17)).toNat (0 : Int))) - v23)) - (IntKind.wrap .i64 (IntKind.wrap .u32 (IntKind.wrap .u64 ((IntKind.wrap .u64 (r4 * (IntKind.wrap .u64 (List.getD r2.2 v25.toNat (0 : Int))))) + v24)))))) < (0 : Int)) then
     H3 v17 v19 v25 (1 : Int) (Int.fdiv (IntKind.wrap .u64 ((IntKind.wrap .u64 (r4 * (IntKind.wrap .u64 (List.getD r2.2 v25.toNat (0 : Int))))) + v24)) (2 ^ (min (32 : Int).toNat (IntKind.bits .u64)))) (List.set v26 (IntKind.wrap .i64 (v25 + v17)).toNat (IntKind.wrap .u32 (IntKind.wrap .i64 ((IntKind.wrap .i64 ((IntKind.wrap .i64 (List.getD v26 (IntKind.wrap .i64 (v25 + v17)).toNat (0 : Int))) - v23)) - (IntKind.wrap .i64 (IntKind.wrap .u32 (IntKind.wrap .u64 ((IntKind.wrap .u64 (r4 * (IntKind.wrap .u64 (List.getD r2.2 v25.toNat (0 : Int))))) + v24)))))))) r2 r4 y2
   else
     H3 v17 v19 v25 (0 : Int) (Int.fdiv (IntKind.wrap .u64 ((IntKind.wrap .u64 (r4 * (IntKind.wrap .u64 (List.getD r2.2 v25.toNat (0 : Int))))) + v24)) (2 ^ (min (32 : Int).toNat (IntKind.bits .u64)))) (List.set v26 (IntKind.wrap .i64 (v25 + v17)).toNat (IntKind.wrap .u32 (IntKind.wrap .i64 ((IntKind.wrap .i64 ((IntKind.wrap .i64 (List.getD v26 (IntKind.wrap .i64 (v25 + v17)).toNat (0 : Int))) - v23)) - (IntKind.wrap .i64 (IntKind.wrap .u32 (IntKind.wrap .u64 ((IntKind.wrap .u64 (r4 * (IntKind.wrap .u64 (List.getD r2.2 v25.toNat (0 : Int))))) + v24)))))))) r2 r4 y2
 else
   some (.inr (v23, v24, v26))
def I5 (v17 : Int) (v19 : List Int) (r2 : ((List Int) × (List Int))) (r4 : Int) (y2 : Int) (v33 : Int) (v34 : Int) (v35 : List Int) : Option ((Int × Int × (List Int)) ⊕ (Int × (List Int))) :=
 if decide (v34 < (r2.2.length : Int)) then
   need (Af (IntKind.wrap .i64 (v34 + v17)) v35.length) <|
   need (Af v34 r2.2.length) <|
   need (Af (IntKind.wrap .i64 (v34 + v17)) v35.length) <|
   need ((0 : Int) <= (32 : Int)) <|
   some (.inl (Int.fdiv (IntKind.wrap .u64 ((IntKind.wrap .u64 ((IntKind.wrap .u64 (List.getD v35 (IntKind.wrap .i64 (v34 + v17)).toNat (0 : Int))) + (IntKind.wrap .u64 (List.getD r2.2 v34.toNat (0 : Int))))) + v33)) (2 ^ (min (32 : Int).toNat (IntKind.bits .u64))), IntKind.wrap .i64 (v34 + (1 : Int)), List.set v35 (IntKind.wrap .i64 (v34 + v17)).toNat (IntKind.wrap .u32 (IntKind.wrap .u64 ((IntKind.wrap .u64 ((IntKind.wrap .u64 (List.getD v35 (IntKind.wrap .i64 (v34 + v17)).toNat (0 : Int))) + (IntKind.wrap .u64 (List.getD r2.2 v34.toNat (0 : Int))))) + v33)))))
 else
   some (.inr (v33, v35))
def H0 (v17 : Int) (v19 : List Int) (v38 : Int) (v39 : List Int) (r2 : ((List Int) × (List Int))) (y2 : Int) : Option ((Int × (List Int) × (List Int)) ⊕ ((List Int) × (List Int))) :=
 need (Af v17 v19.length) <|
 some (.inl (IntKind.wrap .i64 (v17 - (1 : Int)), v39, List.set v19 v17.toNat (IntKind.wrap .u32 v38)))
def Gr (r2 : ((List Int) × (List Int))) (y2 : Int) (v17 : Int) (v18 : List Int) (v19 : List Int) : Option ((Int × (List Int) × (List Int)) ⊕ ((List Int) × (List Int))) :=
 if decide ((0 : Int) <= v17) then
   need (Af (IntKind.wrap .i64 (v17 + (r2.2.length : Int))) v18.length) <|
   need ((0 : Int) <= (32 : Int)) <|
   need (Af (IntKind.wrap .i64 ((IntKind.wrap .i64 (v17 + (r2.2.length : Int))) - (1 : Int))) v18.length) <|
   need (Af (IntKind.wrap .i64 ((r2.2.length : Int) - (1 : Int))) r2.2.length) <|
   need ((IntKind.wrap .u64 (List.getD r2.2 (IntKind.wrap .i64 ((r2.2.length : Int) - (1 : Int))).toNat (0 : Int))) ≠ 0) <|
   need (Af (IntKind.wrap .i64 ((r2.2.length : Int) - (1 : Int))) r2.2.length) <|
   need ((IntKind.wrap .u64 (List.getD r2.2 (IntKind.wrap .i64 ((r2.2.length : Int) - (1 : Int))).toNat (0 : Int))) ≠ 0) <|
   Option.bind (Bj (λ v : (Int × Int) => I6 v17 v18 v19 r2 y2 v.1 v.2) (IntKind.wrap .u64 (Int.tdiv (IntKind.wrap .u64 ((((BitVec.ofInt (IntKind.bits .u64) (IntKind.wrap .u64 ((IntKind.wrap .u64 (List.getD v18 (IntKind.wrap .i64 (v17 + (r2.2.length : Int))).toNat (0 : Int))) * 2 ^ (min (32 : Int).toNat (IntKind.bits .u64)))) ||| BitVec.ofInt (IntKind.bits .u64) (IntKind.wrap .u64 (List.getD v18 (IntKind.wrap .i64 ((IntKind.wrap .i64 (v17 + (r2.2.length : Int))) - (1 : Int))).toNat (0 : Int)))).toNat : Nat) : Int))) (IntKind.wrap .u64 (List.getD r2.2 (IntKind.wrap .i64 ((r2.2.length : Int) - (1 : Int))).toNat (0 : Int)))), Int.tmod (IntKind.wrap .u64 ((((BitVec.ofInt (IntKind.bits .u64) (IntKind.wrap .u64 ((IntKind.wrap .u64 (List.getD v18 (IntKind.wrap .i64 (v17 + (r2.2.length : Int))).toNat (0 : Int))) * 2 ^ (min (32 : Int).toNat (IntKind.bits .u64)))) ||| BitVec.ofInt (IntKind.bits .u64) (IntKind.wrap .u64 (List.getD v18 (IntKind.wrap .i64 ((IntKind.wrap .i64 (v17 + (r2.2.length : Int))) - (1 : Int))).toNat (0 : Int)))).toNat : Nat) : Int))) (IntKind.wrap .u64 (List.getD r2.2 (IntKind.wrap .i64 ((r2.2.length : Int) - (1 : Int))).toNat (0 : Int))))) λ r4 =>
     Option.bind (Bj (λ v : (Int × Int × Int × (List Int)) => I3 v17 v19 r2 r4 y2 v.1 v.2.1 v.2.2.1 v.2.2.2) ((0 : Int), (0 : Int), (0 : Int), v18)) λ r5 =>
       need (Af (IntKind.wrap .i64 (v17 + (r2.2.length : Int))) r5.2.2.length) <|
       need (Af (IntKind.wrap .i64 (v17 + (r2.2.length : Int))) r5.2.2.length) <|
       if decide ((IntKind.wrap .i64 ((IntKind.wrap .i64 ((IntKind.wrap .i64 (List.getD r5.2.2 (IntKind.wrap .i64 (v17 + (r2.2.length : Int))).toNat (0 : Int))) - r5.1)) - (IntKind.wrap .i64 r5.2.1))) < (0 : Int)) then
         Option.bind (Bj (λ v : (Int × Int × (List Int)) => I5 v17 v19 r2 r4 y2 v.1 v.2.1 v.2.2) ((0 : Int), (0 : Int), List.set r5.2.2 (IntKind.wrap .i64 (v17 + (r2.2.length : Int))).toNat (IntKind.wrap .u32 (IntKind.wrap .i64 ((IntKind.wrap .i64 ((IntKind.wrap .i64 (List.getD r5.2.2 (IntKind.wrap .i64 (v17 + (r2.2.length : Int))).toNat (0 : Int))) - r5.1)) - (IntKind.wrap .i64 r5.2.1)))))) λ r6 =>
           need (Af (IntKind.wrap .i64 (v17 + (r2.2.length : Int))) r6.2.length) <|
           need (Af (IntKind.wrap .i64 (v17 + (r2.2.length : Int))) r6.2.length) <|
           H0 v17 v19 (IntKind.wrap .u64 (r4 - (1 : Int))) (List.set r6.2 (IntKind.wrap .i64 (v17 + (r2.2.length : Int))).toNat (IntKind.wrap .u32 ((List.getD r6.2 (IntKind.wrap .i64 (v17 + (r2.2.length : Int))).toNat (0 : Int)) + (IntKind.wrap .u32 r6.1)))) r2 y2
       else
         H0 v17 v19 r4 (List.set r5.2.2 (IntKind.wrap .i64 (v17 + (r2.2.length : Int))).toNat (IntKind.wrap .u32 (IntKind.wrap .i64 ((IntKind.wrap .i64 ((IntKind.wrap .i64 (List.getD r5.2.2 (IntKind.wrap .i64 (v17 + (r2.2.length : Int))).toNat (0 : Int))) - r5.1)) - (IntKind.wrap .i64 r5.2.1))))) r2 y2
 else
   some (.inr (v18, v19))
def Hy (v42 : Int) (v44 : List Int) (r2 : ((List Int) × (List Int))) (r7 : ((List Int) × (List Int))) (y2 : Int) : Option ((Int × (List Int)) ⊕ (List Int)) :=
 some (.inl (IntKind.wrap .i64 (v42 + (1 : Int)), v44))
def Iy (r2 : ((List Int) × (List Int))) (r7 : ((List Int) × (List Int))) (y2 : Int) (v42 : Int) (v43 : List Int) : Option ((Int × (List Int)) ⊕ (List Int)) :=
 if decide (v42 < (r2.2.length : Int)) then
   need (Af v42 r7.1.length) <|
   need ((0 : Int) <= (IntKind.wrap .u64 y2)) <|
   need (Af v42 v43.length) <|
   if decide ((0 : Int) < (IntKind.wrap .u64 y2)) then
     need (Af v42 (List.set v43 v42.toNat (Int.fdiv (List.getD r7.1 v42.toNat (0 : Int)) (2 ^ (min (IntKind.wrap .u64 y2).toNat (IntKind.bits .u32))))).length) <|
     need (Af (IntKind.wrap .i64 (v42 + (1 : Int))) r7.1.length) <|
     need ((0 : Int) <= (IntKind.wrap .u64 ((32 : Int) - (IntKind.wrap .u64 y2)))) <|
     need (Af v42 (List.set v43 v42.toNat (Int.fdiv (List.getD r7.1 v42.toNat (0 : Int)) (2 ^ (min (IntKind.wrap .u64 y2).toNat (IntKind.bits .u32))))).length) <|
     Hy v42 (List.set (List.set v43 v42.toNat (Int.fdiv (List.getD r7.1 v42.toNat (0 : Int)) (2 ^ (min (IntKind.wrap .u64 y2).toNat (IntKind.bits .u32))))) v42.toNat (IntKind.wrap .u32 ((((BitVec.ofInt (IntKind.bits .u32) (List.getD (List.set v43 v42.toNat (Int.fdiv (List.getD r7.1 v42.toNat (0 : Int)) (2 ^ (min (IntKind.wrap .u64 y2).toNat (IntKind.bits .u32))))) v42.toNat (0 : Int)) ||| BitVec.ofInt (IntKind.bits .u32) (IntKind.wrap .u32 ((List.getD r7.1 (IntKind.wrap .i64 (v42 + (1 : Int))).toNat (0 : Int)) * 2 ^ (min (IntKind.wrap .u64 ((32 : Int) - (IntKind.wrap .u64 y2))).toNat (IntKind.bits .u32))))).toNat : Nat) : Int)))) r2 r7 y2
   else
     Hy v42 (List.set v43 v42.toNat (Int.fdiv (List.getD r7.1 v42.toNat (0 : Int)) (2 ^ (min (IntKind.wrap .u64 y2).toNat (IntKind.bits .u32))))) r2 r7 y2
 else
   some (.inr v43)
def Jz (a0 : List Int) (a1 : List Int) : Option ((List Int) × (List Int)) :=
 Option.bind (Ia a0 a1) λ y1 =>
 if decide (y1 < (0 : Int)) then
   need (a0.length * 4 <= Ap) <|
   some ([], a0)
 else
   if decide ((a1.length : Int) = (1 : Int)) then
     need (0 <= (a0.length : Int)) <|
     need ((a0.length : Int) <= (a0.length : Int)) <|
     need ((a0.length : Int) * ((4 : Nat) : Int) <= (Ap : Int)) <|
     Option.bind (Bj (λ v : (Int × Int × (List Int)) => Hr a0 a1 v.1 v.2.1 v.2.2) ((0 : Int), IntKind.wrap .i64 ((a0.length : Int) - (1 : Int)), List.replicate ((a0.length : Int)).toNat (0 : Int))) λ r1 =>
       some (r1.2, [IntKind.wrap .u32 r1.1])
   else
     need (Af (IntKind.wrap .i64 ((a1.length : Int) - (1 : Int))) a1.length) <|
     Option.bind (Dk (List.getD a1 (IntKind.wrap .i64 ((a1.length : Int) - (1 : Int))).toNat (0 : Int))) λ y2 =>
     need (0 <= (IntKind.wrap .i64 ((a0.length : Int) + (1 : Int)))) <|
     need ((IntKind.wrap .i64 ((a0.length : Int) + (1 : Int))) <= (IntKind.wrap .i64 ((a0.length : Int) + (1 : Int)))) <|
     need ((IntKind.wrap .i64 ((a0.length : Int) + (1 : Int))) * ((4 : Nat) : Int) <= (Ap : Int)) <|
     need (0 <= (a1.length : Int)) <|
     need ((a1.length : Int) <= (a1.length : Int)) <|
     need ((a1.length : Int) * ((4 : Nat) : Int) <= (Ap : Int)) <|
     Option.bind (Bj (λ v : (Int × (List Int) × (List Int)) => Iq a0 a1 y2 v.1 v.2.1 v.2.2) ((0 : Int), List.replicate (IntKind.wrap .i64 ((a0.length : Int) + (1 : Int))).toNat (0 : Int), List.replicate ((a1.length : Int)).toNat (0 : Int))) λ r2 =>
       Option.bind (Bj (λ v : (Int × (List Int)) => I0 a0 r2 y2 v.1 v.2) ((0 : Int), r2.1)) λ r3 =>
         need (0 <= (IntKind.wrap .i64 ((IntKind.wrap .i64 ((a0.length : Int) - (r2.2.length : Int))) + (1 : Int)))) <|
         need ((IntKind.wrap .i64 ((IntKind.wrap .i64 ((a0.length : Int) - (r2.2.length : Int))) + (1 : Int))) <= (IntKind.wrap .i64 ((IntKind.wrap .i64 ((a0.length : Int) - (r2.2.length : Int))) + (1 : Int)))) <|
         need ((IntKind.wrap .i64 ((IntKind.wrap .i64 ((a0.length : Int) - (r2.2.length : Int))) + (1 : Int))) * ((4 : Nat) : Int) <= (Ap : Int)) <|
         Option.bind (Bj (λ v : (Int × (List Int) × (List Int)) => Gr r2 y2 v.1 v.2.1 v.2.2) (IntKind.wrap .i64 ((a0.length : Int) - (r2.2.length : Int)), r3, List.replicate (IntKind.wrap .i64 ((IntKind.wrap .i64 ((a0.length : Int) - (r2.2.length : Int))) + (1 : Int))).toNat (0 : Int))) λ r7 =>
           need (0 <= (r2.2.length : Int)) <|
           need ((r2.2.length : Int) <= (r2.2.length : Int)) <|
           need ((r2.2.length : Int) * ((4 : Nat) : Int) <= (Ap : Int)) <|
           Option.bind (Bj (λ v : (Int × (List Int)) => Iy r2 r7 y2 v.1 v.2) ((0 : Int), List.replicate ((r2.2.length : Int)).toNat (0 : Int))) λ r8 =>
             some (r7.2, r8)
def Kl (a0 : A8) (a1 : A8) : Option (A8 × A8) :=
 Option.bind (F4 a0) λ y1 =>
 Option.bind (F4 a1) λ y2 =>
 Option.bind (Jz y1.1 y2.1) λ y3 =>
 Option.bind (Je y3.1 (!(y1.2 == y2.2))) λ y4 =>
 Option.bind (Je y3.2 y1.2) λ y5 =>
 some (y4, y5)
def Nc (a0 : A8) (a1 : A8) : Option (A8 × A8) :=
 if List.isEmpty a0.m then
   if List.isEmpty a1.m then
     if !decide (a0.v = (-9223372036854775808 : Int)) then
       need (a1.v ≠ 0) <|
       need (a1.v ≠ 0) <|
       some ((⟨IntKind.wrap .i64 (Int.tdiv a0.v a1.v), [], false⟩ : A8), (⟨Int.tmod a0.v a1.v, [], false⟩ : A8))
     else
       Kl a0 a1
   else
     Kl a0 a1
 else
   Kl a0 a1
def Oj (a0 : A8) : Option A8 :=
 Option.bind (I4 a0) λ y1 =>
 if decide (y1 < (0 : Int)) then
   Option.bind (Kw a0) λ y2 =>
   some y2
 else
   some a0
def Us (v7 : Int) (v8 : Int) : Option ((Int × Int) ⊕ Int) :=
 if !decide (v8 = (0 : Int)) then
   need (v8 ≠ 0) <|
   some (.inl (v8, Int.tmod v7 v8))
 else
   some (.inr v7)
def N7 (v1 : Int) (v2 : List Int) (v3 : Bool) (v4 : Int) (v5 : List Int) (v6 : Bool) : Option ((Int × (List Int) × Bool × Int × (List Int) × Bool) ⊕ ((Int × (List Int) × Bool) ⊕ A8)) :=
 Option.bind (Nc (⟨v1, v2, v3⟩ : A8) (⟨v4, v5, v6⟩ : A8)) λ y4 =>
 some (.inl (v4, v5, v6, y4.2.v, y4.2.m, y4.2.neg))
def Tp (v1 : Int) (v2 : List Int) (v3 : Bool) (v4 : Int) (v5 : List Int) (v6 : Bool) : Option ((Int × (List Int) × Bool × Int × (List Int) × Bool) ⊕ ((Int × (List Int) × Bool) ⊕ A8)) :=
 Option.bind (I4 (⟨v4, v5, v6⟩ : A8)) λ y3 =>
 if !decide (y3 = (0 : Int)) then
   if List.isEmpty v2 then
     if List.isEmpty v5 then
       Option.bind (Bj (λ v : (Int × Int) => Us v.1 v.2) (v1, v4)) λ r1 =>
         some (.inr (.inr (⟨r1, [], false⟩ : A8)))
     else
       N7 v1 v2 v3 v4 v5 v6
   else
     N7 v1 v2 v3 v4 v5 v6
 else
   some (.inr (.inl (v1, v2, v3)))
def Uz (a0 : A8) (a1 : A8) : Option A8 :=
 Option.bind (Oj a0) λ y1 =>
 Option.bind (Oj a1) λ y2 =>
 Option.bind (Bj (λ v : (Int × (List Int) × Bool × Int × (List Int) × Bool) => Tp v.1 v.2.1 v.2.2.1 v.2.2.2.1 v.2.2.2.2.1 v.2.2.2.2.2) (y1.v, y1.m, y1.neg, y2.v, y2.m, y2.neg)) λ r =>
 match r with
 | .inl r2 =>
   some (⟨r2.1, r2.2.1, r2.2.2⟩ : A8)
 | .inr r3 =>
   some r3
def Lu (v7 : Int) (v8 : List Int) (v9 : Bool) (v10 : Int) (v11 : List Int) (v12 : Bool) : Option Al :=
 some (⟨(⟨v7, v8, v9⟩ : A8), (⟨v10, v11, v12⟩ : A8)⟩ : Al)
def Lo (v1 : Int) (v2 : List Int) (v3 : Bool) (v4 : Int) (v5 : List Int) (v6 : Bool) (y4 : A8) : Option Al :=
 Option.bind (Nc (⟨v1, v2, v3⟩ : A8) y4) λ y5 =>
 Option.bind (Nc (⟨v4, v5, v6⟩ : A8) y4) λ y6 =>
 Lu y5.1.v y5.1.m y5.1.neg y6.1.v y6.1.m y6.1.neg
def L0 (v1 : Int) (v2 : List Int) (v3 : Bool) (v4 : Int) (v5 : List Int) (v6 : Bool) : Option Al :=
 Option.bind (Uz (⟨v1, v2, v3⟩ : A8) (⟨v4, v5, v6⟩ : A8)) λ y4 =>
 if !List.isEmpty y4.m then
   Lo v1 v2 v3 v4 v5 v6 y4
 else
   if !decide (y4.v = (1 : Int)) then
     Lo v1 v2 v3 v4 v5 v6 y4
   else
     Lu v1 v2 v3 v4 v5 v6
def Lf (a0 : A8) (a1 : A8) : Option Al :=
 Option.bind (I4 a1) λ y1 =>
 if decide (y1 < (0 : Int)) then
   Option.bind (Kw a0) λ y2 =>
   Option.bind (Kw a1) λ y3 =>
   L0 y2.v y2.m y2.neg y3.v y3.m y3.neg
 else
   L0 a0.v a0.m a0.neg a1.v a1.m a1.neg
def Lw (a0 : Int) (a1 : Int) : Option (Int × Int) :=
 need ((0 : Int) <= (32 : Int)) <|
 need ((0 : Int) <= (32 : Int)) <|
 need ((0 : Int) <= (32 : Int)) <|
 need ((0 : Int) <= (32 : Int)) <|
 need ((0 : Int) <= (32 : Int)) <|
 some (IntKind.wrap .u64 ((IntKind.wrap .u64 ((IntKind.wrap .u64 ((Int.fdiv a0 (2 ^ (min (32 : Int).toNat (IntKind.bits .u64)))) * (Int.fdiv a1 (2 ^ (min (32 : Int).toNat (IntKind.bits .u64)))))) + (Int.fdiv (IntKind.wrap .u64 ((IntKind.wrap .u64 ((Int.fdiv a0 (2 ^ (min (32 : Int).toNat (IntKind.bits .u64)))) * (IntKind.wrap .u64 ((((BitVec.ofInt (IntKind.bits .u64) a1 &&& BitVec.ofInt (IntKind.bits .u64) (4294967295 : Int)).toNat : Nat) : Int))))) + (Int.fdiv (IntKind.wrap .u64 ((IntKind.wrap .u64 ((((BitVec.ofInt (IntKind.bits .u64) a0 &&& BitVec.ofInt (IntKind.bits .u64) (4294967295 : Int)).toNat : Nat) : Int))) * (IntKind.wrap .u64 ((((BitVec.ofInt (IntKind.bits .u64) a1 &&& BitVec.ofInt (IntKind.bits .u64) (4294967295 : Int)).toNat : Nat) : Int))))) (2 ^ (min (32 : Int).toNat (IntKind.bits .u64)))))) (2 ^ (min (32 : Int).toNat (IntKind.bits .u64)))))) + (Int.fdiv (IntKind.wrap .u64 ((IntKind.wrap .u64 ((((BitVec.ofInt (IntKind.bits .u64) (IntKind.wrap .u64 ((IntKind.wrap .u64 ((Int.fdiv a0 (2 ^ (min (32 : Int).toNat (IntKind.bits .u64)))) * (IntKind.wrap .u64 ((((BitVec.ofInt (IntKind.bits .u64) a1 &&& BitVec.ofInt (IntKind.bits .u64) (4294967295 : Int)).toNat : Nat) : Int))))) + (Int.fdiv (IntKind.wrap .u64 ((IntKind.wrap .u64 ((((BitVec.ofInt (IntKind.bits .u64) a0 &&& BitVec.ofInt (IntKind.bits .u64) (4294967295 : Int)).toNat : Nat) : Int))) * (IntKind.wrap .u64 ((((BitVec.ofInt (IntKind.bits .u64) a1 &&& BitVec.ofInt (IntKind.bits .u64) (4294967295 : Int)).toNat : Nat) : Int))))) (2 ^ (min (32 : Int).toNat (IntKind.bits .u64)))))) &&& BitVec.ofInt (IntKind.bits .u64) (4294967295 : Int)).toNat : Nat) : Int))) + (IntKind.wrap .u64 ((IntKind.wrap .u64 ((((BitVec.ofInt (IntKind.bits .u64) a0 &&& BitVec.ofInt (IntKind.bits .u64) (4294967295 : Int)).toNat : Nat) : Int))) * (Int.fdiv a1 (2 ^ (min (32 : Int).toNat (IntKind.bits .u64)))))))) (2 ^ (min (32 : Int).toNat (IntKind.bits .u64))))), IntKind.wrap .u64 (a0 * a1))
def Nz (v3 : Int) (y2 : ((List Int) × Bool)) (y3 : ((List Int) × Bool)) (v5 : Int) (v6 : Int) (v7 : List Int) : Option ((Int × Int × (List Int)) ⊕ (Int × (List Int))) :=
 if decide (v6 < (y3.1.length : Int)) then
   need (Af (IntKind.wrap .i64 (v3 + v6)) v7.length) <|
   need (Af v3 y2.1.length) <|
   need (Af v6 y3.1.length) <|
   need (Af (IntKind.wrap .i64 (v3 + v6)) v7.length) <|
   need ((0 : Int) <= (32 : Int)) <|
   some (.inl (Int.fdiv (IntKind.wrap .u64 ((IntKind.wrap .u64 ((IntKind.wrap .u64 (List.getD v7 (IntKind.wrap .i64 (v3 + v6)).toNat (0 : Int))) + (IntKind.wrap .u64 ((IntKind.wrap .u64 (List.getD y2.1 v3.toNat (0 : Int))) * (IntKind.wrap .u64 (List.getD y3.1 v6.toNat (0 : Int))))))) + v5)) (2 ^ (min (32 : Int).toNat (IntKind.bits .u64))), IntKind.wrap .i64 (v6 + (1 : Int)), List.set v7 (IntKind.wrap .i64 (v3 + v6)).toNat (IntKind.wrap .u32 (IntKind.wrap .u64 ((IntKind.wrap .u64 ((IntKind.wrap .u64 (List.getD v7 (IntKind.wrap .i64 (v3 + v6)).toNat (0 : Int))) + (IntKind.wrap .u64 ((IntKind.wrap .u64 (List.getD y2.1 v3.toNat (0 : Int))) * (IntKind.wrap .u64 (List.getD y3.1 v6.toNat (0 : Int))))))) + v5)))))
 else
   some (.inr (v5, v7))
def Od (y2 : ((List Int) × Bool)) (y3 : ((List Int) × Bool)) (v3 : Int) (v4 : List Int) : Option ((Int × (List Int)) ⊕ (List Int)) :=
 if decide (v3 < (y2.1.length : Int)) then
   Option.bind (Bj (λ v : (Int × Int × (List Int)) => Nz v3 y2 y3 v.1 v.2.1 v.2.2) ((0 : Int), (0 : Int), v4)) λ r1 =>
     need (Af (IntKind.wrap .i64 (v3 + (y3.1.length : Int))) r1.2.length) <|
     some (.inl (IntKind.wrap .i64 (v3 + (1 : Int)), List.set r1.2 (IntKind.wrap .i64 (v3 + (y3.1.length : Int))).toNat (IntKind.wrap .u32 r1.1)))
 else
   some (.inr v4)
def J5 (a0 : A8) (a1 : A8) : Option A8 :=
 Option.bind (F4 a0) λ y2 =>
 Option.bind (F4 a1) λ y3 =>
 need (0 <= (IntKind.wrap .i64 ((y2.1.length : Int) + (y3.1.length : Int)))) <|
 need ((IntKind.wrap .i64 ((y2.1.length : Int) + (y3.1.length : Int))) <= (IntKind.wrap .i64 ((y2.1.length : Int) + (y3.1.length : Int)))) <|
 need ((IntKind.wrap .i64 ((y2.1.length : Int) + (y3.1.length : Int))) * ((4 : Nat) : Int) <= (Ap : Int)) <|
 Option.bind (Bj (λ v : (Int × (List Int)) => Od y2 y3 v.1 v.2) ((0 : Int), List.replicate (IntKind.wrap .i64 ((y2.1.length : Int) + (y3.1.length : Int))).toNat (0 : Int))) λ r2 =>
   Option.bind (Je r2 (!(y2.2 == y3.2))) λ y4 =>
   some y4
def Ll (a0 : A8) (a1 : A8) (v1 : Int) (v2 : Int) : Option A8 :=
 Option.bind (Lw v1 v2) λ y1 =>
 if decide (y1.1 = (0 : Int)) then
   if decide (y1.2 < (9223372036854775808 : Int)) then
     if !((decide (a0.v < (0 : Int))) == (decide (a1.v < (0 : Int)))) then
       some (⟨IntKind.wrap .i64 (0 - (IntKind.wrap .i64 y1.2)), [], false⟩ : A8)
     else
       some (⟨IntKind.wrap .i64 y1.2, [], false⟩ : A8)
   else
     J5 a0 a1
 else
   J5 a0 a1
def Oa (a0 : A8) (a1 : A8) (v1 : Int) : Option A8 :=
 if decide (a1.v < (0 : Int)) then
   Ll a0 a1 v1 (IntKind.wrap .u64 (0 - (IntKind.wrap .u64 a1.v)))
 else
   Ll a0 a1 v1 (IntKind.wrap .u64 a1.v)
def Hk (a0 : A8) (a1 : A8) : Option A8 :=
 if List.isEmpty a0.m then
   if List.isEmpty a1.m then
     if decide (a0.v < (0 : Int)) then
       Oa a0 a1 (IntKind.wrap .u64 (0 - (IntKind.wrap .u64 a0.v)))
     else
       Oa a0 a1 (IntKind.wrap .u64 a0.v)
   else
     J5 a0 a1
 else
   J5 a0 a1
def Ly (a0 : Al) (a1 : Al) : Option Al :=
 Option.bind (Hk a0.N a1.D) λ y4 =>
 Option.bind (Hk a1.N a0.D) λ y5 =>
 Option.bind (Nb y4 y5) λ y6 =>
 Option.bind (Hk a0.D a1.D) λ y7 =>
 Option.bind (Lf y6 y7) λ y8 =>
 some y8
def Im (a0 : Al) (a1 : Al) : Option Al :=
 Option.bind (Ii a0) λ y1 =>
 if y1 then
   Option.bind (Ii a1) λ y2 =>
   if y2 then
     Option.bind (Nb a0.N a1.N) λ y3 =>
     some (⟨y3, a0.D⟩ : Al)
   else
     Ly a0 a1
 else
   Ly a0 a1
def Rc (a0 : Al) (a1 : Al) : Option Al :=
 Option.bind (Hk a0.N a1.N) λ y4 =>
 Option.bind (Hk a0.D a1.D) λ y5 =>
 Option.bind (Lf y4 y5) λ y6 =>
 some y6
def Ja (a0 : Al) (a1 : Al) : Option Al :=
 Option.bind (Ii a0) λ y1 =>
 if y1 then
   Option.bind (Ii a1) λ y2 =>
   if y2 then
     Option.bind (Hk a0.N a1.N) λ y3 =>
     some (⟨y3, a0.D⟩ : Al)
   else
     Rc a0 a1
 else
   Rc a0 a1
def R0 (a0 : Au) : Option Al :=
 Option.bind (Xk a0.N) λ y1 =>
 Option.bind (Xk a0.D) λ y2 =>
 some (⟨y1, y2⟩ : Al)
def Mx (a0 : Al) : Option Al :=
 Option.bind (Kw a0.N) λ y1 =>
 some (⟨y1, a0.D⟩ : Al)
def I8 (a0 : Al) (a1 : Al) : Option Al :=
 Option.bind (Mx a1) λ y1 =>
 Option.bind (Im a0 y1) λ y2 =>
 some y2
def Nh (a0 : An) (v1 : Int) (v2 : Int) (v3 : List Int) : Option ((Int × Int × (List Int)) ⊕ (List Int)) :=
 if decide (v2 < v1) then
   need (Af v2 v3.length) <|
   some (.inl (v1, IntKind.wrap .i64 (v2 + (1 : Int)), List.set v3 v2.toNat v2))
 else
   some (.inr v3)
def Kx (a0 : An) (v5 : Int) (v7 : Int) (v8 : List Int) : Option ((Int × (List Int)) ⊕ (List Int)) :=
 if decide (v7 < (a0.Arms.length : Int)) then
   need (Af v7 a0.Arms.length) <|
   need (Af ((List.getD a0.Arms v7.toNat Ac).A) v8.length) <|
   need (Af ((List.getD a0.Arms v7.toNat Ac).B) v8.length) <|
   need (Af ((List.getD a0.Arms v7.toNat Ac).A) v8.length) <|
   need (Af ((List.getD a0.Arms v7.toNat Ac).B) (List.set v8 ((List.getD a0.Arms v7.toNat Ac).A).toNat (if (List.getD v8 ((List.getD a0.Arms v7.toNat Ac).B).toNat (0 : Int)) < (List.getD v8 ((List.getD a0.Arms v7.toNat Ac).A).toNat (0 : Int)) then (List.getD v8 ((List.getD a0.Arms v7.toNat Ac).B).toNat (0 : Int)) else (List.getD v8 ((List.getD a0.Arms v7.toNat Ac).A).toNat (0 : Int)))).length) <|
   some (.inl (IntKind.wrap .i64 (v7 + (1 : Int)), List.set (List.set v8 ((List.getD a0.Arms v7.toNat Ac).A).toNat (if (List.getD v8 ((List.getD a0.Arms v7.toNat Ac).B).toNat (0 : Int)) < (List.getD v8 ((List.getD a0.Arms v7.toNat Ac).A).toNat (0 : Int)) then (List.getD v8 ((List.getD a0.Arms v7.toNat Ac).B).toNat (0 : Int)) else (List.getD v8 ((List.getD a0.Arms v7.toNat Ac).A).toNat (0 : Int)))) ((List.getD a0.Arms v7.toNat Ac).B).toNat (if (List.getD v8 ((List.getD a0.Arms v7.toNat Ac).B).toNat (0 : Int)) < (List.getD v8 ((List.getD a0.Arms v7.toNat Ac).A).toNat (0 : Int)) then (List.getD v8 ((List.getD a0.Arms v7.toNat Ac).B).toNat (0 : Int)) else (List.getD v8 ((List.getD a0.Arms v7.toNat Ac).A).toNat (0 : Int)))))
 else
   some (.inr v8)
def Mz (a0 : An) (v5 : Int) (v6 : List Int) : Option ((Int × (List Int)) ⊕ (List Int)) :=
 if decide (v5 < a0.Nodes) then
   Option.bind (Bj (λ v : (Int × (List Int)) => Kx a0 v5 v.1 v.2) ((0 : Int), v6)) λ r2 =>
     some (.inl (IntKind.wrap .i64 (v5 + (1 : Int)), r2))
 else
   some (.inr v6)
def Km (a0 : An) : Option (List Int) :=
 need (0 <= a0.Nodes) <|
 need (a0.Nodes <= a0.Nodes) <|
 need (a0.Nodes * ((8 : Nat) : Int) <= (Ap : Int)) <|
 Option.bind (Bj (λ v : (Int × Int × (List Int)) => Nh a0 v.1 v.2.1 v.2.2) (((List.replicate (a0.Nodes).toNat (0 : Int)).length : Int), (0 : Int), List.replicate (a0.Nodes).toNat (0 : Int))) λ r1 =>
   Option.bind (Bj (λ v : (Int × (List Int)) => Mz a0 v.1 v.2) ((0 : Int), r1)) λ r3 =>
     some r3
def Po (a0 : Al) (a1 : Al) : Option Al :=
 Option.bind (Hk a0.N a1.D) λ y1 =>
 Option.bind (Hk a0.D a1.N) λ y2 =>
 Option.bind (Lf y1 y2) λ y3 =>
 some y3
def K5 (a0 : D4) : Option Al :=
 Option.bind (G8 (1 : Int)) λ y1 =>
 Option.bind (R0 a0.R) λ y2 =>
 Option.bind (Po y1 y2) λ y3 =>
 some y3
def Uw (a1 : Int) (v1 : Int) (v2 : Int) (v4 : Int) (v5 : Int) (v6 : (List (List Al))) : Option ((Int × Int × (List (List Al))) ⊕ (List (List Al))) :=
 if decide (v5 < v4) then
   need (Af v2 v6.length) <|
   Option.bind (G8 (0 : Int)) λ y1 =>
   need (Af v5 (List.getD v6 v2.toNat []).length) <|
   some (.inl (v4, IntKind.wrap .i64 (v5 + (1 : Int)), List.set v6 v2.toNat (List.set (List.getD v6 v2.toNat []) v5.toNat y1)))
 else
   some (.inr v6)
def Ws (a1 : Int) (v1 : Int) (v2 : Int) (v3 : (List (List Al))) : Option ((Int × Int × (List (List Al))) ⊕ (List (List Al))) :=
 if decide (v2 < v1) then
   need (0 <= a1) <|
   need (a1 <= a1) <|
   need (a1 * ((80 : Nat) : Int) <= (Ap : Int)) <|
   need (Af v2 v3.length) <|
   need (Af v2 (List.set v3 v2.toNat (List.replicate a1.toNat (⟨(⟨(0 : Int), [], false⟩ : A8), (⟨(0 : Int), [], false⟩ : A8)⟩ : Al))).length) <|
   Option.bind (Bj (λ v : (Int × Int × (List (List Al))) => Uw a1 v1 v2 v.1 v.2.1 v.2.2) (((List.getD (List.set v3 v2.toNat (List.replicate a1.toNat (⟨(⟨(0 : Int), [], false⟩ : A8), (⟨(0 : Int), [], false⟩ : A8)⟩ : Al))) v2.toNat []).length : Int), (0 : Int), List.set v3 v2.toNat (List.replicate a1.toNat (⟨(⟨(0 : Int), [], false⟩ : A8), (⟨(0 : Int), [], false⟩ : A8)⟩ : Al)))) λ r1 =>
     some (.inl (v1, IntKind.wrap .i64 (v2 + (1 : Int)), r1))
 else
   some (.inr v3)
def W3 (a0 : Int) (a1 : Int) : Option QmM :=
 need (0 <= a0) <|
 need (a0 <= a0) <|
 need (a0 * ((24 : Nat) : Int) <= (Ap : Int)) <|
 Option.bind (Bj (λ v : (Int × Int × (List (List Al))) => Ws a1 v.1 v.2.1 v.2.2) (((List.replicate a0.toNat ([] : List Al)).length : Int), (0 : Int), List.replicate a0.toNat ([] : List Al))) λ r2 =>
   some (⟨a1, r2⟩ : QmM)
def Le (a0 : An) (y1 : QmM) (v1 : Int) (v2 : (List (List Al))) : Option ((Int × (List (List Al))) ⊕ (List (List Al))) :=
 if decide (v1 < (a0.Arms.length : Int)) then
   need (Af v1 a0.Arms.length) <|
   if decide (((List.getD a0.Arms v1.toNat Ac).A) = ((List.getD a0.Arms v1.toNat Ac).B)) then
     some (.inl (IntKind.wrap .i64 (v1 + (1 : Int)), v2))
   else
     Option.bind (K5 (⟨(List.getD a0.Arms v1.toNat Ac).A, (List.getD a0.Arms v1.toNat Ac).B, ((List.getD a0.Arms v1.toNat Ac).R), ((List.getD a0.Arms v1.toNat Ac).E)⟩ : D4)) λ y2 =>
     need (Af ((List.getD a0.Arms v1.toNat Ac).A) v2.length) <|
     need (Af ((List.getD a0.Arms v1.toNat Ac).A) v2.length) <|
     need (Af ((List.getD a0.Arms v1.toNat Ac).A) (List.getD v2 ((List.getD a0.Arms v1.toNat Ac).A).toNat []).length) <|
     Option.bind (Im (⟨((List.getD (List.getD v2 ((List.getD a0.Arms v1.toNat Ac).A).toNat []) ((List.getD a0.Arms v1.toNat Ac).A).toNat Bd).N), ((List.getD (List.getD v2 ((List.getD a0.Arms v1.toNat Ac).A).toNat []) ((List.getD a0.Arms v1.toNat Ac).A).toNat Bd).D)⟩ : Al) y2) λ y3 =>
     need (Af ((List.getD a0.Arms v1.toNat Ac).A) (List.getD v2 ((List.getD a0.Arms v1.toNat Ac).A).toNat []).length) <|
     need (Af ((List.getD a0.Arms v1.toNat Ac).B) (List.set v2 ((List.getD a0.Arms v1.toNat Ac).A).toNat (List.set (List.getD v2 ((List.getD a0.Arms v1.toNat Ac).A).toNat []) ((List.getD a0.Arms v1.toNat Ac).A).toNat y3)).length) <|
     need (Af ((List.getD a0.Arms v1.toNat Ac).B) (List.set v2 ((List.getD a0.Arms v1.toNat Ac).A).toNat (List.set (List.getD v2 ((List.getD a0.Arms v1.toNat Ac).A).toNat []) ((List.getD a0.Arms v1.toNat Ac).A).toNat y3)).length) <|
     need (Af ((List.getD a0.Arms v1.toNat Ac).B) (List.getD (List.set v2 ((List.getD a0.Arms v1.toNat Ac).A).toNat (List.set (List.getD v2 ((List.getD a0.Arms v1.toNat Ac).A).toNat []) ((List.getD a0.Arms v1.toNat Ac).A).toNat y3)) ((List.getD a0.Arms v1.toNat Ac).B).toNat []).length) <|
     Option.bind (Im (⟨((List.getD (List.getD (List.set v2 ((List.getD a0.Arms v1.toNat Ac).A).toNat (List.set (List.getD v2 ((List.getD a0.Arms v1.toNat Ac).A).toNat []) ((List.getD a0.Arms v1.toNat Ac).A).toNat y3)) ((List.getD a0.Arms v1.toNat Ac).B).toNat []) ((List.getD a0.Arms v1.toNat Ac).B).toNat Bd).N), ((List.getD (List.getD (List.set v2 ((List.getD a0.Arms v1.toNat Ac).A).toNat (List.set (List.getD v2 ((List.getD a0.Arms v1.toNat Ac).A).toNat []) ((List.getD a0.Arms v1.toNat Ac).A).toNat y3)) ((List.getD a0.Arms v1.toNat Ac).B).toNat []) ((List.getD a0.Arms v1.toNat Ac).B).toNat Bd).D)⟩ : Al) y2) λ y4 =>
     need (Af ((List.getD a0.Arms v1.toNat Ac).B) (List.getD (List.set v2 ((List.getD a0.Arms v1.toNat Ac).A).toNat (List.set (List.getD v2 ((List.getD a0.Arms v1.toNat Ac).A).toNat []) ((List.getD a0.Arms v1.toNat Ac).A).toNat y3)) ((List.getD a0.Arms v1.toNat Ac).B).toNat []).length) <|
     need (Af ((List.getD a0.Arms v1.toNat Ac).A) (List.set (List.set v2 ((List.getD a0.Arms v1.toNat Ac).A).toNat (List.set (List.getD v2 ((List.getD a0.Arms v1.toNat Ac).A).toNat []) ((List.getD a0.Arms v1.toNat Ac).A).toNat y3)) ((List.getD a0.Arms v1.toNat Ac).B).toNat (List.set (List.getD (List.set v2 ((List.getD a0.Arms v1.toNat Ac).A).toNat (List.set (List.getD v2 ((List.getD a0.Arms v1.toNat Ac).A).toNat []) ((List.getD a0.Arms v1.toNat Ac).A).toNat y3)) ((List.getD a0.Arms v1.toNat Ac).B).toNat []) ((List.getD a0.Arms v1.toNat Ac).B).toNat y4)).length) <|
     need (Af ((List.getD a0.Arms v1.toNat Ac).A) (List.set (List.set v2 ((List.getD a0.Arms v1.toNat Ac).A).toNat (List.set (List.getD v2 ((List.getD a0.Arms v1.toNat Ac).A).toNat []) ((List.getD a0.Arms v1.toNat Ac).A).toNat y3)) ((List.getD a0.Arms v1.toNat Ac).B).toNat (List.set (List.getD (List.set v2 ((List.getD a0.Arms v1.toNat Ac).A).toNat (List.set (List.getD v2 ((List.getD a0.Arms v1.toNat Ac).A).toNat []) ((List.getD a0.Arms v1.toNat Ac).A).toNat y3)) ((List.getD a0.Arms v1.toNat Ac).B).toNat []) ((List.getD a0.Arms v1.toNat Ac).B).toNat y4)).length) <|
     need (Af ((List.getD a0.Arms v1.toNat Ac).B) (List.getD (List.set (List.set v2 ((List.getD a0.Arms v1.toNat Ac).A).toNat (List.set (List.getD v2 ((List.getD a0.Arms v1.toNat Ac).A).toNat []) ((List.getD a0.Arms v1.toNat Ac).A).toNat y3)) ((List.getD a0.Arms v1.toNat Ac).B).toNat (List.set (List.getD (List.set v2 ((List.getD a0.Arms v1.toNat Ac).A).toNat (List.set (List.getD v2 ((List.getD a0.Arms v1.toNat Ac).A).toNat []) ((List.getD a0.Arms v1.toNat Ac).A).toNat y3)) ((List.getD a0.Arms v1.toNat Ac).B).toNat []) ((List.getD a0.Arms v1.toNat Ac).B).toNat y4)) ((List.getD a0.Arms v1.toNat Ac).A).toNat []).length) <|
     Option.bind (I8 (⟨((List.getD (List.getD (List.set (List.set v2 ((List.getD a0.Arms v1.toNat Ac).A).toNat (List.set (List.getD v2 ((List.getD a0.Arms v1.toNat Ac).A).toNat []) ((List.getD a0.Arms v1.toNat Ac).A).toNat y3)) ((List.getD a0.Arms v1.toNat Ac).B).toNat (List.set (List.getD (List.set v2 ((List.getD a0.Arms v1.toNat Ac).A).toNat (List.set (List.getD v2 ((List.getD a0.Arms v1.toNat Ac).A).toNat []) ((List.getD a0.Arms v1.toNat Ac).A).toNat y3)) ((List.getD a0.Arms v1.toNat Ac).B).toNat []) ((List.getD a0.Arms v1.toNat Ac).B).toNat y4)) ((List.getD a0.Arms v1.toNat Ac).A).toNat []) ((List.getD a0.Arms v1.toNat Ac).B).toNat Bd).N), ((List.getD (List.getD (List.set (List.set v2 ((List.getD a0.Arms v1.toNat Ac).A).toNat (List.set (List.getD v2 ((List.getD a0.Arms v1.toNat Ac).A).toNat []) ((List.getD a0.Arms v1.toNat Ac).A).toNat y3)) ((List.getD a0.Arms v1.toNat Ac).B).toNat (List.set (List.getD (List.set v2 ((List.getD a0.Arms v1.toNat Ac).A).toNat (List.set (List.getD v2 ((List.getD a0.Arms v1.toNat Ac).A).toNat []) ((List.getD a0.Arms v1.toNat Ac).A).toNat y3)) ((List.getD a0.Arms v1.toNat Ac).B).toNat []) ((List.getD a0.Arms v1.toNat Ac).B).toNat y4)) ((List.getD a0.Arms v1.toNat Ac).A).toNat []) ((List.getD a0.Arms v1.toNat Ac).B).toNat Bd).D)⟩ : Al) y2) λ y5 =>
     need (Af ((List.getD a0.Arms v1.toNat Ac).B) (List.getD (List.set (List.set v2 ((List.getD a0.Arms v1.toNat Ac).A).toNat (List.set (List.getD v2 ((List.getD a0.Arms v1.toNat Ac).A).toNat []) ((List.getD a0.Arms v1.toNat Ac).A).toNat y3)) ((List.getD a0.Arms v1.toNat Ac).B).toNat (List.set (List.getD (List.set v2 ((List.getD a0.Arms v1.toNat Ac).A).toNat (List.set (List.getD v2 ((List.getD a0.Arms v1.toNat Ac).A).toNat []) ((List.getD a0.Arms v1.toNat Ac).A).toNat y3)) ((List.getD a0.Arms v1.toNat Ac).B).toNat []) ((List.getD a0.Arms v1.toNat Ac).B).toNat y4)) ((List.getD a0.Arms v1.toNat Ac).A).toNat []).length) <|
     need (Af ((List.getD a0.Arms v1.toNat Ac).B) (List.set (List.set (List.set v2 ((List.getD a0.Arms v1.toNat Ac).A).toNat (List.set (List.getD v2 ((List.getD a0.Arms v1.toNat Ac).A).toNat []) ((List.getD a0.Arms v1.toNat Ac).A).toNat y3)) ((List.getD a0.Arms v1.toNat Ac).B).toNat (List.set (List.getD (List.set v2 ((List.getD a0.Arms v1.toNat Ac).A).toNat (List.set (List.getD v2 ((List.getD a0.Arms v1.toNat Ac).A).toNat []) ((List.getD a0.Arms v1.toNat Ac).A).toNat y3)) ((List.getD a0.Arms v1.toNat Ac).B).toNat []) ((List.getD a0.Arms v1.toNat Ac).B).toNat y4)) ((List.getD a0.Arms v1.toNat Ac).A).toNat (List.set (List.getD (List.set (List.set v2 ((List.getD a0.Arms v1.toNat Ac).A).toNat (List.set (List.getD v2 ((List.getD a0.Arms v1.toNat Ac).A).toNat []) ((List.getD a0.Arms v1.toNat Ac).A).toNat y3)) ((List.getD a0.Arms v1.toNat Ac).B).toNat (List.set (List.getD (List.set v2 ((List.getD a0.Arms v1.toNat Ac).A).toNat (List.set (List.getD v2 ((List.getD a0.Arms v1.toNat Ac).A).toNat []) ((List.getD a0.Arms v1.toNat Ac).A).toNat y3)) ((List.getD a0.Arms v1.toNat Ac).B).toNat []) ((List.getD a0.Arms v1.toNat Ac).B).toNat y4)) ((List.getD a0.Arms v1.toNat Ac).A).toNat []) ((List.getD a0.Arms v1.toNat Ac).B).toNat y5)).length) <|
     need (Af ((List.getD a0.Arms v1.toNat Ac).B) (List.set (List.set (List.set v2 ((List.getD a0.Arms v1.toNat Ac).A).toNat (List.set (List.getD v2 ((List.getD a0.Arms v1.toNat Ac).A).toNat []) ((List.getD a0.Arms v1.toNat Ac).A).toNat y3)) ((List.getD a0.Arms v1.toNat Ac).B).toNat (List.set (List.getD (List.set v2 ((List.getD a0.Arms v1.toNat Ac).A).toNat (List.set (List.getD v2 ((List.getD a0.Arms v1.toNat Ac).A).toNat []) ((List.getD a0.Arms v1.toNat Ac).A).toNat y3)) ((List.getD a0.Arms v1.toNat Ac).B).toNat []) ((List.getD a0.Arms v1.toNat Ac).B).toNat y4)) ((List.getD a0.Arms v1.toNat Ac).A).toNat (List.set (List.getD (List.set (List.set v2 ((List.getD a0.Arms v1.toNat Ac).A).toNat (List.set (List.getD v2 ((List.getD a0.Arms v1.toNat Ac).A).toNat []) ((List.getD a0.Arms v1.toNat Ac).A).toNat y3)) ((List.getD a0.Arms v1.toNat Ac).B).toNat (List.set (List.getD (List.set v2 ((List.getD a0.Arms v1.toNat Ac).A).toNat (List.set (List.getD v2 ((List.getD a0.Arms v1.toNat Ac).A).toNat []) ((List.getD a0.Arms v1.toNat Ac).A).toNat y3)) ((List.getD a0.Arms v1.toNat Ac).B).toNat []) ((List.getD a0.Arms v1.toNat Ac).B).toNat y4)) ((List.getD a0.Arms v1.toNat Ac).A).toNat []) ((List.getD a0.Arms v1.toNat Ac).B).toNat y5)).length) <|
     need (Af ((List.getD a0.Arms v1.toNat Ac).A) (List.getD (List.set (List.set (List.set v2 ((List.getD a0.Arms v1.toNat Ac).A).toNat (List.set (List.getD v2 ((List.getD a0.Arms v1.toNat Ac).A).toNat []) ((List.getD a0.Arms v1.toNat Ac).A).toNat y3)) ((List.getD a0.Arms v1.toNat Ac).B).toNat (List.set (List.getD (List.set v2 ((List.getD a0.Arms v1.toNat Ac).A).toNat (List.set (List.getD v2 ((List.getD a0.Arms v1.toNat Ac).A).toNat []) ((List.getD a0.Arms v1.toNat Ac).A).toNat y3)) ((List.getD a0.Arms v1.toNat Ac).B).toNat []) ((List.getD a0.Arms v1.toNat Ac).B).toNat y4)) ((List.getD a0.Arms v1.toNat Ac).A).toNat (List.set (List.getD (List.set (List.set v2 ((List.getD a0.Arms v1.toNat Ac).A).toNat (List.set (List.getD v2 ((List.getD a0.Arms v1.toNat Ac).A).toNat []) ((List.getD a0.Arms v1.toNat Ac).A).toNat y3)) ((List.getD a0.Arms v1.toNat Ac).B).toNat (List.set (List.getD (List.set v2 ((List.getD a0.Arms v1.toNat Ac).A).toNat (List.set (List.getD v2 ((List.getD a0.Arms v1.toNat Ac).A).toNat []) ((List.getD a0.Arms v1.toNat Ac).A).toNat y3)) ((List.getD a0.Arms v1.toNat Ac).B).toNat []) ((List.getD a0.Arms v1.toNat Ac).B).toNat y4)) ((List.getD a0.Arms v1.toNat Ac).A).toNat []) ((List.getD a0.Arms v1.toNat Ac).B).toNat y5)) ((List.getD a0.Arms v1.toNat Ac).B).toNat []).length) <|
     Option.bind (I8 (⟨((List.getD (List.getD (List.set (List.set (List.set v2 ((List.getD a0.Arms v1.toNat Ac).A).toNat (List.set (List.getD v2 ((List.getD a0.Arms v1.toNat Ac).A).toNat []) ((List.getD a0.Arms v1.toNat Ac).A).toNat y3)) ((List.getD a0.Arms v1.toNat Ac).B).toNat (List.set (List.getD (List.set v2 ((List.getD a0.Arms v1.toNat Ac).A).toNat (List.set (List.getD v2 ((List.getD a0.Arms v1.toNat Ac).A).toNat []) ((List.getD a0.Arms v1.toNat Ac).A).toNat y3)) ((List.getD a0.Arms v1.toNat Ac).B).toNat []) ((List.getD a0.Arms v1.toNat Ac).B).toNat y4)) ((List.getD a0.Arms v1.toNat Ac).A).toNat (List.set (List.getD (List.set (List.set v2 ((List.getD a0.Arms v1.toNat Ac).A).toNat (List.set (List.getD v2 ((List.getD a0.Arms v1.toNat Ac).A).toNat []) ((List.getD a0.Arms v1.toNat Ac).A).toNat y3)) ((List.getD a0.Arms v1.toNat Ac).B).toNat (List.set (List.getD (List.set v2 ((List.getD a0.Arms v1.toNat Ac).A).toNat (List.set (List.getD v2 ((List.getD a0.Arms v1.toNat Ac).A).toNat []) ((List.getD a0.Arms v1.toNat Ac).A).toNat y3)) ((List.getD a0.Arms v1.toNat Ac).B).toNat []) ((List.getD a0.Arms v1.toNat Ac).B).toNat y4)) ((List.getD a0.Arms v1.toNat Ac).A).toNat []) ((List.getD a0.Arms v1.toNat Ac).B).toNat y5)) ((List.getD a0.Arms v1.toNat Ac).B).toNat []) ((List.getD a0.Arms v1.toNat Ac).A).toNat Bd).N), ((List.getD (List.getD (List.set (List.set (List.set v2 ((List.getD a0.Arms v1.toNat Ac).A).toNat (List.set (List.getD v2 ((List.getD a0.Arms v1.toNat Ac).A).toNat []) ((List.getD a0.Arms v1.toNat Ac).A).toNat y3)) ((List.getD a0.Arms v1.toNat Ac).B).toNat (List.set (List.getD (List.set v2 ((List.getD a0.Arms v1.toNat Ac).A).toNat (List.set (List.getD v2 ((List.getD a0.Arms v1.toNat Ac).A).toNat []) ((List.getD a0.Arms v1.toNat Ac).A).toNat y3)) ((List.getD a0.Arms v1.toNat Ac).B).toNat []) ((List.getD a0.Arms v1.toNat Ac).B).toNat y4)) ((List.getD a0.Arms v1.toNat Ac).A).toNat (List.set (List.getD (List.set (List.set v2 ((List.getD a0.Arms v1.toNat Ac).A).toNat (List.set (List.getD v2 ((List.getD a0.Arms v1.toNat Ac).A).toNat []) ((List.getD a0.Arms v1.toNat Ac).A).toNat y3)) ((List.getD a0.Arms v1.toNat Ac).B).toNat (List.set (List.getD (List.set v2 ((List.getD a0.Arms v1.toNat Ac).A).toNat (List.set (List.getD v2 ((List.getD a0.Arms v1.toNat Ac).A).toNat []) ((List.getD a0.Arms v1.toNat Ac).A).toNat y3)) ((List.getD a0.Arms v1.toNat Ac).B).toNat []) ((List.getD a0.Arms v1.toNat Ac).B).toNat y4)) ((List.getD a0.Arms v1.toNat Ac).A).toNat []) ((List.getD a0.Arms v1.toNat Ac).B).toNat y5)) ((List.getD a0.Arms v1.toNat Ac).B).toNat []) ((List.getD a0.Arms v1.toNat Ac).A).toNat Bd).D)⟩ : Al) y2) λ y6 =>
     need (Af ((List.getD a0.Arms v1.toNat Ac).A) (List.getD (List.set (List.set (List.set v2 ((List.getD a0.Arms v1.toNat Ac).A).toNat (List.set (List.getD v2 ((List.getD a0.Arms v1.toNat Ac).A).toNat []) ((List.getD a0.Arms v1.toNat Ac).A).toNat y3)) ((List.getD a0.Arms v1.toNat Ac).B).toNat (List.set (List.getD (List.set v2 ((List.getD a0.Arms v1.toNat Ac).A).toNat (List.set (List.getD v2 ((List.getD a0.Arms v1.toNat Ac).A).toNat []) ((List.getD a0.Arms v1.toNat Ac).A).toNat y3)) ((List.getD a0.Arms v1.toNat Ac).B).toNat []) ((List.getD a0.Arms v1.toNat Ac).B).toNat y4)) ((List.getD a0.Arms v1.toNat Ac).A).toNat (List.set (List.getD (List.set (List.set v2 ((List.getD a0.Arms v1.toNat Ac).A).toNat (List.set (List.getD v2 ((List.getD a0.Arms v1.toNat Ac).A).toNat []) ((List.getD a0.Arms v1.toNat Ac).A).toNat y3)) ((List.getD a0.Arms v1.toNat Ac).B).toNat (List.set (List.getD (List.set v2 ((List.getD a0.Arms v1.toNat Ac).A).toNat (List.set (List.getD v2 ((List.getD a0.Arms v1.toNat Ac).A).toNat []) ((List.getD a0.Arms v1.toNat Ac).A).toNat y3)) ((List.getD a0.Arms v1.toNat Ac).B).toNat []) ((List.getD a0.Arms v1.toNat Ac).B).toNat y4)) ((List.getD a0.Arms v1.toNat Ac).A).toNat []) ((List.getD a0.Arms v1.toNat Ac).B).toNat y5)) ((List.getD a0.Arms v1.toNat Ac).B).toNat []).length) <|
     some (.inl (IntKind.wrap .i64 (v1 + (1 : Int)), List.set (List.set (List.set (List.set v2 ((List.getD a0.Arms v1.toNat Ac).A).toNat (List.set (List.getD v2 ((List.getD a0.Arms v1.toNat Ac).A).toNat []) ((List.getD a0.Arms v1.toNat Ac).A).toNat y3)) ((List.getD a0.Arms v1.toNat Ac).B).toNat (List.set (List.getD (List.set v2 ((List.getD a0.Arms v1.toNat Ac).A).toNat (List.set (List.getD v2 ((List.getD a0.Arms v1.toNat Ac).A).toNat []) ((List.getD a0.Arms v1.toNat Ac).A).toNat y3)) ((List.getD a0.Arms v1.toNat Ac).B).toNat []) ((List.getD a0.Arms v1.toNat Ac).B).toNat y4)) ((List.getD a0.Arms v1.toNat Ac).A).toNat (List.set (List.getD (List.set (List.set v2 ((List.getD a0.Arms v1.toNat Ac).A).toNat (List.set (List.getD v2 ((List.getD a0.Arms v1.toNat Ac).A).toNat []) ((List.getD a0.Arms v1.toNat Ac).A).toNat y3)) ((List.getD a0.Arms v1.toNat Ac).B).toNat (List.set (List.getD (List.set v2 ((List.getD a0.Arms v1.toNat Ac).A).toNat (List.set (List.getD v2 ((List.getD a0.Arms v1.toNat Ac).A).toNat []) ((List.getD a0.Arms v1.toNat Ac).A).toNat y3)) ((List.getD a0.Arms v1.toNat Ac).B).toNat []) ((List.getD a0.Arms v1.toNat Ac).B).toNat y4)) ((List.getD a0.Arms v1.toNat Ac).A).toNat []) ((List.getD a0.Arms v1.toNat Ac).B).toNat y5)) ((List.getD a0.Arms v1.toNat Ac).B).toNat (List.set (List.getD (List.set (List.set (List.set v2 ((List.getD a0.Arms v1.toNat Ac).A).toNat (List.set (List.getD v2 ((List.getD a0.Arms v1.toNat Ac).A).toNat []) ((List.getD a0.Arms v1.toNat Ac).A).toNat y3)) ((List.getD a0.Arms v1.toNat Ac).B).toNat (List.set (List.getD (List.set v2 ((List.getD a0.Arms v1.toNat Ac).A).toNat (List.set (List.getD v2 ((List.getD a0.Arms v1.toNat Ac).A).toNat []) ((List.getD a0.Arms v1.toNat Ac).A).toNat y3)) ((List.getD a0.Arms v1.toNat Ac).B).toNat []) ((List.getD a0.Arms v1.toNat Ac).B).toNat y4)) ((List.getD a0.Arms v1.toNat Ac).A).toNat (List.set (List.getD (List.set (List.set v2 ((List.getD a0.Arms v1.toNat Ac).A).toNat (List.set (List.getD v2 ((List.getD a0.Arms v1.toNat Ac).A).toNat []) ((List.getD a0.Arms v1.toNat Ac).A).toNat y3)) ((List.getD a0.Arms v1.toNat Ac).B).toNat (List.set (List.getD (List.set v2 ((List.getD a0.Arms v1.toNat Ac).A).toNat (List.set (List.getD v2 ((List.getD a0.Arms v1.toNat Ac).A).toNat []) ((List.getD a0.Arms v1.toNat Ac).A).toNat y3)) ((List.getD a0.Arms v1.toNat Ac).B).toNat []) ((List.getD a0.Arms v1.toNat Ac).B).toNat y4)) ((List.getD a0.Arms v1.toNat Ac).A).toNat []) ((List.getD a0.Arms v1.toNat Ac).B).toNat y5)) ((List.getD a0.Arms v1.toNat Ac).B).toNat []) ((List.getD a0.Arms v1.toNat Ac).A).toNat y6)))
 else
   some (.inr v2)
def Jp (a0 : An) : Option QmM :=
 Option.bind (W3 a0.Nodes a0.Nodes) λ y1 =>
 Option.bind (Bj (λ v : (Int × (List (List Al))) => Le a0 y1 v.1 v.2) ((0 : Int), y1.V)) λ r1 =>
   some (⟨y1.C, r1⟩ : QmM)
def Hm (a0 : Al) : Option Bool :=
 Option.bind (I4 a0.N) λ y1 =>
 some (decide (y1 = (0 : Int)))
def Q5 (a0 : QmM) (v1 : Int) (v2 : (List (List Al))) : Option ((Int × (List (List Al))) ⊕ (List (List Al))) :=
 if decide (v1 < (a0.V.length : Int)) then
   need (Af v1 a0.V.length) <|
   need ((List.getD a0.V v1.toNat ([] : List Al)).length * 80 <= Ap) <|
   need ((v2.length + 1) * 24 <= Ap) <|
   some (.inl (IntKind.wrap .i64 (v1 + (1 : Int)), v2 ++ [List.getD a0.V v1.toNat ([] : List Al)]))
 else
   some (.inr v2)
def Rm (a0 : QmM) : Option QmM :=
 Option.bind (Bj (λ v : (Int × (List (List Al))) => Q5 a0 v.1 v.2) ((0 : Int), [])) λ r1 =>
   some (⟨a0.C, r1⟩ : QmM)
def K1 (a1 : Int) (v1 : Int) (v2 : Int) (v3 : List Int) (v4 : Bool) (v5 : Int) (v6 : List Int) (v7 : Bool) (v8 : List Int) (v9 : (List (List Al))) (y1 : QmM) (v10 : Int) (v11 : Bool) : Option ((Int × Bool) ⊕ (Int × Bool)) :=
 if decide (v10 < (v9.length : Int)) then
   need (Af v10 v9.length) <|
   need (Af v1 (List.getD v9 v10.toNat []).length) <|
   Option.bind (Hm (⟨((List.getD (List.getD v9 v10.toNat []) v1.toNat Bd).N), ((List.getD (List.getD v9 v10.toNat []) v1.toNat Bd).D)⟩ : Al)) λ y3 =>
   if y3 then
     some (.inl (IntKind.wrap .i64 (v10 + (1 : Int)), v11))
   else
     some (.inr (v10, v11))
 else
   some (.inr (v10, v11))
def K0 (a1 : Int) (v1 : Int) (v8 : List Int) (v9 : (List (List Al))) (r1 : (Int × Bool)) (y1 : QmM) (y5 : Al) (v21 : Int) (v22 : Int) (v23 : Int) (v24 : List Int) (v25 : Bool) (v26 : Int) (v27 : List Int) (v28 : Bool) (v29 : (List (List Al))) : Option ((Int × Int × Int × (List Int) × Bool × Int × (List Int) × Bool × (List (List Al))) ⊕ (List (List Al))) :=
 if decide (v22 < v21) then
   need (Af (v8.length : Int) v29.length) <|
   need (Af (v8.length : Int) v29.length) <|
   need (Af v22 (List.getD v29 (v8.length : Int).toNat []).length) <|
   Option.bind (Po (⟨((List.getD (List.getD v29 (v8.length : Int).toNat []) v22.toNat Bd).N), ((List.getD (List.getD v29 (v8.length : Int).toNat []) v22.toNat Bd).D)⟩ : Al) (⟨(⟨v23, v24, v25⟩ : A8), (⟨v26, v27, v28⟩ : A8)⟩ : Al)) λ y6 =>
   need (Af v22 (List.getD v29 (v8.length : Int).toNat []).length) <|
   some (.inl (v21, IntKind.wrap .i64 (v22 + (1 : Int)), v23, v24, v25, v26, v27, v28, List.set v29 (v8.length : Int).toNat (List.set (List.getD v29 (v8.length : Int).toNat []) v22.toNat y6)))
 else
   some (.inr v29)
def K2 (a1 : Int) (v1 : Int) (v8 : List Int) (v9 : (List (List Al))) (v31 : Int) (v32 : (List (List Al))) (r1 : (Int × Bool)) (r2 : (List (List Al))) (y1 : QmM) (y5 : Al) : Option ((Int × (List (List Al))) ⊕ (List (List Al))) :=
 some (.inl (IntKind.wrap .i64 (v31 + (1 : Int)), v32))
def Js (a1 : Int) (v1 : Int) (v8 : List Int) (v9 : (List (List Al))) (v31 : Int) (v32 : (List (List Al))) (v33 : Al) (v34 : Int) (v35 : Int) (v36 : List Int) (v37 : Bool) (v38 : Int) (v39 : List Int) (v40 : Bool) (v42 : (List (List Al))) (r1 : (Int × Bool)) (r2 : (List (List Al))) (y1 : QmM) (y5 : Al) (y7 : Bool) : Option ((Al × Int × Int × (List Int) × Bool × Int × (List Int) × Bool × (List (List Al))) ⊕ (Al × (List (List Al)))) :=
 some (.inl (v33, IntKind.wrap .i64 (v34 + (1 : Int)), v35, v36, v37, v38, v39, v40, v42))
def Kz (a1 : Int) (v1 : Int) (v8 : List Int) (v9 : (List (List Al))) (v31 : Int) (v32 : (List (List Al))) (r1 : (Int × Bool)) (r2 : (List (List Al))) (y1 : QmM) (y5 : Al) (y7 : Bool) (v33 : Al) (v34 : Int) (v35 : Int) (v36 : List Int) (v37 : Bool) (v38 : Int) (v39 : List Int) (v40 : Bool) (v41 : (List (List Al))) : Option ((Al × Int × Int × (List Int) × Bool × Int × (List Int) × Bool × (List (List Al))) ⊕ (Al × (List (List Al)))) :=
 if decide (v34 < ((List.getD v32 v31.toNat []).length : Int)) then
   need (Af (v8.length : Int) v41.length) <|
   need (Af v34 (List.getD v41 (v8.length : Int).toNat []).length) <|
   Option.bind (Hm (⟨((List.getD (List.getD v41 (v8.length : Int).toNat []) v34.toNat Bd).N), ((List.getD (List.getD v41 (v8.length : Int).toNat []) v34.toNat Bd).D)⟩ : Al)) λ y8 =>
   if !y8 then
     need (Af v31 v41.length) <|
     need (Af v31 v41.length) <|
     need (Af v34 (List.getD v41 v31.toNat []).length) <|
     need (Af (v8.length : Int) v41.length) <|
     need (Af v34 (List.getD v41 (v8.length : Int).toNat []).length) <|
     Option.bind (Ja (⟨(⟨v35, v36, v37⟩ : A8), (⟨v38, v39, v40⟩ : A8)⟩ : Al) (⟨((List.getD (List.getD v41 (v8.length : Int).toNat []) v34.toNat Bd).N), ((List.getD (List.getD v41 (v8.length : Int).toNat []) v34.toNat Bd).D)⟩ : Al)) λ y9 =>
     Option.bind (I8 (⟨((List.getD (List.getD v41 v31.toNat []) v34.toNat Bd).N), ((List.getD (List.getD v41 v31.toNat []) v34.toNat Bd).D)⟩ : Al) y9) λ y10 =>
     need (Af v34 (List.getD v41 v31.toNat []).length) <|
     Js a1 v1 v8 v9 v31 v32 v33 v34 v35 v36 v37 v38 v39 v40 (List.set v41 v31.toNat (List.set (List.getD v41 v31.toNat []) v34.toNat y10)) r1 r2 y1 y5 y7
   else
     Js a1 v1 v8 v9 v31 v32 v33 v34 v35 v36 v37 v38 v39 v40 v41 r1 r2 y1 y5 y7
 else
   some (.inr (v33, v41))
def K6 (a1 : Int) (v1 : Int) (v8 : List Int) (v9 : (List (List Al))) (r1 : (Int × Bool)) (r2 : (List (List Al))) (y1 : QmM) (y5 : Al) (v31 : Int) (v32 : (List (List Al))) : Option ((Int × (List (List Al))) ⊕ (List (List Al))) :=
 if decide (v31 < (r2.length : Int)) then
   need (Af v31 v32.length) <|
   need (Af v1 (List.getD v32 v31.toNat []).length) <|
   if decide (v31 = (v8.length : Int)) then
     K2 a1 v1 v8 v9 v31 v32 r1 r2 y1 y5
   else
     Option.bind (Hm (⟨((List.getD (List.getD v32 v31.toNat []) v1.toNat Bd).N), ((List.getD (List.getD v32 v31.toNat []) v1.toNat Bd).D)⟩ : Al)) λ y7 =>
     if y7 then
       K2 a1 v1 v8 v9 v31 v32 r1 r2 y1 y5
     else
       need (Af v31 v32.length) <|
       Option.bind (Bj (λ v : (Al × Int × Int × (List Int) × Bool × Int × (List Int) × Bool × (List (List Al))) => Kz a1 v1 v8 v9 v31 v32 r1 r2 y1 y5 y7 v.1 v.2.1 v.2.2.1 v.2.2.2.1 v.2.2.2.2.1 v.2.2.2.2.2.1 v.2.2.2.2.2.2.1 v.2.2.2.2.2.2.2.1 v.2.2.2.2.2.2.2.2) ((⟨((List.getD (List.getD v32 v31.toNat []) v1.toNat Bd).N), ((List.getD (List.getD v32 v31.toNat []) v1.toNat Bd).D)⟩ : Al), (0 : Int), ((List.getD (List.getD v32 v31.toNat []) v1.toNat Bd).N).v, ((List.getD (List.getD v32 v31.toNat []) v1.toNat Bd).N).m, ((List.getD (List.getD v32 v31.toNat []) v1.toNat Bd).N).neg, ((List.getD (List.getD v32 v31.toNat []) v1.toNat Bd).D).v, ((List.getD (List.getD v32 v31.toNat []) v1.toNat Bd).D).m, ((List.getD (List.getD v32 v31.toNat []) v1.toNat Bd).D).neg, v32)) λ r3 =>
         some (.inl (IntKind.wrap .i64 (v31 + (1 : Int)), r3.2))
 else
   some (.inr v32)
def Jv (a1 : Int) (v1 : Int) (v8 : List Int) (v9 : (List (List Al))) (v14 : Int) (v15 : List Int) (v16 : Bool) (v17 : Int) (v18 : List Int) (v19 : Bool) (v20 : (List (List Al))) (r1 : (Int × Bool)) (y1 : QmM) : Option ((Int × Int × (List Int) × Bool × Int × (List Int) × Bool × (List Int) × (List (List Al))) ⊕ (Int × (List Int) × Bool × Int × (List Int) × Bool × (List Int) × (List (List Al)))) :=
 need (Af (v8.length : Int) v20.length) <|
 need (Af v1 (List.getD v20 (v8.length : Int).toNat []).length) <|
 Option.bind (Ja (⟨(⟨v14, v15, v16⟩ : A8), (⟨v17, v18, v19⟩ : A8)⟩ : Al) (⟨((List.getD (List.getD v20 (v8.length : Int).toNat []) v1.toNat Bd).N), ((List.getD (List.getD v20 (v8.length : Int).toNat []) v1.toNat Bd).D)⟩ : Al)) λ y5 =>
 need (Af (v8.length : Int) v20.length) <|
 Option.bind (Bj (λ v : (Int × Int × Int × (List Int) × Bool × Int × (List Int) × Bool × (List (List Al))) => K0 a1 v1 v8 v9 r1 y1 y5 v.1 v.2.1 v.2.2.1 v.2.2.2.1 v.2.2.2.2.1 v.2.2.2.2.2.1 v.2.2.2.2.2.2.1 v.2.2.2.2.2.2.2.1 v.2.2.2.2.2.2.2.2) (((List.getD v20 (v8.length : Int).toNat []).length : Int), (0 : Int), ((List.getD (List.getD v20 (v8.length : Int).toNat []) v1.toNat Bd).N).v, ((List.getD (List.getD v20 (v8.length : Int).toNat []) v1.toNat Bd).N).m, ((List.getD (List.getD v20 (v8.length : Int).toNat []) v1.toNat Bd).N).neg, ((List.getD (List.getD v20 (v8.length : Int).toNat []) v1.toNat Bd).D).v, ((List.getD (List.getD v20 (v8.length : Int).toNat []) v1.toNat Bd).D).m, ((List.getD (List.getD v20 (v8.length : Int).toNat []) v1.toNat Bd).D).neg, v20)) λ r2 =>
   Option.bind (Bj (λ v : (Int × (List (List Al))) => K6 a1 v1 v8 v9 r1 r2 y1 y5 v.1 v.2) ((0 : Int), r2)) λ r4 =>
     need ((v8.length + [v1].length) * 8 <= Ap) <|
     some (.inl (IntKind.wrap .i64 (v1 + (1 : Int)), y5.N.v, y5.N.m, y5.N.neg, y5.D.v, y5.D.m, y5.D.neg, v8 ++ [v1], r4))
def M5 (a1 : Int) (y1 : QmM) (v1 : Int) (v2 : Int) (v3 : List Int) (v4 : Bool) (v5 : Int) (v6 : List Int) (v7 : Bool) (v8 : List Int) (v9 : (List (List Al))) : Option ((Int × Int × (List Int) × Bool × Int × (List Int) × Bool × (List Int) × (List (List Al))) ⊕ (Int × (List Int) × Bool × Int × (List Int) × Bool × (List Int) × (List (List Al)))) :=
 if decide (v1 < a1) then
   if decide ((v8.length : Int) < (v9.length : Int)) then
     Option.bind (Bj (λ v : (Int × Bool) => K1 a1 v1 v2 v3 v4 v5 v6 v7 v8 v9 y1 v.1 v.2) ((v8.length : Int), decide ((v8.length : Int) < (v9.length : Int)))) λ r1 =>
       if decide (r1.1 = (v9.length : Int)) then
         some (.inl (IntKind.wrap .i64 (v1 + (1 : Int)), v2, v3, v4, v5, v6, v7, v8, v9))
       else
         if !decide (r1.1 = (v8.length : Int)) then
           need (Af (v8.length : Int) v9.length) <|
           need (Af r1.1 v9.length) <|
           need (Af r1.1 v9.length) <|
           need (Af (v8.length : Int) v9.length) <|
           need ((v8.length : Int) = (v8.length : Int)) <|
           need (r1.1 = r1.1) <|
           Option.bind (Mx (⟨(⟨v2, v3, v4⟩ : A8), (⟨v5, v6, v7⟩ : A8)⟩ : Al)) λ y4 =>
           Jv a1 v1 v8 v9 y4.N.v y4.N.m y4.N.neg y4.D.v y4.D.m y4.D.neg (List.set (List.set v9 r1.1.toNat (List.getD v9 (v8.length : Int).toNat [])) (v8.length : Int).toNat (List.getD v9 r1.1.toNat [])) r1 y1
         else
           Jv a1 v1 v8 v9 v2 v3 v4 v5 v6 v7 v9 r1 y1
   else
     some (.inr (v2, v3, v4, v5, v6, v7, v8, v9))
 else
   some (.inr (v2, v3, v4, v5, v6, v7, v8, v9))
def Kp (a0 : QmM) (a1 : Int) : Option (QmM × (List Int) × Al) :=
 Option.bind (Rm a0) λ y1 =>
 Option.bind (G8 (1 : Int)) λ y2 =>
 Option.bind (Bj (λ v : (Int × Int × (List Int) × Bool × Int × (List Int) × Bool × (List Int) × (List (List Al))) => M5 a1 y1 v.1 v.2.1 v.2.2.1 v.2.2.2.1 v.2.2.2.2.1 v.2.2.2.2.2.1 v.2.2.2.2.2.2.1 v.2.2.2.2.2.2.2.1 v.2.2.2.2.2.2.2.2) ((0 : Int), y2.N.v, y2.N.m, y2.N.neg, y2.D.v, y2.D.m, y2.D.neg, [], y1.V)) λ r5 =>
   some ((⟨y1.C, r5.2.2.2.2.2.2.2⟩ : QmM), r5.2.2.2.2.2.2.1, (⟨(⟨r5.1, r5.2.1, r5.2.2.1⟩ : A8), (⟨r5.2.2.2.1, r5.2.2.2.2.1, r5.2.2.2.2.2.1⟩ : A8)⟩ : Al))
def M9 (a0 : QmM) (a1 : QmM) (v1 : Int) (v2 : (List (List Al))) : Option ((Int × (List (List Al))) ⊕ (List (List Al))) :=
 if decide (v1 < (a0.V.length : Int)) then
   need (Af v1 a0.V.length) <|
   need ((List.getD a0.V v1.toNat ([] : List Al)).length * 80 <= Ap) <|
   need (Af v1 a1.V.length) <|
   need (((List.getD a0.V v1.toNat ([] : List Al)).length + (List.getD a1.V v1.toNat ([] : List Al)).length) * 80 <= Ap) <|
   need ((v2.length + 1) * 24 <= Ap) <|
   some (.inl (IntKind.wrap .i64 (v1 + (1 : Int)), v2 ++ [(List.getD a0.V v1.toNat ([] : List Al)) ++ (List.getD a1.V v1.toNat ([] : List Al))]))
 else
   some (.inr v2)
def Lr (a0 : QmM) (a1 : QmM) : Option QmM :=
 Option.bind (Bj (λ v : (Int × (List (List Al))) => M9 a0 a1 v.1 v.2) ((0 : Int), [])) λ r1 =>
   some (⟨IntKind.wrap .i64 (a0.C + a1.C), r1⟩ : QmM)
def Ol (a0 : List Al) (v1 : Int) (v2 : (List (List Al))) : Option ((Int × (List (List Al))) ⊕ (List (List Al))) :=
 if decide (v1 < (a0.length : Int)) then
   need (Af v1 a0.length) <|
   need ((v2.length + [[(⟨((List.getD a0 v1.toNat Bd).N), ((List.getD a0 v1.toNat Bd).D)⟩ : Al)]].length) * 24 <= Ap) <|
   some (.inl (IntKind.wrap .i64 (v1 + (1 : Int)), v2 ++ [[(⟨((List.getD a0 v1.toNat Bd).N), ((List.getD a0 v1.toNat Bd).D)⟩ : Al)]]))
 else
   some (.inr v2)
def Oh (a0 : List Al) : Option QmM :=
 Option.bind (Bj (λ v : (Int × (List (List Al))) => Ol a0 v.1 v.2) ((0 : Int), [])) λ r1 =>
   some (⟨(1 : Int), r1⟩ : QmM)
def On (a0 : QmM) (a1 : List Int) (a2 : Int) (v1 : Int) (v2 : List Bool) : Option ((Int × (List Bool)) ⊕ (List Bool)) :=
 if decide (v1 < (a1.length : Int)) then
   need (Af v1 a1.length) <|
   need (Af (List.getD a1 v1.toNat (0 : Int)) v2.length) <|
   some (.inl (IntKind.wrap .i64 (v1 + (1 : Int)), List.set v2 (List.getD a1 v1.toNat (0 : Int)).toNat true))
 else
   some (.inr v2)
def Sd (a0 : QmM) (a1 : List Int) (a2 : Int) (v4 : Int) (v5 : (List (List Al))) (r1 : List Bool) (v6 : Int) (v7 : Int) (v8 : List Al) : Option ((Int × Int × (List Al)) ⊕ (List Al)) :=
 if decide (v7 < v6) then
   Option.bind (G8 (0 : Int)) λ y1 =>
   need (Af v7 v8.length) <|
   some (.inl (v6, IntKind.wrap .i64 (v7 + (1 : Int)), List.set v8 v7.toNat y1))
 else
   some (.inr v8)
def Sr (a0 : QmM) (a1 : List Int) (a2 : Int) (v4 : Int) (v5 : (List (List Al))) (r1 : List Bool) (v10 : Int) (v11 : List Al) : Option ((Int × (List Al)) ⊕ (List Al)) :=
 if decide (v10 < (a1.length : Int)) then
   need (Af v10 a1.length) <|
   need (Af v10 a0.V.length) <|
   need (Af v4 (List.getD a0.V v10.toNat ([] : List Al)).length) <|
   Option.bind (Mx (⟨((List.getD (List.getD a0.V v10.toNat ([] : List Al)) v4.toNat Bd).N), ((List.getD (List.getD a0.V v10.toNat ([] : List Al)) v4.toNat Bd).D)⟩ : Al)) λ y3 =>
   need (Af (List.getD a1 v10.toNat (0 : Int)) v11.length) <|
   some (.inl (IntKind.wrap .i64 (v10 + (1 : Int)), List.set v11 (List.getD a1 v10.toNat (0 : Int)).toNat y3))
 else
   some (.inr v11)
def O0 (a0 : QmM) (a1 : List Int) (a2 : Int) (r1 : List Bool) (v4 : Int) (v5 : (List (List Al))) : Option ((Int × (List (List Al))) ⊕ (List (List Al))) :=
 if decide (v4 < a2) then
   need (Af v4 r1.length) <|
   if List.getD r1 v4.toNat false then
     some (.inl (IntKind.wrap .i64 (v4 + (1 : Int)), v5))
   else
     need (0 <= a2) <|
     need (a2 <= a2) <|
     need (a2 * ((80 : Nat) : Int) <= (Ap : Int)) <|
     Option.bind (Bj (λ v : (Int × Int × (List Al)) => Sd a0 a1 a2 v4 v5 r1 v.1 v.2.1 v.2.2) (((List.replicate a2.toNat (⟨(⟨(0 : Int), [], false⟩ : A8), (⟨(0 : Int), [], false⟩ : A8)⟩ : Al)).length : Int), (0 : Int), List.replicate a2.toNat (⟨(⟨(0 : Int), [], false⟩ : A8), (⟨(0 : Int), [], false⟩ : A8)⟩ : Al))) λ r2 =>
       Option.bind (G8 (1 : Int)) λ y2 =>
       need (Af v4 r2.length) <|
       Option.bind (Bj (λ v : (Int × (List Al)) => Sr a0 a1 a2 v4 v5 r1 v.1 v.2) ((0 : Int), List.set r2 v4.toNat y2)) λ r3 =>
         need ((v5.length + 1) * 24 <= Ap) <|
         some (.inl (IntKind.wrap .i64 (v4 + (1 : Int)), v5 ++ [r3]))
 else
   some (.inr v5)
def N2 (a0 : QmM) (a1 : List Int) (a2 : Int) : Option (List (List Al)) :=
 need (0 <= a2) <|
 need (a2 <= a2) <|
 need (a2 * ((1 : Nat) : Int) <= (Ap : Int)) <|
 Option.bind (Bj (λ v : (Int × (List Bool)) => On a0 a1 a2 v.1 v.2) ((0 : Int), List.replicate a2.toNat false)) λ r1 =>
   Option.bind (Bj (λ v : (Int × (List (List Al))) => O0 a0 a1 a2 r1 v.1 v.2) ((0 : Int), [])) λ r4 =>
     some r4
def L4 (a0 : QmM) (y3 : (QmM × (List Int) × Al)) (v1 : Int) : Option (Int ⊕ (Unit ⊕ ((List Al) × (List (List Al)) × Bool))) :=
 if decide (v1 < (y3.1.V.length : Int)) then
   need (Af v1 y3.1.V.length) <|
   need (Af a0.C (List.getD y3.1.V v1.toNat ([] : List Al)).length) <|
   Option.bind (Hm (⟨((List.getD (List.getD y3.1.V v1.toNat ([] : List Al)) (a0.C).toNat Bd).N), ((List.getD (List.getD y3.1.V v1.toNat ([] : List Al)) (a0.C).toNat Bd).D)⟩ : Al)) λ y4 =>
   if !y4 then
     some (.inr (.inr ([], [], false)))
   else
     some (.inl (IntKind.wrap .i64 (v1 + (1 : Int))))
 else
   some (.inr (.inl ()))
def Mm (a0 : QmM) (y3 : (QmM × (List Int) × Al)) (v2 : Int) (v3 : Int) (v4 : List Al) : Option ((Int × Int × (List Al)) ⊕ (List Al)) :=
 if decide (v3 < v2) then
   Option.bind (G8 (0 : Int)) λ y5 =>
   need (Af v3 v4.length) <|
   some (.inl (v2, IntKind.wrap .i64 (v3 + (1 : Int)), List.set v4 v3.toNat y5))
 else
   some (.inr v4)
def Pc (a0 : QmM) (y3 : (QmM × (List Int) × Al)) (v6 : Int) (v7 : List Al) : Option ((Int × (List Al)) ⊕ (List Al)) :=
 if decide (v6 < (y3.2.1.length : Int)) then
   need (Af v6 y3.2.1.length) <|
   need (Af v6 y3.1.V.length) <|
   need (Af a0.C (List.getD y3.1.V v6.toNat ([] : List Al)).length) <|
   need (Af (List.getD y3.2.1 v6.toNat (0 : Int)) v7.length) <|
   some (.inl (IntKind.wrap .i64 (v6 + (1 : Int)), List.set v7 (List.getD y3.2.1 v6.toNat (0 : Int)).toNat (⟨((List.getD (List.getD y3.1.V v6.toNat ([] : List Al)) (a0.C).toNat Bd).N), ((List.getD (List.getD y3.1.V v6.toNat ([] : List Al)) (a0.C).toNat Bd).D)⟩ : Al)))
 else
   some (.inr v7)
def Oc (a0 : QmM) (a1 : List Al) : Option ((List Al) × (List (List Al)) × Bool) :=
 Option.bind (Oh a1) λ y1 =>
 Option.bind (Lr a0 y1) λ y2 =>
 Option.bind (Kp y2 a0.C) λ y3 =>
 Option.bind (Bj (λ v : Int => L4 a0 y3 v) (y3.2.1.length : Int)) λ r =>
 match r with
 | .inl r1 =>
   need (0 <= a0.C) <|
   need (a0.C <= a0.C) <|
   need (a0.C * ((80 : Nat) : Int) <= (Ap : Int)) <|
   Option.bind (Bj (λ v : (Int × Int × (List Al)) => Mm a0 y3 v.1 v.2.1 v.2.2) (((List.replicate (a0.C).toNat (⟨(⟨(0 : Int), [], false⟩ : A8), (⟨(0 : Int), [], false⟩ : A8)⟩ : Al)).length : Int), (0 : Int), List.replicate (a0.C).toNat (⟨(⟨(0 : Int), [], false⟩ : A8), (⟨(0 : Int), [], false⟩ : A8)⟩ : Al))) λ r2 =>
     Option.bind (Bj (λ v : (Int × (List Al)) => Pc a0 y3 v.1 v.2) ((0 : Int), r2)) λ r3 =>
       Option.bind (N2 y3.1 y3.2.1 a0.C) λ y6 =>
       some (r3, y6, true)
 | .inr r4 =>
   some r4
def K8 (a0 : An) (v1 : Int) (v4 : List Al) (v5 : (List (List Al))) (y1 : QmM) (y2 : List Int) : Option ((Int × (List Al) × (List (List Al))) ⊕ ((List Al) × (List (List Al)))) :=
 some (.inl (IntKind.wrap .i64 (v1 + (1 : Int)), v4, v5))
def Mu (a0 : An) (y1 : QmM) (y2 : List Int) (v1 : Int) (v2 : List Al) (v3 : (List (List Al))) : Option ((Int × (List Al) × (List (List Al))) ⊕ ((List Al) × (List (List Al)))) :=
 if decide (v1 < (y2.length : Int)) then
   need (Af v1 y2.length) <|
   if decide (v1 = (List.getD y2 v1.toNat (0 : Int))) then
     Option.bind (W3 (1 : Int) a0.Nodes) λ y3 =>
     need (Af (0 : Int) y3.V.length) <|
     Option.bind (G8 (1 : Int)) λ y4 =>
     need (Af v1 (List.getD y3.V (0 : Int).toNat []).length) <|
     Option.bind (G8 (0 : Int)) λ y5 =>
     need (Af v1 v3.length) <|
     need (Af v1 v2.length) <|
     K8 a0 v1 (List.set v2 v1.toNat y5) (List.set v3 v1.toNat (List.getD (List.set y3.V (0 : Int).toNat (List.set (List.getD y3.V (0 : Int).toNat []) v1.toNat y4)) (0 : Int).toNat [])) y1 y2
   else
     K8 a0 v1 v2 v3 y1 y2
 else
   some (.inr (v2, v3))
def Kj (a0 : An) (a1 : List Al) : Option (List Al) :=
 Option.bind (Jp a0) λ y1 =>
 Option.bind (Km a0) λ y2 =>
 Option.bind (Bj (λ v : (Int × (List Al) × (List (List Al))) => Mu a0 y1 y2 v.1 v.2.1 v.2.2) ((0 : Int), a1, y1.V)) λ r1 =>
   Option.bind (Oc (⟨y1.C, r1.2⟩ : QmM) r1.1) λ y6 =>
   some y6.1
def U0 (a0 : An) (v1 : Int) (v2 : Int) (v3 : List Al) : Option ((Int × Int × (List Al)) ⊕ (List Al)) :=
 if decide (v2 < v1) then
   Option.bind (G8 (0 : Int)) λ y1 =>
   need (Af v2 v3.length) <|
   some (.inl (v1, IntKind.wrap .i64 (v2 + (1 : Int)), List.set v3 v2.toNat y1))
 else
   some (.inr v3)
def Nv (a0 : An) (v5 : Int) (v6 : List Al) : Option ((Int × (List Al)) ⊕ (List Al)) :=
 if decide (v5 < (a0.Arms.length : Int)) then
   need (Af v5 a0.Arms.length) <|
   Option.bind (K5 (⟨(List.getD a0.Arms v5.toNat Ac).A, (List.getD a0.Arms v5.toNat Ac).B, ((List.getD a0.Arms v5.toNat Ac).R), ((List.getD a0.Arms v5.toNat Ac).E)⟩ : D4)) λ y2 =>
   Option.bind (R0 ((List.getD a0.Arms v5.toNat Ac).E)) λ y3 =>
   Option.bind (Ja y2 y3) λ y4 =>
   need (Af ((List.getD a0.Arms v5.toNat Ac).A) v6.length) <|
   Option.bind (I8 (⟨((List.getD v6 ((List.getD a0.Arms v5.toNat Ac).A).toNat Bd).N), ((List.getD v6 ((List.getD a0.Arms v5.toNat Ac).A).toNat Bd).D)⟩ : Al) y4) λ y5 =>
   need (Af ((List.getD a0.Arms v5.toNat Ac).A) v6.length) <|
   need (Af ((List.getD a0.Arms v5.toNat Ac).B) (List.set v6 ((List.getD a0.Arms v5.toNat Ac).A).toNat y5).length) <|
   Option.bind (Im (⟨((List.getD (List.set v6 ((List.getD a0.Arms v5.toNat Ac).A).toNat y5) ((List.getD a0.Arms v5.toNat Ac).B).toNat Bd).N), ((List.getD (List.set v6 ((List.getD a0.Arms v5.toNat Ac).A).toNat y5) ((List.getD a0.Arms v5.toNat Ac).B).toNat Bd).D)⟩ : Al) y4) λ y6 =>
   need (Af ((List.getD a0.Arms v5.toNat Ac).B) (List.set v6 ((List.getD a0.Arms v5.toNat Ac).A).toNat y5).length) <|
   some (.inl (IntKind.wrap .i64 (v5 + (1 : Int)), List.set (List.set v6 ((List.getD a0.Arms v5.toNat Ac).A).toNat y5) ((List.getD a0.Arms v5.toNat Ac).B).toNat y6))
 else
   some (.inr v6)
def Rd (a0 : An) (y7 : List Al) (v8 : Int) (v9 : List Al) : Option ((Int × (List Al)) ⊕ (List Al)) :=
 if decide (v8 < (a0.Arms.length : Int)) then
   need (Af v8 a0.Arms.length) <|
   need (Af ((List.getD a0.Arms v8.toNat Ac).A) y7.length) <|
   need (Af ((List.getD a0.Arms v8.toNat Ac).B) y7.length) <|
   Option.bind (I8 (⟨((List.getD y7 ((List.getD a0.Arms v8.toNat Ac).A).toNat Bd).N), ((List.getD y7 ((List.getD a0.Arms v8.toNat Ac).A).toNat Bd).D)⟩ : Al) (⟨((List.getD y7 ((List.getD a0.Arms v8.toNat Ac).B).toNat Bd).N), ((List.getD y7 ((List.getD a0.Arms v8.toNat Ac).B).toNat Bd).D)⟩ : Al)) λ y8 =>
   Option.bind (R0 ((List.getD a0.Arms v8.toNat Ac).E)) λ y9 =>
   Option.bind (Im y8 y9) λ y10 =>
   Option.bind (K5 (⟨(List.getD a0.Arms v8.toNat Ac).A, (List.getD a0.Arms v8.toNat Ac).B, ((List.getD a0.Arms v8.toNat Ac).R), ((List.getD a0.Arms v8.toNat Ac).E)⟩ : D4)) λ y11 =>
   Option.bind (Ja y10 y11) λ y12 =>
   need ((v9.length + [y12].length) * 80 <= Ap) <|
   some (.inl (IntKind.wrap .i64 (v8 + (1 : Int)), v9 ++ [y12]))
 else
   some (.inr v9)
def O4 (a0 : An) : Option ((List Al) × (List Al)) :=
 need (0 <= a0.Nodes) <|
 need (a0.Nodes <= a0.Nodes) <|
 need (a0.Nodes * ((80 : Nat) : Int) <= (Ap : Int)) <|
 Option.bind (Bj (λ v : (Int × Int × (List Al)) => U0 a0 v.1 v.2.1 v.2.2) (((List.replicate (a0.Nodes).toNat (⟨(⟨(0 : Int), [], false⟩ : A8), (⟨(0 : Int), [], false⟩ : A8)⟩ : Al)).length : Int), (0 : Int), List.replicate (a0.Nodes).toNat (⟨(⟨(0 : Int), [], false⟩ : A8), (⟨(0 : Int), [], false⟩ : A8)⟩ : Al))) λ r1 =>
   Option.bind (Bj (λ v : (Int × (List Al)) => Nv a0 v.1 v.2) ((0 : Int), r1)) λ r2 =>
     Option.bind (Kj a0 r2) λ y7 =>
     Option.bind (Bj (λ v : (Int × (List Al)) => Rd a0 y7 v.1 v.2) ((0 : Int), [])) λ r3 =>
       some (y7, r3)
def Lq : Option (Int × Bool) :=
 some ((0 : Int), false)
def Pk (a0 : A8) (a1 : Int) : Option (Int × Bool) :=
 if !List.isEmpty a0.m then
   Lq
 else
   if decide (a1 < a0.v) then
     Lq
   else
     if decide (a0.v < (IntKind.wrap .i64 (0 - a1))) then
       Lq
     else
       some (a0.v, true)
def Ny : Option (Au × Bool) :=
 some ((⟨(0 : Int), (0 : Int)⟩ : Au), false)
def Oy (a0 : Al) : Option (Au × Bool) :=
 Option.bind (Pk a0.N (1000000000000 : Int)) λ y1 =>
 Option.bind (Pk a0.D (1000000000000 : Int)) λ y2 =>
 if !y1.2 then
   Ny
 else
   if !y2.2 then
     Ny
   else
     some ((⟨y1.1, y2.1⟩ : Au), true)
def Re (a0 : List Al) (v1 : Int) (v2 : List Au) : Option ((Int × (List Au)) ⊕ ((List Au) ⊕ ((List Au) × Bool))) :=
 if decide (v1 < (a0.length : Int)) then
   need (Af v1 a0.length) <|
   Option.bind (Oy (⟨((List.getD a0 v1.toNat Bd).N), ((List.getD a0 v1.toNat Bd).D)⟩ : Al)) λ y1 =>
   if !y1.2 then
     some (.inr (.inr ([], false)))
   else
     need (Af v1 v2.length) <|
     some (.inl (IntKind.wrap .i64 (v1 + (1 : Int)), List.set v2 v1.toNat y1.1))
 else
   some (.inr (.inl v2))
def Ph (a0 : List Al) : Option ((List Au) × Bool) :=
 need (0 <= (a0.length : Int)) <|
 need ((a0.length : Int) <= (a0.length : Int)) <|
 need ((a0.length : Int) * ((16 : Nat) : Int) <= (Ap : Int)) <|
 Option.bind (Bj (λ v : (Int × (List Au)) => Re a0 v.1 v.2) ((0 : Int), List.replicate ((a0.length : Int)).toNat (⟨(0 : Int), (0 : Int)⟩ : Au))) λ r =>
 match r with
 | .inl r1 =>
   some (r1, true)
 | .inr r2 =>
   some r2
def Hp : Option ((List Au) × (List Au) × Int) :=
 some ([], [], (3 : Int))
def E2 (a0 : An) : Option ((List Au) × (List Au) × Int) :=
 Option.bind (J7 a0) λ y1 =>
 if !decide (y1 = (0 : Int)) then
   some ([], [], y1)
 else
   Option.bind (O4 a0) λ y2 =>
   Option.bind (Ph y2.1) λ y3 =>
   Option.bind (Ph y2.2) λ y4 =>
   if !y3.2 then
     Hp
   else
     if !y4.2 then
       Hp
     else
       some (y3.1, y4.1, (0 : Int))
def D9 : Option Bool :=
 some false
def H4 (v2 : Int) (v3 : Int) : Option ((Int × Int) ⊕ Int) :=
 if decide ((0 : Int) < v3) then
   need (v3 ≠ 0) <|
   some (.inl (v3, Int.tmod v2 v3))
 else
   some (.inr v2)
def Fg (a0 : Au) (v1 : Int) : Option Bool :=
 Option.bind (Bj (λ v : (Int × Int) => H4 v.1 v.2) (v1, a0.D)) λ r1 =>
   some (decide (r1 = (1 : Int)))
def Fl (a0 : Au) : Option Bool :=
 if decide (a0.D < (1 : Int)) then
   D9
 else
   if decide ((1000000000000 : Int) < a0.D) then
     D9
   else
     if decide (a0.N < (-1000000000000 : Int)) then
       D9
     else
       if decide ((1000000000000 : Int) < a0.N) then
         D9
       else
         if decide (a0.N < (0 : Int)) then
           Fg a0 (IntKind.wrap .i64 (0 - a0.N))
         else
           Fg a0 a0.N
def Du : Option Int :=
 some (1 : Int)
def Bp : Option (Int ⊕ (Unit ⊕ Int)) :=
 some (.inr (.inr (1 : Int)))
def Fi (a0 : An) (v1 : Int) : Option (Int ⊕ (Unit ⊕ Int)) :=
 if decide (v1 < (a0.Arms.length : Int)) then
   need (Af v1 a0.Arms.length) <|
   if decide (((List.getD a0.Arms v1.toNat Ac).A) < (0 : Int)) then
     Bp
   else
     if decide (a0.Nodes <= ((List.getD a0.Arms v1.toNat Ac).A)) then
       Bp
     else
       if decide (((List.getD a0.Arms v1.toNat Ac).B) < (0 : Int)) then
         Bp
       else
         if decide (a0.Nodes <= ((List.getD a0.Arms v1.toNat Ac).B)) then
           Bp
         else
           Option.bind (Fl ((List.getD a0.Arms v1.toNat Ac).R)) λ y1 =>
           if !y1 then
             Bp
           else
             if decide ((((List.getD a0.Arms v1.toNat Ac).R).N) <= (0 : Int)) then
               Bp
             else
               Option.bind (Fl ((List.getD a0.Arms v1.toNat Ac).E)) λ y2 =>
               if !y2 then
                 Bp
               else
                 some (.inl (IntKind.wrap .i64 (v1 + (1 : Int))))
 else
   some (.inr (.inl ()))
def By (a0 : An) : Option Int :=
 if decide ((40 : Int) < (a0.Arms.length : Int)) then
   some (3 : Int)
 else
   if decide (a0.Nodes < (1 : Int)) then
     Du
   else
     if decide ((12 : Int) < a0.Nodes) then
       Du
     else
       Option.bind (Bj (λ v : Int => Fi a0 v) (0 : Int)) λ r =>
       match r with
       | .inl r1 =>
         some (0 : Int)
       | .inr r2 =>
         some r2
def Dy : Option Ad :=
 some (⟨[(1 : Int)], false⟩ : Ad)
def Bu (a0 : Ad) : Option Bool :=
 some (decide ((a0.d.length : Int) = (0 : Int)))
def B0 (a0 : Aa) : Option Ad :=
 Option.bind (Bu a0.d) λ y1 =>
 if y1 then
   Option.bind Dy λ y2 =>
   some y2
 else
   some a0.d
def Cb (a0 : Ad) : Option Bool :=
 if decide ((a0.d.length : Int) = (1 : Int)) then
   need (Af (0 : Int) a0.d.length) <|
   if decide ((List.getD a0.d ((0 : Int)).toNat (0 : Int)) = (1 : Int)) then
     some (!a0.minus)
   else
     some false
 else
   some false
def Bz (a0 : List Int) (a1 : Bool) : Option Ad :=
 if a1 then
   some (⟨a0, decide ((0 : Int) < (a0.length : Int))⟩ : Ad)
 else
   some (⟨a0, false⟩ : Ad)
def G4 (v1 : List Int) : Option ((List Int) ⊕ (List Int)) :=
 if decide ((0 : Int) < (v1.length : Int)) then
   need (Af (IntKind.wrap .i64 ((v1.length : Int) - (1 : Int))) v1.length) <|
   if decide ((List.getD v1 (IntKind.wrap .i64 ((v1.length : Int) - (1 : Int))).toNat (0 : Int)) = (0 : Int)) then
     need ((0 : Int) <= (IntKind.wrap .i64 ((v1.length : Int) - (1 : Int)))) <|
     need ((IntKind.wrap .i64 ((v1.length : Int) - (1 : Int))) <= (v1.length : Int)) <|
     some (.inl (List.take (IntKind.wrap .i64 ((v1.length : Int) - (1 : Int))).toNat v1))
   else
     some (.inr v1)
 else
   some (.inr v1)
def Bt (a0 : List Int) : Option (List Int) :=
 Option.bind (Bj (λ v : (List Int) => G4 v) a0) λ r1 =>
   some r1
def Cs (a0 : List Int) (a1 : List Int) (v2 : Int) (v3 : List Int) (v5 : Int) : Option ((Int × Int × (List Int)) ⊕ (Int × (List Int))) :=
 need ((v3.length + [IntKind.wrap .u32 v5].length) * 4 <= Ap) <|
 need ((0 : Int) <= (32 : Int)) <|
 some (.inl (Int.fdiv v5 (2 ^ (min (32 : Int).toNat (IntKind.bits .u64))), IntKind.wrap .i64 (v2 + (1 : Int)), v3 ++ [IntKind.wrap .u32 v5]))
def Ek (a0 : List Int) (a1 : List Int) (v2 : Int) (v3 : List Int) (v4 : Int) : Option ((Int × Int × (List Int)) ⊕ (Int × (List Int))) :=
 if decide (v2 < (a1.length : Int)) then
   need (Af v2 a1.length) <|
   Cs a0 a1 v2 v3 (IntKind.wrap .u64 (v4 + (IntKind.wrap .u64 (List.getD a1 v2.toNat (0 : Int)))))
 else
   Cs a0 a1 v2 v3 v4
def Ei (a0 : List Int) (a1 : List Int) (v1 : Int) (v2 : Int) (v3 : List Int) : Option ((Int × Int × (List Int)) ⊕ (Int × (List Int))) :=
 if decide (v2 < (a0.length : Int)) then
   need (Af v2 a0.length) <|
   Ek a0 a1 v2 v3 (IntKind.wrap .u64 (v1 + (IntKind.wrap .u64 (List.getD a0 v2.toNat (0 : Int)))))
 else
   Ek a0 a1 v2 v3 v1
def Gz (a0 : List Int) (a1 : List Int) (v1 : Int) (v2 : Int) (v3 : List Int) : Option ((Int × Int × (List Int)) ⊕ (Int × (List Int))) :=
 if decide (v2 < (a0.length : Int)) then
   Ei a0 a1 v1 v2 v3
 else
   if decide (v2 < (a1.length : Int)) then
     Ei a0 a1 v1 v2 v3
   else
     some (.inr (v1, v3))
def Fe (a0 : List Int) (a1 : List Int) : Option (List Int) :=
 need (0 <= (0 : Int)) <|
 need ((0 : Int) <= (IntKind.wrap .i64 ((if (a0.length : Int) < (a1.length : Int) then (a1.length : Int) else (a0.length : Int)) + (1 : Int)))) <|
 need ((IntKind.wrap .i64 ((if (a0.length : Int) < (a1.length : Int) then (a1.length : Int) else (a0.length : Int)) + (1 : Int))) * ((4 : Nat) : Int) <= (Ap : Int)) <|
 Option.bind (Bj (λ v : (Int × Int × (List Int)) => Gz a0 a1 v.1 v.2.1 v.2.2) ((0 : Int), (0 : Int), [])) λ r1 =>
   need ((r1.2.length + [IntKind.wrap .u32 r1.1].length) * 4 <= Ap) <|
   Option.bind (Bt (r1.2 ++ [IntKind.wrap .u32 r1.1])) λ y1 =>
   some y1
def Gg (a0 : List Int) (a1 : List Int) (v1 : Int) : Option (Int ⊕ (Unit ⊕ Int)) :=
 if decide ((0 : Int) <= v1) then
   need (Af v1 a0.length) <|
   need (Af v1 a1.length) <|
   if decide ((List.getD a0 v1.toNat (0 : Int)) < (List.getD a1 v1.toNat (0 : Int))) then
     some (.inr (.inr (-1 : Int)))
   else
     need (Af v1 a0.length) <|
     need (Af v1 a1.length) <|
     if decide ((List.getD a1 v1.toNat (0 : Int)) < (List.getD a0 v1.toNat (0 : Int))) then
       some (.inr (.inr (1 : Int)))
     else
       some (.inl (IntKind.wrap .i64 (v1 - (1 : Int))))
 else
   some (.inr (.inl ()))
def Dl (a0 : List Int) (a1 : List Int) : Option Int :=
 if !decide ((a0.length : Int) = (a1.length : Int)) then
   if decide ((a0.length : Int) < (a1.length : Int)) then
     some (-1 : Int)
   else
     some (1 : Int)
 else
   Option.bind (Bj (λ v : Int => Gg a0 a1 v) (IntKind.wrap .i64 ((a0.length : Int) - (1 : Int)))) λ r =>
   match r with
   | .inl r1 =>
     some (0 : Int)
   | .inr r2 =>
     some r2
def Ej (a0 : List Int) (a1 : List Int) (v2 : Int) (v3 : List Int) (v4 : Int) : Option ((Int × Int × (List Int)) ⊕ (List Int)) :=
 need ((v3.length + [IntKind.wrap .u32 v4].length) * 4 <= Ap) <|
 need ((0 : Int) <= (63 : Int)) <|
 some (.inl (Int.fdiv v4 (2 ^ (min (63 : Int).toNat (IntKind.bits .u64))), IntKind.wrap .i64 (v2 + (1 : Int)), v3 ++ [IntKind.wrap .u32 v4]))
def G0 (a0 : List Int) (a1 : List Int) (v1 : Int) (v2 : Int) (v3 : List Int) : Option ((Int × Int × (List Int)) ⊕ (List Int)) :=
 if decide (v2 < (a0.length : Int)) then
   need (Af v2 a0.length) <|
   if decide (v2 < (a1.length : Int)) then
     need (Af v2 a1.length) <|
     Ej a0 a1 v2 v3 (IntKind.wrap .u64 ((IntKind.wrap .u64 ((IntKind.wrap .u64 (List.getD a0 v2.toNat (0 : Int))) - v1)) - (IntKind.wrap .u64 (List.getD a1 v2.toNat (0 : Int)))))
   else
     Ej a0 a1 v2 v3 (IntKind.wrap .u64 ((IntKind.wrap .u64 (List.getD a0 v2.toNat (0 : Int))) - v1))
 else
   some (.inr v3)
def Ee (a0 : List Int) (a1 : List Int) : Option (List Int) :=
 need (0 <= (0 : Int)) <|
 need ((0 : Int) <= (a0.length : Int)) <|
 need ((a0.length : Int) * ((4 : Nat) : Int) <= (Ap : Int)) <|
 Option.bind (Bj (λ v : (Int × Int × (List Int)) => G0 a0 a1 v.1 v.2.1 v.2.2) ((0 : Int), (0 : Int), [])) λ r1 =>
   Option.bind (Bt r1) λ y1 =>
   some y1
def Cu (a0 : Ad) (a1 : Ad) : Option Ad :=
 if (a0.minus == a1.minus) then
   Option.bind (Fe a0.d a1.d) λ y1 =>
   Option.bind (Bz y1 a0.minus) λ y2 =>
   some y2
 else
   Option.bind (Dl a0.d a1.d) λ y3 =>
   if decide ((0 : Int) <= y3) then
     Option.bind (Ee a0.d a1.d) λ y4 =>
     Option.bind (Bz y4 a0.minus) λ y5 =>
     some y5
   else
     Option.bind (Ee a1.d a0.d) λ y6 =>
     Option.bind (Bz y6 a1.minus) λ y7 =>
     some y7
def Cf (a0 : Ad) : Option Ad :=
 Option.bind (Bz a0.d (!a0.minus)) λ y1 =>
 some y1
def Fu (a0 : List Int) (a1 : Int) (v1 : Int) (v2 : List Int) : Option ((Int × (List Int)) ⊕ (List Int)) :=
 if decide (v1 < (a0.length : Int)) then
   need (Af v1 a0.length) <|
   need ((0 : Int) <= a1) <|
   need (Af v1 v2.length) <|
   need (Af v1 v2.length) <|
   need ((0 : Int) <= (32 : Int)) <|
   need (Af (IntKind.wrap .i64 (v1 + (1 : Int))) (List.set v2 v1.toNat (IntKind.wrap .u32 ((((BitVec.ofInt (IntKind.bits .u32) (List.getD v2 v1.toNat (0 : Int)) ||| BitVec.ofInt (IntKind.bits .u32) (IntKind.wrap .u32 (IntKind.wrap .u64 ((IntKind.wrap .u64 (List.getD a0 v1.toNat (0 : Int))) * 2 ^ (min a1.toNat (IntKind.bits .u64)))))).toNat : Nat) : Int)))).length) <|
   some (.inl (IntKind.wrap .i64 (v1 + (1 : Int)), List.set (List.set v2 v1.toNat (IntKind.wrap .u32 ((((BitVec.ofInt (IntKind.bits .u32) (List.getD v2 v1.toNat (0 : Int)) ||| BitVec.ofInt (IntKind.bits .u32) (IntKind.wrap .u32 (IntKind.wrap .u64 ((IntKind.wrap .u64 (List.getD a0 v1.toNat (0 : Int))) * 2 ^ (min a1.toNat (IntKind.bits .u64)))))).toNat : Nat) : Int)))) (IntKind.wrap .i64 (v1 + (1 : Int))).toNat (IntKind.wrap .u32 (Int.fdiv (IntKind.wrap .u64 ((IntKind.wrap .u64 (List.getD a0 v1.toNat (0 : Int))) * 2 ^ (min a1.toNat (IntKind.bits .u64)))) (2 ^ (min (32 : Int).toNat (IntKind.bits .u64)))))))
 else
   some (.inr v2)
def C2 (a0 : List Int) (a1 : Int) : Option (List Int) :=
 need (0 <= (IntKind.wrap .i64 ((a0.length : Int) + (1 : Int)))) <|
 need ((IntKind.wrap .i64 ((a0.length : Int) + (1 : Int))) <= (IntKind.wrap .i64 ((a0.length : Int) + (1 : Int)))) <|
 need ((IntKind.wrap .i64 ((a0.length : Int) + (1 : Int))) * ((4 : Nat) : Int) <= (Ap : Int)) <|
 Option.bind (Bj (λ v : (Int × (List Int)) => Fu a0 a1 v.1 v.2) ((0 : Int), List.replicate (IntKind.wrap .i64 ((a0.length : Int) + (1 : Int))).toNat (0 : Int))) λ r1 =>
   some r1
def Fo (a0 : List Int) (a1 : List Int) (a2 : Int) (a3 : Int) (wi : Int) (wn : Int) (v1 : Int) (v2 : Int) : Option ((Int × Int) ⊕ Int) :=
 if decide (v2 < (4294967296 : Int)) then
   need ((0 : Int) <= (32 : Int)) <|
   need ((0 : Int) <= (IntKind.wrap .i64 ((a1.length : Int) - (2 : Int)))) <|
   need ((IntKind.wrap .i64 ((a1.length : Int) - (2 : Int))) < wn) <|
   if decide ((IntKind.wrap .u64 ((((BitVec.ofInt (IntKind.bits .u64) (IntKind.wrap .u64 (v2 * 2 ^ (min (32 : Int).toNat (IntKind.bits .u64)))) ||| BitVec.ofInt (IntKind.bits .u64) (IntKind.wrap .u64 (List.getD a0 (wi + (IntKind.wrap .i64 ((a1.length : Int) - (2 : Int)))).toNat (0 : Int)))).toNat : Nat) : Int))) < (IntKind.wrap .u64 (v1 * a3))) then
     some (.inl (IntKind.wrap .u64 (v1 - (1 : Int)), IntKind.wrap .u64 (v2 + a2)))
   else
     some (.inr v1)
 else
   some (.inr v1)
def Eo (a1 : List Int) (v4 : Int) (v6 : Int) (v7 : List Int) (v8 : Int) (r1 : Int) (wi : Int) (wn : Int) : Option ((Int × Int × Int × (List Int)) ⊕ (Int × (List Int))) :=
 need ((0 : Int) <= v6) <|
 need (v6 < wn) <|
 need ((0 : Int) <= v6) <|
 need (v6 < wn) <|
 need ((0 : Int) <= (63 : Int)) <|
 need ((0 : Int) <= (32 : Int)) <|
 some (.inl (Int.fdiv (IntKind.wrap .u64 ((IntKind.wrap .u64 ((IntKind.wrap .u64 (List.getD v7 (wi + v6).toNat (0 : Int))) - (IntKind.wrap .u64 (IntKind.wrap .u32 v8)))) - v4)) (2 ^ (min (63 : Int).toNat (IntKind.bits .u64))), Int.fdiv v8 (2 ^ (min (32 : Int).toNat (IntKind.bits .u64))), IntKind.wrap .i64 (v6 + (1 : Int)), List.set v7 (wi + v6).toNat (IntKind.wrap .u32 (IntKind.wrap .u64 ((IntKind.wrap .u64 ((IntKind.wrap .u64 (List.getD v7 (wi + v6).toNat (0 : Int))) - (IntKind.wrap .u64 (IntKind.wrap .u32 v8)))) - v4)))))
def Fq (a1 : List Int) (r1 : Int) (wi : Int) (wn : Int) (v4 : Int) (v5 : Int) (v6 : Int) (v7 : List Int) : Option ((Int × Int × Int × (List Int)) ⊕ (Int × (List Int))) :=
 if decide (v6 <= (a1.length : Int)) then
   if decide (v6 < (a1.length : Int)) then
     need (Af v6 a1.length) <|
     Eo a1 v4 v6 v7 (IntKind.wrap .u64 (v5 + (IntKind.wrap .u64 (r1 * (IntKind.wrap .u64 (List.getD a1 v6.toNat (0 : Int))))))) r1 wi wn
   else
     Eo a1 v4 v6 v7 v5 r1 wi wn
 else
   some (.inr (v4, v7))
def Ep (a1 : List Int) (v12 : Int) (v13 : List Int) (v14 : Int) (r1 : Int) (wi : Int) (wn : Int) : Option ((Int × Int × (List Int)) ⊕ (List Int)) :=
 need ((0 : Int) <= v12) <|
 need (v12 < wn) <|
 need ((0 : Int) <= (32 : Int)) <|
 some (.inl (Int.fdiv v14 (2 ^ (min (32 : Int).toNat (IntKind.bits .u64))), IntKind.wrap .i64 (v12 + (1 : Int)), List.set v13 (wi + v12).toNat (IntKind.wrap .u32 v14)))
def Ft (a1 : List Int) (r1 : Int) (wi : Int) (wn : Int) (v11 : Int) (v12 : Int) (v13 : List Int) : Option ((Int × Int × (List Int)) ⊕ (List Int)) :=
 if decide (v12 <= (a1.length : Int)) then
   need ((0 : Int) <= v12) <|
   need (v12 < wn) <|
   if decide (v12 < (a1.length : Int)) then
     need (Af v12 a1.length) <|
     Ep a1 v12 v13 (IntKind.wrap .u64 ((IntKind.wrap .u64 (v11 + (IntKind.wrap .u64 (List.getD v13 (wi + v12).toNat (0 : Int))))) + (IntKind.wrap .u64 (List.getD a1 v12.toNat (0 : Int))))) r1 wi wn
   else
     Ep a1 v12 v13 (IntKind.wrap .u64 (v11 + (IntKind.wrap .u64 (List.getD v13 (wi + v12).toNat (0 : Int))))) r1 wi wn
 else
   some (.inr v13)
def D7 (a0 : List Int) (wi : Int) (wn : Int) (a1 : List Int) (a2 : Int) (a3 : Int) : Option (List Int × Int) :=
 need ((0 : Int) <= (a1.length : Int)) <|
 need ((a1.length : Int) < wn) <|
 need ((0 : Int) <= (32 : Int)) <|
 need ((0 : Int) <= (IntKind.wrap .i64 ((a1.length : Int) - (1 : Int)))) <|
 need ((IntKind.wrap .i64 ((a1.length : Int) - (1 : Int))) < wn) <|
 need (a2 ≠ 0) <|
 Option.bind (Bj (λ v : (Int × Int) => Fo a0 a1 a2 a3 wi wn v.1 v.2) ((if (4294967295 : Int) < (IntKind.wrap .u64 (Int.tdiv (IntKind.wrap .u64 ((((BitVec.ofInt (IntKind.bits .u64) (IntKind.wrap .u64 ((IntKind.wrap .u64 (List.getD a0 (wi + (a1.length : Int)).toNat (0 : Int))) * 2 ^ (min (32 : Int).toNat (IntKind.bits .u64)))) ||| BitVec.ofInt (IntKind.bits .u64) (IntKind.wrap .u64 (List.getD a0 (wi + (IntKind.wrap .i64 ((a1.length : Int) - (1 : Int)))).toNat (0 : Int)))).toNat : Nat) : Int))) a2)) then (4294967295 : Int) else (IntKind.wrap .u64 (Int.tdiv (IntKind.wrap .u64 ((((BitVec.ofInt (IntKind.bits .u64) (IntKind.wrap .u64 ((IntKind.wrap .u64 (List.getD a0 (wi + (a1.length : Int)).toNat (0 : Int))) * 2 ^ (min (32 : Int).toNat (IntKind.bits .u64)))) ||| BitVec.ofInt (IntKind.bits .u64) (IntKind.wrap .u64 (List.getD a0 (wi + (IntKind.wrap .i64 ((a1.length : Int) - (1 : Int)))).toNat (0 : Int)))).toNat : Nat) : Int))) a2))), IntKind.wrap .u64 ((IntKind.wrap .u64 ((((BitVec.ofInt (IntKind.bits .u64) (IntKind.wrap .u64 ((IntKind.wrap .u64 (List.getD a0 (wi + (a1.length : Int)).toNat (0 : Int))) * 2 ^ (min (32 : Int).toNat (IntKind.bits .u64)))) ||| BitVec.ofInt (IntKind.bits .u64) (IntKind.wrap .u64 (List.getD a0 (wi + (IntKind.wrap .i64 ((a1.length : Int) - (1 : Int)))).toNat (0 : Int)))).toNat : Nat) : Int))) - (IntKind.wrap .u64 ((if (4294967295 : Int) < (IntKind.wrap .u64 (Int.tdiv (IntKind.wrap .u64 ((((BitVec.ofInt (IntKind.bits .u64) (IntKind.wrap .u64 ((IntKind.wrap .u64 (List.getD a0 (wi + (a1.length : Int)).toNat (0 : Int))) * 2 ^ (min (32 : Int).toNat (IntKind.bits .u64)))) ||| BitVec.ofInt (IntKind.bits .u64) (IntKind.wrap .u64 (List.getD a0 (wi + (IntKind.wrap .i64 ((a1.length : Int) - (1 : Int)))).toNat (0 : Int)))).toNat : Nat) : Int))) a2)) then (4294967295 : Int) else (IntKind.wrap .u64 (Int.tdiv (IntKind.wrap .u64 ((((BitVec.ofInt (IntKind.bits .u64) (IntKind.wrap .u64 ((IntKind.wrap .u64 (List.getD a0 (wi + (a1.length : Int)).toNat (0 : Int))) * 2 ^ (min (32 : Int).toNat (IntKind.bits .u64)))) ||| BitVec.ofInt (IntKind.bits .u64) (IntKind.wrap .u64 (List.getD a0 (wi + (IntKind.wrap .i64 ((a1.length : Int) - (1 : Int)))).toNat (0 : Int)))).toNat : Nat) : Int))) a2))) * a2))))) λ r1 =>
   Option.bind (Bj (λ v : (Int × Int × Int × (List Int)) => Fq a1 r1 wi wn v.1 v.2.1 v.2.2.1 v.2.2.2) ((0 : Int), (0 : Int), (0 : Int), a0)) λ r2 =>
     if decide (r2.1 = (0 : Int)) then
       some (r2.2, IntKind.wrap .u32 r1)
     else
       Option.bind (Bj (λ v : (Int × Int × (List Int)) => Ft a1 r1 wi wn v.1 v.2.1 v.2.2) ((0 : Int), (0 : Int), r2.2)) λ r3 =>
         some (r3, IntKind.wrap .u32 (IntKind.wrap .u64 (r1 - (1 : Int))))
def E7 (a0 : List Int) (a1 : List Int) (v1 : Int) (v2 : Int) (v3 : List Int) : Option ((Int × Int × (List Int)) ⊕ (Int × (List Int))) :=
 if decide ((0 : Int) <= v2) then
   need ((0 : Int) <= (32 : Int)) <|
   need (Af v2 a0.length) <|
   need (Af (0 : Int) a1.length) <|
   need ((IntKind.wrap .u64 (List.getD a1 ((0 : Int)).toNat (0 : Int))) ≠ 0) <|
   need (Af v2 v3.length) <|
   need (Af (0 : Int) a1.length) <|
   need ((IntKind.wrap .u64 (List.getD a1 ((0 : Int)).toNat (0 : Int))) ≠ 0) <|
   some (.inl (Int.tmod (IntKind.wrap .u64 ((((BitVec.ofInt (IntKind.bits .u64) (IntKind.wrap .u64 (v1 * 2 ^ (min (32 : Int).toNat (IntKind.bits .u64)))) ||| BitVec.ofInt (IntKind.bits .u64) (IntKind.wrap .u64 (List.getD a0 v2.toNat (0 : Int)))).toNat : Nat) : Int))) (IntKind.wrap .u64 (List.getD a1 ((0 : Int)).toNat (0 : Int))), IntKind.wrap .i64 (v2 - (1 : Int)), List.set v3 v2.toNat (IntKind.wrap .u32 (IntKind.wrap .u64 (Int.tdiv (IntKind.wrap .u64 ((((BitVec.ofInt (IntKind.bits .u64) (IntKind.wrap .u64 (v1 * 2 ^ (min (32 : Int).toNat (IntKind.bits .u64)))) ||| BitVec.ofInt (IntKind.bits .u64) (IntKind.wrap .u64 (List.getD a0 v2.toNat (0 : Int)))).toNat : Nat) : Int))) (IntKind.wrap .u64 (List.getD a1 ((0 : Int)).toNat (0 : Int))))))))
 else
   some (.inr (v1, v3))
def E5 (y4 : Int) (y7 : List Int) (v6 : Int) (v7 : Int) (v8 : Int) (v9 : List Int) (v10 : List Int) : Option ((Int × Int × Int × (List Int) × (List Int)) ⊕ ((List Int) × (List Int))) :=
 if decide ((0 : Int) <= v8) then
   need ((0 : Int) <= v8) <|
   need (v8 < (IntKind.wrap .i64 ((IntKind.wrap .i64 (v8 + (y7.length : Int))) + (1 : Int)))) <|
   need ((IntKind.wrap .i64 ((IntKind.wrap .i64 (v8 + (y7.length : Int))) + (1 : Int))) <= (v9.length : Int)) <|
   Option.bind (D7 v9 v8 ((IntKind.wrap .i64 ((IntKind.wrap .i64 (v8 + (y7.length : Int))) + (1 : Int))) - v8) y7 v6 v7) λ y8 =>
   need (y8.1.length = v9.length) <|
   need (Af v8 v10.length) <|
   some (.inl (v6, v7, IntKind.wrap .i64 (v8 - (1 : Int)), y8.1, List.set v10 v8.toNat y8.2))
 else
   some (.inr (v9, v10))
def Dq (v13 : Int) (v15 : List Int) (r2 : ((List Int) × (List Int))) (y4 : Int) : Option ((Int × (List Int)) ⊕ (List Int)) :=
 some (.inl (IntKind.wrap .i64 (v13 + (1 : Int)), v15))
def Fc (r2 : ((List Int) × (List Int))) (y4 : Int) (v13 : Int) (v14 : List Int) : Option ((Int × (List Int)) ⊕ (List Int)) :=
 if decide (v13 < (v14.length : Int)) then
   need (Af v13 v14.length) <|
   need ((0 : Int) <= (IntKind.wrap .u64 y4)) <|
   need (Af v13 v14.length) <|
   if decide ((IntKind.wrap .i64 (v13 + (1 : Int))) < ((List.set v14 v13.toNat (Int.fdiv (List.getD v14 v13.toNat (0 : Int)) (2 ^ (min (IntKind.wrap .u64 y4).toNat (IntKind.bits .u32))))).length : Int)) then
     need (Af v13 (List.set v14 v13.toNat (Int.fdiv (List.getD v14 v13.toNat (0 : Int)) (2 ^ (min (IntKind.wrap .u64 y4).toNat (IntKind.bits .u32))))).length) <|
     need (Af (IntKind.wrap .i64 (v13 + (1 : Int))) (List.set v14 v13.toNat (Int.fdiv (List.getD v14 v13.toNat (0 : Int)) (2 ^ (min (IntKind.wrap .u64 y4).toNat (IntKind.bits .u32))))).length) <|
     need ((0 : Int) <= (IntKind.wrap .u64 ((32 : Int) - (IntKind.wrap .u64 y4)))) <|
     need (Af v13 (List.set v14 v13.toNat (Int.fdiv (List.getD v14 v13.toNat (0 : Int)) (2 ^ (min (IntKind.wrap .u64 y4).toNat (IntKind.bits .u32))))).length) <|
     Dq v13 (List.set (List.set v14 v13.toNat (Int.fdiv (List.getD v14 v13.toNat (0 : Int)) (2 ^ (min (IntKind.wrap .u64 y4).toNat (IntKind.bits .u32))))) v13.toNat (IntKind.wrap .u32 ((((BitVec.ofInt (IntKind.bits .u32) (List.getD (List.set v14 v13.toNat (Int.fdiv (List.getD v14 v13.toNat (0 : Int)) (2 ^ (min (IntKind.wrap .u64 y4).toNat (IntKind.bits .u32))))) v13.toNat (0 : Int)) ||| BitVec.ofInt (IntKind.bits .u32) (IntKind.wrap .u32 (IntKind.wrap .u64 ((IntKind.wrap .u64 (List.getD (List.set v14 v13.toNat (Int.fdiv (List.getD v14 v13.toNat (0 : Int)) (2 ^ (min (IntKind.wrap .u64 y4).toNat (IntKind.bits .u32))))) (IntKind.wrap .i64 (v13 + (1 : Int))).toNat (0 : Int))) * 2 ^ (min (IntKind.wrap .u64 ((32 : Int) - (IntKind.wrap .u64 y4))).toNat (IntKind.bits .u64)))))).toNat : Nat) : Int)))) r2 y4
   else
     Dq v13 (List.set v14 v13.toNat (Int.fdiv (List.getD v14 v13.toNat (0 : Int)) (2 ^ (min (IntKind.wrap .u64 y4).toNat (IntKind.bits .u32))))) r2 y4
 else
   some (.inr v14)
def C1 (a0 : List Int) (a1 : List Int) : Option ((List Int) × (List Int)) :=
 Option.bind (Dl a0 a1) λ y1 =>
 if decide (y1 < (0 : Int)) then
   some ([], a0)
 else
   if decide ((a1.length : Int) = (1 : Int)) then
     need (0 <= (a0.length : Int)) <|
     need ((a0.length : Int) <= (a0.length : Int)) <|
     need ((a0.length : Int) * ((4 : Nat) : Int) <= (Ap : Int)) <|
     Option.bind (Bj (λ v : (Int × Int × (List Int)) => E7 a0 a1 v.1 v.2.1 v.2.2) ((0 : Int), IntKind.wrap .i64 ((a0.length : Int) - (1 : Int)), List.replicate ((a0.length : Int)).toNat (0 : Int))) λ r1 =>
       Option.bind (Bt r1.2) λ y2 =>
       Option.bind (Bt [IntKind.wrap .u32 r1.1]) λ y3 =>
       some (y2, y3)
   else
     need (Af (IntKind.wrap .i64 ((a1.length : Int) - (1 : Int))) a1.length) <|
     Option.bind (Dk (List.getD a1 (IntKind.wrap .i64 ((a1.length : Int) - (1 : Int))).toNat (0 : Int))) λ y4 =>
     Option.bind (C2 a0 (IntKind.wrap .u64 y4)) λ y5 =>
     Option.bind (C2 a1 (IntKind.wrap .u64 y4)) λ y6 =>
     Option.bind (Bt y6) λ y7 =>
     need (0 <= (IntKind.wrap .i64 ((y5.length : Int) - (y7.length : Int)))) <|
     need ((IntKind.wrap .i64 ((y5.length : Int) - (y7.length : Int))) <= (IntKind.wrap .i64 ((y5.length : Int) - (y7.length : Int)))) <|
     need ((IntKind.wrap .i64 ((y5.length : Int) - (y7.length : Int))) * ((4 : Nat) : Int) <= (Ap : Int)) <|
     need (Af (IntKind.wrap .i64 ((y7.length : Int) - (1 : Int))) y7.length) <|
     need (Af (IntKind.wrap .i64 ((y7.length : Int) - (2 : Int))) y7.length) <|
     Option.bind (Bj (λ v : (Int × Int × Int × (List Int) × (List Int)) => E5 y4 y7 v.1 v.2.1 v.2.2.1 v.2.2.2.1 v.2.2.2.2) (IntKind.wrap .u64 (List.getD y7 (IntKind.wrap .i64 ((y7.length : Int) - (1 : Int))).toNat (0 : Int)), IntKind.wrap .u64 (List.getD y7 (IntKind.wrap .i64 ((y7.length : Int) - (2 : Int))).toNat (0 : Int)), IntKind.wrap .i64 (((List.replicate (IntKind.wrap .i64 ((y5.length : Int) - (y7.length : Int))).toNat (0 : Int)).length : Int) - (1 : Int)), y5, List.replicate (IntKind.wrap .i64 ((y5.length : Int) - (y7.length : Int))).toNat (0 : Int))) λ r2 =>
       Option.bind (Bt r2.1) λ y9 =>
       Option.bind (Bj (λ v : (Int × (List Int)) => Fc r2 y4 v.1 v.2) ((0 : Int), y9)) λ r3 =>
         Option.bind (Bt r2.2) λ y10 =>
         Option.bind (Bt r3) λ y11 =>
         some (y10, y11)
def Fz (v1 : List Int) (v2 : List Int) : Option (((List Int) × (List Int)) ⊕ (List Int)) :=
 if decide ((0 : Int) < (v2.length : Int)) then
   Option.bind (C1 v1 v2) λ y1 =>
   some (.inl (v2, y1.2))
 else
   some (.inr v1)
def D1 (a0 : List Int) (a1 : List Int) : Option (List Int) :=
 Option.bind (Bj (λ v : ((List Int) × (List Int)) => Fz v.1 v.2) (a0, a1)) λ r1 =>
   some r1
def D2 (v5 : List Int) (v6 : Bool) (v7 : List Int) (v8 : Bool) : Option Aa :=
 some (⟨(⟨v5, v6⟩ : Ad), (⟨v7, v8⟩ : Ad)⟩ : Aa)
def Dt (v1 : List Int) (v2 : Bool) (v3 : List Int) (v4 : Bool) (y5 : List Int) : Option Aa :=
 Option.bind (C1 v1 y5) λ y6 =>
 Option.bind (C1 v3 y5) λ y7 =>
 Option.bind (Bz y6.1 v2) λ y8 =>
 Option.bind (Bz y7.1 false) λ y9 =>
 D2 y8.d y8.minus y9.d y9.minus
def Dr (v1 : List Int) (v2 : Bool) (v3 : List Int) (v4 : Bool) : Option Aa :=
 Option.bind (Cb (⟨v3, v4⟩ : Ad)) λ y4 =>
 if y4 then
   some (⟨(⟨v1, v2⟩ : Ad), (⟨v3, v4⟩ : Ad)⟩ : Aa)
 else
   Option.bind (D1 v1 v3) λ y5 =>
   if !decide ((y5.length : Int) = (1 : Int)) then
     Dt v1 v2 v3 v4 y5
   else
     need (Af (0 : Int) y5.length) <|
     if !decide ((List.getD y5 ((0 : Int)).toNat (0 : Int)) = (1 : Int)) then
       Dt v1 v2 v3 v4 y5
     else
       D2 v1 v2 v3 v4
def Co (a0 : Ad) (a1 : Ad) : Option Aa :=
 Option.bind (Bu a1) λ y1 =>
 if y1 then
   some (⟨(⟨[], false⟩ : Ad), (⟨[], false⟩ : Ad)⟩ : Aa)
 else
   if a1.minus then
     Option.bind (Cf a0) λ y2 =>
     Option.bind (Cf a1) λ y3 =>
     Dr y2.d y2.minus y3.d y3.minus
   else
     Dr a0.d a0.minus a1.d a1.minus
def E8 (a0 : List Int) (a1 : List Int) (v1 : Int) (v3 : Int) (v4 : Int) (v5 : List Int) : Option ((Int × Int × (List Int)) ⊕ (Int × (List Int))) :=
 if decide (v4 < (a1.length : Int)) then
   need (Af v1 a0.length) <|
   need (Af v4 a1.length) <|
   need (Af (IntKind.wrap .i64 (v1 + v4)) v5.length) <|
   need (Af (IntKind.wrap .i64 (v1 + v4)) v5.length) <|
   need ((0 : Int) <= (32 : Int)) <|
   some (.inl (Int.fdiv (IntKind.wrap .u64 (v3 + (IntKind.wrap .u64 ((IntKind.wrap .u64 ((IntKind.wrap .u64 (List.getD a0 v1.toNat (0 : Int))) * (IntKind.wrap .u64 (List.getD a1 v4.toNat (0 : Int))))) + (IntKind.wrap .u64 (List.getD v5 (IntKind.wrap .i64 (v1 + v4)).toNat (0 : Int))))))) (2 ^ (min (32 : Int).toNat (IntKind.bits .u64))), IntKind.wrap .i64 (v4 + (1 : Int)), List.set v5 (IntKind.wrap .i64 (v1 + v4)).toNat (IntKind.wrap .u32 (IntKind.wrap .u64 (v3 + (IntKind.wrap .u64 ((IntKind.wrap .u64 ((IntKind.wrap .u64 (List.getD a0 v1.toNat (0 : Int))) * (IntKind.wrap .u64 (List.getD a1 v4.toNat (0 : Int))))) + (IntKind.wrap .u64 (List.getD v5 (IntKind.wrap .i64 (v1 + v4)).toNat (0 : Int))))))))))
 else
   some (.inr (v3, v5))
def Fa (a0 : List Int) (a1 : List Int) (v1 : Int) (v2 : List Int) : Option ((Int × (List Int)) ⊕ (List Int)) :=
 if decide (v1 < (a0.length : Int)) then
   Option.bind (Bj (λ v : (Int × Int × (List Int)) => E8 a0 a1 v1 v.1 v.2.1 v.2.2) ((0 : Int), (0 : Int), v2)) λ r1 =>
     need (Af (IntKind.wrap .i64 (v1 + (a1.length : Int))) r1.2.length) <|
     some (.inl (IntKind.wrap .i64 (v1 + (1 : Int)), List.set r1.2 (IntKind.wrap .i64 (v1 + (a1.length : Int))).toNat (IntKind.wrap .u32 r1.1)))
 else
   some (.inr v2)
def Ez (a0 : List Int) (a1 : List Int) : Option (List Int) :=
 need (0 <= (IntKind.wrap .i64 ((a0.length : Int) + (a1.length : Int)))) <|
 need ((IntKind.wrap .i64 ((a0.length : Int) + (a1.length : Int))) <= (IntKind.wrap .i64 ((a0.length : Int) + (a1.length : Int)))) <|
 need ((IntKind.wrap .i64 ((a0.length : Int) + (a1.length : Int))) * ((4 : Nat) : Int) <= (Ap : Int)) <|
 Option.bind (Bj (λ v : (Int × (List Int)) => Fa a0 a1 v.1 v.2) ((0 : Int), List.replicate (IntKind.wrap .i64 ((a0.length : Int) + (a1.length : Int))).toNat (0 : Int))) λ r2 =>
   Option.bind (Bt r2) λ y1 =>
   some y1
def Bo (a0 : Ad) (a1 : Ad) : Option Ad :=
 Option.bind (Ez a0.d a1.d) λ y1 =>
 Option.bind (Bz y1 (!(a0.minus == a1.minus))) λ y2 =>
 some y2
def Em (a0 : Aa) (a1 : Aa) (y1 : Ad) (y2 : Ad) : Option Aa :=
 Option.bind (Bo a0.n y2) λ y6 =>
 Option.bind (Bo a1.n y1) λ y7 =>
 Option.bind (Cu y6 y7) λ y8 =>
 Option.bind (Bo y1 y2) λ y9 =>
 Option.bind (Co y8 y9) λ y10 =>
 some y10
def Bm (a0 : Aa) (a1 : Aa) : Option Aa :=
 Option.bind (B0 a0) λ y1 =>
 Option.bind (B0 a1) λ y2 =>
 Option.bind (Cb y1) λ y3 =>
 if y3 then
   Option.bind (Cb y2) λ y4 =>
   if y4 then
     Option.bind (Cu a0.n a1.n) λ y5 =>
     some (⟨y5, y1⟩ : Aa)
   else
     Em a0 a1 y1 y2
 else
   Em a0 a1 y1 y2
def Dv (a0 : Int) (v1 : Int) : Option Ad :=
 need ((0 : Int) <= (32 : Int)) <|
 Option.bind (Bt [IntKind.wrap .u32 v1, IntKind.wrap .u32 (Int.fdiv v1 (2 ^ (min (32 : Int).toNat (IntKind.bits .u64))))]) λ y1 =>
 some (⟨y1, decide (a0 < (0 : Int))⟩ : Ad)
def Cy (a0 : Int) : Option Ad :=
 if decide (a0 < (0 : Int)) then
   Dv a0 (IntKind.wrap .u64 (0 - (IntKind.wrap .u64 a0)))
 else
   Dv a0 (IntKind.wrap .u64 a0)
def B8 (a0 : Au) : Option Aa :=
 Option.bind (Cy a0.N) λ y1 =>
 Option.bind (Cy a0.D) λ y2 =>
 Option.bind (Co y1 y2) λ y3 =>
 some y3
def El (a0 : Aa) (a1 : Aa) (y1 : Ad) (y2 : Ad) : Option Aa :=
 Option.bind (Bo a0.n a1.n) λ y6 =>
 Option.bind (Bo y1 y2) λ y7 =>
 Option.bind (Co y6 y7) λ y8 =>
 some y8
def B1 (a0 : Aa) (a1 : Aa) : Option Aa :=
 Option.bind (B0 a0) λ y1 =>
 Option.bind (B0 a1) λ y2 =>
 Option.bind (Cb y1) λ y3 =>
 if y3 then
   Option.bind (Cb y2) λ y4 =>
   if y4 then
     Option.bind (Bo a0.n a1.n) λ y5 =>
     some (⟨y5, y1⟩ : Aa)
   else
     El a0 a1 y1 y2
 else
   El a0 a1 y1 y2
def Gm (a0 : An) (v1 : Int) (v2 : List Int) : Option ((Int × (List Int)) ⊕ (List Int)) :=
 if decide (v1 < a0.Nodes) then
   need (Af v1 v2.length) <|
   some (.inl (IntKind.wrap .i64 (v1 + (1 : Int)), List.set v2 v1.toNat v1))
 else
   some (.inr v2)
def E9 (a0 : An) (v7 : Int) (v10 : Bool) (v11 : List Int) : Option ((Bool × Int × (List Int)) ⊕ (Bool × (List Int))) :=
 some (.inl (v10, IntKind.wrap .i64 (v7 + (1 : Int)), v11))
def Gk (a0 : An) (v7 : Int) (v9 : List Int) : Option ((Bool × Int × (List Int)) ⊕ (Bool × (List Int))) :=
 need (Af ((List.getD a0.Arms v7.toNat Ac).A) v9.length) <|
 need (Af ((List.getD a0.Arms v7.toNat Ac).B) v9.length) <|
 E9 a0 v7 true (List.set v9 ((List.getD a0.Arms v7.toNat Ac).B).toNat (List.getD v9 ((List.getD a0.Arms v7.toNat Ac).A).toNat (0 : Int)))
def E6 (a0 : An) (v6 : Bool) (v7 : Int) (v8 : List Int) : Option ((Bool × Int × (List Int)) ⊕ (Bool × (List Int))) :=
 if decide (v7 < (a0.Arms.length : Int)) then
   need (Af v7 a0.Arms.length) <|
   need (Af v7 a0.Arms.length) <|
   need (Af ((List.getD a0.Arms v7.toNat Ac).A) v8.length) <|
   need (Af ((List.getD a0.Arms v7.toNat Ac).B) v8.length) <|
   if !decide ((List.getD v8 ((List.getD a0.Arms v7.toNat Ac).A).toNat (0 : Int)) = (List.getD v8 ((List.getD a0.Arms v7.toNat Ac).B).toNat (0 : Int))) then
     need (Af ((List.getD a0.Arms v7.toNat Ac).A) v8.length) <|
     need (Af ((List.getD a0.Arms v7.toNat Ac).B) v8.length) <|
     need (Af ((List.getD a0.Arms v7.toNat Ac).A) v8.length) <|
     Gk a0 v7 (List.set v8 ((List.getD a0.Arms v7.toNat Ac).A).toNat (if (List.getD v8 ((List.getD a0.Arms v7.toNat Ac).B).toNat (0 : Int)) < (List.getD v8 ((List.getD a0.Arms v7.toNat Ac).A).toNat (0 : Int)) then (List.getD v8 ((List.getD a0.Arms v7.toNat Ac).B).toNat (0 : Int)) else (List.getD v8 ((List.getD a0.Arms v7.toNat Ac).A).toNat (0 : Int))))
   else
     E9 a0 v7 v6 v8
 else
   some (.inr (v6, v8))
def Gp (a0 : An) (v4 : Bool) (v5 : List Int) : Option ((Bool × (List Int)) ⊕ (List Int)) :=
 if v4 then
   Option.bind (Bj (λ v : (Bool × Int × (List Int)) => E6 a0 v.1 v.2.1 v.2.2) (false, (0 : Int), v5)) λ r2 =>
     some (.inl (r2.1, r2.2))
 else
   some (.inr v5)
def Dm (a0 : An) : Option (List Int) :=
 need (0 <= a0.Nodes) <|
 need (a0.Nodes <= a0.Nodes) <|
 need (a0.Nodes * ((8 : Nat) : Int) <= (Ap : Int)) <|
 Option.bind (Bj (λ v : (Int × (List Int)) => Gm a0 v.1 v.2) ((0 : Int), List.replicate (a0.Nodes).toNat (0 : Int))) λ r1 =>
   Option.bind (Bj (λ v : (Bool × (List Int)) => Gp a0 v.1 v.2) (true, r1)) λ r3 =>
     some r3
def Ci (a0 : Int) : Option Aa :=
 Option.bind (Cy a0) λ y1 =>
 Option.bind Dy λ y2 =>
 some (⟨y1, y2⟩ : Aa)
def D8 (a0 : Aa) : Option Aa :=
 Option.bind (Cf a0.n) λ y1 =>
 Option.bind (B0 a0) λ y2 =>
 some (⟨y1, y2⟩ : Aa)
def B3 (a0 : Aa) (a1 : Aa) : Option Aa :=
 Option.bind (D8 a1) λ y1 =>
 Option.bind (Bm a0 y1) λ y2 =>
 some y2
def Db (a0 : Aa) (a1 : Aa) : Option Aa :=
 Option.bind (B0 a1) λ y1 =>
 Option.bind (Bo a0.n y1) λ y2 =>
 Option.bind (B0 a0) λ y3 =>
 Option.bind (Bo y3 a1.n) λ y4 =>
 Option.bind (Co y2 y4) λ y5 =>
 some y5
def Dc (a0 : Aa) : Option Aa :=
 Option.bind (Ci (1 : Int)) λ y1 =>
 Option.bind (Db y1 a0) λ y2 =>
 some y2
def Ca (a0 : Aa) : Option Bool :=
 Option.bind (Bu a0.n) λ y1 =>
 some y1
def Fw (a0 : (List (List Aa))) (a1 : Int) (v1 : Int) (v2 : (List (List Aa))) : Option ((Int × (List (List Aa))) ⊕ (List (List Aa))) :=
 if decide (v1 < (a0.length : Int)) then
   need (Af v1 a0.length) <|
   need ((List.getD a0 v1.toNat ([] : List Aa)).length * 64 <= Ap) <|
   need (Af v1 v2.length) <|
   some (.inl (IntKind.wrap .i64 (v1 + (1 : Int)), List.set v2 v1.toNat (List.getD a0 v1.toNat ([] : List Aa))))
 else
   some (.inr v2)
def Ef (a1 : Int) (v4 : Int) (v5 : (List (List Aa))) (v6 : List Int) (v7 : Int) : Option (Int ⊕ Int) :=
 if decide (v7 < (v5.length : Int)) then
   need (Af v7 v5.length) <|
   need (Af v4 (List.getD v5 v7.toNat []).length) <|
   Option.bind (Ca (List.getD (List.getD v5 v7.toNat []) v4.toNat Ao)) λ y1 =>
   if y1 then
     some (.inl (IntKind.wrap .i64 (v7 + (1 : Int))))
   else
     some (.inr v7)
 else
   some (.inr v7)
def D6 (a1 : Int) (v4 : Int) (v5 : (List (List Aa))) (v6 : List Int) (y2 : Aa) (v9 : Int) (v10 : (List (List Aa))) : Option ((Int × (List (List Aa))) ⊕ (List (List Aa))) :=
 need (Af (v6.length : Int) v10.length) <|
 if decide (v9 < ((List.getD v10 (v6.length : Int).toNat []).length : Int)) then
   need (Af (v6.length : Int) v10.length) <|
   need (Af (v6.length : Int) v10.length) <|
   need (Af v9 (List.getD v10 (v6.length : Int).toNat []).length) <|
   Option.bind (B1 (List.getD (List.getD v10 (v6.length : Int).toNat []) v9.toNat Ao) y2) λ y3 =>
   need (Af v9 (List.getD v10 (v6.length : Int).toNat []).length) <|
   some (.inl (IntKind.wrap .i64 (v9 + (1 : Int)), List.set v10 (v6.length : Int).toNat (List.set (List.getD v10 (v6.length : Int).toNat []) v9.toNat y3)))
 else
   some (.inr v10)
def Ea (a1 : Int) (v4 : Int) (v5 : (List (List Aa))) (v6 : List Int) (v12 : Int) (v14 : Int) (v15 : List Int) (v16 : Bool) (v17 : List Int) (v18 : Bool) (v19 : (List (List Aa))) : Option ((Int × (List Int) × Bool × (List Int) × Bool × (List (List Aa))) ⊕ (List (List Aa))) :=
 need (Af v12 v19.length) <|
 if decide (v14 < ((List.getD v19 v12.toNat []).length : Int)) then
   if !decide (v12 = (v6.length : Int)) then
     Option.bind (Ca (⟨(⟨v15, v16⟩ : Ad), (⟨v17, v18⟩ : Ad)⟩ : Aa)) λ y4 =>
     if !y4 then
       need (Af v12 v19.length) <|
       need (Af v12 v19.length) <|
       need (Af v14 (List.getD v19 v12.toNat []).length) <|
       need (Af (v6.length : Int) v19.length) <|
       need (Af v14 (List.getD v19 (v6.length : Int).toNat []).length) <|
       Option.bind (B1 (⟨(⟨v15, v16⟩ : Ad), (⟨v17, v18⟩ : Ad)⟩ : Aa) (List.getD (List.getD v19 (v6.length : Int).toNat []) v14.toNat Ao)) λ y5 =>
       Option.bind (B3 (List.getD (List.getD v19 v12.toNat []) v14.toNat Ao) y5) λ y6 =>
       need (Af v14 (List.getD v19 v12.toNat []).length) <|
       some (.inl (IntKind.wrap .i64 (v14 + (1 : Int)), v15, v16, v17, v18, List.set v19 v12.toNat (List.set (List.getD v19 v12.toNat []) v14.toNat y6)))
     else
       some (.inr v19)
   else
     some (.inr v19)
 else
   some (.inr v19)
def Eh (a1 : Int) (v4 : Int) (v5 : (List (List Aa))) (v6 : List Int) (v12 : Int) (v13 : (List (List Aa))) : Option ((Int × (List (List Aa))) ⊕ (List (List Aa))) :=
 if decide (v12 < (v13.length : Int)) then
   need (Af v12 v13.length) <|
   need (Af v4 (List.getD v13 v12.toNat []).length) <|
   Option.bind (Bj (λ v : (Int × (List Int) × Bool × (List Int) × Bool × (List (List Aa))) => Ea a1 v4 v5 v6 v12 v.1 v.2.1 v.2.2.1 v.2.2.2.1 v.2.2.2.2.1 v.2.2.2.2.2) ((0 : Int), ((List.getD (List.getD v13 v12.toNat []) v4.toNat Ao).n).d, ((List.getD (List.getD v13 v12.toNat []) v4.toNat Ao).n).minus, ((List.getD (List.getD v13 v12.toNat []) v4.toNat Ao).d).d, ((List.getD (List.getD v13 v12.toNat []) v4.toNat Ao).d).minus, v13)) λ r4 =>
     some (.inl (IntKind.wrap .i64 (v12 + (1 : Int)), r4))
 else
   some (.inr v13)
def Fx (a1 : Int) (v4 : Int) (v5 : (List (List Aa))) (v6 : List Int) : Option ((Int × (List (List Aa)) × (List Int)) ⊕ ((List (List Aa)) × (List Int))) :=
 if decide (v4 < a1) then
   if decide ((v6.length : Int) < (v5.length : Int)) then
     Option.bind (Bj (λ v : Int => Ef a1 v4 v5 v6 v) (v6.length : Int)) λ r2 =>
       if decide (r2 = (v5.length : Int)) then
         some (.inl (IntKind.wrap .i64 (v4 + (1 : Int)), v5, v6))
       else
         need (Af r2 v5.length) <|
         need (Af (v6.length : Int) v5.length) <|
         need (Af (v6.length : Int) v5.length) <|
         need (Af r2 v5.length) <|
         need (r2 = r2) <|
         need ((v6.length : Int) = (v6.length : Int)) <|
         need (Af (v6.length : Int) (List.set (List.set v5 (v6.length : Int).toNat (List.getD v5 r2.toNat [])) r2.toNat (List.getD v5 (v6.length : Int).toNat [])).length) <|
         need (Af v4 (List.getD (List.set (List.set v5 (v6.length : Int).toNat (List.getD v5 r2.toNat [])) r2.toNat (List.getD v5 (v6.length : Int).toNat [])) (v6.length : Int).toNat []).length) <|
         Option.bind (Dc (List.getD (List.getD (List.set (List.set v5 (v6.length : Int).toNat (List.getD v5 r2.toNat [])) r2.toNat (List.getD v5 (v6.length : Int).toNat [])) (v6.length : Int).toNat []) v4.toNat Ao)) λ y2 =>
         Option.bind (Bj (λ v : (Int × (List (List Aa))) => D6 a1 v4 v5 v6 y2 v.1 v.2) ((0 : Int), List.set (List.set v5 (v6.length : Int).toNat (List.getD v5 r2.toNat [])) r2.toNat (List.getD v5 (v6.length : Int).toNat []))) λ r3 =>
           Option.bind (Bj (λ v : (Int × (List (List Aa))) => Eh a1 v4 v5 v6 v.1 v.2) ((0 : Int), r3)) λ r5 =>
             need ((v6.length + [v4].length) * 8 <= Ap) <|
             some (.inl (IntKind.wrap .i64 (v4 + (1 : Int)), r5, v6 ++ [v4]))
   else
     some (.inr (v5, v6))
 else
   some (.inr (v5, v6))
def Ds (a0 : (List (List Aa))) (a1 : Int) : Option ((List (List Aa)) × (List Int)) :=
 need (0 <= (a0.length : Int)) <|
 need ((a0.length : Int) <= (a0.length : Int)) <|
 need ((a0.length : Int) * ((24 : Nat) : Int) <= (Ap : Int)) <|
 Option.bind (Bj (λ v : (Int × (List (List Aa))) => Fw a0 a1 v.1 v.2) ((0 : Int), List.replicate ((a0.length : Int)).toNat ([] : List Aa))) λ r1 =>
   Option.bind (Bj (λ v : (Int × (List (List Aa)) × (List Int)) => Fx a1 v.1 v.2.1 v.2.2) ((0 : Int), r1, [])) λ r6 =>
     some (r6.1, r6.2)
def Gj (a0 : (List (List Aa))) (a1 : List Int) (a2 : Int) (v1 : Int) (v2 : (List (Int × Bool))) : Option ((Int × (List (Int × Bool))) ⊕ (List (Int × Bool))) :=
 if decide (v1 < (a1.length : Int)) then
   need (Af v1 a1.length) <|
   some (.inl (IntKind.wrap .i64 (v1 + (1 : Int)), T6 kqI (List.getD a1 v1.toNat (0 : Int)) true v2))
 else
   some (.inr v2)
def Ig (a0 : (List (List Aa))) (a1 : List Int) (a2 : Int) (v4 : Int) (v5 : (List (List Aa))) (r1 : (List (Int × Bool))) (v6 : Int) (v7 : List Aa) : Option ((Int × (List Aa)) ⊕ (List Aa)) :=
 if decide (v6 < (a1.length : Int)) then
   need (Af v6 a1.length) <|
   need (Af v6 a0.length) <|
   need (Af v4 (List.getD a0 v6.toNat ([] : List Aa)).length) <|
   Option.bind (D8 (List.getD (List.getD a0 v6.toNat ([] : List Aa)) v4.toNat Ao)) λ y2 =>
   need (Af (List.getD a1 v6.toNat (0 : Int)) v7.length) <|
   some (.inl (IntKind.wrap .i64 (v6 + (1 : Int)), List.set v7 (List.getD a1 v6.toNat (0 : Int)).toNat y2))
 else
   some (.inr v7)
def Gh (a0 : (List (List Aa))) (a1 : List Int) (a2 : Int) (r1 : (List (Int × Bool))) (v4 : Int) (v5 : (List (List Aa))) : Option ((Int × (List (List Aa))) ⊕ (List (List Aa))) :=
 if decide (v4 < a2) then
   if Option.getD (Qb kqI v4 r1) false then
     some (.inl (IntKind.wrap .i64 (v4 + (1 : Int)), v5))
   else
     need (0 <= a2) <|
     need (a2 <= a2) <|
     need (a2 * ((64 : Nat) : Int) <= (Ap : Int)) <|
     Option.bind (Ci (1 : Int)) λ y1 =>
     need (Af v4 (List.replicate a2.toNat (⟨(⟨[], false⟩ : Ad), (⟨[], false⟩ : Ad)⟩ : Aa)).length) <|
     Option.bind (Bj (λ v : (Int × (List Aa)) => Ig a0 a1 a2 v4 v5 r1 v.1 v.2) ((0 : Int), List.set (List.replicate a2.toNat (⟨(⟨[], false⟩ : Ad), (⟨[], false⟩ : Ad)⟩ : Aa)) v4.toNat y1)) λ r2 =>
       need ((v5.length + 1) * 24 <= Ap) <|
       some (.inl (IntKind.wrap .i64 (v4 + (1 : Int)), v5 ++ [r2]))
 else
   some (.inr v5)
def Ex (a0 : (List (List Aa))) (a1 : List Int) (a2 : Int) : Option (List (List Aa)) :=
 Option.bind (Bj (λ v : (Int × (List (Int × Bool))) => Gj a0 a1 a2 v.1 v.2) ((0 : Int), ([] : (List (Int × Bool))))) λ r1 =>
   Option.bind (Bj (λ v : (Int × (List (List Aa))) => Gh a0 a1 a2 r1 v.1 v.2) ((0 : Int), [])) λ r3 =>
     some r3
def Ff (a0 : (List (List Aa))) (a1 : Int) (a2 : List Aa) (v1 : Int) (v2 : (List (List Aa))) : Option ((Int × (List (List Aa))) ⊕ (List (List Aa))) :=
 if decide (v1 < (a0.length : Int)) then
   need (Af v1 a0.length) <|
   need ((List.getD a0 v1.toNat ([] : List Aa)).length * 64 <= Ap) <|
   need (Af v1 a2.length) <|
   need (((List.getD a0 v1.toNat ([] : List Aa)).length + [(List.getD a2 v1.toNat Ao)].length) * 64 <= Ap) <|
   need (Af v1 v2.length) <|
   some (.inl (IntKind.wrap .i64 (v1 + (1 : Int)), List.set v2 v1.toNat ((List.getD a0 v1.toNat ([] : List Aa)) ++ [(List.getD a2 v1.toNat Ao)])))
 else
   some (.inr v2)
def Dp (a1 : Int) (y1 : ((List (List Aa)) × (List Int))) (v4 : Int) : Option (Int ⊕ (Unit ⊕ ((List Aa) × (List (List Aa)) × Bool))) :=
 if decide (v4 < (y1.1.length : Int)) then
   need (Af v4 y1.1.length) <|
   need (Af a1 (List.getD y1.1 v4.toNat ([] : List Aa)).length) <|
   Option.bind (Ca (List.getD (List.getD y1.1 v4.toNat ([] : List Aa)) a1.toNat Ao)) λ y2 =>
   if !y2 then
     some (.inr (.inr ([], [], false)))
   else
     some (.inl (IntKind.wrap .i64 (v4 + (1 : Int))))
 else
   some (.inr (.inl ()))
def Fk (a1 : Int) (y1 : ((List (List Aa)) × (List Int))) (v5 : Int) (v6 : List Aa) : Option ((Int × (List Aa)) ⊕ (List Aa)) :=
 if decide (v5 < (y1.2.length : Int)) then
   need (Af v5 y1.2.length) <|
   need (Af v5 y1.1.length) <|
   need (Af a1 (List.getD y1.1 v5.toNat ([] : List Aa)).length) <|
   need (Af (List.getD y1.2 v5.toNat (0 : Int)) v6.length) <|
   some (.inl (IntKind.wrap .i64 (v5 + (1 : Int)), List.set v6 (List.getD y1.2 v5.toNat (0 : Int)).toNat (List.getD (List.getD y1.1 v5.toNat ([] : List Aa)) a1.toNat Ao)))
 else
   some (.inr v6)
def De (a0 : (List (List Aa))) (a1 : Int) (a2 : List Aa) : Option ((List Aa) × (List (List Aa)) × Bool) :=
 need (0 <= (a0.length : Int)) <|
 need ((a0.length : Int) <= (a0.length : Int)) <|
 need ((a0.length : Int) * ((24 : Nat) : Int) <= (Ap : Int)) <|
 Option.bind (Bj (λ v : (Int × (List (List Aa))) => Ff a0 a1 a2 v.1 v.2) ((0 : Int), List.replicate ((a0.length : Int)).toNat ([] : List Aa))) λ r1 =>
   Option.bind (Ds r1 a1) λ y1 =>
   Option.bind (Bj (λ v : Int => Dp a1 y1 v) (y1.2.length : Int)) λ r =>
   match r with
   | .inl r2 =>
     need (0 <= a1) <|
     need (a1 <= a1) <|
     need (a1 * ((64 : Nat) : Int) <= (Ap : Int)) <|
     Option.bind (Bj (λ v : (Int × (List Aa)) => Fk a1 y1 v.1 v.2) ((0 : Int), List.replicate a1.toNat (⟨(⟨[], false⟩ : Ad), (⟨[], false⟩ : Ad)⟩ : Aa))) λ r3 =>
       Option.bind (Ex y1.1 y1.2 a1) λ y3 =>
       some (r3, y3, true)
   | .inr r4 =>
     some r4
def Gb (a0 : An) (a1 : List Aa) (a2 : Bool) (y1 : List Int) (v1 : Int) (v2 : (List (List Aa))) : Option ((Int × (List (List Aa))) ⊕ (List (List Aa))) :=
 if decide (v1 < a0.Nodes) then
   need (0 <= a0.Nodes) <|
   need (a0.Nodes <= a0.Nodes) <|
   need (a0.Nodes * ((64 : Nat) : Int) <= (Ap : Int)) <|
   need (Af v1 v2.length) <|
   some (.inl (IntKind.wrap .i64 (v1 + (1 : Int)), List.set v2 v1.toNat (List.replicate (a0.Nodes).toNat (⟨(⟨[], false⟩ : Ad), (⟨[], false⟩ : Ad)⟩ : Aa))))
 else
   some (.inr v2)
def Eu (a0 : An) (a2 : Bool) (v4 : Int) (v8 : (List (List Aa))) (v9 : List Aa) (y1 : List Int) : Option ((Int × (List (List Aa)) × (List Aa)) ⊕ ((List (List Aa)) × (List Aa))) :=
 some (.inl (IntKind.wrap .i64 (v4 + (1 : Int)), v8, v9))
def F8 (a0 : An) (a2 : Bool) (v4 : Int) (v6 : List Aa) (v8 : (List (List Aa))) (y1 : List Int) (y3 : Aa) : Option ((Int × (List (List Aa)) × (List Aa)) ⊕ ((List (List Aa)) × (List Aa))) :=
 if a2 then
   Option.bind (B8 ((List.getD a0.Arms v4.toNat Ac).E)) λ y8 =>
   Option.bind (B1 y8 y3) λ y9 =>
   need (Af ((List.getD a0.Arms v4.toNat Ac).A) v6.length) <|
   Option.bind (B3 (List.getD v6 ((List.getD a0.Arms v4.toNat Ac).A).toNat Ao) y9) λ y10 =>
   need (Af ((List.getD a0.Arms v4.toNat Ac).B) v6.length) <|
   Option.bind (Bm (List.getD v6 ((List.getD a0.Arms v4.toNat Ac).B).toNat Ao) y9) λ y11 =>
   need (Af ((List.getD a0.Arms v4.toNat Ac).A) v6.length) <|
   need (Af ((List.getD a0.Arms v4.toNat Ac).B) (List.set v6 ((List.getD a0.Arms v4.toNat Ac).A).toNat y10).length) <|
   Eu a0 a2 v4 v8 (List.set (List.set v6 ((List.getD a0.Arms v4.toNat Ac).A).toNat y10) ((List.getD a0.Arms v4.toNat Ac).B).toNat y11) y1
 else
   Eu a0 a2 v4 v8 v6 y1
def Ga (a0 : An) (a2 : Bool) (v4 : Int) (v6 : List Aa) (v7 : (List (List Aa))) (y1 : List Int) (y3 : Aa) : Option ((Int × (List (List Aa)) × (List Aa)) ⊕ ((List (List Aa)) × (List Aa))) :=
 need (Af ((List.getD a0.Arms v4.toNat Ac).A) v7.length) <|
 need (Af ((List.getD a0.Arms v4.toNat Ac).B) v7.length) <|
 need (Af ((List.getD a0.Arms v4.toNat Ac).A) v7.length) <|
 need (Af ((List.getD a0.Arms v4.toNat Ac).B) (List.getD v7 ((List.getD a0.Arms v4.toNat Ac).A).toNat []).length) <|
 Option.bind (B3 (List.getD (List.getD v7 ((List.getD a0.Arms v4.toNat Ac).A).toNat []) ((List.getD a0.Arms v4.toNat Ac).B).toNat Ao) y3) λ y6 =>
 need (Af ((List.getD a0.Arms v4.toNat Ac).B) v7.length) <|
 need (Af ((List.getD a0.Arms v4.toNat Ac).A) (List.getD v7 ((List.getD a0.Arms v4.toNat Ac).B).toNat []).length) <|
 Option.bind (B3 (List.getD (List.getD v7 ((List.getD a0.Arms v4.toNat Ac).B).toNat []) ((List.getD a0.Arms v4.toNat Ac).A).toNat Ao) y3) λ y7 =>
 need (Af ((List.getD a0.Arms v4.toNat Ac).B) (List.getD v7 ((List.getD a0.Arms v4.toNat Ac).A).toNat []).length) <|
 need (Af ((List.getD a0.Arms v4.toNat Ac).A) (List.getD (List.set v7 ((List.getD a0.Arms v4.toNat Ac).A).toNat (List.set (List.getD v7 ((List.getD a0.Arms v4.toNat Ac).A).toNat []) ((List.getD a0.Arms v4.toNat Ac).B).toNat y6)) ((List.getD a0.Arms v4.toNat Ac).B).toNat []).length) <|
 F8 a0 a2 v4 v6 (List.set (List.set v7 ((List.getD a0.Arms v4.toNat Ac).A).toNat (List.set (List.getD v7 ((List.getD a0.Arms v4.toNat Ac).A).toNat []) ((List.getD a0.Arms v4.toNat Ac).B).toNat y6)) ((List.getD a0.Arms v4.toNat Ac).B).toNat (List.set (List.getD (List.set v7 ((List.getD a0.Arms v4.toNat Ac).A).toNat (List.set (List.getD v7 ((List.getD a0.Arms v4.toNat Ac).A).toNat []) ((List.getD a0.Arms v4.toNat Ac).B).toNat y6)) ((List.getD a0.Arms v4.toNat Ac).B).toNat []) ((List.getD a0.Arms v4.toNat Ac).A).toNat y7)) y1 y3
def Ev (a0 : An) (a2 : Bool) (y1 : List Int) (v4 : Int) (v5 : (List (List Aa))) (v6 : List Aa) : Option ((Int × (List (List Aa)) × (List Aa)) ⊕ ((List (List Aa)) × (List Aa))) :=
 if decide (v4 < (a0.Arms.length : Int)) then
   need (Af v4 a0.Arms.length) <|
   if decide (((List.getD a0.Arms v4.toNat Ac).A) = ((List.getD a0.Arms v4.toNat Ac).B)) then
     some (.inl (IntKind.wrap .i64 (v4 + (1 : Int)), v5, v6))
   else
     Option.bind (B8 ((List.getD a0.Arms v4.toNat Ac).R)) λ y2 =>
     Option.bind (Dc y2) λ y3 =>
     need (Af ((List.getD a0.Arms v4.toNat Ac).A) v5.length) <|
     need (Af ((List.getD a0.Arms v4.toNat Ac).B) v5.length) <|
     need (Af ((List.getD a0.Arms v4.toNat Ac).A) v5.length) <|
     need (Af ((List.getD a0.Arms v4.toNat Ac).A) (List.getD v5 ((List.getD a0.Arms v4.toNat Ac).A).toNat []).length) <|
     Option.bind (Bm (List.getD (List.getD v5 ((List.getD a0.Arms v4.toNat Ac).A).toNat []) ((List.getD a0.Arms v4.toNat Ac).A).toNat Ao) y3) λ y4 =>
     need (Af ((List.getD a0.Arms v4.toNat Ac).B) v5.length) <|
     need (Af ((List.getD a0.Arms v4.toNat Ac).B) (List.getD v5 ((List.getD a0.Arms v4.toNat Ac).B).toNat []).length) <|
     Option.bind (Bm (List.getD (List.getD v5 ((List.getD a0.Arms v4.toNat Ac).B).toNat []) ((List.getD a0.Arms v4.toNat Ac).B).toNat Ao) y3) λ y5 =>
     need (Af ((List.getD a0.Arms v4.toNat Ac).A) (List.getD v5 ((List.getD a0.Arms v4.toNat Ac).A).toNat []).length) <|
     need (Af ((List.getD a0.Arms v4.toNat Ac).B) (List.getD (List.set v5 ((List.getD a0.Arms v4.toNat Ac).A).toNat (List.set (List.getD v5 ((List.getD a0.Arms v4.toNat Ac).A).toNat []) ((List.getD a0.Arms v4.toNat Ac).A).toNat y4)) ((List.getD a0.Arms v4.toNat Ac).B).toNat []).length) <|
     Ga a0 a2 v4 v6 (List.set (List.set v5 ((List.getD a0.Arms v4.toNat Ac).A).toNat (List.set (List.getD v5 ((List.getD a0.Arms v4.toNat Ac).A).toNat []) ((List.getD a0.Arms v4.toNat Ac).A).toNat y4)) ((List.getD a0.Arms v4.toNat Ac).B).toNat (List.set (List.getD (List.set v5 ((List.getD a0.Arms v4.toNat Ac).A).toNat (List.set (List.getD v5 ((List.getD a0.Arms v4.toNat Ac).A).toNat []) ((List.getD a0.Arms v4.toNat Ac).A).toNat y4)) ((List.getD a0.Arms v4.toNat Ac).B).toNat []) ((List.getD a0.Arms v4.toNat Ac).B).toNat y5)) y1 y3
 else
   some (.inr (v5, v6))
def Et (a0 : An) (v12 : Int) (v15 : (List (List Aa))) (v16 : List Aa) (y1 : List Int) : Option ((Int × (List (List Aa)) × (List Aa)) ⊕ ((List (List Aa)) × (List Aa))) :=
 some (.inl (IntKind.wrap .i64 (v12 + (1 : Int)), v15, v16))
def Gc (a0 : An) (y1 : List Int) (v12 : Int) (v13 : (List (List Aa))) (v14 : List Aa) : Option ((Int × (List (List Aa)) × (List Aa)) ⊕ ((List (List Aa)) × (List Aa))) :=
 if decide (v12 < a0.Nodes) then
   need (Af v12 y1.length) <|
   if decide ((List.getD y1 v12.toNat (0 : Int)) = v12) then
     need (0 <= a0.Nodes) <|
     need (a0.Nodes <= a0.Nodes) <|
     need (a0.Nodes * ((64 : Nat) : Int) <= (Ap : Int)) <|
     Option.bind (Ci (1 : Int)) λ y12 =>
     need (Af v12 (List.replicate (a0.Nodes).toNat (⟨(⟨[], false⟩ : Ad), (⟨[], false⟩ : Ad)⟩ : Aa)).length) <|
     need ((v13.length + 1) * 24 <= Ap) <|
     need ((v14.length + [(⟨(⟨[], false⟩ : Ad), (⟨[], false⟩ : Ad)⟩ : Aa)].length) * 64 <= Ap) <|
     Et a0 v12 (v13 ++ [List.set (List.replicate (a0.Nodes).toNat (⟨(⟨[], false⟩ : Ad), (⟨[], false⟩ : Ad)⟩ : Aa)) v12.toNat y12]) (v14 ++ [(⟨(⟨[], false⟩ : Ad), (⟨[], false⟩ : Ad)⟩ : Aa)]) y1
   else
     Et a0 v12 v13 v14 y1
 else
   some (.inr (v13, v14))
def Ct (a0 : An) (a1 : List Aa) (a2 : Bool) : Option (List Aa) :=
 Option.bind (Dm a0) λ y1 =>
 need (0 <= a0.Nodes) <|
 need (a0.Nodes <= a0.Nodes) <|
 need (a0.Nodes * ((24 : Nat) : Int) <= (Ap : Int)) <|
 need (a1.length * 64 <= Ap) <|
 Option.bind (Bj (λ v : (Int × (List (List Aa))) => Gb a0 a1 a2 y1 v.1 v.2) ((0 : Int), List.replicate (a0.Nodes).toNat ([] : List Aa))) λ r1 =>
   Option.bind (Bj (λ v : (Int × (List (List Aa)) × (List Aa)) => Ev a0 a2 y1 v.1 v.2.1 v.2.2) ((0 : Int), r1, a1)) λ r2 =>
     Option.bind (Bj (λ v : (Int × (List (List Aa)) × (List Aa)) => Gc a0 y1 v.1 v.2.1 v.2.2) ((0 : Int), r2.1, r2.2)) λ r3 =>
       Option.bind (De r3.1 a0.Nodes r3.2) λ y13 =>
       some y13.1
def Es (a0 : Ad) (v1 : Int) (v2 : Int) : Option ((Int × Int) ⊕ Int) :=
 if decide (v2 < (a0.d.length : Int)) then
   need (Af v2 a0.d.length) <|
   need ((0 : Int) <= (IntKind.wrap .u64 ((32 : Int) * (IntKind.wrap .u64 v2)))) <|
   some (.inl (IntKind.wrap .u64 ((((BitVec.ofInt (IntKind.bits .u64) v1 ||| BitVec.ofInt (IntKind.bits .u64) (IntKind.wrap .u64 ((IntKind.wrap .u64 (List.getD a0.d v2.toNat (0 : Int))) * 2 ^ (min (IntKind.wrap .u64 ((32 : Int) * (IntKind.wrap .u64 v2))).toNat (IntKind.bits .u64))))).toNat : Nat) : Int)), IntKind.wrap .i64 (v2 + (1 : Int))))
 else
   some (.inr v1)
def Ch (a0 : Ad) : Option (Int × Bool) :=
 if decide ((2 : Int) < (a0.d.length : Int)) then
   some ((0 : Int), false)
 else
   Option.bind (Bj (λ v : (Int × Int) => Es a0 v.1 v.2) ((0 : Int), (0 : Int))) λ r1 =>
     if a0.minus then
       some (IntKind.wrap .i64 (IntKind.wrap .u64 (0 - r1)), decide (r1 <= (9223372036854775808 : Int)))
     else
       some (IntKind.wrap .i64 r1, decide (r1 < (9223372036854775808 : Int)))
def Cw : Option (Au × Bool) :=
 some ((⟨(0 : Int), (0 : Int)⟩ : Au), false)
def Ey (a0 : Aa) : Option (Au × Bool) :=
 Option.bind (Ch a0.n) λ y1 =>
 Option.bind (B0 a0) λ y2 =>
 Option.bind (Ch y2) λ y3 =>
 if !y1.2 then
   Cw
 else
   if !y3.2 then
     Cw
   else
     if decide (y1.1 < (-1000000000000 : Int)) then
       Cw
     else
       if decide ((1000000000000 : Int) < y1.1) then
         Cw
       else
         if decide ((1000000000000 : Int) < y3.1) then
           Cw
         else
           some ((⟨y1.1, y3.1⟩ : Au), true)
def Gx (a0 : List Aa) (v1 : Int) (v2 : List Au) : Option ((Int × (List Au)) ⊕ ((List Au) ⊕ ((List Au) × Bool))) :=
 if decide (v1 < (a0.length : Int)) then
   need (Af v1 a0.length) <|
   Option.bind (Ey (⟨((List.getD a0 v1.toNat Ao).n), ((List.getD a0 v1.toNat Ao).d)⟩ : Aa)) λ y1 =>
   if !y1.2 then
     some (.inr (.inr ([], false)))
   else
     need ((v2.length + [y1.1].length) * 16 <= Ap) <|
     some (.inl (IntKind.wrap .i64 (v1 + (1 : Int)), v2 ++ [y1.1]))
 else
   some (.inr (.inl v2))
def Ec (a0 : List Aa) : Option ((List Au) × Bool) :=
 Option.bind (Bj (λ v : (Int × (List Au)) => Gx a0 v.1 v.2) ((0 : Int), [])) λ r =>
 match r with
 | .inl r1 =>
   some (r1, true)
 | .inr r2 =>
   some r2
def Fh (a0 : An) (a1 : List Aa) (v1 : Int) (v2 : List Aa) : Option ((Int × (List Aa)) ⊕ (List Aa)) :=
 if decide (v1 < (a0.Arms.length : Int)) then
   need (Af v1 a0.Arms.length) <|
   need (Af ((List.getD a0.Arms v1.toNat Ac).A) a1.length) <|
   need (Af ((List.getD a0.Arms v1.toNat Ac).B) a1.length) <|
   Option.bind (B3 (List.getD a1 ((List.getD a0.Arms v1.toNat Ac).A).toNat Ao) (List.getD a1 ((List.getD a0.Arms v1.toNat Ac).B).toNat Ao)) λ y1 =>
   Option.bind (B8 ((List.getD a0.Arms v1.toNat Ac).E)) λ y2 =>
   Option.bind (Bm y1 y2) λ y3 =>
   Option.bind (B8 ((List.getD a0.Arms v1.toNat Ac).R)) λ y4 =>
   Option.bind (Db y3 y4) λ y5 =>
   need ((v2.length + [y5].length) * 64 <= Ap) <|
   some (.inl (IntKind.wrap .i64 (v1 + (1 : Int)), v2 ++ [y5]))
 else
   some (.inr v2)
def Cv (a0 : An) (a1 : List Aa) : Option (List Aa) :=
 Option.bind (Bj (λ v : (Int × (List Aa)) => Fh a0 a1 v.1 v.2) ((0 : Int), [])) λ r1 =>
   some r1
def C9 : Option ((List Au) × (List Au) × Int) :=
 some ([], [], (3 : Int))
def B4 (a0 : An) : Option ((List Au) × (List Au) × Int) :=
 Option.bind (By a0) λ y1 =>
 if !decide (y1 = (0 : Int)) then
   some ([], [], y1)
 else
   need (0 <= a0.Nodes) <|
   need (a0.Nodes <= a0.Nodes) <|
   need (a0.Nodes * ((64 : Nat) : Int) <= (Ap : Int)) <|
   Option.bind (Ct a0 (List.replicate (a0.Nodes).toNat (⟨(⟨[], false⟩ : Ad), (⟨[], false⟩ : Ad)⟩ : Aa)) true) λ y2 =>
   Option.bind (Ec y2) λ y3 =>
   Option.bind (Cv a0 y2) λ y4 =>
   Option.bind (Ec y4) λ y5 =>
   if !y3.2 then
     C9
   else
     if !y5.2 then
       C9
     else
       some (y3.1, y5.1, (0 : Int))
def G5 (a0 : List Au) (a1 : List Au) (v1 : Int) : Option (Int ⊕ (Unit ⊕ Bool)) :=
 if decide (v1 < (a0.length : Int)) then
   if decide (v1 < (a1.length : Int)) then
     need (Af v1 a0.length) <|
     need (Af v1 a1.length) <|
     if !(decide (((List.getD a0 v1.toNat Cj).N) = ((List.getD a1 v1.toNat Cj).N)) && (decide (((List.getD a0 v1.toNat Cj).D) = ((List.getD a1 v1.toNat Cj).D)) && true)) then
       some (.inr (.inr false))
     else
       some (.inl (IntKind.wrap .i64 (v1 + (1 : Int))))
   else
     some (.inr (.inl ()))
 else
   some (.inr (.inl ()))
def Da (a0 : List Au) (a1 : List Au) : Option Bool :=
 Option.bind (Bj (λ v : Int => G5 a0 a1 v) (0 : Int)) λ r =>
 match r with
 | .inl r1 =>
   some (decide ((a0.length : Int) = (a1.length : Int)))
 | .inr r2 =>
   some r2
def Hx (a0 : Al) : Option (Au × Int) :=
 Option.bind (Oy a0) λ y1 =>
 if !y1.2 then
   some ((⟨(0 : Int), (0 : Int)⟩ : Au), (3 : Int))
 else
   some (y1.1, (0 : Int))
def Q7 (a0 : An) (y2 : ((List Al) × (List Al))) (v1 : Int) (v2 : Int) (v3 : List Int) (v4 : Bool) (v5 : Int) (v6 : List Int) (v7 : Bool) (v8 : Int) (v9 : List Int) (v10 : Bool) (v11 : Int) (v12 : List Int) (v13 : Bool) : Option ((Int × Int × (List Int) × Bool × Int × (List Int) × Bool × Int × (List Int) × Bool × Int × (List Int) × Bool) ⊕ (Int × (List Int) × Bool × Int × (List Int) × Bool × Int × (List Int) × Bool × Int × (List Int) × Bool)) :=
 if decide (v1 < (a0.Arms.length : Int)) then
   need (Af v1 a0.Arms.length) <|
   need (Af v1 y2.2.length) <|
   need (Af v1 y2.2.length) <|
   Option.bind (Ja (List.getD y2.2 v1.toNat Bd) (List.getD y2.2 v1.toNat Bd)) λ y5 =>
   Option.bind (R0 ((List.getD a0.Arms v1.toNat Ac).R)) λ y6 =>
   Option.bind (Ja y5 y6) λ y7 =>
   Option.bind (Im (⟨(⟨v2, v3, v4⟩ : A8), (⟨v5, v6, v7⟩ : A8)⟩ : Al) y7) λ y8 =>
   need (Af v1 y2.2.length) <|
   Option.bind (R0 ((List.getD a0.Arms v1.toNat Ac).E)) λ y9 =>
   Option.bind (Ja (List.getD y2.2 v1.toNat Bd) y9) λ y10 =>
   Option.bind (Im (⟨(⟨v8, v9, v10⟩ : A8), (⟨v11, v12, v13⟩ : A8)⟩ : Al) y10) λ y11 =>
   some (.inl (IntKind.wrap .i64 (v1 + (1 : Int)), y8.N.v, y8.N.m, y8.N.neg, y8.D.v, y8.D.m, y8.D.neg, y11.N.v, y11.N.m, y11.N.neg, y11.D.v, y11.D.m, y11.D.neg))
 else
   some (.inr (v2, v3, v4, v5, v6, v7, v8, v9, v10, v11, v12, v13))
def N3 : Option (Au × Au × Int) :=
 some ((⟨(0 : Int), (0 : Int)⟩ : Au), (⟨(0 : Int), (0 : Int)⟩ : Au), (3 : Int))
def Mw (a0 : An) : Option (Au × Au × Int) :=
 Option.bind (J7 a0) λ y1 =>
 if !decide (y1 = (0 : Int)) then
   some ((⟨(0 : Int), (0 : Int)⟩ : Au), (⟨(0 : Int), (0 : Int)⟩ : Au), y1)
 else
   Option.bind (O4 a0) λ y2 =>
   Option.bind (G8 (0 : Int)) λ y3 =>
   Option.bind (G8 (0 : Int)) λ y4 =>
   Option.bind (Bj (λ v : (Int × Int × (List Int) × Bool × Int × (List Int) × Bool × Int × (List Int) × Bool × Int × (List Int) × Bool) => Q7 a0 y2 v.1 v.2.1 v.2.2.1 v.2.2.2.1 v.2.2.2.2.1 v.2.2.2.2.2.1 v.2.2.2.2.2.2.1 v.2.2.2.2.2.2.2.1 v.2.2.2.2.2.2.2.2.1 v.2.2.2.2.2.2.2.2.2.1 v.2.2.2.2.2.2.2.2.2.2.1 v.2.2.2.2.2.2.2.2.2.2.2.1 v.2.2.2.2.2.2.2.2.2.2.2.2) ((0 : Int), y3.N.v, y3.N.m, y3.N.neg, y3.D.v, y3.D.m, y3.D.neg, y4.N.v, y4.N.m, y4.N.neg, y4.D.v, y4.D.m, y4.D.neg)) λ r1 =>
     Option.bind (Hx (⟨(⟨r1.1, r1.2.1, r1.2.2.1⟩ : A8), (⟨r1.2.2.2.1, r1.2.2.2.2.1, r1.2.2.2.2.2.1⟩ : A8)⟩ : Al)) λ y12 =>
     Option.bind (Hx (⟨(⟨r1.2.2.2.2.2.2.1, r1.2.2.2.2.2.2.2.1, r1.2.2.2.2.2.2.2.2.1⟩ : A8), (⟨r1.2.2.2.2.2.2.2.2.2.1, r1.2.2.2.2.2.2.2.2.2.2.1, r1.2.2.2.2.2.2.2.2.2.2.2⟩ : A8)⟩ : Al)) λ y13 =>
     if !decide (y12.2 = (0 : Int)) then
       N3
     else
       if !decide (y13.2 = (0 : Int)) then
         N3
       else
         some (y12.1, y13.1, (0 : Int))
def Cg (a0 : Aa) : Option (Au × Int) :=
 Option.bind (Ey a0) λ y1 =>
 if !y1.2 then
   some ((⟨(0 : Int), (0 : Int)⟩ : Au), (3 : Int))
 else
   some (y1.1, (0 : Int))
def Gy (a0 : An) (y3 : List Aa) (v1 : Int) (v2 : List Int) (v3 : Bool) (v4 : List Int) (v5 : Bool) (v6 : List Int) (v7 : Bool) (v8 : List Int) (v9 : Bool) : Option ((Int × (List Int) × Bool × (List Int) × Bool × (List Int) × Bool × (List Int) × Bool) ⊕ ((List Int) × Bool × (List Int) × Bool × (List Int) × Bool × (List Int) × Bool)) :=
 if decide (v1 < (y3.length : Int)) then
   need (Af v1 a0.Arms.length) <|
   Option.bind (B8 ((List.getD a0.Arms v1.toNat Ac).R)) λ y4 =>
   need (Af v1 y3.length) <|
   Option.bind (B1 y4 (List.getD y3 v1.toNat Ao)) λ y5 =>
   need (Af v1 y3.length) <|
   Option.bind (B1 y5 (List.getD y3 v1.toNat Ao)) λ y6 =>
   Option.bind (Bm (⟨(⟨v2, v3⟩ : Ad), (⟨v4, v5⟩ : Ad)⟩ : Aa) y6) λ y7 =>
   need (Af v1 a0.Arms.length) <|
   Option.bind (B8 ((List.getD a0.Arms v1.toNat Ac).E)) λ y8 =>
   need (Af v1 y3.length) <|
   Option.bind (B1 y8 (List.getD y3 v1.toNat Ao)) λ y9 =>
   Option.bind (Bm (⟨(⟨v6, v7⟩ : Ad), (⟨v8, v9⟩ : Ad)⟩ : Aa) y9) λ y10 =>
   some (.inl (IntKind.wrap .i64 (v1 + (1 : Int)), y7.n.d, y7.n.minus, y7.d.d, y7.d.minus, y10.n.d, y10.n.minus, y10.d.d, y10.d.minus))
 else
   some (.inr (v2, v3, v4, v5, v6, v7, v8, v9))
def Fp : Option (Au × Au × Int) :=
 some ((⟨(0 : Int), (0 : Int)⟩ : Au), (⟨(0 : Int), (0 : Int)⟩ : Au), (3 : Int))
def Dd (a0 : An) : Option (Au × Au × Int) :=
 Option.bind (By a0) λ y1 =>
 if !decide (y1 = (0 : Int)) then
   some ((⟨(0 : Int), (0 : Int)⟩ : Au), (⟨(0 : Int), (0 : Int)⟩ : Au), y1)
 else
   need (0 <= a0.Nodes) <|
   need (a0.Nodes <= a0.Nodes) <|
   need (a0.Nodes * ((64 : Nat) : Int) <= (Ap : Int)) <|
   Option.bind (Ct a0 (List.replicate (a0.Nodes).toNat (⟨(⟨[], false⟩ : Ad), (⟨[], false⟩ : Ad)⟩ : Aa)) true) λ y2 =>
   Option.bind (Cv a0 y2) λ y3 =>
   Option.bind (Bj (λ v : (Int × (List Int) × Bool × (List Int) × Bool × (List Int) × Bool × (List Int) × Bool) => Gy a0 y3 v.1 v.2.1 v.2.2.1 v.2.2.2.1 v.2.2.2.2.1 v.2.2.2.2.2.1 v.2.2.2.2.2.2.1 v.2.2.2.2.2.2.2.1 v.2.2.2.2.2.2.2.2) ((0 : Int), [], false, [], false, [], false, [], false)) λ r1 =>
     Option.bind (Cg (⟨(⟨r1.1, r1.2.1⟩ : Ad), (⟨r1.2.2.1, r1.2.2.2.1⟩ : Ad)⟩ : Aa)) λ y11 =>
     Option.bind (Cg (⟨(⟨r1.2.2.2.2.1, r1.2.2.2.2.2.1⟩ : Ad), (⟨r1.2.2.2.2.2.2.1, r1.2.2.2.2.2.2.2⟩ : Ad)⟩ : Aa)) λ y12 =>
     if !decide (y11.2 = (0 : Int)) then
       Fp
     else
       if !decide (y12.2 = (0 : Int)) then
         Fp
       else
         some (y11.1, y12.1, (0 : Int))
def Hi : Option (Au × Int) :=
 some ((⟨(0 : Int), (0 : Int)⟩ : Au), (1 : Int))
def Il (a0 : An) (a1 : Int) (a2 : Int) (v1 : Int) (v2 : Int) (v3 : List Al) : Option ((Int × Int × (List Al)) ⊕ (List Al)) :=
 if decide (v2 < v1) then
   Option.bind (G8 (0 : Int)) λ y3 =>
   need (Af v2 v3.length) <|
   some (.inl (v1, IntKind.wrap .i64 (v2 + (1 : Int)), List.set v3 v2.toNat y3))
 else
   some (.inr v3)
def Hg (a0 : An) (a1 : Int) (a2 : Int) : Option (Au × Int) :=
 Option.bind (J7 a0) λ y1 =>
 if !decide (y1 = (0 : Int)) then
   some ((⟨(0 : Int), (0 : Int)⟩ : Au), y1)
 else
   if decide (a1 < (0 : Int)) then
     Hi
   else
     if decide (a0.Nodes <= a1) then
       Hi
     else
       if decide (a2 < (0 : Int)) then
         Hi
       else
         if decide (a0.Nodes <= a2) then
           Hi
         else
           Option.bind (Km a0) λ y2 =>
           need (Af a1 y2.length) <|
           need (Af a2 y2.length) <|
           if !decide ((List.getD y2 a1.toNat (0 : Int)) = (List.getD y2 a2.toNat (0 : Int))) then
             some ((⟨(0 : Int), (0 : Int)⟩ : Au), (4 : Int))
           else
             need (0 <= a0.Nodes) <|
             need (a0.Nodes <= a0.Nodes) <|
             need (a0.Nodes * ((80 : Nat) : Int) <= (Ap : Int)) <|
             Option.bind (Bj (λ v : (Int × Int × (List Al)) => Il a0 a1 a2 v.1 v.2.1 v.2.2) (((List.replicate (a0.Nodes).toNat (⟨(⟨(0 : Int), [], false⟩ : A8), (⟨(0 : Int), [], false⟩ : A8)⟩ : Al)).length : Int), (0 : Int), List.replicate (a0.Nodes).toNat (⟨(⟨(0 : Int), [], false⟩ : A8), (⟨(0 : Int), [], false⟩ : A8)⟩ : Al))) λ r1 =>
               need (Af a1 r1.length) <|
               Option.bind (G8 (1 : Int)) λ y4 =>
               Option.bind (Im (⟨((List.getD r1 a1.toNat Bd).N), ((List.getD r1 a1.toNat Bd).D)⟩ : Al) y4) λ y5 =>
               need (Af a1 r1.length) <|
               need (Af a2 (List.set r1 a1.toNat y5).length) <|
               Option.bind (G8 (1 : Int)) λ y6 =>
               Option.bind (I8 (⟨((List.getD (List.set r1 a1.toNat y5) a2.toNat Bd).N), ((List.getD (List.set r1 a1.toNat y5) a2.toNat Bd).D)⟩ : Al) y6) λ y7 =>
               need (Af a2 (List.set r1 a1.toNat y5).length) <|
               Option.bind (Kj a0 (List.set (List.set r1 a1.toNat y5) a2.toNat y7)) λ y8 =>
               need (Af a1 y8.length) <|
               need (Af a2 y8.length) <|
               Option.bind (I8 (⟨((List.getD y8 a1.toNat Bd).N), ((List.getD y8 a1.toNat Bd).D)⟩ : Al) (⟨((List.getD y8 a2.toNat Bd).N), ((List.getD y8 a2.toNat Bd).D)⟩ : Al)) λ y9 =>
               Option.bind (Hx y9) λ y10 =>
               some (y10.1, y10.2)
def Cn : Option (Au × Int) :=
 some ((⟨(0 : Int), (0 : Int)⟩ : Au), (1 : Int))
def Ck (a0 : An) (a1 : Int) (a2 : Int) : Option (Au × Int) :=
 Option.bind (By a0) λ y1 =>
 if !decide (y1 = (0 : Int)) then
   some ((⟨(0 : Int), (0 : Int)⟩ : Au), y1)
 else
   if decide (a1 < (0 : Int)) then
     Cn
   else
     if decide (a0.Nodes <= a1) then
       Cn
     else
       if decide (a2 < (0 : Int)) then
         Cn
       else
         if decide (a0.Nodes <= a2) then
           Cn
         else
           Option.bind (Dm a0) λ y2 =>
           need (Af a1 y2.length) <|
           need (Af a2 y2.length) <|
           if !decide ((List.getD y2 a1.toNat (0 : Int)) = (List.getD y2 a2.toNat (0 : Int))) then
             some ((⟨(0 : Int), (0 : Int)⟩ : Au), (4 : Int))
           else
             need (0 <= a0.Nodes) <|
             need (a0.Nodes <= a0.Nodes) <|
             need (a0.Nodes * ((64 : Nat) : Int) <= (Ap : Int)) <|
             need (Af a1 (List.replicate (a0.Nodes).toNat (⟨(⟨[], false⟩ : Ad), (⟨[], false⟩ : Ad)⟩ : Aa)).length) <|
             Option.bind (Ci (1 : Int)) λ y3 =>
             Option.bind (Bm (List.getD (List.replicate (a0.Nodes).toNat (⟨(⟨[], false⟩ : Ad), (⟨[], false⟩ : Ad)⟩ : Aa)) a1.toNat Ao) y3) λ y4 =>
             need (Af a1 (List.replicate (a0.Nodes).toNat (⟨(⟨[], false⟩ : Ad), (⟨[], false⟩ : Ad)⟩ : Aa)).length) <|
             need (Af a2 (List.set (List.replicate (a0.Nodes).toNat (⟨(⟨[], false⟩ : Ad), (⟨[], false⟩ : Ad)⟩ : Aa)) a1.toNat y4).length) <|
             Option.bind (Ci (1 : Int)) λ y5 =>
             Option.bind (B3 (List.getD (List.set (List.replicate (a0.Nodes).toNat (⟨(⟨[], false⟩ : Ad), (⟨[], false⟩ : Ad)⟩ : Aa)) a1.toNat y4) a2.toNat Ao) y5) λ y6 =>
             need (Af a2 (List.set (List.replicate (a0.Nodes).toNat (⟨(⟨[], false⟩ : Ad), (⟨[], false⟩ : Ad)⟩ : Aa)) a1.toNat y4).length) <|
             Option.bind (Ct a0 (List.set (List.set (List.replicate (a0.Nodes).toNat (⟨(⟨[], false⟩ : Ad), (⟨[], false⟩ : Ad)⟩ : Aa)) a1.toNat y4) a2.toNat y6) false) λ y7 =>
             need (Af a1 y7.length) <|
             need (Af a2 y7.length) <|
             Option.bind (B3 (List.getD y7 a1.toNat Ao) (List.getD y7 a2.toNat Ao)) λ y8 =>
             Option.bind (Cg y8) λ y9 =>
             some (y9.1, y9.2)
def Vg (a0 : QmM) : Option Al :=
 Option.bind (Kp a0 a0.C) λ y1 =>
 if decide ((y1.2.1.length : Int) < (a0.V.length : Int)) then
   Option.bind (G8 (0 : Int)) λ y2 =>
   some y2
 else
   some y1.2.2
def Pa (a0 : An) (v1 : (List (List Al))) (v2 : Int) (v3 : Int) (v4 : (List (List Al))) : Option (((List (List Al)) × Int × Int × (List (List Al))) ⊕ (List (List Al))) :=
 if decide (v3 < v2) then
   need (Af v3 v1.length) <|
   need ((0 : Int) <= (1 : Int)) <|
   need ((1 : Int) <= ((List.getD v1 v3.toNat ([] : List Al)).length : Int)) <|
   need (((List.getD v1 v3.toNat ([] : List Al)).length : Int) <= ((List.getD v1 v3.toNat ([] : List Al)).length : Int)) <|
   need ((v4.length + [(List.take (((List.getD v1 v3.toNat ([] : List Al)).length : Int).toNat - (1 : Int).toNat) (List.drop (1 : Int).toNat (List.getD v1 v3.toNat ([] : List Al))))].length) * 24 <= Ap) <|
   some (.inl (v1, v2, IntKind.wrap .i64 (v3 + (1 : Int)), v4 ++ [(List.take (((List.getD v1 v3.toNat ([] : List Al)).length : Int).toNat - (1 : Int).toNat) (List.drop (1 : Int).toNat (List.getD v1 v3.toNat ([] : List Al))))]))
 else
   some (.inr v4)
def Iv (a0 : An) : Option (Au × Int) :=
 Option.bind (J7 a0) λ y1 =>
 if !decide (y1 = (0 : Int)) then
   some ((⟨(0 : Int), (0 : Int)⟩ : Au), y1)
 else
   Option.bind (Jp a0) λ y2 =>
   need ((0 : Int) <= (1 : Int)) <|
   need ((1 : Int) <= (y2.V.length : Int)) <|
   need ((y2.V.length : Int) <= (y2.V.length : Int)) <|
   Option.bind (Bj (λ v : ((List (List Al)) × Int × Int × (List (List Al))) => Pa a0 v.1 v.2.1 v.2.2.1 v.2.2.2) ((List.take ((y2.V.length : Int).toNat - (1 : Int).toNat) (List.drop (1 : Int).toNat y2.V)), ((List.take ((y2.V.length : Int).toNat - (1 : Int).toNat) (List.drop (1 : Int).toNat y2.V)).length : Int), (0 : Int), [])) λ r1 =>
     Option.bind (Vg (⟨IntKind.wrap .i64 (a0.Nodes - (1 : Int)), r1⟩ : QmM)) λ y3 =>
     Option.bind (Hx y3) λ y4 =>
     some (y4.1, y4.2)
def Dw (R : (List (List Aa)) -> Option Aa) (a0 : (List (List Aa))) (v1 : Int) (v2 : List Int) (v3 : Bool) (v4 : List Int) (v5 : Bool) : Option ((Int × (List Int) × Bool × (List Int) × Bool) ⊕ ((List Int) × Bool × (List Int) × Bool)) :=
 if decide (v1 < (IntKind.wrap .i64 ((a0.length : Int) - (1 : Int)))) then
   need (Af (IntKind.wrap .i64 ((a0.length : Int) - (1 : Int))) a0.length) <|
   need (Af v1 (List.getD a0 (IntKind.wrap .i64 ((a0.length : Int) - (1 : Int))).toNat ([] : List Aa)).length) <|
   Option.bind (Bm (⟨(⟨v2, v3⟩ : Ad), (⟨v4, v5⟩ : Ad)⟩ : Aa) (List.getD (List.getD a0 (IntKind.wrap .i64 ((a0.length : Int) - (1 : Int))).toNat ([] : List Aa)) v1.toNat Ao)) λ y2 =>
   some (.inl (IntKind.wrap .i64 (v1 + (1 : Int)), y2.n.d, y2.n.minus, y2.d.d, y2.d.minus))
 else
   some (.inr (v2, v3, v4, v5))
def Dz (R : (List (List Aa)) -> Option Aa) (a0 : (List (List Aa))) (v10 : Int) (v12 : Int) (v14 : (List (List Aa))) (r1 : ((List Int) × Bool × (List Int) × Bool)) : Option ((Int × (List (List Aa))) ⊕ (List (List Aa))) :=
 some (.inl (IntKind.wrap .i64 (v12 + (1 : Int)), v14))
def Fj (R : (List (List Aa)) -> Option Aa) (a0 : (List (List Aa))) (v10 : Int) (r1 : ((List Int) × Bool × (List Int) × Bool)) (v12 : Int) (v13 : (List (List Aa))) : Option ((Int × (List (List Aa))) ⊕ (List (List Aa))) :=
 if decide (v12 < (IntKind.wrap .i64 ((a0.length : Int) - (1 : Int)))) then
   if !decide (v12 = v10) then
     need (Af v10 v13.length) <|
     need (Af v10 v13.length) <|
     need (Af v12 (List.getD v13 v10.toNat []).length) <|
     need (Af (IntKind.wrap .i64 ((a0.length : Int) - (1 : Int))) a0.length) <|
     need (Af v10 (List.getD a0 (IntKind.wrap .i64 ((a0.length : Int) - (1 : Int))).toNat ([] : List Aa)).length) <|
     need (Af (IntKind.wrap .i64 ((a0.length : Int) - (1 : Int))) a0.length) <|
     need (Af v12 (List.getD a0 (IntKind.wrap .i64 ((a0.length : Int) - (1 : Int))).toNat ([] : List Aa)).length) <|
     Option.bind (B1 (List.getD (List.getD a0 (IntKind.wrap .i64 ((a0.length : Int) - (1 : Int))).toNat ([] : List Aa)) v10.toNat Ao) (List.getD (List.getD a0 (IntKind.wrap .i64 ((a0.length : Int) - (1 : Int))).toNat ([] : List Aa)) v12.toNat Ao)) λ y4 =>
     Option.bind (Db y4 (⟨(⟨r1.1, r1.2.1⟩ : Ad), (⟨r1.2.2.1, r1.2.2.2⟩ : Ad)⟩ : Aa)) λ y5 =>
     Option.bind (Bm (List.getD (List.getD v13 v10.toNat []) v12.toNat Ao) y5) λ y6 =>
     need (Af v12 (List.getD v13 v10.toNat []).length) <|
     Dz R a0 v10 v12 (List.set v13 v10.toNat (List.set (List.getD v13 v10.toNat []) v12.toNat y6)) r1
   else
     Dz R a0 v10 v12 v13 r1
 else
   some (.inr v13)
def D0 (R : (List (List Aa)) -> Option Aa) (a0 : (List (List Aa))) (r1 : ((List Int) × Bool × (List Int) × Bool)) (v10 : Int) (v11 : (List (List Aa))) : Option ((Int × (List (List Aa))) ⊕ (List (List Aa))) :=
 if decide (v10 < (IntKind.wrap .i64 ((a0.length : Int) - (1 : Int)))) then
   need (Af v10 a0.length) <|
   need ((0 : Int) <= (0 : Int)) <|
   need ((0 : Int) <= (IntKind.wrap .i64 ((a0.length : Int) - (1 : Int)))) <|
   need ((IntKind.wrap .i64 ((a0.length : Int) - (1 : Int))) <= ((List.getD a0 v10.toNat ([] : List Aa)).length : Int)) <|
   need ((List.take ((IntKind.wrap .i64 ((a0.length : Int) - (1 : Int))).toNat - (0 : Int).toNat) (List.drop (0 : Int).toNat (List.getD a0 v10.toNat ([] : List Aa)))).length * 64 <= Ap) <|
   need (Af v10 v11.length) <|
   Option.bind (Bj (λ v : (Int × (List (List Aa))) => Fj R a0 v10 r1 v.1 v.2) ((0 : Int), List.set v11 v10.toNat (List.take ((IntKind.wrap .i64 ((a0.length : Int) - (1 : Int))).toNat - (0 : Int).toNat) (List.drop (0 : Int).toNat (List.getD a0 v10.toNat ([] : List Aa)))))) λ r2 =>
     some (.inl (IntKind.wrap .i64 (v10 + (1 : Int)), r2))
 else
   some (.inr v11)
def Ce (R : (List (List Aa)) -> Option Aa) (a0 : (List (List Aa))) : Option Aa :=
 if decide ((IntKind.wrap .i64 ((a0.length : Int) - (1 : Int))) = (0 : Int)) then
   Option.bind (Ci (1 : Int)) λ y1 =>
   some y1
 else
   Option.bind (Bj (λ v : (Int × (List Int) × Bool × (List Int) × Bool) => Dw R a0 v.1 v.2.1 v.2.2.1 v.2.2.2.1 v.2.2.2.2) ((0 : Int), [], false, [], false)) λ r1 =>
     Option.bind (Ca (⟨(⟨r1.1, r1.2.1⟩ : Ad), (⟨r1.2.2.1, r1.2.2.2⟩ : Ad)⟩ : Aa)) λ y3 =>
     if y3 then
       some (⟨(⟨[], false⟩ : Ad), (⟨[], false⟩ : Ad)⟩ : Aa)
     else
       need (0 <= (IntKind.wrap .i64 ((a0.length : Int) - (1 : Int)))) <|
       need ((IntKind.wrap .i64 ((a0.length : Int) - (1 : Int))) <= (IntKind.wrap .i64 ((a0.length : Int) - (1 : Int)))) <|
       need ((IntKind.wrap .i64 ((a0.length : Int) - (1 : Int))) * ((24 : Nat) : Int) <= (Ap : Int)) <|
       Option.bind (Bj (λ v : (Int × (List (List Aa))) => D0 R a0 r1 v.1 v.2) ((0 : Int), List.replicate (IntKind.wrap .i64 ((a0.length : Int) - (1 : Int))).toNat ([] : List Aa))) λ r3 =>
         Option.bind (R r3) λ y7 =>
         Option.bind (B1 (⟨(⟨r1.1, r1.2.1⟩ : Ad), (⟨r1.2.2.1, r1.2.2.2⟩ : Ad)⟩ : Aa) y7) λ y8 =>
         some y8
def C4 : Nat -> (List (List Aa)) -> Option Aa
 | 0 => λ _ => none
 | k + 1 => Ce (C4 k)
def K7 : (List (List Aa)) -> Option Aa := C4 20
def Gq (a0 : An) (v1 : Int) (v2 : (List (List Aa))) : Option ((Int × (List (List Aa))) ⊕ (List (List Aa))) :=
 if decide (v1 < a0.Nodes) then
   need (0 <= a0.Nodes) <|
   need (a0.Nodes <= a0.Nodes) <|
   need (a0.Nodes * ((64 : Nat) : Int) <= (Ap : Int)) <|
   need (Af v1 v2.length) <|
   some (.inl (IntKind.wrap .i64 (v1 + (1 : Int)), List.set v2 v1.toNat (List.replicate (a0.Nodes).toNat (⟨(⟨[], false⟩ : Ad), (⟨[], false⟩ : Ad)⟩ : Aa))))
 else
   some (.inr v2)
def Fd (a0 : An) (v4 : Int) (v6 : (List (List Aa))) : Option ((Int × (List (List Aa))) ⊕ (List (List Aa))) :=
 some (.inl (IntKind.wrap .i64 (v4 + (1 : Int)), v6))
def Gl (a0 : An) (v4 : Int) (v5 : (List (List Aa))) : Option ((Int × (List (List Aa))) ⊕ (List (List Aa))) :=
 if decide (v4 < (a0.Arms.length : Int)) then
   need (Af v4 a0.Arms.length) <|
   if !decide (((List.getD a0.Arms v4.toNat Ac).A) = ((List.getD a0.Arms v4.toNat Ac).B)) then
     Option.bind (B8 ((List.getD a0.Arms v4.toNat Ac).R)) λ y2 =>
     Option.bind (Dc y2) λ y3 =>
     need (Af ((List.getD a0.Arms v4.toNat Ac).A) v5.length) <|
     need (Af ((List.getD a0.Arms v4.toNat Ac).B) v5.length) <|
     need (Af ((List.getD a0.Arms v4.toNat Ac).A) v5.length) <|
     need (Af ((List.getD a0.Arms v4.toNat Ac).B) (List.getD v5 ((List.getD a0.Arms v4.toNat Ac).A).toNat []).length) <|
     Option.bind (Bm (List.getD (List.getD v5 ((List.getD a0.Arms v4.toNat Ac).A).toNat []) ((List.getD a0.Arms v4.toNat Ac).B).toNat Ao) y3) λ y4 =>
     need (Af ((List.getD a0.Arms v4.toNat Ac).B) v5.length) <|
     need (Af ((List.getD a0.Arms v4.toNat Ac).A) (List.getD v5 ((List.getD a0.Arms v4.toNat Ac).B).toNat []).length) <|
     Option.bind (Bm (List.getD (List.getD v5 ((List.getD a0.Arms v4.toNat Ac).B).toNat []) ((List.getD a0.Arms v4.toNat Ac).A).toNat Ao) y3) λ y5 =>
     need (Af ((List.getD a0.Arms v4.toNat Ac).B) (List.getD v5 ((List.getD a0.Arms v4.toNat Ac).A).toNat []).length) <|
     need (Af ((List.getD a0.Arms v4.toNat Ac).A) (List.getD (List.set v5 ((List.getD a0.Arms v4.toNat Ac).A).toNat (List.set (List.getD v5 ((List.getD a0.Arms v4.toNat Ac).A).toNat []) ((List.getD a0.Arms v4.toNat Ac).B).toNat y4)) ((List.getD a0.Arms v4.toNat Ac).B).toNat []).length) <|
     Fd a0 v4 (List.set (List.set v5 ((List.getD a0.Arms v4.toNat Ac).A).toNat (List.set (List.getD v5 ((List.getD a0.Arms v4.toNat Ac).A).toNat []) ((List.getD a0.Arms v4.toNat Ac).B).toNat y4)) ((List.getD a0.Arms v4.toNat Ac).B).toNat (List.set (List.getD (List.set v5 ((List.getD a0.Arms v4.toNat Ac).A).toNat (List.set (List.getD v5 ((List.getD a0.Arms v4.toNat Ac).A).toNat []) ((List.getD a0.Arms v4.toNat Ac).B).toNat y4)) ((List.getD a0.Arms v4.toNat Ac).B).toNat []) ((List.getD a0.Arms v4.toNat Ac).A).toNat y5))
   else
     Fd a0 v4 v5
 else
   some (.inr v5)
def Cx (a0 : An) : Option (Au × Int) :=
 Option.bind (By a0) λ y1 =>
 if !decide (y1 = (0 : Int)) then
   some ((⟨(0 : Int), (0 : Int)⟩ : Au), y1)
 else
   need (0 <= a0.Nodes) <|
   need (a0.Nodes <= a0.Nodes) <|
   need (a0.Nodes * ((24 : Nat) : Int) <= (Ap : Int)) <|
   Option.bind (Bj (λ v : (Int × (List (List Aa))) => Gq a0 v.1 v.2) ((0 : Int), List.replicate (a0.Nodes).toNat ([] : List Aa))) λ r1 =>
     Option.bind (Bj (λ v : (Int × (List (List Aa))) => Gl a0 v.1 v.2) ((0 : Int), r1)) λ r2 =>
       Option.bind (K7 r2) λ y6 =>
       Option.bind (Cg y6) λ y7 =>
       some (y7.1, y7.2)
def Bn (a0 : Int) : Option Au :=
 some (⟨a0, (1 : Int)⟩ : Au)
def E1 : Option Bool :=
 Option.bind (Bn (1 : Int)) λ y1 =>
 Option.bind (Bn (3 : Int)) λ y2 =>
 Option.bind (Bn (1 : Int)) λ y3 =>
 Option.bind (Bn (0 : Int)) λ y4 =>
 Option.bind (Bn (1 : Int)) λ y5 =>
 Option.bind (Bn (0 : Int)) λ y6 =>
 Option.bind (E2 (⟨(3 : Int), [(⟨(0 : Int), (1 : Int), y1, y2⟩ : D4), (⟨(1 : Int), (2 : Int), y3, y4⟩ : D4), (⟨(2 : Int), (0 : Int), y5, y6⟩ : D4)]⟩ : An)) λ y7 =>
 Option.bind (Iv (⟨(3 : Int), [(⟨(0 : Int), (1 : Int), y1, y2⟩ : D4), (⟨(1 : Int), (2 : Int), y3, y4⟩ : D4), (⟨(2 : Int), (0 : Int), y5, y6⟩ : D4)]⟩ : An)) λ y8 =>
 Option.bind (Hg (⟨(3 : Int), [(⟨(0 : Int), (1 : Int), y1, y2⟩ : D4), (⟨(1 : Int), (2 : Int), y3, y4⟩ : D4), (⟨(2 : Int), (0 : Int), y5, y6⟩ : D4)]⟩ : An) (0 : Int) (1 : Int)) λ y9 =>
 Option.bind (Bn (1 : Int)) λ y10 =>
 Option.bind (Bn (1 : Int)) λ y11 =>
 Option.bind (Bn (1 : Int)) λ y12 =>
 Option.bind (Da y7.2.1 [y10, y11, y12]) λ y13 =>
 if y13 then
   if decide (y7.2.2 = (0 : Int)) then
     Option.bind (Bn (3 : Int)) λ y14 =>
     if (decide (y8.1.N = y14.N) && (decide (y8.1.D = y14.D) && true)) then
       if decide (y8.2 = (0 : Int)) then
         if (decide (y9.1.N = (2 : Int)) && (decide (y9.1.D = (3 : Int)) && true)) then
           some (decide (y9.2 = (0 : Int)))
         else
           some false
       else
         some false
     else
       some false
   else
     some false
 else
   some false
def Eb : Option Bool :=
 some false
def C7 : Option Bool :=
 some false
def F0 : Option Bool :=
 some false
def C3 (a0 : An) (a1 : Int) (a2 : Int) (y5 : (Au × Au × Int)) (y6 : (Au × Au × Int)) : Option Bool :=
 Option.bind (Hg a0 a1 a2) λ y7 =>
 Option.bind (Ck a0 a1 a2) λ y8 =>
 if !(decide (y7.1.N = y8.1.N) && (decide (y7.1.D = y8.1.D) && true)) then
   F0
 else
   if !decide (y7.2 = y8.2) then
     F0
   else
     Option.bind (Iv a0) λ y9 =>
     Option.bind (Cx a0) λ y10 =>
     if (decide (y9.1.N = y10.1.N) && (decide (y9.1.D = y10.1.D) && true)) then
       if decide (y9.2 = y10.2) then
         Option.bind E1 λ y11 =>
         some y11
       else
         some false
     else
       some false
def Dx (a0 : An) (a1 : Int) (a2 : Int) : Option Bool :=
 Option.bind (E2 a0) λ y1 =>
 Option.bind (B4 a0) λ y2 =>
 if !decide (y1.2.2 = y2.2.2) then
   Eb
 else
   Option.bind (Da y1.1 y2.1) λ y3 =>
   if !y3 then
     Eb
   else
     Option.bind (Da y1.2.1 y2.2.1) λ y4 =>
     if !y4 then
       Eb
     else
       Option.bind (Mw a0) λ y5 =>
       Option.bind (Dd a0) λ y6 =>
       if !(decide (y5.1.N = y6.1.N) && (decide (y5.1.D = y6.1.D) && true)) then
         C7
       else
         if !(decide (y5.2.1.N = y6.2.1.N) && (decide (y5.2.1.D = y6.2.1.D) && true)) then
           C7
         else
           if !decide (y5.2.2 = y6.2.2) then
             C7
           else
             if decide (y5.2.2 = (0 : Int)) then
               if !(decide (y5.1.N = y5.2.1.N) && (decide (y5.1.D = y5.2.1.D) && true)) then
                 C7
               else
                 C3 a0 a1 a2 y5 y6
             else
               C3 a0 a1 a2 y5 y6
end
end Go.Ab
