/- What the functions compute, as plain functions. Conditions: none beyond those that each theorem names. -/
import Derived.Test.YtjdgmcngpiookaaS09
namespace Go.Ab
open Go
set_option linter.unusedVariables false
structure A7 where
 N : Int
 D : Int
def C0 : A7 := ⟨(0 : Int), (0 : Int)⟩
structure Aq where
 A : Int
 B : Int
 R : A7
 E : A7
def Aa : Aq := ⟨(0 : Int), (0 : Int), C0, C0⟩
structure Ah where
 Nodes : Int
 Arms : List Aq
def An6 : Ah := ⟨(0 : Int), ([] : List Aq)⟩
structure A6 where
 v : Int
 m : List Int
 neg : Bool
def Ary : A6 := ⟨(0 : Int), ([] : List Int), false⟩
structure Aj where
 N : A6
 D : A6
def Ba : Aj := ⟨(Ary), Ary⟩
structure QmM where
 C : Int
 V : List (List Aj)
def Bd7 : QmM := ⟨(0 : Int), ([] : (List (List Aj)))⟩
structure Af where
 d : List Int
 minus : Bool
def G7 : Af := ⟨([] : List Int), false⟩
structure Ag where
 n : Af
 d : Af
def Bt : Ag := ⟨(G7), G7⟩
noncomputable section
def Hp : Option Bool :=
 some false
def Nl (v1 : Int) (v2 : Int) : Option ((Int × Int) ⊕ Int) :=
 if !decide (v2 = (0 : Int)) then
   need (v2 ≠ 0) <|
   some (.inl (v2, Int.tmod v1 v2))
 else
   some (.inr v1)
def Kk (a0 : A7) : Option Bool :=
 if decide (a0.D < (1 : Int)) then
   Hp
 else
   if decide ((1000000000000 : Int) < a0.D) then
     Hp
   else
     if decide ((1000000000000 : Int) < a0.N) then
       Hp
     else
       if decide (a0.N < (-1000000000000 : Int)) then
         Hp
       else
         Option.bind (Br (λ v : (Int × Int) => Nl v.1 v.2) (a0.N, a0.D)) λ r1 =>
           if decide (r1 = (1 : Int)) then
             some true
           else
             some (decide (r1 = (-1 : Int)))
def Mc : Option Int :=
 some (1 : Int)
def Fq : Option (Int ⊕ (Unit ⊕ Int)) :=
 some (.inr (.inr (1 : Int)))
def Pf (a0 : Ah) (v1 : Int) : Option (Int ⊕ (Unit ⊕ Int)) :=
 if decide (v1 < ((a0.Arms.length : Nat) : Int)) then
   need (Ae v1 a0.Arms.length) <|
   if decide (((List.getD a0.Arms v1.toNat Aa).A) < (0 : Int)) then
     Fq
   else
     if decide (a0.Nodes <= ((List.getD a0.Arms v1.toNat Aa).A)) then
       Fq
     else
       if decide (((List.getD a0.Arms v1.toNat Aa).B) < (0 : Int)) then
         Fq
       else
         if decide (a0.Nodes <= ((List.getD a0.Arms v1.toNat Aa).B)) then
           Fq
         else
           Option.bind (Kk ((List.getD a0.Arms v1.toNat Aa).R)) λ y1 =>
           if !y1 then
             Fq
           else
             if decide ((((List.getD a0.Arms v1.toNat Aa).R).N) < (1 : Int)) then
               Fq
             else
               Option.bind (Kk ((List.getD a0.Arms v1.toNat Aa).E)) λ y2 =>
               if !y2 then
                 Fq
               else
                 some (.inl (IntKind.wrap .i64 (v1 + (1 : Int))))
 else
   some (.inr (.inl ()))
def Jo (a0 : Ah) : Option Int :=
 if decide ((40 : Int) < ((a0.Arms.length : Nat) : Int)) then
   some (3 : Int)
 else
   if decide (a0.Nodes < (1 : Int)) then
     Mc
   else
     if decide ((12 : Int) < a0.Nodes) then
       Mc
     else
       Option.bind (Br (λ v : Int => Pf a0 v) (0 : Int)) λ r =>
       match r with
       | .inl r1 =>
         some (0 : Int)
       | .inr r2 =>
         some r2
def Li (a0 : Ah) (v1 : Int) (v2 : Int) (v3 : List Int) : Option ((Int × Int × (List Int)) ⊕ (List Int)) :=
 if decide (v2 < v1) then
   need (Ae v2 v3.length) <|
   some (.inl (v1, IntKind.wrap .i64 (v2 + (1 : Int)), List.set v3 v2.toNat v2))
 else
   some (.inr v3)
def I8 (a0 : Ah) (v5 : Int) (v7 : Int) (v8 : List Int) : Option ((Int × (List Int)) ⊕ (List Int)) :=
 if decide (v7 < ((a0.Arms.length : Nat) : Int)) then
   need (Ae v7 a0.Arms.length) <|
   need (Ae ((List.getD a0.Arms v7.toNat Aa).A) v8.length) <|
   need (Ae ((List.getD a0.Arms v7.toNat Aa).B) v8.length) <|
   need (Ae ((List.getD a0.Arms v7.toNat Aa).A) v8.length) <|
   need (Ae ((List.getD a0.Arms v7.toNat Aa).B) (List.set v8 ((List.getD a0.Arms v7.toNat Aa).A).toNat (if (List.getD v8 ((List.getD a0.Arms v7.toNat Aa).B).toNat (0 : Int)) < (List.getD v8 ((List.getD a0.Arms v7.toNat Aa).A).toNat (0 : Int)) then (List.getD v8 ((List.getD a0.Arms v7.toNat Aa).B).toNat (0 : Int)) else (List.getD v8 ((List.getD a0.Arms v7.toNat Aa).A).toNat (0 : Int)))).length) <|
   some (.inl (IntKind.wrap .i64 (v7 + (1 : Int)), List.set (List.set v8 ((List.getD a0.Arms v7.toNat Aa).A).toNat (if (List.getD v8 ((List.getD a0.Arms v7.toNat Aa).B).toNat (0 : Int)) < (List.getD v8 ((List.getD a0.Arms v7.toNat Aa).A).toNat (0 : Int)) then (List.getD v8 ((List.getD a0.Arms v7.toNat Aa).B).toNat (0 : Int)) else (List.getD v8 ((List.getD a0.Arms v7.toNat Aa).A).toNat (0 : Int)))) ((List.getD a0.Arms v7.toNat Aa).B).toNat (if (List.getD v8 ((List.getD a0.Arms v7.toNat Aa).B).toNat (0 : Int)) < (List.getD v8 ((List.getD a0.Arms v7.toNat Aa).A).toNat (0 : Int)) then (List.getD v8 ((List.getD a0.Arms v7.toNat Aa).B).toNat (0 : Int)) else (List.getD v8 ((List.getD a0.Arms v7.toNat Aa).A).toNat (0 : Int)))))
 else
   some (.inr v8)
def K9 (a0 : Ah) (v5 : Int) (v6 : List Int) : Option ((Int × (List Int)) ⊕ (List Int)) :=
 if decide (v5 < a0.Nodes) then
   Option.bind (Br (λ v : (Int × (List Int)) => I8 a0 v5 v.1 v.2) ((0 : Int), v6)) λ r2 =>
     some (.inl (IntKind.wrap .i64 (v5 + (1 : Int)), r2))
 else
   some (.inr v6)
def Ij (a0 : Ah) : Option (List Int) :=
 need (0 <= a0.Nodes) <|
 need (a0.Nodes <= a0.Nodes) <|
 need (a0.Nodes * ((8 : Nat) : Int) <= ((As : Nat) : Int)) <|
 Option.bind (Br (λ v : (Int × Int × (List Int)) => Li a0 v.1 v.2.1 v.2.2) ((((List.replicate (a0.Nodes).toNat (0 : Int)).length : Nat) : Int), (0 : Int), List.replicate (a0.Nodes).toNat (0 : Int))) λ r1 =>
   Option.bind (Br (λ v : (Int × (List Int)) => K9 a0 v.1 v.2) ((0 : Int), r1)) λ r3 =>
     some r3
def U7 (a0 : Int) : Option A6 :=
 some (⟨a0, [], false⟩ : A6)
def Fm (a0 : Int) : Option Aj :=
 Option.bind (U7 a0) λ y1 =>
 Option.bind (U7 (1 : Int)) λ y2 =>
 some (⟨y1, y2⟩ : Aj)
def Ip : Option Int :=
 some (-1 : Int)
def Ks : Option Int :=
 some (1 : Int)
def Hs (a0 : A6) : Option Int :=
 if List.isEmpty a0.m then
   if decide (a0.v = (0 : Int)) then
     some (0 : Int)
   else
     Ks
 else
   Ks
def Hd (a0 : A6) : Option Int :=
 if !List.isEmpty a0.m then
   if a0.neg then
     Ip
   else
     if List.isEmpty a0.m then
       if decide (a0.v < (0 : Int)) then
         Ip
       else
         Hs a0
     else
       Hs a0
 else
   if List.isEmpty a0.m then
     if decide (a0.v < (0 : Int)) then
       Ip
     else
       Hs a0
   else
     Hs a0
def H2 (a0 : A6) (v1 : Int) : Option ((List Int) × Bool) :=
 if decide (v1 = (0 : Int)) then
   some ([], false)
 else
   need ((0 : Int) <= (32 : Int)) <|
   if decide ((Int.fdiv v1 (2 ^ (min (32 : Int).toNat (IntKind.bits .u64)))) = (0 : Int)) then
     some ([IntKind.wrap .u32 v1], decide (a0.v < (0 : Int)))
   else
     need ((0 : Int) <= (32 : Int)) <|
     some ([IntKind.wrap .u32 v1, IntKind.wrap .u32 (Int.fdiv v1 (2 ^ (min (32 : Int).toNat (IntKind.bits .u64))))], decide (a0.v < (0 : Int)))
def Ez (a0 : A6) : Option ((List Int) × Bool) :=
 if !List.isEmpty a0.m then
   some (a0.m, a0.neg)
 else
   if decide (a0.v < (0 : Int)) then
     H2 a0 (IntKind.wrap .u64 (0 - (IntKind.wrap .u64 a0.v)))
   else
     H2 a0 (IntKind.wrap .u64 a0.v)
def Ph (a1 : Bool) (v1 : List Int) : Option ((List Int) ⊕ (List Int)) :=
 if decide ((0 : Int) < ((v1.length : Nat) : Int)) then
   need (Ae (IntKind.wrap .i64 (((v1.length : Nat) : Int) - (1 : Int))) v1.length) <|
   if decide ((List.getD v1 (IntKind.wrap .i64 (((v1.length : Nat) : Int) - (1 : Int))).toNat (0 : Int)) = (0 : Int)) then
     need ((0 : Int) <= (0 : Int)) <|
     need ((0 : Int) <= (IntKind.wrap .i64 (((v1.length : Nat) : Int) - (1 : Int)))) <|
     need ((IntKind.wrap .i64 (((v1.length : Nat) : Int) - (1 : Int))) <= ((v1.length : Nat) : Int)) <|
     some (.inl (List.take ((IntKind.wrap .i64 (((v1.length : Nat) : Int) - (1 : Int))).toNat - (0 : Int).toNat) (List.drop (0 : Int).toNat v1)))
   else
     some (.inr v1)
 else
   some (.inr v1)
def L8 (a1 : Bool) (r1 : List Int) (v3 : Int) (v4 : Int) : Option ((Int × Int) ⊕ Int) :=
 if decide ((0 : Int) <= v4) then
   need ((0 : Int) <= (32 : Int)) <|
   need (Ae v4 r1.length) <|
   some (.inl (IntKind.wrap .u64 ((((BitVec.ofInt (IntKind.bits .u64) (IntKind.wrap .u64 (v3 * 2 ^ (min (32 : Int).toNat (IntKind.bits .u64)))) ||| BitVec.ofInt (IntKind.bits .u64) (IntKind.wrap .u64 (List.getD r1 v4.toNat (0 : Int)))).toNat : Nat) : Int)), IntKind.wrap .i64 (v4 - (1 : Int))))
 else
   some (.inr v3)
def Jv (a1 : Bool) (r1 : List Int) : Option A6 :=
 need (r1 ≠ []) <|
 some (⟨(0 : Int), r1, a1⟩ : A6)
def Hk (a0 : List Int) (a1 : Bool) : Option A6 :=
 Option.bind (Br (λ v : (List Int) => Ph a1 v) a0) λ r1 =>
   if decide (((r1.length : Nat) : Int) <= (2 : Int)) then
     Option.bind (Br (λ v : (Int × Int) => L8 a1 r1 v.1 v.2) ((0 : Int), IntKind.wrap .i64 (((r1.length : Nat) : Int) - (1 : Int)))) λ r2 =>
       if decide (r2 < (9223372036854775808 : Int)) then
         if a1 then
           some (⟨IntKind.wrap .i64 (0 - (IntKind.wrap .i64 r2)), [], false⟩ : A6)
         else
           some (⟨IntKind.wrap .i64 r2, [], false⟩ : A6)
       else
         Jv a1 r1
   else
     Jv a1 r1
def Gh (v1 : List Int) (v2 : List Int) (v4 : Int) (v5 : List Int) (v6 : Int) : Option ((Int × Int × (List Int)) ⊕ (Int × (List Int))) :=
 need ((v5.length + [IntKind.wrap .u32 v6].length) * 4 <= As) <|
 need ((0 : Int) <= (32 : Int)) <|
 some (.inl (Int.fdiv v6 (2 ^ (min (32 : Int).toNat (IntKind.bits .u64))), IntKind.wrap .i64 (v4 + (1 : Int)), v5 ++ [IntKind.wrap .u32 v6]))
def I0 (v1 : List Int) (v2 : List Int) (v3 : Int) (v4 : Int) (v5 : List Int) : Option ((Int × Int × (List Int)) ⊕ (Int × (List Int))) :=
 if decide (v4 < ((v1.length : Nat) : Int)) then
   need (Ae v4 v1.length) <|
   if decide (v4 < ((v2.length : Nat) : Int)) then
     need (Ae v4 v2.length) <|
     Gh v1 v2 v4 v5 (IntKind.wrap .u64 ((IntKind.wrap .u64 ((IntKind.wrap .u64 (List.getD v1 v4.toNat (0 : Int))) + v3)) + (IntKind.wrap .u64 (List.getD v2 v4.toNat (0 : Int)))))
   else
     Gh v1 v2 v4 v5 (IntKind.wrap .u64 ((IntKind.wrap .u64 (List.getD v1 v4.toNat (0 : Int))) + v3))
 else
   some (.inr (v3, v5))
def F7 (v1 : List Int) (v2 : List Int) : Option (List Int) :=
 need (0 <= (0 : Int)) <|
 need ((0 : Int) <= (IntKind.wrap .i64 (((v1.length : Nat) : Int) + (1 : Int)))) <|
 need ((IntKind.wrap .i64 (((v1.length : Nat) : Int) + (1 : Int))) * ((4 : Nat) : Int) <= ((As : Nat) : Int)) <|
 Option.bind (Br (λ v : (Int × Int × (List Int)) => I0 v1 v2 v.1 v.2.1 v.2.2) ((0 : Int), (0 : Int), [])) λ r1 =>
   need ((r1.2.length + [IntKind.wrap .u32 r1.1].length) * 4 <= As) <|
   some (r1.2 ++ [IntKind.wrap .u32 r1.1])
def H7 (a0 : List Int) (a1 : List Int) : Option (List Int) :=
 if decide (((a0.length : Nat) : Int) < ((a1.length : Nat) : Int)) then
   F7 a1 a0
 else
   F7 a0 a1
def Iz (a0 : List Int) (a1 : List Int) (v1 : Int) : Option (Int ⊕ (Unit ⊕ Int)) :=
 if decide ((0 : Int) <= v1) then
   need (Ae v1 a0.length) <|
   need (Ae v1 a1.length) <|
   if !decide ((List.getD a0 v1.toNat (0 : Int)) = (List.getD a1 v1.toNat (0 : Int))) then
     need (Ae v1 a0.length) <|
     need (Ae v1 a1.length) <|
     if decide ((List.getD a0 v1.toNat (0 : Int)) < (List.getD a1 v1.toNat (0 : Int))) then
       some (.inr (.inr (-1 : Int)))
     else
       some (.inr (.inr (1 : Int)))
   else
     some (.inl (IntKind.wrap .i64 (v1 - (1 : Int))))
 else
   some (.inr (.inl ()))
def Gq (a0 : List Int) (a1 : List Int) : Option Int :=
 if !decide (((a0.length : Nat) : Int) = ((a1.length : Nat) : Int)) then
   if decide (((a0.length : Nat) : Int) < ((a1.length : Nat) : Int)) then
     some (-1 : Int)
   else
     some (1 : Int)
 else
   Option.bind (Br (λ v : Int => Iz a0 a1 v) (IntKind.wrap .i64 (((a0.length : Nat) : Int) - (1 : Int)))) λ r =>
   match r with
   | .inl r1 =>
     some (0 : Int)
   | .inr r2 =>
     some r2
def F5 (a0 : List Int) (a1 : List Int) (v2 : Int) (v3 : List Int) (v5 : Int) (v6 : Int) : Option ((Int × Int × (List Int)) ⊕ (List Int)) :=
 need ((v3.length + [IntKind.wrap .u32 v6].length) * 4 <= As) <|
 some (.inl (v5, IntKind.wrap .i64 (v2 + (1 : Int)), v3 ++ [IntKind.wrap .u32 v6]))
def Gg (a0 : List Int) (a1 : List Int) (v2 : Int) (v3 : List Int) (v4 : Int) : Option ((Int × Int × (List Int)) ⊕ (List Int)) :=
 if decide (v4 < (0 : Int)) then
   F5 a0 a1 v2 v3 (1 : Int) (IntKind.wrap .i64 (v4 + (4294967296 : Int)))
 else
   F5 a0 a1 v2 v3 (0 : Int) v4
def I5 (a0 : List Int) (a1 : List Int) (v1 : Int) (v2 : Int) (v3 : List Int) : Option ((Int × Int × (List Int)) ⊕ (List Int)) :=
 if decide (v2 < ((a0.length : Nat) : Int)) then
   need (Ae v2 a0.length) <|
   if decide (v2 < ((a1.length : Nat) : Int)) then
     need (Ae v2 a1.length) <|
     Gg a0 a1 v2 v3 (IntKind.wrap .i64 ((IntKind.wrap .i64 ((IntKind.wrap .i64 (List.getD a0 v2.toNat (0 : Int))) - v1)) - (IntKind.wrap .i64 (List.getD a1 v2.toNat (0 : Int)))))
   else
     Gg a0 a1 v2 v3 (IntKind.wrap .i64 ((IntKind.wrap .i64 (List.getD a0 v2.toNat (0 : Int))) - v1))
 else
   some (.inr v3)
def Gl (a0 : List Int) (a1 : List Int) : Option (List Int) :=
 need (0 <= (0 : Int)) <|
 need ((0 : Int) <= ((a0.length : Nat) : Int)) <|
 need (((a0.length : Nat) : Int) * ((4 : Nat) : Int) <= ((As : Nat) : Int)) <|
 Option.bind (Br (λ v : (Int × Int × (List Int)) => I5 a0 a1 v.1 v.2.1 v.2.2) ((0 : Int), (0 : Int), [])) λ r1 =>
   some r1
def Iq (a0 : A6) (a1 : A6) : Option A6 :=
 Option.bind (Ez a0) λ y1 =>
 Option.bind (Ez a1) λ y2 =>
 if (y1.2 == y2.2) then
   Option.bind (H7 y1.1 y2.1) λ y3 =>
   Option.bind (Hk y3 y1.2) λ y4 =>
   some y4
 else
   Option.bind (Gq y1.1 y2.1) λ y5 =>
   if decide ((0 : Int) <= y5) then
     Option.bind (Gl y1.1 y2.1) λ y6 =>
     Option.bind (Hk y6 y1.2) λ y7 =>
     some y7
   else
     Option.bind (Gl y2.1 y1.1) λ y8 =>
     Option.bind (Hk y8 y2.2) λ y9 =>
     some y9
def Ld (a0 : A6) (a1 : A6) : Option A6 :=
 if List.isEmpty a0.m then
   if List.isEmpty a1.m then
     if ((decide (a0.v < (IntKind.wrap .i64 (a0.v + a1.v)))) == (decide ((0 : Int) < a1.v))) then
       some (⟨IntKind.wrap .i64 (a0.v + a1.v), [], false⟩ : A6)
     else
       Iq a0 a1
   else
     Iq a0 a1
 else
   Iq a0 a1
def Kf (a0 : A6) : Option A6 :=
 Option.bind (Ez a0) λ y1 =>
 Option.bind (Hk y1.1 (!y1.2)) λ y2 =>
 some y2
def I3 (a0 : A6) : Option A6 :=
 if List.isEmpty a0.m then
   if !decide (a0.v = (-9223372036854775808 : Int)) then
     some (⟨IntKind.wrap .i64 (0 - a0.v), [], false⟩ : A6)
   else
     Kf a0
 else
   Kf a0
def Pe (a0 : A6) (a1 : A6) : Option A6 :=
 Option.bind (I3 a1) λ y1 =>
 Option.bind (Ld a0 y1) λ y2 =>
 some y2
def Kb (a0 : A6) (a1 : A6) : Option Int :=
 Option.bind (Pe a0 a1) λ y1 =>
 Option.bind (Hd y1) λ y2 =>
 some y2
def Pa (a0 : A6) (a1 : A6) : Option Int :=
 if List.isEmpty a0.m then
   if List.isEmpty a1.m then
     if decide (a0.v < a1.v) then
       some (-1 : Int)
     else
       if decide (a1.v < a0.v) then
         some (1 : Int)
       else
         some (0 : Int)
   else
     Kb a0 a1
 else
   Kb a0 a1
def G0 (a0 : Aj) : Option Bool :=
 Option.bind (U7 (1 : Int)) λ y1 =>
 Option.bind (Pa a0.D y1) λ y2 =>
 some (decide (y2 = (0 : Int)))
def Hz (v3 : Int) (v4 : Int) : Option Int :=
 need (Ae (IntKind.wrap .u8 v3) ([0, 1, 2, 2, 3, 3, 3, 3, 4, 4, 4, 4, 4, 4, 4, 4, 5, 5, 5, 5, 5, 5, 5, 5, 5, 5, 5, 5, 5, 5, 5, 5, 6, 6, 6, 6, 6, 6, 6, 6, 6, 6, 6, 6, 6, 6, 6, 6, 6, 6, 6, 6, 6, 6, 6, 6, 6, 6, 6, 6, 6, 6, 6, 6, 7, 7, 7, 7, 7, 7, 7, 7, 7, 7, 7, 7, 7, 7, 7, 7, 7, 7, 7, 7, 7, 7, 7, 7, 7, 7, 7, 7, 7, 7, 7, 7, 7, 7, 7, 7, 7, 7, 7, 7, 7, 7, 7, 7, 7, 7, 7, 7, 7, 7, 7, 7, 7, 7, 7, 7, 7, 7, 7, 7, 7, 7, 7, 7, 8, 8, 8, 8, 8, 8, 8, 8, 8, 8, 8, 8, 8, 8, 8, 8, 8, 8, 8, 8, 8, 8, 8, 8, 8, 8, 8, 8, 8, 8, 8, 8, 8, 8, 8, 8, 8, 8, 8, 8, 8, 8, 8, 8, 8, 8, 8, 8, 8, 8, 8, 8, 8, 8, 8, 8, 8, 8, 8, 8, 8, 8, 8, 8, 8, 8, 8, 8, 8, 8, 8, 8, 8, 8, 8, 8, 8, 8, 8, 8, 8, 8, 8, 8, 8, 8, 8, 8, 8, 8, 8, 8, 8, 8, 8, 8, 8, 8, 8, 8, 8, 8, 8, 8, 8, 8, 8, 8, 8, 8, 8, 8, 8, 8, 8, 8, 8, 8, 8, 8, 8, 8, 8, 8, 8, 8, 8, 8] : List UInt8).length) <|
 some (IntKind.wrap .i64 (v4 + (IntKind.wrap .i64 ((List.getD ([0, 1, 2, 2, 3, 3, 3, 3, 4, 4, 4, 4, 4, 4, 4, 4, 5, 5, 5, 5, 5, 5, 5, 5, 5, 5, 5, 5, 5, 5, 5, 5, 6, 6, 6, 6, 6, 6, 6, 6, 6, 6, 6, 6, 6, 6, 6, 6, 6, 6, 6, 6, 6, 6, 6, 6, 6, 6, 6, 6, 6, 6, 6, 6, 7, 7, 7, 7, 7, 7, 7, 7, 7, 7, 7, 7, 7, 7, 7, 7, 7, 7, 7, 7, 7, 7, 7, 7, 7, 7, 7, 7, 7, 7, 7, 7, 7, 7, 7, 7, 7, 7, 7, 7, 7, 7, 7, 7, 7, 7, 7, 7, 7, 7, 7, 7, 7, 7, 7, 7, 7, 7, 7, 7, 7, 7, 7, 7, 8, 8, 8, 8, 8, 8, 8, 8, 8, 8, 8, 8, 8, 8, 8, 8, 8, 8, 8, 8, 8, 8, 8, 8, 8, 8, 8, 8, 8, 8, 8, 8, 8, 8, 8, 8, 8, 8, 8, 8, 8, 8, 8, 8, 8, 8, 8, 8, 8, 8, 8, 8, 8, 8, 8, 8, 8, 8, 8, 8, 8, 8, 8, 8, 8, 8, 8, 8, 8, 8, 8, 8, 8, 8, 8, 8, 8, 8, 8, 8, 8, 8, 8, 8, 8, 8, 8, 8, 8, 8, 8, 8, 8, 8, 8, 8, 8, 8, 8, 8, 8, 8, 8, 8, 8, 8, 8, 8, 8, 8, 8, 8, 8, 8, 8, 8, 8, 8, 8, 8, 8, 8, 8, 8, 8, 8, 8, 8] : List UInt8) (IntKind.wrap .u8 v3).toNat 0).toNat : Int))))
def Hw (v1 : Int) (v2 : Int) : Option Int :=
 if decide ((256 : Int) <= v1) then
   need ((0 : Int) <= (8 : Int)) <|
   Hz (Int.fdiv v1 (2 ^ (min (8 : Int).toNat (IntKind.bits .u32)))) (IntKind.wrap .i64 (v2 + (8 : Int)))
 else
   Hz v1 v2
def Jx (a0 : Int) : Option Int :=
 if decide ((65536 : Int) <= a0) then
   need ((0 : Int) <= (16 : Int)) <|
   Hw (Int.fdiv a0 (2 ^ (min (16 : Int).toNat (IntKind.bits .u32)))) (16 : Int)
 else
   Hw a0 (0 : Int)
def C3 (a0 : Int) : Option Int :=
 Option.bind (Jx a0) λ y1 =>
 some (IntKind.wrap .i64 ((32 : Int) - y1))
def Gb (a0 : List Int) (a1 : List Int) (v1 : Int) (v2 : Int) (v3 : List Int) : Option ((Int × Int × (List Int)) ⊕ (Int × (List Int))) :=
 if decide ((0 : Int) <= v2) then
   need ((0 : Int) <= (32 : Int)) <|
   need (Ae v2 a0.length) <|
   need (Ae (0 : Int) a1.length) <|
   need ((IntKind.wrap .u64 (List.getD a1 ((0 : Int)).toNat (0 : Int))) ≠ 0) <|
   need (Ae v2 v3.length) <|
   need (Ae (0 : Int) a1.length) <|
   need ((IntKind.wrap .u64 (List.getD a1 ((0 : Int)).toNat (0 : Int))) ≠ 0) <|
   some (.inl (Int.tmod (IntKind.wrap .u64 ((((BitVec.ofInt (IntKind.bits .u64) (IntKind.wrap .u64 (v1 * 2 ^ (min (32 : Int).toNat (IntKind.bits .u64)))) ||| BitVec.ofInt (IntKind.bits .u64) (IntKind.wrap .u64 (List.getD a0 v2.toNat (0 : Int)))).toNat : Nat) : Int))) (IntKind.wrap .u64 (List.getD a1 ((0 : Int)).toNat (0 : Int))), IntKind.wrap .i64 (v2 - (1 : Int)), List.set v3 v2.toNat (IntKind.wrap .u32 (IntKind.wrap .u64 (Int.tdiv (IntKind.wrap .u64 ((((BitVec.ofInt (IntKind.bits .u64) (IntKind.wrap .u64 (v1 * 2 ^ (min (32 : Int).toNat (IntKind.bits .u64)))) ||| BitVec.ofInt (IntKind.bits .u64) (IntKind.wrap .u64 (List.getD a0 v2.toNat (0 : Int)))).toNat : Nat) : Int))) (IntKind.wrap .u64 (List.getD a1 ((0 : Int)).toNat (0 : Int))))))))
 else
   some (.inr (v1, v3))
def Fc (a0 : List Int) (a1 : List Int) (v6 : Int) (v7 : List Int) (v9 : List Int) (y2 : Int) : Option ((Int × (List Int) × (List Int)) ⊕ ((List Int) × (List Int))) :=
 some (.inl (IntKind.wrap .i64 (v6 + (1 : Int)), v7, v9))
def G9 (a0 : List Int) (a1 : List Int) (y2 : Int) (v6 : Int) (v7 : List Int) (v8 : List Int) : Option ((Int × (List Int) × (List Int)) ⊕ ((List Int) × (List Int))) :=
 if decide (v6 < ((a1.length : Nat) : Int)) then
   need (Ae v6 a1.length) <|
   need ((0 : Int) <= (IntKind.wrap .u64 y2)) <|
   need (Ae v6 v8.length) <|
   if decide ((0 : Int) < v6) then
     if decide ((0 : Int) < (IntKind.wrap .u64 y2)) then
       need (Ae v6 (List.set v8 v6.toNat (IntKind.wrap .u32 ((List.getD a1 v6.toNat (0 : Int)) * 2 ^ (min (IntKind.wrap .u64 y2).toNat (IntKind.bits .u32))))).length) <|
       need (Ae (IntKind.wrap .i64 (v6 - (1 : Int))) a1.length) <|
       need ((0 : Int) <= (IntKind.wrap .u64 ((32 : Int) - (IntKind.wrap .u64 y2)))) <|
       need (Ae v6 (List.set v8 v6.toNat (IntKind.wrap .u32 ((List.getD a1 v6.toNat (0 : Int)) * 2 ^ (min (IntKind.wrap .u64 y2).toNat (IntKind.bits .u32))))).length) <|
       Fc a0 a1 v6 v7 (List.set (List.set v8 v6.toNat (IntKind.wrap .u32 ((List.getD a1 v6.toNat (0 : Int)) * 2 ^ (min (IntKind.wrap .u64 y2).toNat (IntKind.bits .u32))))) v6.toNat (IntKind.wrap .u32 ((((BitVec.ofInt (IntKind.bits .u32) (List.getD (List.set v8 v6.toNat (IntKind.wrap .u32 ((List.getD a1 v6.toNat (0 : Int)) * 2 ^ (min (IntKind.wrap .u64 y2).toNat (IntKind.bits .u32))))) v6.toNat (0 : Int)) ||| BitVec.ofInt (IntKind.bits .u32) (Int.fdiv (List.getD a1 (IntKind.wrap .i64 (v6 - (1 : Int))).toNat (0 : Int)) (2 ^ (min (IntKind.wrap .u64 ((32 : Int) - (IntKind.wrap .u64 y2))).toNat (IntKind.bits .u32))))).toNat : Nat) : Int)))) y2
     else
       Fc a0 a1 v6 v7 (List.set v8 v6.toNat (IntKind.wrap .u32 ((List.getD a1 v6.toNat (0 : Int)) * 2 ^ (min (IntKind.wrap .u64 y2).toNat (IntKind.bits .u32))))) y2
   else
     Fc a0 a1 v6 v7 (List.set v8 v6.toNat (IntKind.wrap .u32 ((List.getD a1 v6.toNat (0 : Int)) * 2 ^ (min (IntKind.wrap .u64 y2).toNat (IntKind.bits .u32))))) y2
 else
   some (.inr (v7, v8))
def Ev (a0 : List Int) (v12 : Int) (v15 : List Int) (r2 : ((List Int) × (List Int))) (y2 : Int) : Option ((Int × (List Int)) ⊕ (List Int)) :=
 some (.inl (IntKind.wrap .i64 (v12 + (1 : Int)), v15))
def Ga (a0 : List Int) (v12 : Int) (v14 : List Int) (r2 : ((List Int) × (List Int))) (y2 : Int) : Option ((Int × (List Int)) ⊕ (List Int)) :=
 if decide ((0 : Int) < v12) then
   if decide ((0 : Int) < (IntKind.wrap .u64 y2)) then
     need (Ae v12 v14.length) <|
     need (Ae (IntKind.wrap .i64 (v12 - (1 : Int))) a0.length) <|
     need ((0 : Int) <= (IntKind.wrap .u64 ((32 : Int) - (IntKind.wrap .u64 y2)))) <|
     need (Ae v12 v14.length) <|
     Ev a0 v12 (List.set v14 v12.toNat (IntKind.wrap .u32 ((((BitVec.ofInt (IntKind.bits .u32) (List.getD v14 v12.toNat (0 : Int)) ||| BitVec.ofInt (IntKind.bits .u32) (Int.fdiv (List.getD a0 (IntKind.wrap .i64 (v12 - (1 : Int))).toNat (0 : Int)) (2 ^ (min (IntKind.wrap .u64 ((32 : Int) - (IntKind.wrap .u64 y2))).toNat (IntKind.bits .u32))))).toNat : Nat) : Int)))) r2 y2
   else
     Ev a0 v12 v14 r2 y2
 else
   Ev a0 v12 v14 r2 y2
def Hi (a0 : List Int) (r2 : ((List Int) × (List Int))) (y2 : Int) (v12 : Int) (v13 : List Int) : Option ((Int × (List Int)) ⊕ (List Int)) :=
 if decide (v12 < ((r2.1.length : Nat) : Int)) then
   if decide (v12 < ((a0.length : Nat) : Int)) then
     need (Ae v12 a0.length) <|
     need ((0 : Int) <= (IntKind.wrap .u64 y2)) <|
     need (Ae v12 v13.length) <|
     Ga a0 v12 (List.set v13 v12.toNat (IntKind.wrap .u32 ((List.getD a0 v12.toNat (0 : Int)) * 2 ^ (min (IntKind.wrap .u64 y2).toNat (IntKind.bits .u32))))) r2 y2
   else
     Ga a0 v12 v13 r2 y2
 else
   some (.inr v13)
def Gd (v17 : Int) (v18 : List Int) (v19 : List Int) (v20 : Int) (v21 : Int) (r2 : ((List Int) × (List Int))) (y2 : Int) : Option ((Int × Int) ⊕ Int) :=
 need (Ae (IntKind.wrap .i64 (((r2.2.length : Nat) : Int) - (1 : Int))) r2.2.length) <|
 if decide ((4294967296 : Int) <= (IntKind.wrap .u64 (v21 + (IntKind.wrap .u64 (List.getD r2.2 (IntKind.wrap .i64 (((r2.2.length : Nat) : Int) - (1 : Int))).toNat (0 : Int)))))) then
   some (.inr (IntKind.wrap .u64 (v20 - (1 : Int))))
 else
   some (.inl (IntKind.wrap .u64 (v20 - (1 : Int)), IntKind.wrap .u64 (v21 + (IntKind.wrap .u64 (List.getD r2.2 (IntKind.wrap .i64 (((r2.2.length : Nat) : Int) - (1 : Int))).toNat (0 : Int))))))
def Hc (v17 : Int) (v18 : List Int) (v19 : List Int) (r2 : ((List Int) × (List Int))) (y2 : Int) (v20 : Int) (v21 : Int) : Option ((Int × Int) ⊕ Int) :=
 if decide ((4294967296 : Int) <= v20) then
   Gd v17 v18 v19 v20 v21 r2 y2
 else
   need (Ae (IntKind.wrap .i64 (((r2.2.length : Nat) : Int) - (2 : Int))) r2.2.length) <|
   need ((0 : Int) <= (32 : Int)) <|
   need (Ae (IntKind.wrap .i64 ((IntKind.wrap .i64 (v17 + ((r2.2.length : Nat) : Int))) - (2 : Int))) v18.length) <|
   if decide ((IntKind.wrap .u64 ((((BitVec.ofInt (IntKind.bits .u64) (IntKind.wrap .u64 (v21 * 2 ^ (min (32 : Int).toNat (IntKind.bits .u64)))) ||| BitVec.ofInt (IntKind.bits .u64) (IntKind.wrap .u64 (List.getD v18 (IntKind.wrap .i64 ((IntKind.wrap .i64 (v17 + ((r2.2.length : Nat) : Int))) - (2 : Int))).toNat (0 : Int)))).toNat : Nat) : Int))) < (IntKind.wrap .u64 (v20 * (IntKind.wrap .u64 (List.getD r2.2 (IntKind.wrap .i64 (((r2.2.length : Nat) : Int) - (2 : Int))).toNat (0 : Int)))))) then
     Gd v17 v18 v19 v20 v21 r2 y2
   else
     some (.inr v20)
def Gc (v17 : Int) (v19 : List Int) (v25 : Int) (v27 : Int) (v28 : Int) (v29 : List Int) (r2 : ((List Int) × (List Int))) (r4 : Int) (y2 : Int) : Option ((Int × Int × Int × (List Int)) ⊕ (Int × Int × (List Int))) :=
 some (.inl (v27, v28, IntKind.wrap .i64 (v25 + (1 : Int)), v29))
def Hh (v17 : Int) (v19 : List Int) (r2 : ((List Int) × (List Int))) (r4 : Int) (y2 : Int) (v23 : Int) (v24 : Int) (v25 : Int) (v26 : List Int) : Option ((Int × Int × Int × (List Int)) ⊕ (Int × Int × (List Int))) :=
 if decide (v25 < ((r2.2.length : Nat) : Int)) then
   need (Ae v25 r2.2.length) <|
   need ((0 : Int) <= (32 : Int)) <|
   need (Ae (IntKind.wrap .i64 (v25 + v17)) v26.length) <|
   need (Ae (IntKind.wrap .i64 (v25 + v17)) v26.length) <|
   if decide ((IntKind.wrap .i64 ((IntKind.wrap .i64 ((IntKind.wrap .i64 (List.getD v26 (IntKind.wrap .i64 (v25 + v17)).toNat (0 : Int))) - v23)) - (IntKind.wrap .i64 (IntKind.wrap .u32 (IntKind.wrap .u64 ((IntKind.wrap .u64 (r4 * (IntKind.wrap .u64 (List.getD r2.2 v25.toNat (0 : Int))))) + v24)))))) < (0 : Int)) then
     Gc v17 v19 v25 (1 : Int) (Int.fdiv (IntKind.wrap .u64 ((IntKind.wrap .u64 (r4 * (IntKind.wrap .u64 (List.getD r2.2 v25.toNat (0 : Int))))) + v24)) (2 ^ (min (32 : Int).toNat (IntKind.bits .u64)))) (List.set v26 (IntKind.wrap .i64 (v25 + v17)).toNat (IntKind.wrap .u32 (IntKind.wrap .i64 ((IntKind.wrap .i64 ((IntKind.wrap .i64 (List.getD v26 (IntKind.wrap .i64 (v25 + v17)).toNat (0 : Int))) - v23)) - (IntKind.wrap .i64 (IntKind.wrap .u32 (IntKind.wrap .u64 ((IntKind.wrap .u64 (r4 * (IntKind.wrap .u64 (List.getD r2.2 v25.toNat (0 : Int))))) + v24)))))))) r2 r4 y2
   else
     Gc v17 v19 v25 (0 : Int) (Int.fdiv (IntKind.wrap .u64 ((IntKind.wrap .u64 (r4 * (IntKind.wrap .u64 (List.getD r2.2 v25.toNat (0 : Int))))) + v24)) (2 ^ (min (32 : Int).toNat (IntKind.bits .u64)))) (List.set v26 (IntKind.wrap .i64 (v25 + v17)).toNat (IntKind.wrap .u32 (IntKind.wrap .i64 ((IntKind.wrap .i64 ((IntKind.wrap .i64 (List.getD v26 (IntKind.wrap .i64 (v25 + v17)).toNat (0 : Int))) - v23)) - (IntKind.wrap .i64 (IntKind.wrap .u32 (IntKind.wrap .u64 ((IntKind.wrap .u64 (r4 * (IntKind.wrap .u64 (List.getD r2.2 v25.toNat (0 : Int))))) + v24)))))))) r2 r4 y2
 else
   some (.inr (v23, v24, v26))
def Hf (v17 : Int) (v19 : List Int) (r2 : ((List Int) × (List Int))) (r4 : Int) (y2 : Int) (v33 : Int) (v34 : Int) (v35 : List Int) : Option ((Int × Int × (List Int)) ⊕ (Int × (List Int))) :=
 if decide (v34 < ((r2.2.length : Nat) : Int)) then
   need (Ae (IntKind.wrap .i64 (v34 + v17)) v35.length) <|
   need (Ae v34 r2.2.length) <|
   need (Ae (IntKind.wrap .i64 (v34 + v17)) v35.length) <|
   need ((0 : Int) <= (32 : Int)) <|
   some (.inl (Int.fdiv (IntKind.wrap .u64 ((IntKind.wrap .u64 ((IntKind.wrap .u64 (List.getD v35 (IntKind.wrap .i64 (v34 + v17)).toNat (0 : Int))) + (IntKind.wrap .u64 (List.getD r2.2 v34.toNat (0 : Int))))) + v33)) (2 ^ (min (32 : Int).toNat (IntKind.bits .u64))), IntKind.wrap .i64 (v34 + (1 : Int)), List.set v35 (IntKind.wrap .i64 (v34 + v17)).toNat (IntKind.wrap .u32 (IntKind.wrap .u64 ((IntKind.wrap .u64 ((IntKind.wrap .u64 (List.getD v35 (IntKind.wrap .i64 (v34 + v17)).toNat (0 : Int))) + (IntKind.wrap .u64 (List.getD r2.2 v34.toNat (0 : Int))))) + v33)))))
 else
   some (.inr (v33, v35))
def Gf (v17 : Int) (v19 : List Int) (v38 : Int) (v39 : List Int) (r2 : ((List Int) × (List Int))) (y2 : Int) : Option ((Int × (List Int) × (List Int)) ⊕ ((List Int) × (List Int))) :=
 need (Ae v17 v19.length) <|
 some (.inl (IntKind.wrap .i64 (v17 - (1 : Int)), v39, List.set v19 v17.toNat (IntKind.wrap .u32 v38)))
def Fb (r2 : ((List Int) × (List Int))) (y2 : Int) (v17 : Int) (v18 : List Int) (v19 : List Int) : Option ((Int × (List Int) × (List Int)) ⊕ ((List Int) × (List Int))) :=
 if decide ((0 : Int) <= v17) then
   need (Ae (IntKind.wrap .i64 (v17 + ((r2.2.length : Nat) : Int))) v18.length) <|
   need ((0 : Int) <= (32 : Int)) <|
   need (Ae (IntKind.wrap .i64 ((IntKind.wrap .i64 (v17 + ((r2.2.length : Nat) : Int))) - (1 : Int))) v18.length) <|
   need (Ae (IntKind.wrap .i64 (((r2.2.length : Nat) : Int) - (1 : Int))) r2.2.length) <|
   need ((IntKind.wrap .u64 (List.getD r2.2 (IntKind.wrap .i64 (((r2.2.length : Nat) : Int) - (1 : Int))).toNat (0 : Int))) ≠ 0) <|
   need (Ae (IntKind.wrap .i64 (((r2.2.length : Nat) : Int) - (1 : Int))) r2.2.length) <|
   need ((IntKind.wrap .u64 (List.getD r2.2 (IntKind.wrap .i64 (((r2.2.length : Nat) : Int) - (1 : Int))).toNat (0 : Int))) ≠ 0) <|
   Option.bind (Br (λ v : (Int × Int) => Hc v17 v18 v19 r2 y2 v.1 v.2) (IntKind.wrap .u64 (Int.tdiv (IntKind.wrap .u64 ((((BitVec.ofInt (IntKind.bits .u64) (IntKind.wrap .u64 ((IntKind.wrap .u64 (List.getD v18 (IntKind.wrap .i64 (v17 + ((r2.2.length : Nat) : Int))).toNat (0 : Int))) * 2 ^ (min (32 : Int).toNat (IntKind.bits .u64)))) ||| BitVec.ofInt (IntKind.bits .u64) (IntKind.wrap .u64 (List.getD v18 (IntKind.wrap .i64 ((IntKind.wrap .i64 (v17 + ((r2.2.length : Nat) : Int))) - (1 : Int))).toNat (0 : Int)))).toNat : Nat) : Int))) (IntKind.wrap .u64 (List.getD r2.2 (IntKind.wrap .i64 (((r2.2.length : Nat) : Int) - (1 : Int))).toNat (0 : Int)))), Int.tmod (IntKind.wrap .u64 ((((BitVec.ofInt (IntKind.bits .u64) (IntKind.wrap .u64 ((IntKind.wrap .u64 (List.getD v18 (IntKind.wrap .i64 (v17 + ((r2.2.length : Nat) : Int))).toNat (0 : Int))) * 2 ^ (min (32 : Int).toNat (IntKind.bits .u64)))) ||| BitVec.ofInt (IntKind.bits .u64) (IntKind.wrap .u64 (List.getD v18 (IntKind.wrap .i64 ((IntKind.wrap .i64 (v17 + ((r2.2.length : Nat) : Int))) - (1 : Int))).toNat (0 : Int)))).toNat : Nat) : Int))) (IntKind.wrap .u64 (List.getD r2.2 (IntKind.wrap .i64 (((r2.2.length : Nat) : Int) - (1 : Int))).toNat (0 : Int))))) λ r4 =>
     Option.bind (Br (λ v : (Int × Int × Int × (List Int)) => Hh v17 v19 r2 r4 y2 v.1 v.2.1 v.2.2.1 v.2.2.2) ((0 : Int), (0 : Int), (0 : Int), v18)) λ r5 =>
       need (Ae (IntKind.wrap .i64 (v17 + ((r2.2.length : Nat) : Int))) r5.2.2.length) <|
       need (Ae (IntKind.wrap .i64 (v17 + ((r2.2.length : Nat) : Int))) r5.2.2.length) <|
       if decide ((IntKind.wrap .i64 ((IntKind.wrap .i64 ((IntKind.wrap .i64 (List.getD r5.2.2 (IntKind.wrap .i64 (v17 + ((r2.2.length : Nat) : Int))).toNat (0 : Int))) - r5.1)) - (IntKind.wrap .i64 r5.2.1))) < (0 : Int)) then
         Option.bind (Br (λ v : (Int × Int × (List Int)) => Hf v17 v19 r2 r4 y2 v.1 v.2.1 v.2.2) ((0 : Int), (0 : Int), List.set r5.2.2 (IntKind.wrap .i64 (v17 + ((r2.2.length : Nat) : Int))).toNat (IntKind.wrap .u32 (IntKind.wrap .i64 ((IntKind.wrap .i64 ((IntKind.wrap .i64 (List.getD r5.2.2 (IntKind.wrap .i64 (v17 + ((r2.2.length : Nat) : Int))).toNat (0 : Int))) - r5.1)) - (IntKind.wrap .i64 r5.2.1)))))) λ r6 =>
           need (Ae (IntKind.wrap .i64 (v17 + ((r2.2.length : Nat) : Int))) r6.2.length) <|
           need (Ae (IntKind.wrap .i64 (v17 + ((r2.2.length : Nat) : Int))) r6.2.length) <|
           Gf v17 v19 (IntKind.wrap .u64 (r4 - (1 : Int))) (List.set r6.2 (IntKind.wrap .i64 (v17 + ((r2.2.length : Nat) : Int))).toNat (IntKind.wrap .u32 ((List.getD r6.2 (IntKind.wrap .i64 (v17 + ((r2.2.length : Nat) : Int))).toNat (0 : Int)) + (IntKind.wrap .u32 r6.1)))) r2 y2
       else
         Gf v17 v19 r4 (List.set r5.2.2 (IntKind.wrap .i64 (v17 + ((r2.2.length : Nat) : Int))).toNat (IntKind.wrap .u32 (IntKind.wrap .i64 ((IntKind.wrap .i64 ((IntKind.wrap .i64 (List.getD r5.2.2 (IntKind.wrap .i64 (v17 + ((r2.2.length : Nat) : Int))).toNat (0 : Int))) - r5.1)) - (IntKind.wrap .i64 r5.2.1))))) r2 y2
 else
   some (.inr (v18, v19))
def F8 (v42 : Int) (v44 : List Int) (r2 : ((List Int) × (List Int))) (r7 : ((List Int) × (List Int))) (y2 : Int) : Option ((Int × (List Int)) ⊕ (List Int)) :=
 some (.inl (IntKind.wrap .i64 (v42 + (1 : Int)), v44))
def Hg (r2 : ((List Int) × (List Int))) (r7 : ((List Int) × (List Int))) (y2 : Int) (v42 : Int) (v43 : List Int) : Option ((Int × (List Int)) ⊕ (List Int)) :=
 if decide (v42 < ((r2.2.length : Nat) : Int)) then
   need (Ae v42 r7.1.length) <|
   need ((0 : Int) <= (IntKind.wrap .u64 y2)) <|
   need (Ae v42 v43.length) <|
   if decide ((0 : Int) < (IntKind.wrap .u64 y2)) then
     need (Ae v42 (List.set v43 v42.toNat (Int.fdiv (List.getD r7.1 v42.toNat (0 : Int)) (2 ^ (min (IntKind.wrap .u64 y2).toNat (IntKind.bits .u32))))).length) <|
     need (Ae (IntKind.wrap .i64 (v42 + (1 : Int))) r7.1.length) <|
     need ((0 : Int) <= (IntKind.wrap .u64 ((32 : Int) - (IntKind.wrap .u64 y2)))) <|
     need (Ae v42 (List.set v43 v42.toNat (Int.fdiv (List.getD r7.1 v42.toNat (0 : Int)) (2 ^ (min (IntKind.wrap .u64 y2).toNat (IntKind.bits .u32))))).length) <|
     F8 v42 (List.set (List.set v43 v42.toNat (Int.fdiv (List.getD r7.1 v42.toNat (0 : Int)) (2 ^ (min (IntKind.wrap .u64 y2).toNat (IntKind.bits .u32))))) v42.toNat (IntKind.wrap .u32 ((((BitVec.ofInt (IntKind.bits .u32) (List.getD (List.set v43 v42.toNat (Int.fdiv (List.getD r7.1 v42.toNat (0 : Int)) (2 ^ (min (IntKind.wrap .u64 y2).toNat (IntKind.bits .u32))))) v42.toNat (0 : Int)) ||| BitVec.ofInt (IntKind.bits .u32) (IntKind.wrap .u32 ((List.getD r7.1 (IntKind.wrap .i64 (v42 + (1 : Int))).toNat (0 : Int)) * 2 ^ (min (IntKind.wrap .u64 ((32 : Int) - (IntKind.wrap .u64 y2))).toNat (IntKind.bits .u32))))).toNat : Nat) : Int)))) r2 r7 y2
   else
     F8 v42 (List.set v43 v42.toNat (Int.fdiv (List.getD r7.1 v42.toNat (0 : Int)) (2 ^ (min (IntKind.wrap .u64 y2).toNat (IntKind.bits .u32))))) r2 r7 y2
 else
   some (.inr v43)
def H3 (a0 : List Int) (a1 : List Int) : Option ((List Int) × (List Int)) :=
 Option.bind (Gq a0 a1) λ y1 =>
 if decide (y1 < (0 : Int)) then
   need (a0.length * 4 <= As) <|
   some ([], a0)
 else
   if decide (((a1.length : Nat) : Int) = (1 : Int)) then
     need (0 <= ((a0.length : Nat) : Int)) <|
     need (((a0.length : Nat) : Int) <= ((a0.length : Nat) : Int)) <|
     need (((a0.length : Nat) : Int) * ((4 : Nat) : Int) <= ((As : Nat) : Int)) <|
     Option.bind (Br (λ v : (Int × Int × (List Int)) => Gb a0 a1 v.1 v.2.1 v.2.2) ((0 : Int), IntKind.wrap .i64 (((a0.length : Nat) : Int) - (1 : Int)), List.replicate (((a0.length : Nat) : Int)).toNat (0 : Int))) λ r1 =>
       some (r1.2, [IntKind.wrap .u32 r1.1])
   else
     need (Ae (IntKind.wrap .i64 (((a1.length : Nat) : Int) - (1 : Int))) a1.length) <|
     Option.bind (C3 (List.getD a1 (IntKind.wrap .i64 (((a1.length : Nat) : Int) - (1 : Int))).toNat (0 : Int))) λ y2 =>
     need (0 <= (IntKind.wrap .i64 (((a0.length : Nat) : Int) + (1 : Int)))) <|
     need ((IntKind.wrap .i64 (((a0.length : Nat) : Int) + (1 : Int))) <= (IntKind.wrap .i64 (((a0.length : Nat) : Int) + (1 : Int)))) <|
     need ((IntKind.wrap .i64 (((a0.length : Nat) : Int) + (1 : Int))) * ((4 : Nat) : Int) <= ((As : Nat) : Int)) <|
     need (0 <= ((a1.length : Nat) : Int)) <|
     need (((a1.length : Nat) : Int) <= ((a1.length : Nat) : Int)) <|
     need (((a1.length : Nat) : Int) * ((4 : Nat) : Int) <= ((As : Nat) : Int)) <|
     Option.bind (Br (λ v : (Int × (List Int) × (List Int)) => G9 a0 a1 y2 v.1 v.2.1 v.2.2) ((0 : Int), List.replicate (IntKind.wrap .i64 (((a0.length : Nat) : Int) + (1 : Int))).toNat (0 : Int), List.replicate (((a1.length : Nat) : Int)).toNat (0 : Int))) λ r2 =>
       Option.bind (Br (λ v : (Int × (List Int)) => Hi a0 r2 y2 v.1 v.2) ((0 : Int), r2.1)) λ r3 =>
         need (0 <= (IntKind.wrap .i64 ((IntKind.wrap .i64 (((a0.length : Nat) : Int) - ((r2.2.length : Nat) : Int))) + (1 : Int)))) <|
         need ((IntKind.wrap .i64 ((IntKind.wrap .i64 (((a0.length : Nat) : Int) - ((r2.2.length : Nat) : Int))) + (1 : Int))) <= (IntKind.wrap .i64 ((IntKind.wrap .i64 (((a0.length : Nat) : Int) - ((r2.2.length : Nat) : Int))) + (1 : Int)))) <|
         need ((IntKind.wrap .i64 ((IntKind.wrap .i64 (((a0.length : Nat) : Int) - ((r2.2.length : Nat) : Int))) + (1 : Int))) * ((4 : Nat) : Int) <= ((As : Nat) : Int)) <|
         Option.bind (Br (λ v : (Int × (List Int) × (List Int)) => Fb r2 y2 v.1 v.2.1 v.2.2) (IntKind.wrap .i64 (((a0.length : Nat) : Int) - ((r2.2.length : Nat) : Int)), r3, List.replicate (IntKind.wrap .i64 ((IntKind.wrap .i64 (((a0.length : Nat) : Int) - ((r2.2.length : Nat) : Int))) + (1 : Int))).toNat (0 : Int))) λ r7 =>
           need (0 <= ((r2.2.length : Nat) : Int)) <|
           need (((r2.2.length : Nat) : Int) <= ((r2.2.length : Nat) : Int)) <|
           need (((r2.2.length : Nat) : Int) * ((4 : Nat) : Int) <= ((As : Nat) : Int)) <|
           Option.bind (Br (λ v : (Int × (List Int)) => Hg r2 r7 y2 v.1 v.2) ((0 : Int), List.replicate (((r2.2.length : Nat) : Int)).toNat (0 : Int))) λ r8 =>
             some (r7.2, r8)
def Iv (a0 : A6) (a1 : A6) : Option (A6 × A6) :=
 Option.bind (Ez a0) λ y1 =>
 Option.bind (Ez a1) λ y2 =>
 Option.bind (H3 y1.1 y2.1) λ y3 =>
 Option.bind (Hk y3.1 (!(y1.2 == y2.2))) λ y4 =>
 Option.bind (Hk y3.2 y1.2) λ y5 =>
 some (y4, y5)
def Lk (a0 : A6) (a1 : A6) : Option (A6 × A6) :=
 if List.isEmpty a0.m then
   if List.isEmpty a1.m then
     if !decide (a0.v = (-9223372036854775808 : Int)) then
       need (a1.v ≠ 0) <|
       need (a1.v ≠ 0) <|
       some ((⟨IntKind.wrap .i64 (Int.tdiv a0.v a1.v), [], false⟩ : A6), (⟨Int.tmod a0.v a1.v, [], false⟩ : A6))
     else
       Iv a0 a1
   else
     Iv a0 a1
 else
   Iv a0 a1
def Nc (a0 : A6) : Option A6 :=
 Option.bind (Hd a0) λ y1 =>
 if decide (y1 < (0 : Int)) then
   Option.bind (I3 a0) λ y2 =>
   some y2
 else
   some a0
def Rl (v7 : Int) (v8 : Int) : Option ((Int × Int) ⊕ Int) :=
 if !decide (v8 = (0 : Int)) then
   need (v8 ≠ 0) <|
   some (.inl (v8, Int.tmod v7 v8))
 else
   some (.inr v7)
def L0 (v1 : Int) (v2 : List Int) (v3 : Bool) (v4 : Int) (v5 : List Int) (v6 : Bool) : Option ((Int × (List Int) × Bool × Int × (List Int) × Bool) ⊕ ((Int × (List Int) × Bool) ⊕ A6)) :=
 Option.bind (Lk (⟨v1, v2, v3⟩ : A6) (⟨v4, v5, v6⟩ : A6)) λ y4 =>
 some (.inl (v4, v5, v6, y4.2.v, y4.2.m, y4.2.neg))
def Rw (v1 : Int) (v2 : List Int) (v3 : Bool) (v4 : Int) (v5 : List Int) (v6 : Bool) : Option ((Int × (List Int) × Bool × Int × (List Int) × Bool) ⊕ ((Int × (List Int) × Bool) ⊕ A6)) :=
 Option.bind (Hd (⟨v4, v5, v6⟩ : A6)) λ y3 =>
 if !decide (y3 = (0 : Int)) then
   if List.isEmpty v2 then
     if List.isEmpty v5 then
       Option.bind (Br (λ v : (Int × Int) => Rl v.1 v.2) (v1, v4)) λ r1 =>
         some (.inr (.inr (⟨r1, [], false⟩ : A6)))
     else
       L0 v1 v2 v3 v4 v5 v6
   else
     L0 v1 v2 v3 v4 v5 v6
 else
   some (.inr (.inl (v1, v2, v3)))
def Te (a0 : A6) (a1 : A6) : Option A6 :=
 Option.bind (Nc a0) λ y1 =>
 Option.bind (Nc a1) λ y2 =>
 Option.bind (Br (λ v : (Int × (List Int) × Bool × Int × (List Int) × Bool) => Rw v.1 v.2.1 v.2.2.1 v.2.2.2.1 v.2.2.2.2.1 v.2.2.2.2.2) (y1.v, y1.m, y1.neg, y2.v, y2.m, y2.neg)) λ r =>
 match r with
 | .inl r2 =>
   some (⟨r2.1, r2.2.1, r2.2.2⟩ : A6)
 | .inr r3 =>
   some r3
def J6 (v7 : Int) (v8 : List Int) (v9 : Bool) (v10 : Int) (v11 : List Int) (v12 : Bool) : Option Aj :=
 some (⟨(⟨v7, v8, v9⟩ : A6), (⟨v10, v11, v12⟩ : A6)⟩ : Aj)
def Ke (v1 : Int) (v2 : List Int) (v3 : Bool) (v4 : Int) (v5 : List Int) (v6 : Bool) (y4 : A6) : Option Aj :=
 Option.bind (Lk (⟨v1, v2, v3⟩ : A6) y4) λ y5 =>
 Option.bind (Lk (⟨v4, v5, v6⟩ : A6) y4) λ y6 =>
 J6 y5.1.v y5.1.m y5.1.neg y6.1.v y6.1.m y6.1.neg
def J0 (v1 : Int) (v2 : List Int) (v3 : Bool) (v4 : Int) (v5 : List Int) (v6 : Bool) : Option Aj :=
 Option.bind (Te (⟨v1, v2, v3⟩ : A6) (⟨v4, v5, v6⟩ : A6)) λ y4 =>
 if !List.isEmpty y4.m then
   Ke v1 v2 v3 v4 v5 v6 y4
 else
   if !decide (y4.v = (1 : Int)) then
     Ke v1 v2 v3 v4 v5 v6 y4
   else
     J6 v1 v2 v3 v4 v5 v6
def Jn (a0 : A6) (a1 : A6) : Option Aj :=
 Option.bind (Hd a1) λ y1 =>
 if decide (y1 < (0 : Int)) then
   Option.bind (I3 a0) λ y2 =>
   Option.bind (I3 a1) λ y3 =>
   J0 y2.v y2.m y2.neg y3.v y3.m y3.neg
 else
   J0 a0.v a0.m a0.neg a1.v a1.m a1.neg
def Ka (a0 : Int) (a1 : Int) : Option (Int × Int) :=
 need ((0 : Int) <= (32 : Int)) <|
 need ((0 : Int) <= (32 : Int)) <|
 need ((0 : Int) <= (32 : Int)) <|
 need ((0 : Int) <= (32 : Int)) <|
 need ((0 : Int) <= (32 : Int)) <|
 some (IntKind.wrap .u64 ((IntKind.wrap .u64 ((IntKind.wrap .u64 ((Int.fdiv a0 (2 ^ (min (32 : Int).toNat (IntKind.bits .u64)))) * (Int.fdiv a1 (2 ^ (min (32 : Int).toNat (IntKind.bits .u64)))))) + (Int.fdiv (IntKind.wrap .u64 ((IntKind.wrap .u64 ((Int.fdiv a0 (2 ^ (min (32 : Int).toNat (IntKind.bits .u64)))) * (IntKind.wrap .u64 ((((BitVec.ofInt (IntKind.bits .u64) a1 &&& BitVec.ofInt (IntKind.bits .u64) (4294967295 : Int)).toNat : Nat) : Int))))) + (Int.fdiv (IntKind.wrap .u64 ((IntKind.wrap .u64 ((((BitVec.ofInt (IntKind.bits .u64) a0 &&& BitVec.ofInt (IntKind.bits .u64) (4294967295 : Int)).toNat : Nat) : Int))) * (IntKind.wrap .u64 ((((BitVec.ofInt (IntKind.bits .u64) a1 &&& BitVec.ofInt (IntKind.bits .u64) (4294967295 : Int)).toNat : Nat) : Int))))) (2 ^ (min (32 : Int).toNat (IntKind.bits .u64)))))) (2 ^ (min (32 : Int).toNat (IntKind.bits .u64)))))) + (Int.fdiv (IntKind.wrap .u64 ((IntKind.wrap .u64 ((((BitVec.ofInt (IntKind.bits .u64) (IntKind.wrap .u64 ((IntKind.wrap .u64 ((Int.fdiv a0 (2 ^ (min (32 : Int).toNat (IntKind.bits .u64)))) * (IntKind.wrap .u64 ((((BitVec.ofInt (IntKind.bits .u64) a1 &&& BitVec.ofInt (IntKind.bits .u64) (4294967295 : Int)).toNat : Nat) : Int))))) + (Int.fdiv (IntKind.wrap .u64 ((IntKind.wrap .u64 ((((BitVec.ofInt (IntKind.bits .u64) a0 &&& BitVec.ofInt (IntKind.bits .u64) (4294967295 : Int)).toNat : Nat) : Int))) * (IntKind.wrap .u64 ((((BitVec.ofInt (IntKind.bits .u64) a1 &&& BitVec.ofInt (IntKind.bits .u64) (4294967295 : Int)).toNat : Nat) : Int))))) (2 ^ (min (32 : Int).toNat (IntKind.bits .u64)))))) &&& BitVec.ofInt (IntKind.bits .u64) (4294967295 : Int)).toNat : Nat) : Int))) + (IntKind.wrap .u64 ((IntKind.wrap .u64 ((((BitVec.ofInt (IntKind.bits .u64) a0 &&& BitVec.ofInt (IntKind.bits .u64) (4294967295 : Int)).toNat : Nat) : Int))) * (Int.fdiv a1 (2 ^ (min (32 : Int).toNat (IntKind.bits .u64)))))))) (2 ^ (min (32 : Int).toNat (IntKind.bits .u64))))), IntKind.wrap .u64 (a0 * a1))
def L4 (v3 : Int) (y2 : ((List Int) × Bool)) (y3 : ((List Int) × Bool)) (v5 : Int) (v6 : Int) (v7 : List Int) : Option ((Int × Int × (List Int)) ⊕ (Int × (List Int))) :=
 if decide (v6 < ((y3.1.length : Nat) : Int)) then
   need (Ae (IntKind.wrap .i64 (v3 + v6)) v7.length) <|
   need (Ae v3 y2.1.length) <|
   need (Ae v6 y3.1.length) <|
   need (Ae (IntKind.wrap .i64 (v3 + v6)) v7.length) <|
   need ((0 : Int) <= (32 : Int)) <|
   some (.inl (Int.fdiv (IntKind.wrap .u64 ((IntKind.wrap .u64 ((IntKind.wrap .u64 (List.getD v7 (IntKind.wrap .i64 (v3 + v6)).toNat (0 : Int))) + (IntKind.wrap .u64 ((IntKind.wrap .u64 (List.getD y2.1 v3.toNat (0 : Int))) * (IntKind.wrap .u64 (List.getD y3.1 v6.toNat (0 : Int))))))) + v5)) (2 ^ (min (32 : Int).toNat (IntKind.bits .u64))), IntKind.wrap .i64 (v6 + (1 : Int)), List.set v7 (IntKind.wrap .i64 (v3 + v6)).toNat (IntKind.wrap .u32 (IntKind.wrap .u64 ((IntKind.wrap .u64 ((IntKind.wrap .u64 (List.getD v7 (IntKind.wrap .i64 (v3 + v6)).toNat (0 : Int))) + (IntKind.wrap .u64 ((IntKind.wrap .u64 (List.getD y2.1 v3.toNat (0 : Int))) * (IntKind.wrap .u64 (List.getD y3.1 v6.toNat (0 : Int))))))) + v5)))))
 else
   some (.inr (v5, v7))
def Mk (y2 : ((List Int) × Bool)) (y3 : ((List Int) × Bool)) (v3 : Int) (v4 : List Int) : Option ((Int × (List Int)) ⊕ (List Int)) :=
 if decide (v3 < ((y2.1.length : Nat) : Int)) then
   Option.bind (Br (λ v : (Int × Int × (List Int)) => L4 v3 y2 y3 v.1 v.2.1 v.2.2) ((0 : Int), (0 : Int), v4)) λ r1 =>
     need (Ae (IntKind.wrap .i64 (v3 + ((y3.1.length : Nat) : Int))) r1.2.length) <|
     some (.inl (IntKind.wrap .i64 (v3 + (1 : Int)), List.set r1.2 (IntKind.wrap .i64 (v3 + ((y3.1.length : Nat) : Int))).toNat (IntKind.wrap .u32 r1.1)))
 else
   some (.inr v4)
def H0 (a0 : A6) (a1 : A6) : Option A6 :=
 Option.bind (Ez a0) λ y2 =>
 Option.bind (Ez a1) λ y3 =>
 need (0 <= (IntKind.wrap .i64 (((y2.1.length : Nat) : Int) + ((y3.1.length : Nat) : Int)))) <|
 need ((IntKind.wrap .i64 (((y2.1.length : Nat) : Int) + ((y3.1.length : Nat) : Int))) <= (IntKind.wrap .i64 (((y2.1.length : Nat) : Int) + ((y3.1.length : Nat) : Int)))) <|
 need ((IntKind.wrap .i64 (((y2.1.length : Nat) : Int) + ((y3.1.length : Nat) : Int))) * ((4 : Nat) : Int) <= ((As : Nat) : Int)) <|
 Option.bind (Br (λ v : (Int × (List Int)) => Mk y2 y3 v.1 v.2) ((0 : Int), List.replicate (IntKind.wrap .i64 (((y2.1.length : Nat) : Int) + ((y3.1.length : Nat) : Int))).toNat (0 : Int))) λ r2 =>
   Option.bind (Hk r2 (!(y2.2 == y3.2))) λ y4 =>
   some y4
def Jz (a0 : A6) (a1 : A6) (v1 : Int) (v2 : Int) : Option A6 :=
 Option.bind (Ka v1 v2) λ y1 =>
 if decide (y1.1 = (0 : Int)) then
   if decide (y1.2 < (9223372036854775808 : Int)) then
     if !((decide (a0.v < (0 : Int))) == (decide (a1.v < (0 : Int)))) then
       some (⟨IntKind.wrap .i64 (0 - (IntKind.wrap .i64 y1.2)), [], false⟩ : A6)
     else
       some (⟨IntKind.wrap .i64 y1.2, [], false⟩ : A6)
   else
     H0 a0 a1
 else
   H0 a0 a1
def Ms (a0 : A6) (a1 : A6) (v1 : Int) : Option A6 :=
 if decide (a1.v < (0 : Int)) then
   Jz a0 a1 v1 (IntKind.wrap .u64 (0 - (IntKind.wrap .u64 a1.v)))
 else
   Jz a0 a1 v1 (IntKind.wrap .u64 a1.v)
def Fs (a0 : A6) (a1 : A6) : Option A6 :=
 if List.isEmpty a0.m then
   if List.isEmpty a1.m then
     if decide (a0.v < (0 : Int)) then
       Ms a0 a1 (IntKind.wrap .u64 (0 - (IntKind.wrap .u64 a0.v)))
     else
       Ms a0 a1 (IntKind.wrap .u64 a0.v)
   else
     H0 a0 a1
 else
   H0 a0 a1
def Kc (a0 : Aj) (a1 : Aj) : Option Aj :=
 Option.bind (Fs a0.N a1.D) λ y4 =>
 Option.bind (Fs a1.N a0.D) λ y5 =>
 Option.bind (Ld y4 y5) λ y6 =>
 Option.bind (Fs a0.D a1.D) λ y7 =>
 Option.bind (Jn y6 y7) λ y8 =>
 some y8
def Gx (a0 : Aj) (a1 : Aj) : Option Aj :=
 Option.bind (G0 a0) λ y1 =>
 if y1 then
   Option.bind (G0 a1) λ y2 =>
   if y2 then
     Option.bind (Ld a0.N a1.N) λ y3 =>
     some (⟨y3, a0.D⟩ : Aj)
   else
     Kc a0 a1
 else
   Kc a0 a1
def Lf (a0 : Aj) : Option Aj :=
 Option.bind (I3 a0.N) λ y1 =>
 some (⟨y1, a0.D⟩ : Aj)
def Hj (a0 : Aj) (a1 : Aj) : Option Aj :=
 Option.bind (Lf a1) λ y1 =>
 Option.bind (Gx a0 y1) λ y2 =>
 some y2
def Lg (a0 : Aj) (a1 : Aj) : Option Aj :=
 Option.bind (Fs a0.N a1.D) λ y1 =>
 Option.bind (Fs a0.D a1.N) λ y2 =>
 Option.bind (Jn y1 y2) λ y3 =>
 some y3
def Tw (a0 : A7) : Option Aj :=
 Option.bind (U7 a0.N) λ y1 =>
 Option.bind (U7 a0.D) λ y2 =>
 some (⟨y1, y2⟩ : Aj)
def Ha (a0 : Aq) : Option Aj :=
 Option.bind (Fm (1 : Int)) λ y1 =>
 Option.bind (Tw a0.R) λ y2 =>
 Option.bind (Lg y1 y2) λ y3 =>
 some y3
def R3 (a1 : Int) (v1 : Int) (v2 : Int) (v4 : Int) (v5 : Int) (v6 : (List (List Aj))) : Option ((Int × Int × (List (List Aj))) ⊕ (List (List Aj))) :=
 if decide (v5 < v4) then
   need (Ae v2 v6.length) <|
   Option.bind (Fm (0 : Int)) λ y1 =>
   need (Ae v5 (List.getD v6 v2.toNat []).length) <|
   some (.inl (v4, IntKind.wrap .i64 (v5 + (1 : Int)), List.set v6 v2.toNat (List.set (List.getD v6 v2.toNat []) v5.toNat y1)))
 else
   some (.inr v6)
def Uj (a1 : Int) (v1 : Int) (v2 : Int) (v3 : (List (List Aj))) : Option ((Int × Int × (List (List Aj))) ⊕ (List (List Aj))) :=
 if decide (v2 < v1) then
   need (0 <= a1) <|
   need (a1 <= a1) <|
   need (a1 * ((80 : Nat) : Int) <= ((As : Nat) : Int)) <|
   need (Ae v2 v3.length) <|
   need (Ae v2 (List.set v3 v2.toNat (List.replicate a1.toNat (⟨(⟨(0 : Int), [], false⟩ : A6), (⟨(0 : Int), [], false⟩ : A6)⟩ : Aj))).length) <|
   Option.bind (Br (λ v : (Int × Int × (List (List Aj))) => R3 a1 v1 v2 v.1 v.2.1 v.2.2) ((((List.getD (List.set v3 v2.toNat (List.replicate a1.toNat (⟨(⟨(0 : Int), [], false⟩ : A6), (⟨(0 : Int), [], false⟩ : A6)⟩ : Aj))) v2.toNat []).length : Nat) : Int), (0 : Int), List.set v3 v2.toNat (List.replicate a1.toNat (⟨(⟨(0 : Int), [], false⟩ : A6), (⟨(0 : Int), [], false⟩ : A6)⟩ : Aj)))) λ r1 =>
     some (.inl (v1, IntKind.wrap .i64 (v2 + (1 : Int)), r1))
 else
   some (.inr v3)
def Uw (a0 : Int) (a1 : Int) : Option QmM :=
 need (0 <= a0) <|
 need (a0 <= a0) <|
 need (a0 * ((24 : Nat) : Int) <= ((As : Nat) : Int)) <|
 Option.bind (Br (λ v : (Int × Int × (List (List Aj))) => Uj a1 v.1 v.2.1 v.2.2) ((((List.replicate a0.toNat ([] : List Aj)).length : Nat) : Int), (0 : Int), List.replicate a0.toNat ([] : List Aj))) λ r2 =>
   some (⟨a1, r2⟩ : QmM)
def Jp (a0 : Ah) (y1 : QmM) (v1 : Int) (v2 : (List (List Aj))) : Option ((Int × (List (List Aj))) ⊕ (List (List Aj))) :=
 if decide (v1 < ((a0.Arms.length : Nat) : Int)) then
   need (Ae v1 a0.Arms.length) <|
   if decide (((List.getD a0.Arms v1.toNat Aa).A) = ((List.getD a0.Arms v1.toNat Aa).B)) then
     some (.inl (IntKind.wrap .i64 (v1 + (1 : Int)), v2))
   else
     Option.bind (Ha (⟨(List.getD a0.Arms v1.toNat Aa).A, (List.getD a0.Arms v1.toNat Aa).B, ((List.getD a0.Arms v1.toNat Aa).R), ((List.getD a0.Arms v1.toNat Aa).E)⟩ : Aq)) λ y2 =>
     need (Ae ((List.getD a0.Arms v1.toNat Aa).A) v2.length) <|
     need (Ae ((List.getD a0.Arms v1.toNat Aa).A) v2.length) <|
     need (Ae ((List.getD a0.Arms v1.toNat Aa).A) (List.getD v2 ((List.getD a0.Arms v1.toNat Aa).A).toNat []).length) <|
     Option.bind (Gx (⟨((List.getD (List.getD v2 ((List.getD a0.Arms v1.toNat Aa).A).toNat []) ((List.getD a0.Arms v1.toNat Aa).A).toNat Ba).N), ((List.getD (List.getD v2 ((List.getD a0.Arms v1.toNat Aa).A).toNat []) ((List.getD a0.Arms v1.toNat Aa).A).toNat Ba).D)⟩ : Aj) y2) λ y3 =>
     need (Ae ((List.getD a0.Arms v1.toNat Aa).A) (List.getD v2 ((List.getD a0.Arms v1.toNat Aa).A).toNat []).length) <|
     need (Ae ((List.getD a0.Arms v1.toNat Aa).B) (List.set v2 ((List.getD a0.Arms v1.toNat Aa).A).toNat (List.set (List.getD v2 ((List.getD a0.Arms v1.toNat Aa).A).toNat []) ((List.getD a0.Arms v1.toNat Aa).A).toNat y3)).length) <|
     need (Ae ((List.getD a0.Arms v1.toNat Aa).B) (List.set v2 ((List.getD a0.Arms v1.toNat Aa).A).toNat (List.set (List.getD v2 ((List.getD a0.Arms v1.toNat Aa).A).toNat []) ((List.getD a0.Arms v1.toNat Aa).A).toNat y3)).length) <|
     need (Ae ((List.getD a0.Arms v1.toNat Aa).B) (List.getD (List.set v2 ((List.getD a0.Arms v1.toNat Aa).A).toNat (List.set (List.getD v2 ((List.getD a0.Arms v1.toNat Aa).A).toNat []) ((List.getD a0.Arms v1.toNat Aa).A).toNat y3)) ((List.getD a0.Arms v1.toNat Aa).B).toNat []).length) <|
     Option.bind (Gx (⟨((List.getD (List.getD (List.set v2 ((List.getD a0.Arms v1.toNat Aa).A).toNat (List.set (List.getD v2 ((List.getD a0.Arms v1.toNat Aa).A).toNat []) ((List.getD a0.Arms v1.toNat Aa).A).toNat y3)) ((List.getD a0.Arms v1.toNat Aa).B).toNat []) ((List.getD a0.Arms v1.toNat Aa).B).toNat Ba).N), ((List.getD (List.getD (List.set v2 ((List.getD a0.Arms v1.toNat Aa).A).toNat (List.set (List.getD v2 ((List.getD a0.Arms v1.toNat Aa).A).toNat []) ((List.getD a0.Arms v1.toNat Aa).A).toNat y3)) ((List.getD a0.Arms v1.toNat Aa).B).toNat []) ((List.getD a0.Arms v1.toNat Aa).B).toNat Ba).D)⟩ : Aj) y2) λ y4 =>
     need (Ae ((List.getD a0.Arms v1.toNat Aa).B) (List.getD (List.set v2 ((List.getD a0.Arms v1.toNat Aa).A).toNat (List.set (List.getD v2 ((List.getD a0.Arms v1.toNat Aa).A).toNat []) ((List.getD a0.Arms v1.toNat Aa).A).toNat y3)) ((List.getD a0.Arms v1.toNat Aa).B).toNat []).length) <|
     need (Ae ((List.getD a0.Arms v1.toNat Aa).A) (List.set (List.set v2 ((List.getD a0.Arms v1.toNat Aa).A).toNat (List.set (List.getD v2 ((List.getD a0.Arms v1.toNat Aa).A).toNat []) ((List.getD a0.Arms v1.toNat Aa).A).toNat y3)) ((List.getD a0.Arms v1.toNat Aa).B).toNat (List.set (List.getD (List.set v2 ((List.getD a0.Arms v1.toNat Aa).A).toNat (List.set (List.getD v2 ((List.getD a0.Arms v1.toNat Aa).A).toNat []) ((List.getD a0.Arms v1.toNat Aa).A).toNat y3)) ((List.getD a0.Arms v1.toNat Aa).B).toNat []) ((List.getD a0.Arms v1.toNat Aa).B).toNat y4)).length) <|
     need (Ae ((List.getD a0.Arms v1.toNat Aa).A) (List.set (List.set v2 ((List.getD a0.Arms v1.toNat Aa).A).toNat (List.set (List.getD v2 ((List.getD a0.Arms v1.toNat Aa).A).toNat []) ((List.getD a0.Arms v1.toNat Aa).A).toNat y3)) ((List.getD a0.Arms v1.toNat Aa).B).toNat (List.set (List.getD (List.set v2 ((List.getD a0.Arms v1.toNat Aa).A).toNat (List.set (List.getD v2 ((List.getD a0.Arms v1.toNat Aa).A).toNat []) ((List.getD a0.Arms v1.toNat Aa).A).toNat y3)) ((List.getD a0.Arms v1.toNat Aa).B).toNat []) ((List.getD a0.Arms v1.toNat Aa).B).toNat y4)).length) <|
     need (Ae ((List.getD a0.Arms v1.toNat Aa).B) (List.getD (List.set (List.set v2 ((List.getD a0.Arms v1.toNat Aa).A).toNat (List.set (List.getD v2 ((List.getD a0.Arms v1.toNat Aa).A).toNat []) ((List.getD a0.Arms v1.toNat Aa).A).toNat y3)) ((List.getD a0.Arms v1.toNat Aa).B).toNat (List.set (List.getD (List.set v2 ((List.getD a0.Arms v1.toNat Aa).A).toNat (List.set (List.getD v2 ((List.getD a0.Arms v1.toNat Aa).A).toNat []) ((List.getD a0.Arms v1.toNat Aa).A).toNat y3)) ((List.getD a0.Arms v1.toNat Aa).B).toNat []) ((List.getD a0.Arms v1.toNat Aa).B).toNat y4)) ((List.getD a0.Arms v1.toNat Aa).A).toNat []).length) <|
     Option.bind (Hj (⟨((List.getD (List.getD (List.set (List.set v2 ((List.getD a0.Arms v1.toNat Aa).A).toNat (List.set (List.getD v2 ((List.getD a0.Arms v1.toNat Aa).A).toNat []) ((List.getD a0.Arms v1.toNat Aa).A).toNat y3)) ((List.getD a0.Arms v1.toNat Aa).B).toNat (List.set (List.getD (List.set v2 ((List.getD a0.Arms v1.toNat Aa).A).toNat (List.set (List.getD v2 ((List.getD a0.Arms v1.toNat Aa).A).toNat []) ((List.getD a0.Arms v1.toNat Aa).A).toNat y3)) ((List.getD a0.Arms v1.toNat Aa).B).toNat []) ((List.getD a0.Arms v1.toNat Aa).B).toNat y4)) ((List.getD a0.Arms v1.toNat Aa).A).toNat []) ((List.getD a0.Arms v1.toNat Aa).B).toNat Ba).N), ((List.getD (List.getD (List.set (List.set v2 ((List.getD a0.Arms v1.toNat Aa).A).toNat (List.set (List.getD v2 ((List.getD a0.Arms v1.toNat Aa).A).toNat []) ((List.getD a0.Arms v1.toNat Aa).A).toNat y3)) ((List.getD a0.Arms v1.toNat Aa).B).toNat (List.set (List.getD (List.set v2 ((List.getD a0.Arms v1.toNat Aa).A).toNat (List.set (List.getD v2 ((List.getD a0.Arms v1.toNat Aa).A).toNat []) ((List.getD a0.Arms v1.toNat Aa).A).toNat y3)) ((List.getD a0.Arms v1.toNat Aa).B).toNat []) ((List.getD a0.Arms v1.toNat Aa).B).toNat y4)) ((List.getD a0.Arms v1.toNat Aa).A).toNat []) ((List.getD a0.Arms v1.toNat Aa).B).toNat Ba).D)⟩ : Aj) y2) λ y5 =>
     need (Ae ((List.getD a0.Arms v1.toNat Aa).B) (List.getD (List.set (List.set v2 ((List.getD a0.Arms v1.toNat Aa).A).toNat (List.set (List.getD v2 ((List.getD a0.Arms v1.toNat Aa).A).toNat []) ((List.getD a0.Arms v1.toNat Aa).A).toNat y3)) ((List.getD a0.Arms v1.toNat Aa).B).toNat (List.set (List.getD (List.set v2 ((List.getD a0.Arms v1.toNat Aa).A).toNat (List.set (List.getD v2 ((List.getD a0.Arms v1.toNat Aa).A).toNat []) ((List.getD a0.Arms v1.toNat Aa).A).toNat y3)) ((List.getD a0.Arms v1.toNat Aa).B).toNat []) ((List.getD a0.Arms v1.toNat Aa).B).toNat y4)) ((List.getD a0.Arms v1.toNat Aa).A).toNat []).length) <|
     need (Ae ((List.getD a0.Arms v1.toNat Aa).B) (List.set (List.set (List.set v2 ((List.getD a0.Arms v1.toNat Aa).A).toNat (List.set (List.getD v2 ((List.getD a0.Arms v1.toNat Aa).A).toNat []) ((List.getD a0.Arms v1.toNat Aa).A).toNat y3)) ((List.getD a0.Arms v1.toNat Aa).B).toNat (List.set (List.getD (List.set v2 ((List.getD a0.Arms v1.toNat Aa).A).toNat (List.set (List.getD v2 ((List.getD a0.Arms v1.toNat Aa).A).toNat []) ((List.getD a0.Arms v1.toNat Aa).A).toNat y3)) ((List.getD a0.Arms v1.toNat Aa).B).toNat []) ((List.getD a0.Arms v1.toNat Aa).B).toNat y4)) ((List.getD a0.Arms v1.toNat Aa).A).toNat (List.set (List.getD (List.set (List.set v2 ((List.getD a0.Arms v1.toNat Aa).A).toNat (List.set (List.getD v2 ((List.getD a0.Arms v1.toNat Aa).A).toNat []) ((List.getD a0.Arms v1.toNat Aa).A).toNat y3)) ((List.getD a0.Arms v1.toNat Aa).B).toNat (List.set (List.getD (List.set v2 ((List.getD a0.Arms v1.toNat Aa).A).toNat (List.set (List.getD v2 ((List.getD a0.Arms v1.toNat Aa).A).toNat []) ((List.getD a0.Arms v1.toNat Aa).A).toNat y3)) ((List.getD a0.Arms v1.toNat Aa).B).toNat []) ((List.getD a0.Arms v1.toNat Aa).B).toNat y4)) ((List.getD a0.Arms v1.toNat Aa).A).toNat []) ((List.getD a0.Arms v1.toNat Aa).B).toNat y5)).length) <|
     need (Ae ((List.getD a0.Arms v1.toNat Aa).B) (List.set (List.set (List.set v2 ((List.getD a0.Arms v1.toNat Aa).A).toNat (List.set (List.getD v2 ((List.getD a0.Arms v1.toNat Aa).A).toNat []) ((List.getD a0.Arms v1.toNat Aa).A).toNat y3)) ((List.getD a0.Arms v1.toNat Aa).B).toNat (List.set (List.getD (List.set v2 ((List.getD a0.Arms v1.toNat Aa).A).toNat (List.set (List.getD v2 ((List.getD a0.Arms v1.toNat Aa).A).toNat []) ((List.getD a0.Arms v1.toNat Aa).A).toNat y3)) ((List.getD a0.Arms v1.toNat Aa).B).toNat []) ((List.getD a0.Arms v1.toNat Aa).B).toNat y4)) ((List.getD a0.Arms v1.toNat Aa).A).toNat (List.set (List.getD (List.set (List.set v2 ((List.getD a0.Arms v1.toNat Aa).A).toNat (List.set (List.getD v2 ((List.getD a0.Arms v1.toNat Aa).A).toNat []) ((List.getD a0.Arms v1.toNat Aa).A).toNat y3)) ((List.getD a0.Arms v1.toNat Aa).B).toNat (List.set (List.getD (List.set v2 ((List.getD a0.Arms v1.toNat Aa).A).toNat (List.set (List.getD v2 ((List.getD a0.Arms v1.toNat Aa).A).toNat []) ((List.getD a0.Arms v1.toNat Aa).A).toNat y3)) ((List.getD a0.Arms v1.toNat Aa).B).toNat []) ((List.getD a0.Arms v1.toNat Aa).B).toNat y4)) ((List.getD a0.Arms v1.toNat Aa).A).toNat []) ((List.getD a0.Arms v1.toNat Aa).B).toNat y5)).length) <|
     need (Ae ((List.getD a0.Arms v1.toNat Aa).A) (List.getD (List.set (List.set (List.set v2 ((List.getD a0.Arms v1.toNat Aa).A).toNat (List.set (List.getD v2 ((List.getD a0.Arms v1.toNat Aa).A).toNat []) ((List.getD a0.Arms v1.toNat Aa).A).toNat y3)) ((List.getD a0.Arms v1.toNat Aa).B).toNat (List.set (List.getD (List.set v2 ((List.getD a0.Arms v1.toNat Aa).A).toNat (List.set (List.getD v2 ((List.getD a0.Arms v1.toNat Aa).A).toNat []) ((List.getD a0.Arms v1.toNat Aa).A).toNat y3)) ((List.getD a0.Arms v1.toNat Aa).B).toNat []) ((List.getD a0.Arms v1.toNat Aa).B).toNat y4)) ((List.getD a0.Arms v1.toNat Aa).A).toNat (List.set (List.getD (List.set (List.set v2 ((List.getD a0.Arms v1.toNat Aa).A).toNat (List.set (List.getD v2 ((List.getD a0.Arms v1.toNat Aa).A).toNat []) ((List.getD a0.Arms v1.toNat Aa).A).toNat y3)) ((List.getD a0.Arms v1.toNat Aa).B).toNat (List.set (List.getD (List.set v2 ((List.getD a0.Arms v1.toNat Aa).A).toNat (List.set (List.getD v2 ((List.getD a0.Arms v1.toNat Aa).A).toNat []) ((List.getD a0.Arms v1.toNat Aa).A).toNat y3)) ((List.getD a0.Arms v1.toNat Aa).B).toNat []) ((List.getD a0.Arms v1.toNat Aa).B).toNat y4)) ((List.getD a0.Arms v1.toNat Aa).A).toNat []) ((List.getD a0.Arms v1.toNat Aa).B).toNat y5)) ((List.getD a0.Arms v1.toNat Aa).B).toNat []).length) <|
     Option.bind (Hj (⟨((List.getD (List.getD (List.set (List.set (List.set v2 ((List.getD a0.Arms v1.toNat Aa).A).toNat (List.set (List.getD v2 ((List.getD a0.Arms v1.toNat Aa).A).toNat []) ((List.getD a0.Arms v1.toNat Aa).A).toNat y3)) ((List.getD a0.Arms v1.toNat Aa).B).toNat (List.set (List.getD (List.set v2 ((List.getD a0.Arms v1.toNat Aa).A).toNat (List.set (List.getD v2 ((List.getD a0.Arms v1.toNat Aa).A).toNat []) ((List.getD a0.Arms v1.toNat Aa).A).toNat y3)) ((List.getD a0.Arms v1.toNat Aa).B).toNat []) ((List.getD a0.Arms v1.toNat Aa).B).toNat y4)) ((List.getD a0.Arms v1.toNat Aa).A).toNat (List.set (List.getD (List.set (List.set v2 ((List.getD a0.Arms v1.toNat Aa).A).toNat (List.set (List.getD v2 ((List.getD a0.Arms v1.toNat Aa).A).toNat []) ((List.getD a0.Arms v1.toNat Aa).A).toNat y3)) ((List.getD a0.Arms v1.toNat Aa).B).toNat (List.set (List.getD (List.set v2 ((List.getD a0.Arms v1.toNat Aa).A).toNat (List.set (List.getD v2 ((List.getD a0.Arms v1.toNat Aa).A).toNat []) ((List.getD a0.Arms v1.toNat Aa).A).toNat y3)) ((List.getD a0.Arms v1.toNat Aa).B).toNat []) ((List.getD a0.Arms v1.toNat Aa).B).toNat y4)) ((List.getD a0.Arms v1.toNat Aa).A).toNat []) ((List.getD a0.Arms v1.toNat Aa).B).toNat y5)) ((List.getD a0.Arms v1.toNat Aa).B).toNat []) ((List.getD a0.Arms v1.toNat Aa).A).toNat Ba).N), ((List.getD (List.getD (List.set (List.set (List.set v2 ((List.getD a0.Arms v1.toNat Aa).A).toNat (List.set (List.getD v2 ((List.getD a0.Arms v1.toNat Aa).A).toNat []) ((List.getD a0.Arms v1.toNat Aa).A).toNat y3)) ((List.getD a0.Arms v1.toNat Aa).B).toNat (List.set (List.getD (List.set v2 ((List.getD a0.Arms v1.toNat Aa).A).toNat (List.set (List.getD v2 ((List.getD a0.Arms v1.toNat Aa).A).toNat []) ((List.getD a0.Arms v1.toNat Aa).A).toNat y3)) ((List.getD a0.Arms v1.toNat Aa).B).toNat []) ((List.getD a0.Arms v1.toNat Aa).B).toNat y4)) ((List.getD a0.Arms v1.toNat Aa).A).toNat (List.set (List.getD (List.set (List.set v2 ((List.getD a0.Arms v1.toNat Aa).A).toNat (List.set (List.getD v2 ((List.getD a0.Arms v1.toNat Aa).A).toNat []) ((List.getD a0.Arms v1.toNat Aa).A).toNat y3)) ((List.getD a0.Arms v1.toNat Aa).B).toNat (List.set (List.getD (List.set v2 ((List.getD a0.Arms v1.toNat Aa).A).toNat (List.set (List.getD v2 ((List.getD a0.Arms v1.toNat Aa).A).toNat []) ((List.getD a0.Arms v1.toNat Aa).A).toNat y3)) ((List.getD a0.Arms v1.toNat Aa).B).toNat []) ((List.getD a0.Arms v1.toNat Aa).B).toNat y4)) ((List.getD a0.Arms v1.toNat Aa).A).toNat []) ((List.getD a0.Arms v1.toNat Aa).B).toNat y5)) ((List.getD a0.Arms v1.toNat Aa).B).toNat []) ((List.getD a0.Arms v1.toNat Aa).A).toNat Ba).D)⟩ : Aj) y2) λ y6 =>
     need (Ae ((List.getD a0.Arms v1.toNat Aa).A) (List.getD (List.set (List.set (List.set v2 ((List.getD a0.Arms v1.toNat Aa).A).toNat (List.set (List.getD v2 ((List.getD a0.Arms v1.toNat Aa).A).toNat []) ((List.getD a0.Arms v1.toNat Aa).A).toNat y3)) ((List.getD a0.Arms v1.toNat Aa).B).toNat (List.set (List.getD (List.set v2 ((List.getD a0.Arms v1.toNat Aa).A).toNat (List.set (List.getD v2 ((List.getD a0.Arms v1.toNat Aa).A).toNat []) ((List.getD a0.Arms v1.toNat Aa).A).toNat y3)) ((List.getD a0.Arms v1.toNat Aa).B).toNat []) ((List.getD a0.Arms v1.toNat Aa).B).toNat y4)) ((List.getD a0.Arms v1.toNat Aa).A).toNat (List.set (List.getD (List.set (List.set v2 ((List.getD a0.Arms v1.toNat Aa).A).toNat (List.set (List.getD v2 ((List.getD a0.Arms v1.toNat Aa).A).toNat []) ((List.getD a0.Arms v1.toNat Aa).A).toNat y3)) ((List.getD a0.Arms v1.toNat Aa).B).toNat (List.set (List.getD (List.set v2 ((List.getD a0.Arms v1.toNat Aa).A).toNat (List.set (List.getD v2 ((List.getD a0.Arms v1.toNat Aa).A).toNat []) ((List.getD a0.Arms v1.toNat Aa).A).toNat y3)) ((List.getD a0.Arms v1.toNat Aa).B).toNat []) ((List.getD a0.Arms v1.toNat Aa).B).toNat y4)) ((List.getD a0.Arms v1.toNat Aa).A).toNat []) ((List.getD a0.Arms v1.toNat Aa).B).toNat y5)) ((List.getD a0.Arms v1.toNat Aa).B).toNat []).length) <|
     some (.inl (IntKind.wrap .i64 (v1 + (1 : Int)), List.set (List.set (List.set (List.set v2 ((List.getD a0.Arms v1.toNat Aa).A).toNat (List.set (List.getD v2 ((List.getD a0.Arms v1.toNat Aa).A).toNat []) ((List.getD a0.Arms v1.toNat Aa).A).toNat y3)) ((List.getD a0.Arms v1.toNat Aa).B).toNat (List.set (List.getD (List.set v2 ((List.getD a0.Arms v1.toNat Aa).A).toNat (List.set (List.getD v2 ((List.getD a0.Arms v1.toNat Aa).A).toNat []) ((List.getD a0.Arms v1.toNat Aa).A).toNat y3)) ((List.getD a0.Arms v1.toNat Aa).B).toNat []) ((List.getD a0.Arms v1.toNat Aa).B).toNat y4)) ((List.getD a0.Arms v1.toNat Aa).A).toNat (List.set (List.getD (List.set (List.set v2 ((List.getD a0.Arms v1.toNat Aa).A).toNat (List.set (List.getD v2 ((List.getD a0.Arms v1.toNat Aa).A).toNat []) ((List.getD a0.Arms v1.toNat Aa).A).toNat y3)) ((List.getD a0.Arms v1.toNat Aa).B).toNat (List.set (List.getD (List.set v2 ((List.getD a0.Arms v1.toNat Aa).A).toNat (List.set (List.getD v2 ((List.getD a0.Arms v1.toNat Aa).A).toNat []) ((List.getD a0.Arms v1.toNat Aa).A).toNat y3)) ((List.getD a0.Arms v1.toNat Aa).B).toNat []) ((List.getD a0.Arms v1.toNat Aa).B).toNat y4)) ((List.getD a0.Arms v1.toNat Aa).A).toNat []) ((List.getD a0.Arms v1.toNat Aa).B).toNat y5)) ((List.getD a0.Arms v1.toNat Aa).B).toNat (List.set (List.getD (List.set (List.set (List.set v2 ((List.getD a0.Arms v1.toNat Aa).A).toNat (List.set (List.getD v2 ((List.getD a0.Arms v1.toNat Aa).A).toNat []) ((List.getD a0.Arms v1.toNat Aa).A).toNat y3)) ((List.getD a0.Arms v1.toNat Aa).B).toNat (List.set (List.getD (List.set v2 ((List.getD a0.Arms v1.toNat Aa).A).toNat (List.set (List.getD v2 ((List.getD a0.Arms v1.toNat Aa).A).toNat []) ((List.getD a0.Arms v1.toNat Aa).A).toNat y3)) ((List.getD a0.Arms v1.toNat Aa).B).toNat []) ((List.getD a0.Arms v1.toNat Aa).B).toNat y4)) ((List.getD a0.Arms v1.toNat Aa).A).toNat (List.set (List.getD (List.set (List.set v2 ((List.getD a0.Arms v1.toNat Aa).A).toNat (List.set (List.getD v2 ((List.getD a0.Arms v1.toNat Aa).A).toNat []) ((List.getD a0.Arms v1.toNat Aa).A).toNat y3)) ((List.getD a0.Arms v1.toNat Aa).B).toNat (List.set (List.getD (List.set v2 ((List.getD a0.Arms v1.toNat Aa).A).toNat (List.set (List.getD v2 ((List.getD a0.Arms v1.toNat Aa).A).toNat []) ((List.getD a0.Arms v1.toNat Aa).A).toNat y3)) ((List.getD a0.Arms v1.toNat Aa).B).toNat []) ((List.getD a0.Arms v1.toNat Aa).B).toNat y4)) ((List.getD a0.Arms v1.toNat Aa).A).toNat []) ((List.getD a0.Arms v1.toNat Aa).B).toNat y5)) ((List.getD a0.Arms v1.toNat Aa).B).toNat []) ((List.getD a0.Arms v1.toNat Aa).A).toNat y6)))
 else
   some (.inr v2)
def Ho (a0 : Ah) : Option QmM :=
 Option.bind (Uw a0.Nodes a0.Nodes) λ y1 =>
 Option.bind (Br (λ v : (Int × (List (List Aj))) => Jp a0 y1 v.1 v.2) ((0 : Int), y1.V)) λ r1 =>
   some (⟨y1.C, r1⟩ : QmM)
def E1 (a0 : Aj) : Option Bool :=
 Option.bind (Hd a0.N) λ y1 =>
 some (decide (y1 = (0 : Int)))
def Pr (a0 : Aj) (a1 : Aj) : Option Aj :=
 Option.bind (Fs a0.N a1.N) λ y4 =>
 Option.bind (Fs a0.D a1.D) λ y5 =>
 Option.bind (Jn y4 y5) λ y6 =>
 some y6
def I4 (a0 : Aj) (a1 : Aj) : Option Aj :=
 Option.bind (G0 a0) λ y1 =>
 if y1 then
   Option.bind (G0 a1) λ y2 =>
   if y2 then
     Option.bind (Fs a0.N a1.N) λ y3 =>
     some (⟨y3, a0.D⟩ : Aj)
   else
     Pr a0 a1
 else
   Pr a0 a1
def Pq (a0 : QmM) (v1 : Int) (v2 : (List (List Aj))) : Option ((Int × (List (List Aj))) ⊕ (List (List Aj))) :=
 if decide (v1 < ((a0.V.length : Nat) : Int)) then
   need (Ae v1 a0.V.length) <|
   need ((List.getD a0.V v1.toNat ([] : List Aj)).length * 80 <= As) <|
   need ((v2.length + 1) * 24 <= As) <|
   some (.inl (IntKind.wrap .i64 (v1 + (1 : Int)), v2 ++ [List.getD a0.V v1.toNat ([] : List Aj)]))
 else
   some (.inr v2)
def O6 (a0 : QmM) : Option QmM :=
 Option.bind (Br (λ v : (Int × (List (List Aj))) => Pq a0 v.1 v.2) ((0 : Int), [])) λ r1 =>
   some (⟨a0.C, r1⟩ : QmM)
def Jk (a1 : Int) (v1 : Int) (v2 : Int) (v3 : List Int) (v4 : Bool) (v5 : Int) (v6 : List Int) (v7 : Bool) (v8 : List Int) (v9 : (List (List Aj))) (y1 : QmM) (v10 : Int) (v11 : Bool) : Option ((Int × Bool) ⊕ (Int × Bool)) :=
 if decide (v10 < ((v9.length : Nat) : Int)) then
   need (Ae v10 v9.length) <|
   need (Ae v1 (List.getD v9 v10.toNat []).length) <|
   Option.bind (E1 (⟨((List.getD (List.getD v9 v10.toNat []) v1.toNat Ba).N), ((List.getD (List.getD v9 v10.toNat []) v1.toNat Ba).D)⟩ : Aj)) λ y3 =>
   if y3 then
     some (.inl (IntKind.wrap .i64 (v10 + (1 : Int)), v11))
   else
     some (.inr (v10, v11))
 else
   some (.inr (v10, v11))
def Jl (a1 : Int) (v1 : Int) (v8 : List Int) (v9 : (List (List Aj))) (r1 : (Int × Bool)) (y1 : QmM) (y5 : Aj) (v21 : Int) (v22 : Int) (v23 : Int) (v24 : List Int) (v25 : Bool) (v26 : Int) (v27 : List Int) (v28 : Bool) (v29 : (List (List Aj))) : Option ((Int × Int × Int × (List Int) × Bool × Int × (List Int) × Bool × (List (List Aj))) ⊕ (List (List Aj))) :=
 if decide (v22 < v21) then
   need (Ae ((v8.length : Nat) : Int) v29.length) <|
   need (Ae ((v8.length : Nat) : Int) v29.length) <|
   need (Ae v22 (List.getD v29 ((v8.length : Nat) : Int).toNat []).length) <|
   Option.bind (Lg (⟨((List.getD (List.getD v29 ((v8.length : Nat) : Int).toNat []) v22.toNat Ba).N), ((List.getD (List.getD v29 ((v8.length : Nat) : Int).toNat []) v22.toNat Ba).D)⟩ : Aj) (⟨(⟨v23, v24, v25⟩ : A6), (⟨v26, v27, v28⟩ : A6)⟩ : Aj)) λ y6 =>
   need (Ae v22 (List.getD v29 ((v8.length : Nat) : Int).toNat []).length) <|
   some (.inl (v21, IntKind.wrap .i64 (v22 + (1 : Int)), v23, v24, v25, v26, v27, v28, List.set v29 ((v8.length : Nat) : Int).toNat (List.set (List.getD v29 ((v8.length : Nat) : Int).toNat []) v22.toNat y6)))
 else
   some (.inr v29)
def Jj (a1 : Int) (v1 : Int) (v8 : List Int) (v9 : (List (List Aj))) (v31 : Int) (v32 : (List (List Aj))) (r1 : (Int × Bool)) (r2 : (List (List Aj))) (y1 : QmM) (y5 : Aj) : Option ((Int × (List (List Aj))) ⊕ (List (List Aj))) :=
 some (.inl (IntKind.wrap .i64 (v31 + (1 : Int)), v32))
def H5 (a1 : Int) (v1 : Int) (v8 : List Int) (v9 : (List (List Aj))) (v31 : Int) (v32 : (List (List Aj))) (v33 : Aj) (v34 : Int) (v35 : Int) (v36 : List Int) (v37 : Bool) (v38 : Int) (v39 : List Int) (v40 : Bool) (v42 : (List (List Aj))) (r1 : (Int × Bool)) (r2 : (List (List Aj))) (y1 : QmM) (y5 : Aj) (y7 : Bool) : Option ((Aj × Int × Int × (List Int) × Bool × Int × (List Int) × Bool × (List (List Aj))) ⊕ (Aj × (List (List Aj)))) :=
 some (.inl (v33, IntKind.wrap .i64 (v34 + (1 : Int)), v35, v36, v37, v38, v39, v40, v42))
def Jh (a1 : Int) (v1 : Int) (v8 : List Int) (v9 : (List (List Aj))) (v31 : Int) (v32 : (List (List Aj))) (r1 : (Int × Bool)) (r2 : (List (List Aj))) (y1 : QmM) (y5 : Aj) (y7 : Bool) (v33 : Aj) (v34 : Int) (v35 : Int) (v36 : List Int) (v37 : Bool) (v38 : Int) (v39 : List Int) (v40 : Bool) (v41 : (List (List Aj))) : Option ((Aj × Int × Int × (List Int) × Bool × Int × (List Int) × Bool × (List (List Aj))) ⊕ (Aj × (List (List Aj)))) :=
 if decide (v34 < (((List.getD v32 v31.toNat []).length : Nat) : Int)) then
   need (Ae ((v8.length : Nat) : Int) v41.length) <|
   need (Ae v34 (List.getD v41 ((v8.length : Nat) : Int).toNat []).length) <|
   Option.bind (E1 (⟨((List.getD (List.getD v41 ((v8.length : Nat) : Int).toNat []) v34.toNat Ba).N), ((List.getD (List.getD v41 ((v8.length : Nat) : Int).toNat []) v34.toNat Ba).D)⟩ : Aj)) λ y8 =>
   if !y8 then
     need (Ae v31 v41.length) <|
     need (Ae v31 v41.length) <|
     need (Ae v34 (List.getD v41 v31.toNat []).length) <|
     need (Ae ((v8.length : Nat) : Int) v41.length) <|
     need (Ae v34 (List.getD v41 ((v8.length : Nat) : Int).toNat []).length) <|
     Option.bind (I4 (⟨(⟨v35, v36, v37⟩ : A6), (⟨v38, v39, v40⟩ : A6)⟩ : Aj) (⟨((List.getD (List.getD v41 ((v8.length : Nat) : Int).toNat []) v34.toNat Ba).N), ((List.getD (List.getD v41 ((v8.length : Nat) : Int).toNat []) v34.toNat Ba).D)⟩ : Aj)) λ y9 =>
     Option.bind (Hj (⟨((List.getD (List.getD v41 v31.toNat []) v34.toNat Ba).N), ((List.getD (List.getD v41 v31.toNat []) v34.toNat Ba).D)⟩ : Aj) y9) λ y10 =>
     need (Ae v34 (List.getD v41 v31.toNat []).length) <|
     H5 a1 v1 v8 v9 v31 v32 v33 v34 v35 v36 v37 v38 v39 v40 (List.set v41 v31.toNat (List.set (List.getD v41 v31.toNat []) v34.toNat y10)) r1 r2 y1 y5 y7
   else
     H5 a1 v1 v8 v9 v31 v32 v33 v34 v35 v36 v37 v38 v39 v40 v41 r1 r2 y1 y5 y7
 else
   some (.inr (v33, v41))
def Je (a1 : Int) (v1 : Int) (v8 : List Int) (v9 : (List (List Aj))) (r1 : (Int × Bool)) (r2 : (List (List Aj))) (y1 : QmM) (y5 : Aj) (v31 : Int) (v32 : (List (List Aj))) : Option ((Int × (List (List Aj))) ⊕ (List (List Aj))) :=
 if decide (v31 < ((r2.length : Nat) : Int)) then
   need (Ae v31 v32.length) <|
   need (Ae v1 (List.getD v32 v31.toNat []).length) <|
   if decide (v31 = ((v8.length : Nat) : Int)) then
     Jj a1 v1 v8 v9 v31 v32 r1 r2 y1 y5
   else
     Option.bind (E1 (⟨((List.getD (List.getD v32 v31.toNat []) v1.toNat Ba).N), ((List.getD (List.getD v32 v31.toNat []) v1.toNat Ba).D)⟩ : Aj)) λ y7 =>
     if y7 then
       Jj a1 v1 v8 v9 v31 v32 r1 r2 y1 y5
     else
       need (Ae v31 v32.length) <|
       Option.bind (Br (λ v : (Aj × Int × Int × (List Int) × Bool × Int × (List Int) × Bool × (List (List Aj))) => Jh a1 v1 v8 v9 v31 v32 r1 r2 y1 y5 y7 v.1 v.2.1 v.2.2.1 v.2.2.2.1 v.2.2.2.2.1 v.2.2.2.2.2.1 v.2.2.2.2.2.2.1 v.2.2.2.2.2.2.2.1 v.2.2.2.2.2.2.2.2) ((⟨((List.getD (List.getD v32 v31.toNat []) v1.toNat Ba).N), ((List.getD (List.getD v32 v31.toNat []) v1.toNat Ba).D)⟩ : Aj), (0 : Int), ((List.getD (List.getD v32 v31.toNat []) v1.toNat Ba).N).v, ((List.getD (List.getD v32 v31.toNat []) v1.toNat Ba).N).m, ((List.getD (List.getD v32 v31.toNat []) v1.toNat Ba).N).neg, ((List.getD (List.getD v32 v31.toNat []) v1.toNat Ba).D).v, ((List.getD (List.getD v32 v31.toNat []) v1.toNat Ba).D).m, ((List.getD (List.getD v32 v31.toNat []) v1.toNat Ba).D).neg, v32)) λ r3 =>
         some (.inl (IntKind.wrap .i64 (v31 + (1 : Int)), r3.2))
 else
   some (.inr v32)
def H4 (a1 : Int) (v1 : Int) (v8 : List Int) (v9 : (List (List Aj))) (v14 : Int) (v15 : List Int) (v16 : Bool) (v17 : Int) (v18 : List Int) (v19 : Bool) (v20 : (List (List Aj))) (r1 : (Int × Bool)) (y1 : QmM) : Option ((Int × Int × (List Int) × Bool × Int × (List Int) × Bool × (List Int) × (List (List Aj))) ⊕ (Int × (List Int) × Bool × Int × (List Int) × Bool × (List Int) × (List (List Aj)))) :=
 need (Ae ((v8.length : Nat) : Int) v20.length) <|
 need (Ae v1 (List.getD v20 ((v8.length : Nat) : Int).toNat []).length) <|
 Option.bind (I4 (⟨(⟨v14, v15, v16⟩ : A6), (⟨v17, v18, v19⟩ : A6)⟩ : Aj) (⟨((List.getD (List.getD v20 ((v8.length : Nat) : Int).toNat []) v1.toNat Ba).N), ((List.getD (List.getD v20 ((v8.length : Nat) : Int).toNat []) v1.toNat Ba).D)⟩ : Aj)) λ y5 =>
 need (Ae ((v8.length : Nat) : Int) v20.length) <|
 Option.bind (Br (λ v : (Int × Int × Int × (List Int) × Bool × Int × (List Int) × Bool × (List (List Aj))) => Jl a1 v1 v8 v9 r1 y1 y5 v.1 v.2.1 v.2.2.1 v.2.2.2.1 v.2.2.2.2.1 v.2.2.2.2.2.1 v.2.2.2.2.2.2.1 v.2.2.2.2.2.2.2.1 v.2.2.2.2.2.2.2.2) ((((List.getD v20 ((v8.length : Nat) : Int).toNat []).length : Nat) : Int), (0 : Int), ((List.getD (List.getD v20 ((v8.length : Nat) : Int).toNat []) v1.toNat Ba).N).v, ((List.getD (List.getD v20 ((v8.length : Nat) : Int).toNat []) v1.toNat Ba).N).m, ((List.getD (List.getD v20 ((v8.length : Nat) : Int).toNat []) v1.toNat Ba).N).neg, ((List.getD (List.getD v20 ((v8.length : Nat) : Int).toNat []) v1.toNat Ba).D).v, ((List.getD (List.getD v20 ((v8.length : Nat) : Int).toNat []) v1.toNat Ba).D).m, ((List.getD (List.getD v20 ((v8.length : Nat) : Int).toNat []) v1.toNat Ba).D).neg, v20)) λ r2 =>
   Option.bind (Br (λ v : (Int × (List (List Aj))) => Je a1 v1 v8 v9 r1 r2 y1 y5 v.1 v.2) ((0 : Int), r2)) λ r4 =>
     need ((v8.length + [v1].length) * 8 <= As) <|
     some (.inl (IntKind.wrap .i64 (v1 + (1 : Int)), y5.N.v, y5.N.m, y5.N.neg, y5.D.v, y5.D.m, y5.D.neg, v8 ++ [v1], r4))
def Lb (a1 : Int) (y1 : QmM) (v1 : Int) (v2 : Int) (v3 : List Int) (v4 : Bool) (v5 : Int) (v6 : List Int) (v7 : Bool) (v8 : List Int) (v9 : (List (List Aj))) : Option ((Int × Int × (List Int) × Bool × Int × (List Int) × Bool × (List Int) × (List (List Aj))) ⊕ (Int × (List Int) × Bool × Int × (List Int) × Bool × (List Int) × (List (List Aj)))) :=
 if decide (v1 < a1) then
   if decide (((v8.length : Nat) : Int) < ((v9.length : Nat) : Int)) then
     Option.bind (Br (λ v : (Int × Bool) => Jk a1 v1 v2 v3 v4 v5 v6 v7 v8 v9 y1 v.1 v.2) (((v8.length : Nat) : Int), decide (((v8.length : Nat) : Int) < ((v9.length : Nat) : Int)))) λ r1 =>
       if decide (r1.1 = ((v9.length : Nat) : Int)) then
         some (.inl (IntKind.wrap .i64 (v1 + (1 : Int)), v2, v3, v4, v5, v6, v7, v8, v9))
       else
         if !decide (r1.1 = ((v8.length : Nat) : Int)) then
           need (Ae ((v8.length : Nat) : Int) v9.length) <|
           need (Ae r1.1 v9.length) <|
           need (Ae r1.1 v9.length) <|
           need (Ae ((v8.length : Nat) : Int) v9.length) <|
           need (((v8.length : Nat) : Int) = ((v8.length : Nat) : Int)) <|
           need (r1.1 = r1.1) <|
           Option.bind (Lf (⟨(⟨v2, v3, v4⟩ : A6), (⟨v5, v6, v7⟩ : A6)⟩ : Aj)) λ y4 =>
           H4 a1 v1 v8 v9 y4.N.v y4.N.m y4.N.neg y4.D.v y4.D.m y4.D.neg (List.set (List.set v9 r1.1.toNat (List.getD v9 ((v8.length : Nat) : Int).toNat [])) ((v8.length : Nat) : Int).toNat (List.getD v9 r1.1.toNat [])) r1 y1
         else
           H4 a1 v1 v8 v9 v2 v3 v4 v5 v6 v7 v9 r1 y1
   else
     some (.inr (v2, v3, v4, v5, v6, v7, v8, v9))
 else
   some (.inr (v2, v3, v4, v5, v6, v7, v8, v9))
def Iw (a0 : QmM) (a1 : Int) : Option (QmM × (List Int) × Aj) :=
 Option.bind (O6 a0) λ y1 =>
 Option.bind (Fm (1 : Int)) λ y2 =>
 Option.bind (Br (λ v : (Int × Int × (List Int) × Bool × Int × (List Int) × Bool × (List Int) × (List (List Aj))) => Lb a1 y1 v.1 v.2.1 v.2.2.1 v.2.2.2.1 v.2.2.2.2.1 v.2.2.2.2.2.1 v.2.2.2.2.2.2.1 v.2.2.2.2.2.2.2.1 v.2.2.2.2.2.2.2.2) ((0 : Int), y2.N.v, y2.N.m, y2.N.neg, y2.D.v, y2.D.m, y2.D.neg, [], y1.V)) λ r5 =>
   some ((⟨y1.C, r5.2.2.2.2.2.2.2⟩ : QmM), r5.2.2.2.2.2.2.1, (⟨(⟨r5.1, r5.2.1, r5.2.2.1⟩ : A6), (⟨r5.2.2.2.1, r5.2.2.2.2.1, r5.2.2.2.2.2.1⟩ : A6)⟩ : Aj))
def Ln (a0 : QmM) (a1 : QmM) (v1 : Int) (v2 : (List (List Aj))) : Option ((Int × (List (List Aj))) ⊕ (List (List Aj))) :=
 if decide (v1 < ((a0.V.length : Nat) : Int)) then
   need (Ae v1 a0.V.length) <|
   need ((List.getD a0.V v1.toNat ([] : List Aj)).length * 80 <= As) <|
   need (Ae v1 a1.V.length) <|
   need (((List.getD a0.V v1.toNat ([] : List Aj)).length + (List.getD a1.V v1.toNat ([] : List Aj)).length) * 80 <= As) <|
   need ((v2.length + 1) * 24 <= As) <|
   some (.inl (IntKind.wrap .i64 (v1 + (1 : Int)), v2 ++ [(List.getD a0.V v1.toNat ([] : List Aj)) ++ (List.getD a1.V v1.toNat ([] : List Aj))]))
 else
   some (.inr v2)
def J5 (a0 : QmM) (a1 : QmM) : Option QmM :=
 Option.bind (Br (λ v : (Int × (List (List Aj))) => Ln a0 a1 v.1 v.2) ((0 : Int), [])) λ r1 =>
   some (⟨IntKind.wrap .i64 (a0.C + a1.C), r1⟩ : QmM)
def M8 (a0 : List Aj) (v1 : Int) (v2 : (List (List Aj))) : Option ((Int × (List (List Aj))) ⊕ (List (List Aj))) :=
 if decide (v1 < ((a0.length : Nat) : Int)) then
   need (Ae v1 a0.length) <|
   need ((v2.length + [[(⟨((List.getD a0 v1.toNat Ba).N), ((List.getD a0 v1.toNat Ba).D)⟩ : Aj)]].length) * 24 <= As) <|
   some (.inl (IntKind.wrap .i64 (v1 + (1 : Int)), v2 ++ [[(⟨((List.getD a0 v1.toNat Ba).N), ((List.getD a0 v1.toNat Ba).D)⟩ : Aj)]]))
 else
   some (.inr v2)
def Mi (a0 : List Aj) : Option QmM :=
 Option.bind (Br (λ v : (Int × (List (List Aj))) => M8 a0 v.1 v.2) ((0 : Int), [])) λ r1 =>
   some (⟨(1 : Int), r1⟩ : QmM)
def M9 (a0 : QmM) (a1 : List Int) (a2 : Int) (v1 : Int) (v2 : List Bool) : Option ((Int × (List Bool)) ⊕ (List Bool)) :=
 if decide (v1 < ((a1.length : Nat) : Int)) then
   need (Ae v1 a1.length) <|
   need (Ae (List.getD a1 v1.toNat (0 : Int)) v2.length) <|
   some (.inl (IntKind.wrap .i64 (v1 + (1 : Int)), List.set v2 (List.getD a1 v1.toNat (0 : Int)).toNat true))
 else
   some (.inr v2)
def Qk (a0 : QmM) (a1 : List Int) (a2 : Int) (v4 : Int) (v5 : (List (List Aj))) (r1 : List Bool) (v6 : Int) (v7 : Int) (v8 : List Aj) : Option ((Int × Int × (List Aj)) ⊕ (List Aj)) :=
 if decide (v7 < v6) then
   Option.bind (Fm (0 : Int)) λ y1 =>
   need (Ae v7 v8.length) <|
   some (.inl (v6, IntKind.wrap .i64 (v7 + (1 : Int)), List.set v8 v7.toNat y1))
 else
   some (.inr v8)
def Qf (a0 : QmM) (a1 : List Int) (a2 : Int) (v4 : Int) (v5 : (List (List Aj))) (r1 : List Bool) (v10 : Int) (v11 : List Aj) : Option ((Int × (List Aj)) ⊕ (List Aj)) :=
 if decide (v10 < ((a1.length : Nat) : Int)) then
   need (Ae v10 a1.length) <|
   need (Ae v10 a0.V.length) <|
   need (Ae v4 (List.getD a0.V v10.toNat ([] : List Aj)).length) <|
   Option.bind (Lf (⟨((List.getD (List.getD a0.V v10.toNat ([] : List Aj)) v4.toNat Ba).N), ((List.getD (List.getD a0.V v10.toNat ([] : List Aj)) v4.toNat Ba).D)⟩ : Aj)) λ y3 =>
   need (Ae (List.getD a1 v10.toNat (0 : Int)) v11.length) <|
   some (.inl (IntKind.wrap .i64 (v10 + (1 : Int)), List.set v11 (List.getD a1 v10.toNat (0 : Int)).toNat y3))
 else
   some (.inr v11)
def Mt (a0 : QmM) (a1 : List Int) (a2 : Int) (r1 : List Bool) (v4 : Int) (v5 : (List (List Aj))) : Option ((Int × (List (List Aj))) ⊕ (List (List Aj))) :=
 if decide (v4 < a2) then
   need (Ae v4 r1.length) <|
   if List.getD r1 v4.toNat false then
     some (.inl (IntKind.wrap .i64 (v4 + (1 : Int)), v5))
   else
     need (0 <= a2) <|
     need (a2 <= a2) <|
     need (a2 * ((80 : Nat) : Int) <= ((As : Nat) : Int)) <|
     Option.bind (Br (λ v : (Int × Int × (List Aj)) => Qk a0 a1 a2 v4 v5 r1 v.1 v.2.1 v.2.2) ((((List.replicate a2.toNat (⟨(⟨(0 : Int), [], false⟩ : A6), (⟨(0 : Int), [], false⟩ : A6)⟩ : Aj)).length : Nat) : Int), (0 : Int), List.replicate a2.toNat (⟨(⟨(0 : Int), [], false⟩ : A6), (⟨(0 : Int), [], false⟩ : A6)⟩ : Aj))) λ r2 =>
       Option.bind (Fm (1 : Int)) λ y2 =>
       need (Ae v4 r2.length) <|
       Option.bind (Br (λ v : (Int × (List Aj)) => Qf a0 a1 a2 v4 v5 r1 v.1 v.2) ((0 : Int), List.set r2 v4.toNat y2)) λ r3 =>
         need ((v5.length + 1) * 24 <= As) <|
         some (.inl (IntKind.wrap .i64 (v4 + (1 : Int)), v5 ++ [r3]))
 else
   some (.inr v5)
def L3 (a0 : QmM) (a1 : List Int) (a2 : Int) : Option (List (List Aj)) :=
 need (0 <= a2) <|
 need (a2 <= a2) <|
 need (a2 * ((1 : Nat) : Int) <= ((As : Nat) : Int)) <|
 Option.bind (Br (λ v : (Int × (List Bool)) => M9 a0 a1 a2 v.1 v.2) ((0 : Int), List.replicate a2.toNat false)) λ r1 =>
   Option.bind (Br (λ v : (Int × (List (List Aj))) => Mt a0 a1 a2 r1 v.1 v.2) ((0 : Int), [])) λ r4 =>
     some r4
def Kv (a0 : QmM) (y3 : (QmM × (List Int) × Aj)) (v1 : Int) : Option (Int ⊕ (Unit ⊕ ((List Aj) × (List (List Aj)) × Bool))) :=
 if decide (v1 < ((y3.1.V.length : Nat) : Int)) then
   need (Ae v1 y3.1.V.length) <|
   need (Ae a0.C (List.getD y3.1.V v1.toNat ([] : List Aj)).length) <|
   Option.bind (E1 (⟨((List.getD (List.getD y3.1.V v1.toNat ([] : List Aj)) (a0.C).toNat Ba).N), ((List.getD (List.getD y3.1.V v1.toNat ([] : List Aj)) (a0.C).toNat Ba).D)⟩ : Aj)) λ y4 =>
   if !y4 then
     some (.inr (.inr ([], [], false)))
   else
     some (.inl (IntKind.wrap .i64 (v1 + (1 : Int))))
 else
   some (.inr (.inl ()))
def Kz (a0 : QmM) (y3 : (QmM × (List Int) × Aj)) (v2 : Int) (v3 : Int) (v4 : List Aj) : Option ((Int × Int × (List Aj)) ⊕ (List Aj)) :=
 if decide (v3 < v2) then
   Option.bind (Fm (0 : Int)) λ y5 =>
   need (Ae v3 v4.length) <|
   some (.inl (v2, IntKind.wrap .i64 (v3 + (1 : Int)), List.set v4 v3.toNat y5))
 else
   some (.inr v4)
def Ns (a0 : QmM) (y3 : (QmM × (List Int) × Aj)) (v6 : Int) (v7 : List Aj) : Option ((Int × (List Aj)) ⊕ (List Aj)) :=
 if decide (v6 < ((y3.2.1.length : Nat) : Int)) then
   need (Ae v6 y3.2.1.length) <|
   need (Ae v6 y3.1.V.length) <|
   need (Ae a0.C (List.getD y3.1.V v6.toNat ([] : List Aj)).length) <|
   need (Ae (List.getD y3.2.1 v6.toNat (0 : Int)) v7.length) <|
   some (.inl (IntKind.wrap .i64 (v6 + (1 : Int)), List.set v7 (List.getD y3.2.1 v6.toNat (0 : Int)).toNat (⟨((List.getD (List.getD y3.1.V v6.toNat ([] : List Aj)) (a0.C).toNat Ba).N), ((List.getD (List.getD y3.1.V v6.toNat ([] : List Aj)) (a0.C).toNat Ba).D)⟩ : Aj)))
 else
   some (.inr v7)
def Mm (a0 : QmM) (a1 : List Aj) : Option ((List Aj) × (List (List Aj)) × Bool) :=
 Option.bind (Mi a1) λ y1 =>
 Option.bind (J5 a0 y1) λ y2 =>
 Option.bind (Iw y2 a0.C) λ y3 =>
 Option.bind (Br (λ v : Int => Kv a0 y3 v) ((y3.2.1.length : Nat) : Int)) λ r =>
 match r with
 | .inl r1 =>
   need (0 <= a0.C) <|
   need (a0.C <= a0.C) <|
   need (a0.C * ((80 : Nat) : Int) <= ((As : Nat) : Int)) <|
   Option.bind (Br (λ v : (Int × Int × (List Aj)) => Kz a0 y3 v.1 v.2.1 v.2.2) ((((List.replicate (a0.C).toNat (⟨(⟨(0 : Int), [], false⟩ : A6), (⟨(0 : Int), [], false⟩ : A6)⟩ : Aj)).length : Nat) : Int), (0 : Int), List.replicate (a0.C).toNat (⟨(⟨(0 : Int), [], false⟩ : A6), (⟨(0 : Int), [], false⟩ : A6)⟩ : Aj))) λ r2 =>
     Option.bind (Br (λ v : (Int × (List Aj)) => Ns a0 y3 v.1 v.2) ((0 : Int), r2)) λ r3 =>
       Option.bind (L3 y3.1 y3.2.1 a0.C) λ y6 =>
       some (r3, y6, true)
 | .inr r4 =>
   some r4
def Jb (a0 : Ah) (v1 : Int) (v4 : List Aj) (v5 : (List (List Aj))) (y1 : QmM) (y2 : List Int) : Option ((Int × (List Aj) × (List (List Aj))) ⊕ ((List Aj) × (List (List Aj)))) :=
 some (.inl (IntKind.wrap .i64 (v1 + (1 : Int)), v4, v5))
def Le (a0 : Ah) (y1 : QmM) (y2 : List Int) (v1 : Int) (v2 : List Aj) (v3 : (List (List Aj))) : Option ((Int × (List Aj) × (List (List Aj))) ⊕ ((List Aj) × (List (List Aj)))) :=
 if decide (v1 < ((y2.length : Nat) : Int)) then
   need (Ae v1 y2.length) <|
   if decide (v1 = (List.getD y2 v1.toNat (0 : Int))) then
     Option.bind (Uw (1 : Int) a0.Nodes) λ y3 =>
     need (Ae (0 : Int) y3.V.length) <|
     Option.bind (Fm (1 : Int)) λ y4 =>
     need (Ae v1 (List.getD y3.V (0 : Int).toNat []).length) <|
     Option.bind (Fm (0 : Int)) λ y5 =>
     need (Ae v1 v3.length) <|
     need (Ae v1 v2.length) <|
     Jb a0 v1 (List.set v2 v1.toNat y5) (List.set v3 v1.toNat (List.getD (List.set y3.V (0 : Int).toNat (List.set (List.getD y3.V (0 : Int).toNat []) v1.toNat y4)) (0 : Int).toNat [])) y1 y2
   else
     Jb a0 v1 v2 v3 y1 y2
 else
   some (.inr (v2, v3))
def Is (a0 : Ah) (a1 : List Aj) : Option (List Aj) :=
 Option.bind (Ho a0) λ y1 =>
 Option.bind (Ij a0) λ y2 =>
 Option.bind (Br (λ v : (Int × (List Aj) × (List (List Aj))) => Le a0 y1 y2 v.1 v.2.1 v.2.2) ((0 : Int), a1, y1.V)) λ r1 =>
   Option.bind (Mm (⟨y1.C, r1.2⟩ : QmM) r1.1) λ y6 =>
   some y6.1
def Jw : Option (Int × Bool) :=
 some ((0 : Int), false)
def Nu (a0 : A6) (a1 : Int) : Option (Int × Bool) :=
 if !List.isEmpty a0.m then
   Jw
 else
   if decide (a1 < a0.v) then
     Jw
   else
     if decide (a0.v < (IntKind.wrap .i64 (0 - a1))) then
       Jw
     else
       some (a0.v, true)
def Mq : Option (A7 × Bool) :=
 some ((⟨(0 : Int), (0 : Int)⟩ : A7), false)
def Mw (a0 : Aj) : Option (A7 × Bool) :=
 Option.bind (Nu a0.N (1000000000000 : Int)) λ y1 =>
 Option.bind (Nu a0.D (1000000000000 : Int)) λ y2 =>
 if !y1.2 then
   Mq
 else
   if !y2.2 then
     Mq
   else
     some ((⟨y1.1, y2.1⟩ : A7), true)
def H6 (a0 : Aj) : Option (A7 × Int) :=
 Option.bind (Mw a0) λ y1 =>
 if !y1.2 then
   some ((⟨(0 : Int), (0 : Int)⟩ : A7), (3 : Int))
 else
   some (y1.1, (0 : Int))
def Fx : Option (A7 × Int) :=
 some ((⟨(0 : Int), (0 : Int)⟩ : A7), (1 : Int))
def G4 (a0 : Ah) (a1 : Int) (a2 : Int) (v1 : Int) (v2 : Int) (v3 : List Aj) : Option ((Int × Int × (List Aj)) ⊕ (List Aj)) :=
 if decide (v2 < v1) then
   Option.bind (Fm (0 : Int)) λ y3 =>
   need (Ae v2 v3.length) <|
   some (.inl (v1, IntKind.wrap .i64 (v2 + (1 : Int)), List.set v3 v2.toNat y3))
 else
   some (.inr v3)
def Fe (a0 : Ah) (a1 : Int) (a2 : Int) : Option (A7 × Int) :=
 Option.bind (Jo a0) λ y1 =>
 if !decide (y1 = (0 : Int)) then
   some ((⟨(0 : Int), (0 : Int)⟩ : A7), y1)
 else
   if decide (a1 < (0 : Int)) then
     Fx
   else
     if decide (a0.Nodes <= a1) then
       Fx
     else
       if decide (a2 < (0 : Int)) then
         Fx
       else
         if decide (a0.Nodes <= a2) then
           Fx
         else
           Option.bind (Ij a0) λ y2 =>
           need (Ae a1 y2.length) <|
           need (Ae a2 y2.length) <|
           if !decide ((List.getD y2 a1.toNat (0 : Int)) = (List.getD y2 a2.toNat (0 : Int))) then
             some ((⟨(0 : Int), (0 : Int)⟩ : A7), (4 : Int))
           else
             need (0 <= a0.Nodes) <|
             need (a0.Nodes <= a0.Nodes) <|
             need (a0.Nodes * ((80 : Nat) : Int) <= ((As : Nat) : Int)) <|
             Option.bind (Br (λ v : (Int × Int × (List Aj)) => G4 a0 a1 a2 v.1 v.2.1 v.2.2) ((((List.replicate (a0.Nodes).toNat (⟨(⟨(0 : Int), [], false⟩ : A6), (⟨(0 : Int), [], false⟩ : A6)⟩ : Aj)).length : Nat) : Int), (0 : Int), List.replicate (a0.Nodes).toNat (⟨(⟨(0 : Int), [], false⟩ : A6), (⟨(0 : Int), [], false⟩ : A6)⟩ : Aj))) λ r1 =>
               need (Ae a1 r1.length) <|
               Option.bind (Fm (1 : Int)) λ y4 =>
               Option.bind (Gx (⟨((List.getD r1 a1.toNat Ba).N), ((List.getD r1 a1.toNat Ba).D)⟩ : Aj) y4) λ y5 =>
               need (Ae a1 r1.length) <|
               need (Ae a2 (List.set r1 a1.toNat y5).length) <|
               Option.bind (Fm (1 : Int)) λ y6 =>
               Option.bind (Hj (⟨((List.getD (List.set r1 a1.toNat y5) a2.toNat Ba).N), ((List.getD (List.set r1 a1.toNat y5) a2.toNat Ba).D)⟩ : Aj) y6) λ y7 =>
               need (Ae a2 (List.set r1 a1.toNat y5).length) <|
               Option.bind (Is a0 (List.set (List.set r1 a1.toNat y5) a2.toNat y7)) λ y8 =>
               need (Ae a1 y8.length) <|
               need (Ae a2 y8.length) <|
               Option.bind (Hj (⟨((List.getD y8 a1.toNat Ba).N), ((List.getD y8 a1.toNat Ba).D)⟩ : Aj) (⟨((List.getD y8 a2.toNat Ba).N), ((List.getD y8 a2.toNat Ba).D)⟩ : Aj)) λ y9 =>
               Option.bind (H6 y9) λ y10 =>
               some (y10.1, y10.2)
def S3 (a0 : QmM) : Option Aj :=
 Option.bind (Iw a0 a0.C) λ y1 =>
 if decide (((y1.2.1.length : Nat) : Int) < ((a0.V.length : Nat) : Int)) then
   Option.bind (Fm (0 : Int)) λ y2 =>
   some y2
 else
   some y1.2.2
def Mv (a0 : Ah) (v1 : (List (List Aj))) (v2 : Int) (v3 : Int) (v4 : (List (List Aj))) : Option (((List (List Aj)) × Int × Int × (List (List Aj))) ⊕ (List (List Aj))) :=
 if decide (v3 < v2) then
   need (Ae v3 v1.length) <|
   need ((0 : Int) <= (1 : Int)) <|
   need ((1 : Int) <= (((List.getD v1 v3.toNat ([] : List Aj)).length : Nat) : Int)) <|
   need ((((List.getD v1 v3.toNat ([] : List Aj)).length : Nat) : Int) <= (((List.getD v1 v3.toNat ([] : List Aj)).length : Nat) : Int)) <|
   need ((v4.length + [(List.take ((((List.getD v1 v3.toNat ([] : List Aj)).length : Nat) : Int).toNat - (1 : Int).toNat) (List.drop (1 : Int).toNat (List.getD v1 v3.toNat ([] : List Aj))))].length) * 24 <= As) <|
   some (.inl (v1, v2, IntKind.wrap .i64 (v3 + (1 : Int)), v4 ++ [(List.take ((((List.getD v1 v3.toNat ([] : List Aj)).length : Nat) : Int).toNat - (1 : Int).toNat) (List.drop (1 : Int).toNat (List.getD v1 v3.toNat ([] : List Aj))))]))
 else
   some (.inr v4)
def Mb (a0 : Ah) : Option (A7 × Int) :=
 Option.bind (Jo a0) λ y1 =>
 if !decide (y1 = (0 : Int)) then
   some ((⟨(0 : Int), (0 : Int)⟩ : A7), y1)
 else
   Option.bind (Ho a0) λ y2 =>
   need ((0 : Int) <= (1 : Int)) <|
   need ((1 : Int) <= ((y2.V.length : Nat) : Int)) <|
   need (((y2.V.length : Nat) : Int) <= ((y2.V.length : Nat) : Int)) <|
   Option.bind (Br (λ v : ((List (List Aj)) × Int × Int × (List (List Aj))) => Mv a0 v.1 v.2.1 v.2.2.1 v.2.2.2) ((List.take (((y2.V.length : Nat) : Int).toNat - (1 : Int).toNat) (List.drop (1 : Int).toNat y2.V)), (((List.take (((y2.V.length : Nat) : Int).toNat - (1 : Int).toNat) (List.drop (1 : Int).toNat y2.V)).length : Nat) : Int), (0 : Int), [])) λ r1 =>
     Option.bind (S3 (⟨IntKind.wrap .i64 (a0.Nodes - (1 : Int)), r1⟩ : QmM)) λ y3 =>
     Option.bind (H6 y3) λ y4 =>
     some (y4.1, y4.2)
def Bi (a0 : Int) : Option A7 :=
 some (⟨a0, (1 : Int)⟩ : A7)
def Tb (a0 : Ah) (v1 : Int) (v2 : Int) (v3 : List Aj) : Option ((Int × Int × (List Aj)) ⊕ (List Aj)) :=
 if decide (v2 < v1) then
   Option.bind (Fm (0 : Int)) λ y1 =>
   need (Ae v2 v3.length) <|
   some (.inl (v1, IntKind.wrap .i64 (v2 + (1 : Int)), List.set v3 v2.toNat y1))
 else
   some (.inr v3)
def Md (a0 : Ah) (v5 : Int) (v6 : List Aj) : Option ((Int × (List Aj)) ⊕ (List Aj)) :=
 if decide (v5 < ((a0.Arms.length : Nat) : Int)) then
   need (Ae v5 a0.Arms.length) <|
   Option.bind (Ha (⟨(List.getD a0.Arms v5.toNat Aa).A, (List.getD a0.Arms v5.toNat Aa).B, ((List.getD a0.Arms v5.toNat Aa).R), ((List.getD a0.Arms v5.toNat Aa).E)⟩ : Aq)) λ y2 =>
   Option.bind (Tw ((List.getD a0.Arms v5.toNat Aa).E)) λ y3 =>
   Option.bind (I4 y2 y3) λ y4 =>
   need (Ae ((List.getD a0.Arms v5.toNat Aa).A) v6.length) <|
   Option.bind (Hj (⟨((List.getD v6 ((List.getD a0.Arms v5.toNat Aa).A).toNat Ba).N), ((List.getD v6 ((List.getD a0.Arms v5.toNat Aa).A).toNat Ba).D)⟩ : Aj) y4) λ y5 =>
   need (Ae ((List.getD a0.Arms v5.toNat Aa).A) v6.length) <|
   need (Ae ((List.getD a0.Arms v5.toNat Aa).B) (List.set v6 ((List.getD a0.Arms v5.toNat Aa).A).toNat y5).length) <|
   Option.bind (Gx (⟨((List.getD (List.set v6 ((List.getD a0.Arms v5.toNat Aa).A).toNat y5) ((List.getD a0.Arms v5.toNat Aa).B).toNat Ba).N), ((List.getD (List.set v6 ((List.getD a0.Arms v5.toNat Aa).A).toNat y5) ((List.getD a0.Arms v5.toNat Aa).B).toNat Ba).D)⟩ : Aj) y4) λ y6 =>
   need (Ae ((List.getD a0.Arms v5.toNat Aa).B) (List.set v6 ((List.getD a0.Arms v5.toNat Aa).A).toNat y5).length) <|
   some (.inl (IntKind.wrap .i64 (v5 + (1 : Int)), List.set (List.set v6 ((List.getD a0.Arms v5.toNat Aa).A).toNat y5) ((List.getD a0.Arms v5.toNat Aa).B).toNat y6))
 else
   some (.inr v6)
def Ps (a0 : Ah) (y7 : List Aj) (v8 : Int) (v9 : List Aj) : Option ((Int × (List Aj)) ⊕ (List Aj)) :=
 if decide (v8 < ((a0.Arms.length : Nat) : Int)) then
   need (Ae v8 a0.Arms.length) <|
   need (Ae ((List.getD a0.Arms v8.toNat Aa).A) y7.length) <|
   need (Ae ((List.getD a0.Arms v8.toNat Aa).B) y7.length) <|
   Option.bind (Hj (⟨((List.getD y7 ((List.getD a0.Arms v8.toNat Aa).A).toNat Ba).N), ((List.getD y7 ((List.getD a0.Arms v8.toNat Aa).A).toNat Ba).D)⟩ : Aj) (⟨((List.getD y7 ((List.getD a0.Arms v8.toNat Aa).B).toNat Ba).N), ((List.getD y7 ((List.getD a0.Arms v8.toNat Aa).B).toNat Ba).D)⟩ : Aj)) λ y8 =>
   Option.bind (Tw ((List.getD a0.Arms v8.toNat Aa).E)) λ y9 =>
   Option.bind (Gx y8 y9) λ y10 =>
   Option.bind (Ha (⟨(List.getD a0.Arms v8.toNat Aa).A, (List.getD a0.Arms v8.toNat Aa).B, ((List.getD a0.Arms v8.toNat Aa).R), ((List.getD a0.Arms v8.toNat Aa).E)⟩ : Aq)) λ y11 =>
   Option.bind (I4 y10 y11) λ y12 =>
   need ((v9.length + [y12].length) * 80 <= As) <|
   some (.inl (IntKind.wrap .i64 (v8 + (1 : Int)), v9 ++ [y12]))
 else
   some (.inr v9)
def Pg (a0 : Ah) : Option ((List Aj) × (List Aj)) :=
 need (0 <= a0.Nodes) <|
 need (a0.Nodes <= a0.Nodes) <|
 need (a0.Nodes * ((80 : Nat) : Int) <= ((As : Nat) : Int)) <|
 Option.bind (Br (λ v : (Int × Int × (List Aj)) => Tb a0 v.1 v.2.1 v.2.2) ((((List.replicate (a0.Nodes).toNat (⟨(⟨(0 : Int), [], false⟩ : A6), (⟨(0 : Int), [], false⟩ : A6)⟩ : Aj)).length : Nat) : Int), (0 : Int), List.replicate (a0.Nodes).toNat (⟨(⟨(0 : Int), [], false⟩ : A6), (⟨(0 : Int), [], false⟩ : A6)⟩ : Aj))) λ r1 =>
   Option.bind (Br (λ v : (Int × (List Aj)) => Md a0 v.1 v.2) ((0 : Int), r1)) λ r2 =>
     Option.bind (Is a0 r2) λ y7 =>
     Option.bind (Br (λ v : (Int × (List Aj)) => Ps a0 y7 v.1 v.2) ((0 : Int), [])) λ r3 =>
       some (y7, r3)
def Pk (a0 : List Aj) (v1 : Int) (v2 : List A7) : Option ((Int × (List A7)) ⊕ ((List A7) ⊕ ((List A7) × Bool))) :=
 if decide (v1 < ((a0.length : Nat) : Int)) then
   need (Ae v1 a0.length) <|
   Option.bind (Mw (⟨((List.getD a0 v1.toNat Ba).N), ((List.getD a0 v1.toNat Ba).D)⟩ : Aj)) λ y1 =>
   if !y1.2 then
     some (.inr (.inr ([], false)))
   else
     need (Ae v1 v2.length) <|
     some (.inl (IntKind.wrap .i64 (v1 + (1 : Int)), List.set v2 v1.toNat y1.1))
 else
   some (.inr (.inl v2))
def Nb (a0 : List Aj) : Option ((List A7) × Bool) :=
 need (0 <= ((a0.length : Nat) : Int)) <|
 need (((a0.length : Nat) : Int) <= ((a0.length : Nat) : Int)) <|
 need (((a0.length : Nat) : Int) * ((16 : Nat) : Int) <= ((As : Nat) : Int)) <|
 Option.bind (Br (λ v : (Int × (List A7)) => Pk a0 v.1 v.2) ((0 : Int), List.replicate (((a0.length : Nat) : Int)).toNat (⟨(0 : Int), (0 : Int)⟩ : A7))) λ r =>
 match r with
 | .inl r1 =>
   some (r1, true)
 | .inr r2 =>
   some r2
def F3 : Option ((List A7) × (List A7) × Int) :=
 some ([], [], (3 : Int))
def Ge (a0 : Ah) : Option ((List A7) × (List A7) × Int) :=
 Option.bind (Jo a0) λ y1 =>
 if !decide (y1 = (0 : Int)) then
   some ([], [], y1)
 else
   Option.bind (Pg a0) λ y2 =>
   Option.bind (Nb y2.1) λ y3 =>
   Option.bind (Nb y2.2) λ y4 =>
   if !y3.2 then
     F3
   else
     if !y4.2 then
       F3
     else
       some (y3.1, y4.1, (0 : Int))
def Fg (a0 : List A7) (a1 : List A7) (v1 : Int) : Option (Int ⊕ (Unit ⊕ Bool)) :=
 if decide (v1 < ((a0.length : Nat) : Int)) then
   if decide (v1 < ((a1.length : Nat) : Int)) then
     need (Ae v1 a0.length) <|
     need (Ae v1 a1.length) <|
     if !(decide (((List.getD a0 v1.toNat C0).N) = ((List.getD a1 v1.toNat C0).N)) && (decide (((List.getD a0 v1.toNat C0).D) = ((List.getD a1 v1.toNat C0).D)) && true)) then
       some (.inr (.inr false))
     else
       some (.inl (IntKind.wrap .i64 (v1 + (1 : Int))))
   else
     some (.inr (.inl ()))
 else
   some (.inr (.inl ()))
def Ed (a0 : List A7) (a1 : List A7) : Option Bool :=
 Option.bind (Br (λ v : Int => Fg a0 a1 v) (0 : Int)) λ r =>
 match r with
 | .inl r1 =>
   some (decide (((a0.length : Nat) : Int) = ((a1.length : Nat) : Int)))
 | .inr r2 =>
   some r2
def Cq : Option Bool :=
 Option.bind (Bi (1 : Int)) λ y1 =>
 Option.bind (Bi (3 : Int)) λ y2 =>
 Option.bind (Bi (1 : Int)) λ y3 =>
 Option.bind (Bi (0 : Int)) λ y4 =>
 Option.bind (Bi (1 : Int)) λ y5 =>
 Option.bind (Bi (0 : Int)) λ y6 =>
 Option.bind (Ge (⟨(3 : Int), [(⟨(0 : Int), (1 : Int), y1, y2⟩ : Aq), (⟨(1 : Int), (2 : Int), y3, y4⟩ : Aq), (⟨(2 : Int), (0 : Int), y5, y6⟩ : Aq)]⟩ : Ah)) λ y7 =>
 Option.bind (Mb (⟨(3 : Int), [(⟨(0 : Int), (1 : Int), y1, y2⟩ : Aq), (⟨(1 : Int), (2 : Int), y3, y4⟩ : Aq), (⟨(2 : Int), (0 : Int), y5, y6⟩ : Aq)]⟩ : Ah)) λ y8 =>
 Option.bind (Fe (⟨(3 : Int), [(⟨(0 : Int), (1 : Int), y1, y2⟩ : Aq), (⟨(1 : Int), (2 : Int), y3, y4⟩ : Aq), (⟨(2 : Int), (0 : Int), y5, y6⟩ : Aq)]⟩ : Ah) (0 : Int) (1 : Int)) λ y9 =>
 Option.bind (Bi (1 : Int)) λ y10 =>
 Option.bind (Bi (1 : Int)) λ y11 =>
 Option.bind (Bi (1 : Int)) λ y12 =>
 Option.bind (Ed y7.2.1 [y10, y11, y12]) λ y13 =>
 if y13 then
   if decide (y7.2.2 = (0 : Int)) then
     Option.bind (Bi (3 : Int)) λ y14 =>
     if (decide (y8.1.N = y14.N) && (decide (y8.1.D = y14.D) && true)) then
       if decide (y8.2 = (0 : Int)) then
         if (decide (y9.1.N = (2 : Int)) && (decide (y9.1.D = (3 : Int)) && true)) then
           some (decide (y9.2 = (0 : Int)))
         else
           some false
       else
         some false
     else
       some false
   else
     some false
 else
   some false
def Gz (z0 : Int) (a0 : Int) : Option Int :=
 if decide (z0 < a0) then
   some (IntKind.wrap .i64 (a0 - (1 : Int)))
 else
   some a0
def Jy : Option (Ah × Int) :=
 some ((⟨(0 : Int), []⟩ : Ah), (1 : Int))
def Tf (a0 : Ah) (a1 : Int) (v1 : Int) (v2 : Int) (v3 : List Aj) : Option ((Int × Int × (List Aj)) ⊕ (List Aj)) :=
 if decide (v2 < v1) then
   Option.bind (Fm (0 : Int)) λ y2 =>
   need (Ae v2 v3.length) <|
   some (.inl (v1, IntKind.wrap .i64 (v2 + (1 : Int)), List.set v3 v2.toNat y2))
 else
   some (.inr v3)
def Kd (a0 : Ah) (a1 : Int) (v5 : Int) (v6 : Int) (v7 : List Int) (v8 : Bool) (v9 : Int) (v10 : List Int) (v11 : Bool) (v12 : List Aj) (v13 : List Aq) : Option ((Int × Int × (List Int) × Bool × Int × (List Int) × Bool × (List Aj) × (List Aq)) ⊕ ((Int × (List Int) × Bool × Int × (List Int) × Bool × (List Aj) × (List Aq)) ⊕ (Ah × Int))) :=
 if !decide ((((List.getD a0.Arms v5.toNat Aa).E).N) = (0 : Int)) then
   some (.inr (.inr ((⟨(0 : Int), []⟩ : Ah), (7 : Int))))
 else
   if decide (((List.getD a0.Arms v5.toNat Aa).A) = ((List.getD a0.Arms v5.toNat Aa).B)) then
     some (.inl (IntKind.wrap .i64 (v5 + (1 : Int)), v6, v7, v8, v9, v10, v11, v12, v13))
   else
     need (Ae (IntKind.wrap .i64 ((IntKind.wrap .i64 (((List.getD a0.Arms v5.toNat Aa).A) + ((List.getD a0.Arms v5.toNat Aa).B))) - a1)) v12.length) <|
     Option.bind (Ha (⟨(List.getD a0.Arms v5.toNat Aa).A, (List.getD a0.Arms v5.toNat Aa).B, ((List.getD a0.Arms v5.toNat Aa).R), ((List.getD a0.Arms v5.toNat Aa).E)⟩ : Aq)) λ y6 =>
     Option.bind (Gx (⟨((List.getD v12 (IntKind.wrap .i64 ((IntKind.wrap .i64 (((List.getD a0.Arms v5.toNat Aa).A) + ((List.getD a0.Arms v5.toNat Aa).B))) - a1)).toNat Ba).N), ((List.getD v12 (IntKind.wrap .i64 ((IntKind.wrap .i64 (((List.getD a0.Arms v5.toNat Aa).A) + ((List.getD a0.Arms v5.toNat Aa).B))) - a1)).toNat Ba).D)⟩ : Aj) y6) λ y7 =>
     need (Ae (IntKind.wrap .i64 ((IntKind.wrap .i64 (((List.getD a0.Arms v5.toNat Aa).A) + ((List.getD a0.Arms v5.toNat Aa).B))) - a1)) v12.length) <|
     Option.bind (Ha (⟨(List.getD a0.Arms v5.toNat Aa).A, (List.getD a0.Arms v5.toNat Aa).B, ((List.getD a0.Arms v5.toNat Aa).R), ((List.getD a0.Arms v5.toNat Aa).E)⟩ : Aq)) λ y8 =>
     Option.bind (Gx (⟨(⟨v6, v7, v8⟩ : A6), (⟨v9, v10, v11⟩ : A6)⟩ : Aj) y8) λ y9 =>
     some (.inl (IntKind.wrap .i64 (v5 + (1 : Int)), y9.N.v, y9.N.m, y9.N.neg, y9.D.v, y9.D.m, y9.D.neg, List.set v12 (IntKind.wrap .i64 ((IntKind.wrap .i64 (((List.getD a0.Arms v5.toNat Aa).A) + ((List.getD a0.Arms v5.toNat Aa).B))) - a1)).toNat y7, v13))
def L7 (a0 : Ah) (a1 : Int) (v5 : Int) (v6 : Int) (v7 : List Int) (v8 : Bool) (v9 : Int) (v10 : List Int) (v11 : Bool) (v12 : List Aj) (v13 : List Aq) : Option ((Int × Int × (List Int) × Bool × Int × (List Int) × Bool × (List Aj) × (List Aq)) ⊕ ((Int × (List Int) × Bool × Int × (List Int) × Bool × (List Aj) × (List Aq)) ⊕ (Ah × Int))) :=
 if decide (v5 < ((a0.Arms.length : Nat) : Int)) then
   need (Ae v5 a0.Arms.length) <|
   if !decide (((List.getD a0.Arms v5.toNat Aa).A) = a1) then
     if !decide (((List.getD a0.Arms v5.toNat Aa).B) = a1) then
       Option.bind (Gz a1 ((List.getD a0.Arms v5.toNat Aa).A)) λ y4 =>
       Option.bind (Gz a1 ((List.getD a0.Arms v5.toNat Aa).B)) λ y5 =>
       need ((v13.length + [(⟨y4, y5, ((List.getD a0.Arms v5.toNat Aa).R), ((List.getD a0.Arms v5.toNat Aa).E)⟩ : Aq)].length) * 48 <= As) <|
       some (.inl (IntKind.wrap .i64 (v5 + (1 : Int)), v6, v7, v8, v9, v10, v11, v12, v13 ++ [(⟨y4, y5, ((List.getD a0.Arms v5.toNat Aa).R), ((List.getD a0.Arms v5.toNat Aa).E)⟩ : Aq)]))
     else
       Kd a0 a1 v5 v6 v7 v8 v9 v10 v11 v12 v13
   else
     Kd a0 a1 v5 v6 v7 v8 v9 v10 v11 v12 v13
 else
   some (.inr (.inl (v6, v7, v8, v9, v10, v11, v12, v13)))
def Kg (a0 : Ah) (a1 : Int) (v22 : Int) (v24 : Int) (v25 : List Aq) (r2 : (Int × (List Int) × Bool × Int × (List Int) × Bool × (List Aj) × (List Aq))) : Option ((Int × (List Aq)) ⊕ ((List Aq) ⊕ (Ah × Int))) :=
 some (.inl (IntKind.wrap .i64 (v24 + (1 : Int)), v25))
def L5 (a0 : Ah) (a1 : Int) (v22 : Int) (r2 : (Int × (List Int) × Bool × Int × (List Int) × Bool × (List Aj) × (List Aq))) (v24 : Int) (v25 : List Aq) : Option ((Int × (List Aq)) ⊕ ((List Aq) ⊕ (Ah × Int))) :=
 if decide (v24 < ((r2.2.2.2.2.2.2.1.length : Nat) : Int)) then
   need (Ae v22 r2.2.2.2.2.2.2.1.length) <|
   Option.bind (E1 (⟨((List.getD r2.2.2.2.2.2.2.1 v22.toNat Ba).N), ((List.getD r2.2.2.2.2.2.2.1 v22.toNat Ba).D)⟩ : Aj)) λ y10 =>
   if y10 then
     Kg a0 a1 v22 v24 v25 r2
   else
     need (Ae v24 r2.2.2.2.2.2.2.1.length) <|
     Option.bind (E1 (⟨((List.getD r2.2.2.2.2.2.2.1 v24.toNat Ba).N), ((List.getD r2.2.2.2.2.2.2.1 v24.toNat Ba).D)⟩ : Aj)) λ y11 =>
     if y11 then
       Kg a0 a1 v22 v24 v25 r2
     else
       need (Ae v22 r2.2.2.2.2.2.2.1.length) <|
       need (Ae v24 r2.2.2.2.2.2.2.1.length) <|
       Option.bind (I4 (⟨((List.getD r2.2.2.2.2.2.2.1 v22.toNat Ba).N), ((List.getD r2.2.2.2.2.2.2.1 v22.toNat Ba).D)⟩ : Aj) (⟨((List.getD r2.2.2.2.2.2.2.1 v24.toNat Ba).N), ((List.getD r2.2.2.2.2.2.2.1 v24.toNat Ba).D)⟩ : Aj)) λ y12 =>
       Option.bind (Lg (⟨(⟨r2.1, r2.2.1, r2.2.2.1⟩ : A6), (⟨r2.2.2.2.1, r2.2.2.2.2.1, r2.2.2.2.2.2.1⟩ : A6)⟩ : Aj) y12) λ y13 =>
       Option.bind (H6 y13) λ y14 =>
       if !decide (y14.2 = (0 : Int)) then
         some (.inr (.inr ((⟨(0 : Int), []⟩ : Ah), y14.2)))
       else
         Option.bind (Gz a1 v22) λ y15 =>
         Option.bind (Gz a1 v24) λ y16 =>
         need ((v25.length + [(⟨y15, y16, y14.1, (⟨(0 : Int), (1 : Int)⟩ : A7)⟩ : Aq)].length) * 48 <= As) <|
         some (.inl (IntKind.wrap .i64 (v24 + (1 : Int)), v25 ++ [(⟨y15, y16, y14.1, (⟨(0 : Int), (1 : Int)⟩ : A7)⟩ : Aq)]))
 else
   some (.inr (.inl v25))
def Mf (a0 : Ah) (a1 : Int) (r2 : (Int × (List Int) × Bool × Int × (List Int) × Bool × (List Aj) × (List Aq))) (v22 : Int) (v23 : List Aq) : Option ((Int × (List Aq)) ⊕ ((List Aq) ⊕ (Ah × Int))) :=
 if decide (v22 < ((r2.2.2.2.2.2.2.1.length : Nat) : Int)) then
   Option.bind (Br (λ v : (Int × (List Aq)) => L5 a0 a1 v22 r2 v.1 v.2) (IntKind.wrap .i64 (v22 + (1 : Int)), v23)) λ r =>
   match r with
   | .inl r3 =>
     some (.inl (IntKind.wrap .i64 (v22 + (1 : Int)), r3))
   | .inr r4 =>
     some (.inr (.inr r4))
 else
   some (.inr (.inl v23))
def O7 (a0 : Ah) (a1 : Int) : Option (Ah × Int) :=
 Option.bind (Jo a0) λ y1 =>
 if !decide (y1 = (0 : Int)) then
   some ((⟨(0 : Int), []⟩ : Ah), y1)
 else
   if decide (a1 < (0 : Int)) then
     Jy
   else
     if decide (a0.Nodes <= a1) then
       Jy
     else
       if decide (a0.Nodes = (1 : Int)) then
         Jy
       else
         need (0 <= a0.Nodes) <|
         need (a0.Nodes <= a0.Nodes) <|
         need (a0.Nodes * ((80 : Nat) : Int) <= ((As : Nat) : Int)) <|
         Option.bind (Br (λ v : (Int × Int × (List Aj)) => Tf a0 a1 v.1 v.2.1 v.2.2) ((((List.replicate (a0.Nodes).toNat (⟨(⟨(0 : Int), [], false⟩ : A6), (⟨(0 : Int), [], false⟩ : A6)⟩ : Aj)).length : Nat) : Int), (0 : Int), List.replicate (a0.Nodes).toNat (⟨(⟨(0 : Int), [], false⟩ : A6), (⟨(0 : Int), [], false⟩ : A6)⟩ : Aj))) λ r1 =>
           Option.bind (Fm (0 : Int)) λ y3 =>
           Option.bind (Br (λ v : (Int × Int × (List Int) × Bool × Int × (List Int) × Bool × (List Aj) × (List Aq)) => L7 a0 a1 v.1 v.2.1 v.2.2.1 v.2.2.2.1 v.2.2.2.2.1 v.2.2.2.2.2.1 v.2.2.2.2.2.2.1 v.2.2.2.2.2.2.2.1 v.2.2.2.2.2.2.2.2) ((0 : Int), y3.N.v, y3.N.m, y3.N.neg, y3.D.v, y3.D.m, y3.D.neg, r1, [])) λ r =>
           match r with
           | .inl r2 =>
             Option.bind (Br (λ v : (Int × (List Aq)) => Mf a0 a1 r2 v.1 v.2) ((0 : Int), r2.2.2.2.2.2.2.2)) λ r =>
             match r with
             | .inl r5 =>
               if decide ((40 : Int) < ((r5.length : Nat) : Int)) then
                 some ((⟨(0 : Int), []⟩ : Ah), (3 : Int))
               else
                 some ((⟨IntKind.wrap .i64 (a0.Nodes - (1 : Int)), r5⟩ : Ah), (0 : Int))
             | .inr r6 =>
               some r6
           | .inr r7 =>
             some r7
def B4 (a0 : Af) : Option Bool :=
 if decide (((a0.d.length : Nat) : Int) = (1 : Int)) then
   need (Ae (0 : Int) a0.d.length) <|
   if decide ((List.getD a0.d ((0 : Int)).toNat (0 : Int)) = (1 : Int)) then
     some (!a0.minus)
   else
     some false
 else
   some false
def Bp (a0 : Af) : Option Bool :=
 some (decide (((a0.d.length : Nat) : Int) = (0 : Int)))
def Bu (a0 : List Int) (a1 : Bool) : Option Af :=
 if a1 then
   some (⟨a0, decide ((0 : Int) < ((a0.length : Nat) : Int))⟩ : Af)
 else
   some (⟨a0, false⟩ : Af)
def Cf (a0 : Af) : Option Af :=
 Option.bind (Bu a0.d (!a0.minus)) λ y1 =>
 some y1
def Fi (v1 : List Int) : Option ((List Int) ⊕ (List Int)) :=
 if decide ((0 : Int) < ((v1.length : Nat) : Int)) then
   need (Ae (IntKind.wrap .i64 (((v1.length : Nat) : Int) - (1 : Int))) v1.length) <|
   if decide ((List.getD v1 (IntKind.wrap .i64 (((v1.length : Nat) : Int) - (1 : Int))).toNat (0 : Int)) = (0 : Int)) then
     need ((0 : Int) <= (IntKind.wrap .i64 (((v1.length : Nat) : Int) - (1 : Int)))) <|
     need ((IntKind.wrap .i64 (((v1.length : Nat) : Int) - (1 : Int))) <= ((v1.length : Nat) : Int)) <|
     some (.inl (List.take (IntKind.wrap .i64 (((v1.length : Nat) : Int) - (1 : Int))).toNat v1))
   else
     some (.inr v1)
 else
   some (.inr v1)
def Bq (a0 : List Int) : Option (List Int) :=
 Option.bind (Br (λ v : (List Int) => Fi v) a0) λ r1 =>
   some r1
def E9 (a0 : List Int) (a1 : List Int) (v1 : Int) : Option (Int ⊕ (Unit ⊕ Int)) :=
 if decide ((0 : Int) <= v1) then
   need (Ae v1 a0.length) <|
   need (Ae v1 a1.length) <|
   if decide ((List.getD a0 v1.toNat (0 : Int)) < (List.getD a1 v1.toNat (0 : Int))) then
     some (.inr (.inr (-1 : Int)))
   else
     need (Ae v1 a0.length) <|
     need (Ae v1 a1.length) <|
     if decide ((List.getD a1 v1.toNat (0 : Int)) < (List.getD a0 v1.toNat (0 : Int))) then
       some (.inr (.inr (1 : Int)))
     else
       some (.inl (IntKind.wrap .i64 (v1 - (1 : Int))))
 else
   some (.inr (.inl ()))
def C2 (a0 : List Int) (a1 : List Int) : Option Int :=
 if !decide (((a0.length : Nat) : Int) = ((a1.length : Nat) : Int)) then
   if decide (((a0.length : Nat) : Int) < ((a1.length : Nat) : Int)) then
     some (-1 : Int)
   else
     some (1 : Int)
 else
   Option.bind (Br (λ v : Int => E9 a0 a1 v) (IntKind.wrap .i64 (((a0.length : Nat) : Int) - (1 : Int)))) λ r =>
   match r with
   | .inl r1 =>
     some (0 : Int)
   | .inr r2 =>
     some r2
def Et (a0 : List Int) (a1 : Int) (v1 : Int) (v2 : List Int) : Option ((Int × (List Int)) ⊕ (List Int)) :=
 if decide (v1 < ((a0.length : Nat) : Int)) then
   need (Ae v1 a0.length) <|
   need ((0 : Int) <= a1) <|
   need (Ae v1 v2.length) <|
   need (Ae v1 v2.length) <|
   need ((0 : Int) <= (32 : Int)) <|
   need (Ae (IntKind.wrap .i64 (v1 + (1 : Int))) (List.set v2 v1.toNat (IntKind.wrap .u32 ((((BitVec.ofInt (IntKind.bits .u32) (List.getD v2 v1.toNat (0 : Int)) ||| BitVec.ofInt (IntKind.bits .u32) (IntKind.wrap .u32 (IntKind.wrap .u64 ((IntKind.wrap .u64 (List.getD a0 v1.toNat (0 : Int))) * 2 ^ (min a1.toNat (IntKind.bits .u64)))))).toNat : Nat) : Int)))).length) <|
   some (.inl (IntKind.wrap .i64 (v1 + (1 : Int)), List.set (List.set v2 v1.toNat (IntKind.wrap .u32 ((((BitVec.ofInt (IntKind.bits .u32) (List.getD v2 v1.toNat (0 : Int)) ||| BitVec.ofInt (IntKind.bits .u32) (IntKind.wrap .u32 (IntKind.wrap .u64 ((IntKind.wrap .u64 (List.getD a0 v1.toNat (0 : Int))) * 2 ^ (min a1.toNat (IntKind.bits .u64)))))).toNat : Nat) : Int)))) (IntKind.wrap .i64 (v1 + (1 : Int))).toNat (IntKind.wrap .u32 (Int.fdiv (IntKind.wrap .u64 ((IntKind.wrap .u64 (List.getD a0 v1.toNat (0 : Int))) * 2 ^ (min a1.toNat (IntKind.bits .u64)))) (2 ^ (min (32 : Int).toNat (IntKind.bits .u64)))))))
 else
   some (.inr v2)
def Cl (a0 : List Int) (a1 : Int) : Option (List Int) :=
 need (0 <= (IntKind.wrap .i64 (((a0.length : Nat) : Int) + (1 : Int)))) <|
 need ((IntKind.wrap .i64 (((a0.length : Nat) : Int) + (1 : Int))) <= (IntKind.wrap .i64 (((a0.length : Nat) : Int) + (1 : Int)))) <|
 need ((IntKind.wrap .i64 (((a0.length : Nat) : Int) + (1 : Int))) * ((4 : Nat) : Int) <= ((As : Nat) : Int)) <|
 Option.bind (Br (λ v : (Int × (List Int)) => Et a0 a1 v.1 v.2) ((0 : Int), List.replicate (IntKind.wrap .i64 (((a0.length : Nat) : Int) + (1 : Int))).toNat (0 : Int))) λ r1 =>
   some r1
def Ep (a0 : List Int) (a1 : List Int) (a2 : Int) (a3 : Int) (wi : Int) (wn : Int) (v1 : Int) (v2 : Int) : Option ((Int × Int) ⊕ Int) :=
 if decide (v2 < (4294967296 : Int)) then
   need ((0 : Int) <= (32 : Int)) <|
   need ((0 : Int) <= (IntKind.wrap .i64 (((a1.length : Nat) : Int) - (2 : Int)))) <|
   need ((IntKind.wrap .i64 (((a1.length : Nat) : Int) - (2 : Int))) < wn) <|
   if decide ((IntKind.wrap .u64 ((((BitVec.ofInt (IntKind.bits .u64) (IntKind.wrap .u64 (v2 * 2 ^ (min (32 : Int).toNat (IntKind.bits .u64)))) ||| BitVec.ofInt (IntKind.bits .u64) (IntKind.wrap .u64 (List.getD a0 (wi + (IntKind.wrap .i64 (((a1.length : Nat) : Int) - (2 : Int)))).toNat (0 : Int)))).toNat : Nat) : Int))) < (IntKind.wrap .u64 (v1 * a3))) then
     some (.inl (IntKind.wrap .u64 (v1 - (1 : Int)), IntKind.wrap .u64 (v2 + a2)))
   else
     some (.inr v1)
 else
   some (.inr v1)
def Dl (a1 : List Int) (v4 : Int) (v6 : Int) (v7 : List Int) (v8 : Int) (r1 : Int) (wi : Int) (wn : Int) : Option ((Int × Int × Int × (List Int)) ⊕ (Int × (List Int))) :=
 need ((0 : Int) <= v6) <|
 need (v6 < wn) <|
 need ((0 : Int) <= v6) <|
 need (v6 < wn) <|
 need ((0 : Int) <= (63 : Int)) <|
 need ((0 : Int) <= (32 : Int)) <|
 some (.inl (Int.fdiv (IntKind.wrap .u64 ((IntKind.wrap .u64 ((IntKind.wrap .u64 (List.getD v7 (wi + v6).toNat (0 : Int))) - (IntKind.wrap .u64 (IntKind.wrap .u32 v8)))) - v4)) (2 ^ (min (63 : Int).toNat (IntKind.bits .u64))), Int.fdiv v8 (2 ^ (min (32 : Int).toNat (IntKind.bits .u64))), IntKind.wrap .i64 (v6 + (1 : Int)), List.set v7 (wi + v6).toNat (IntKind.wrap .u32 (IntKind.wrap .u64 ((IntKind.wrap .u64 ((IntKind.wrap .u64 (List.getD v7 (wi + v6).toNat (0 : Int))) - (IntKind.wrap .u64 (IntKind.wrap .u32 v8)))) - v4)))))
def Er (a1 : List Int) (r1 : Int) (wi : Int) (wn : Int) (v4 : Int) (v5 : Int) (v6 : Int) (v7 : List Int) : Option ((Int × Int × Int × (List Int)) ⊕ (Int × (List Int))) :=
 if decide (v6 <= ((a1.length : Nat) : Int)) then
   if decide (v6 < ((a1.length : Nat) : Int)) then
     need (Ae v6 a1.length) <|
     Dl a1 v4 v6 v7 (IntKind.wrap .u64 (v5 + (IntKind.wrap .u64 (r1 * (IntKind.wrap .u64 (List.getD a1 v6.toNat (0 : Int))))))) r1 wi wn
   else
     Dl a1 v4 v6 v7 v5 r1 wi wn
 else
   some (.inr (v4, v7))
def Dv (a1 : List Int) (v12 : Int) (v13 : List Int) (v14 : Int) (r1 : Int) (wi : Int) (wn : Int) : Option ((Int × Int × (List Int)) ⊕ (List Int)) :=
 need ((0 : Int) <= v12) <|
 need (v12 < wn) <|
 need ((0 : Int) <= (32 : Int)) <|
 some (.inl (Int.fdiv v14 (2 ^ (min (32 : Int).toNat (IntKind.bits .u64))), IntKind.wrap .i64 (v12 + (1 : Int)), List.set v13 (wi + v12).toNat (IntKind.wrap .u32 v14)))
def Em (a1 : List Int) (r1 : Int) (wi : Int) (wn : Int) (v11 : Int) (v12 : Int) (v13 : List Int) : Option ((Int × Int × (List Int)) ⊕ (List Int)) :=
 if decide (v12 <= ((a1.length : Nat) : Int)) then
   need ((0 : Int) <= v12) <|
   need (v12 < wn) <|
   if decide (v12 < ((a1.length : Nat) : Int)) then
     need (Ae v12 a1.length) <|
     Dv a1 v12 v13 (IntKind.wrap .u64 ((IntKind.wrap .u64 (v11 + (IntKind.wrap .u64 (List.getD v13 (wi + v12).toNat (0 : Int))))) + (IntKind.wrap .u64 (List.getD a1 v12.toNat (0 : Int))))) r1 wi wn
   else
     Dv a1 v12 v13 (IntKind.wrap .u64 (v11 + (IntKind.wrap .u64 (List.getD v13 (wi + v12).toNat (0 : Int))))) r1 wi wn
 else
   some (.inr v13)
def Dk (a0 : List Int) (wi : Int) (wn : Int) (a1 : List Int) (a2 : Int) (a3 : Int) : Option (List Int × Int) :=
 need ((0 : Int) <= ((a1.length : Nat) : Int)) <|
 need (((a1.length : Nat) : Int) < wn) <|
 need ((0 : Int) <= (32 : Int)) <|
 need ((0 : Int) <= (IntKind.wrap .i64 (((a1.length : Nat) : Int) - (1 : Int)))) <|
 need ((IntKind.wrap .i64 (((a1.length : Nat) : Int) - (1 : Int))) < wn) <|
 need (a2 ≠ 0) <|
 Option.bind (Br (λ v : (Int × Int) => Ep a0 a1 a2 a3 wi wn v.1 v.2) ((if (4294967295 : Int) < (IntKind.wrap .u64 (Int.tdiv (IntKind.wrap .u64 ((((BitVec.ofInt (IntKind.bits .u64) (IntKind.wrap .u64 ((IntKind.wrap .u64 (List.getD a0 (wi + ((a1.length : Nat) : Int)).toNat (0 : Int))) * 2 ^ (min (32 : Int).toNat (IntKind.bits .u64)))) ||| BitVec.ofInt (IntKind.bits .u64) (IntKind.wrap .u64 (List.getD a0 (wi + (IntKind.wrap .i64 (((a1.length : Nat) : Int) - (1 : Int)))).toNat (0 : Int)))).toNat : Nat) : Int))) a2)) then (4294967295 : Int) else (IntKind.wrap .u64 (Int.tdiv (IntKind.wrap .u64 ((((BitVec.ofInt (IntKind.bits .u64) (IntKind.wrap .u64 ((IntKind.wrap .u64 (List.getD a0 (wi + ((a1.length : Nat) : Int)).toNat (0 : Int))) * 2 ^ (min (32 : Int).toNat (IntKind.bits .u64)))) ||| BitVec.ofInt (IntKind.bits .u64) (IntKind.wrap .u64 (List.getD a0 (wi + (IntKind.wrap .i64 (((a1.length : Nat) : Int) - (1 : Int)))).toNat (0 : Int)))).toNat : Nat) : Int))) a2))), IntKind.wrap .u64 ((IntKind.wrap .u64 ((((BitVec.ofInt (IntKind.bits .u64) (IntKind.wrap .u64 ((IntKind.wrap .u64 (List.getD a0 (wi + ((a1.length : Nat) : Int)).toNat (0 : Int))) * 2 ^ (min (32 : Int).toNat (IntKind.bits .u64)))) ||| BitVec.ofInt (IntKind.bits .u64) (IntKind.wrap .u64 (List.getD a0 (wi + (IntKind.wrap .i64 (((a1.length : Nat) : Int) - (1 : Int)))).toNat (0 : Int)))).toNat : Nat) : Int))) - (IntKind.wrap .u64 ((if (4294967295 : Int) < (IntKind.wrap .u64 (Int.tdiv (IntKind.wrap .u64 ((((BitVec.ofInt (IntKind.bits .u64) (IntKind.wrap .u64 ((IntKind.wrap .u64 (List.getD a0 (wi + ((a1.length : Nat) : Int)).toNat (0 : Int))) * 2 ^ (min (32 : Int).toNat (IntKind.bits .u64)))) ||| BitVec.ofInt (IntKind.bits .u64) (IntKind.wrap .u64 (List.getD a0 (wi + (IntKind.wrap .i64 (((a1.length : Nat) : Int) - (1 : Int)))).toNat (0 : Int)))).toNat : Nat) : Int))) a2)) then (4294967295 : Int) else (IntKind.wrap .u64 (Int.tdiv (IntKind.wrap .u64 ((((BitVec.ofInt (IntKind.bits .u64) (IntKind.wrap .u64 ((IntKind.wrap .u64 (List.getD a0 (wi + ((a1.length : Nat) : Int)).toNat (0 : Int))) * 2 ^ (min (32 : Int).toNat (IntKind.bits .u64)))) ||| BitVec.ofInt (IntKind.bits .u64) (IntKind.wrap .u64 (List.getD a0 (wi + (IntKind.wrap .i64 (((a1.length : Nat) : Int) - (1 : Int)))).toNat (0 : Int)))).toNat : Nat) : Int))) a2))) * a2))))) λ r1 =>
   Option.bind (Br (λ v : (Int × Int × Int × (List Int)) => Er a1 r1 wi wn v.1 v.2.1 v.2.2.1 v.2.2.2) ((0 : Int), (0 : Int), (0 : Int), a0)) λ r2 =>
     if decide (r2.1 = (0 : Int)) then
       some (r2.2, IntKind.wrap .u32 r1)
     else
       Option.bind (Br (λ v : (Int × Int × (List Int)) => Em a1 r1 wi wn v.1 v.2.1 v.2.2) ((0 : Int), (0 : Int), r2.2)) λ r3 =>
         some (r3, IntKind.wrap .u32 (IntKind.wrap .u64 (r1 - (1 : Int))))
def D4 (a0 : List Int) (a1 : List Int) (v1 : Int) (v2 : Int) (v3 : List Int) : Option ((Int × Int × (List Int)) ⊕ (Int × (List Int))) :=
 if decide ((0 : Int) <= v2) then
   need ((0 : Int) <= (32 : Int)) <|
   need (Ae v2 a0.length) <|
   need (Ae (0 : Int) a1.length) <|
   need ((IntKind.wrap .u64 (List.getD a1 ((0 : Int)).toNat (0 : Int))) ≠ 0) <|
   need (Ae v2 v3.length) <|
   need (Ae (0 : Int) a1.length) <|
   need ((IntKind.wrap .u64 (List.getD a1 ((0 : Int)).toNat (0 : Int))) ≠ 0) <|
   some (.inl (Int.tmod (IntKind.wrap .u64 ((((BitVec.ofInt (IntKind.bits .u64) (IntKind.wrap .u64 (v1 * 2 ^ (min (32 : Int).toNat (IntKind.bits .u64)))) ||| BitVec.ofInt (IntKind.bits .u64) (IntKind.wrap .u64 (List.getD a0 v2.toNat (0 : Int)))).toNat : Nat) : Int))) (IntKind.wrap .u64 (List.getD a1 ((0 : Int)).toNat (0 : Int))), IntKind.wrap .i64 (v2 - (1 : Int)), List.set v3 v2.toNat (IntKind.wrap .u32 (IntKind.wrap .u64 (Int.tdiv (IntKind.wrap .u64 ((((BitVec.ofInt (IntKind.bits .u64) (IntKind.wrap .u64 (v1 * 2 ^ (min (32 : Int).toNat (IntKind.bits .u64)))) ||| BitVec.ofInt (IntKind.bits .u64) (IntKind.wrap .u64 (List.getD a0 v2.toNat (0 : Int)))).toNat : Nat) : Int))) (IntKind.wrap .u64 (List.getD a1 ((0 : Int)).toNat (0 : Int))))))))
 else
   some (.inr (v1, v3))
def D7 (y4 : Int) (y7 : List Int) (v6 : Int) (v7 : Int) (v8 : Int) (v9 : List Int) (v10 : List Int) : Option ((Int × Int × Int × (List Int) × (List Int)) ⊕ ((List Int) × (List Int))) :=
 if decide ((0 : Int) <= v8) then
   need ((0 : Int) <= v8) <|
   need (v8 < (IntKind.wrap .i64 ((IntKind.wrap .i64 (v8 + ((y7.length : Nat) : Int))) + (1 : Int)))) <|
   need ((IntKind.wrap .i64 ((IntKind.wrap .i64 (v8 + ((y7.length : Nat) : Int))) + (1 : Int))) <= ((v9.length : Nat) : Int)) <|
   Option.bind (Dk v9 v8 ((IntKind.wrap .i64 ((IntKind.wrap .i64 (v8 + ((y7.length : Nat) : Int))) + (1 : Int))) - v8) y7 v6 v7) λ y8 =>
   need (y8.1.length = v9.length) <|
   need (Ae v8 v10.length) <|
   some (.inl (v6, v7, IntKind.wrap .i64 (v8 - (1 : Int)), y8.1, List.set v10 v8.toNat y8.2))
 else
   some (.inr (v9, v10))
def C6 (v13 : Int) (v15 : List Int) (r2 : ((List Int) × (List Int))) (y4 : Int) : Option ((Int × (List Int)) ⊕ (List Int)) :=
 some (.inl (IntKind.wrap .i64 (v13 + (1 : Int)), v15))
def D3 (r2 : ((List Int) × (List Int))) (y4 : Int) (v13 : Int) (v14 : List Int) : Option ((Int × (List Int)) ⊕ (List Int)) :=
 if decide (v13 < ((v14.length : Nat) : Int)) then
   need (Ae v13 v14.length) <|
   need ((0 : Int) <= (IntKind.wrap .u64 y4)) <|
   need (Ae v13 v14.length) <|
   if decide ((IntKind.wrap .i64 (v13 + (1 : Int))) < (((List.set v14 v13.toNat (Int.fdiv (List.getD v14 v13.toNat (0 : Int)) (2 ^ (min (IntKind.wrap .u64 y4).toNat (IntKind.bits .u32))))).length : Nat) : Int)) then
     need (Ae v13 (List.set v14 v13.toNat (Int.fdiv (List.getD v14 v13.toNat (0 : Int)) (2 ^ (min (IntKind.wrap .u64 y4).toNat (IntKind.bits .u32))))).length) <|
     need (Ae (IntKind.wrap .i64 (v13 + (1 : Int))) (List.set v14 v13.toNat (Int.fdiv (List.getD v14 v13.toNat (0 : Int)) (2 ^ (min (IntKind.wrap .u64 y4).toNat (IntKind.bits .u32))))).length) <|
     need ((0 : Int) <= (IntKind.wrap .u64 ((32 : Int) - (IntKind.wrap .u64 y4)))) <|
     need (Ae v13 (List.set v14 v13.toNat (Int.fdiv (List.getD v14 v13.toNat (0 : Int)) (2 ^ (min (IntKind.wrap .u64 y4).toNat (IntKind.bits .u32))))).length) <|
     C6 v13 (List.set (List.set v14 v13.toNat (Int.fdiv (List.getD v14 v13.toNat (0 : Int)) (2 ^ (min (IntKind.wrap .u64 y4).toNat (IntKind.bits .u32))))) v13.toNat (IntKind.wrap .u32 ((((BitVec.ofInt (IntKind.bits .u32) (List.getD (List.set v14 v13.toNat (Int.fdiv (List.getD v14 v13.toNat (0 : Int)) (2 ^ (min (IntKind.wrap .u64 y4).toNat (IntKind.bits .u32))))) v13.toNat (0 : Int)) ||| BitVec.ofInt (IntKind.bits .u32) (IntKind.wrap .u32 (IntKind.wrap .u64 ((IntKind.wrap .u64 (List.getD (List.set v14 v13.toNat (Int.fdiv (List.getD v14 v13.toNat (0 : Int)) (2 ^ (min (IntKind.wrap .u64 y4).toNat (IntKind.bits .u32))))) (IntKind.wrap .i64 (v13 + (1 : Int))).toNat (0 : Int))) * 2 ^ (min (IntKind.wrap .u64 ((32 : Int) - (IntKind.wrap .u64 y4))).toNat (IntKind.bits .u64)))))).toNat : Nat) : Int)))) r2 y4
   else
     C6 v13 (List.set v14 v13.toNat (Int.fdiv (List.getD v14 v13.toNat (0 : Int)) (2 ^ (min (IntKind.wrap .u64 y4).toNat (IntKind.bits .u32))))) r2 y4
 else
   some (.inr v14)
def Cn (a0 : List Int) (a1 : List Int) : Option ((List Int) × (List Int)) :=
 Option.bind (C2 a0 a1) λ y1 =>
 if decide (y1 < (0 : Int)) then
   some ([], a0)
 else
   if decide (((a1.length : Nat) : Int) = (1 : Int)) then
     need (0 <= ((a0.length : Nat) : Int)) <|
     need (((a0.length : Nat) : Int) <= ((a0.length : Nat) : Int)) <|
     need (((a0.length : Nat) : Int) * ((4 : Nat) : Int) <= ((As : Nat) : Int)) <|
     Option.bind (Br (λ v : (Int × Int × (List Int)) => D4 a0 a1 v.1 v.2.1 v.2.2) ((0 : Int), IntKind.wrap .i64 (((a0.length : Nat) : Int) - (1 : Int)), List.replicate (((a0.length : Nat) : Int)).toNat (0 : Int))) λ r1 =>
       Option.bind (Bq r1.2) λ y2 =>
       Option.bind (Bq [IntKind.wrap .u32 r1.1]) λ y3 =>
       some (y2, y3)
   else
     need (Ae (IntKind.wrap .i64 (((a1.length : Nat) : Int) - (1 : Int))) a1.length) <|
     Option.bind (C3 (List.getD a1 (IntKind.wrap .i64 (((a1.length : Nat) : Int) - (1 : Int))).toNat (0 : Int))) λ y4 =>
     Option.bind (Cl a0 (IntKind.wrap .u64 y4)) λ y5 =>
     Option.bind (Cl a1 (IntKind.wrap .u64 y4)) λ y6 =>
     Option.bind (Bq y6) λ y7 =>
     need (0 <= (IntKind.wrap .i64 (((y5.length : Nat) : Int) - ((y7.length : Nat) : Int)))) <|
     need ((IntKind.wrap .i64 (((y5.length : Nat) : Int) - ((y7.length : Nat) : Int))) <= (IntKind.wrap .i64 (((y5.length : Nat) : Int) - ((y7.length : Nat) : Int)))) <|
     need ((IntKind.wrap .i64 (((y5.length : Nat) : Int) - ((y7.length : Nat) : Int))) * ((4 : Nat) : Int) <= ((As : Nat) : Int)) <|
     need (Ae (IntKind.wrap .i64 (((y7.length : Nat) : Int) - (1 : Int))) y7.length) <|
     need (Ae (IntKind.wrap .i64 (((y7.length : Nat) : Int) - (2 : Int))) y7.length) <|
     Option.bind (Br (λ v : (Int × Int × Int × (List Int) × (List Int)) => D7 y4 y7 v.1 v.2.1 v.2.2.1 v.2.2.2.1 v.2.2.2.2) (IntKind.wrap .u64 (List.getD y7 (IntKind.wrap .i64 (((y7.length : Nat) : Int) - (1 : Int))).toNat (0 : Int)), IntKind.wrap .u64 (List.getD y7 (IntKind.wrap .i64 (((y7.length : Nat) : Int) - (2 : Int))).toNat (0 : Int)), IntKind.wrap .i64 ((((List.replicate (IntKind.wrap .i64 (((y5.length : Nat) : Int) - ((y7.length : Nat) : Int))).toNat (0 : Int)).length : Nat) : Int) - (1 : Int)), y5, List.replicate (IntKind.wrap .i64 (((y5.length : Nat) : Int) - ((y7.length : Nat) : Int))).toNat (0 : Int))) λ r2 =>
       Option.bind (Bq r2.1) λ y9 =>
       Option.bind (Br (λ v : (Int × (List Int)) => D3 r2 y4 v.1 v.2) ((0 : Int), y9)) λ r3 =>
         Option.bind (Bq r2.2) λ y10 =>
         Option.bind (Bq r3) λ y11 =>
         some (y10, y11)
def Eu (v1 : List Int) (v2 : List Int) : Option (((List Int) × (List Int)) ⊕ (List Int)) :=
 if decide ((0 : Int) < ((v2.length : Nat) : Int)) then
   Option.bind (Cn v1 v2) λ y1 =>
   some (.inl (v2, y1.2))
 else
   some (.inr v1)
def C4 (a0 : List Int) (a1 : List Int) : Option (List Int) :=
 Option.bind (Br (λ v : ((List Int) × (List Int)) => Eu v.1 v.2) (a0, a1)) λ r1 =>
   some r1
def Db (v5 : List Int) (v6 : Bool) (v7 : List Int) (v8 : Bool) : Option Ag :=
 some (⟨(⟨v5, v6⟩ : Af), (⟨v7, v8⟩ : Af)⟩ : Ag)
def C5 (v1 : List Int) (v2 : Bool) (v3 : List Int) (v4 : Bool) (y5 : List Int) : Option Ag :=
 Option.bind (Cn v1 y5) λ y6 =>
 Option.bind (Cn v3 y5) λ y7 =>
 Option.bind (Bu y6.1 v2) λ y8 =>
 Option.bind (Bu y7.1 false) λ y9 =>
 Db y8.d y8.minus y9.d y9.minus
def Da (v1 : List Int) (v2 : Bool) (v3 : List Int) (v4 : Bool) : Option Ag :=
 Option.bind (B4 (⟨v3, v4⟩ : Af)) λ y4 =>
 if y4 then
   some (⟨(⟨v1, v2⟩ : Af), (⟨v3, v4⟩ : Af)⟩ : Ag)
 else
   Option.bind (C4 v1 v3) λ y5 =>
   if !decide (((y5.length : Nat) : Int) = (1 : Int)) then
     C5 v1 v2 v3 v4 y5
   else
     need (Ae (0 : Int) y5.length) <|
     if !decide ((List.getD y5 ((0 : Int)).toNat (0 : Int)) = (1 : Int)) then
       C5 v1 v2 v3 v4 y5
     else
       Db v1 v2 v3 v4
def Ca (a0 : Af) (a1 : Af) : Option Ag :=
 Option.bind (Bp a1) λ y1 =>
 if y1 then
   some (⟨(⟨[], false⟩ : Af), (⟨[], false⟩ : Af)⟩ : Ag)
 else
   if a1.minus then
     Option.bind (Cf a0) λ y2 =>
     Option.bind (Cf a1) λ y3 =>
     Da y2.d y2.minus y3.d y3.minus
   else
     Da a0.d a0.minus a1.d a1.minus
def C9 (a0 : Int) (v1 : Int) : Option Af :=
 need ((0 : Int) <= (32 : Int)) <|
 Option.bind (Bq [IntKind.wrap .u32 v1, IntKind.wrap .u32 (Int.fdiv v1 (2 ^ (min (32 : Int).toNat (IntKind.bits .u64))))]) λ y1 =>
 some (⟨y1, decide (a0 < (0 : Int))⟩ : Af)
def Co (a0 : Int) : Option Af :=
 if decide (a0 < (0 : Int)) then
   C9 a0 (IntKind.wrap .u64 (0 - (IntKind.wrap .u64 a0)))
 else
   C9 a0 (IntKind.wrap .u64 a0)
def Dw (a0 : A7) : Option Ag :=
 Option.bind (Co a0.N) λ y1 =>
 Option.bind (Co a0.D) λ y2 =>
 Option.bind (Ca y1 y2) λ y3 =>
 some y3
def C8 : Option Af :=
 some (⟨[(1 : Int)], false⟩ : Af)
def By (a0 : Ag) : Option Af :=
 Option.bind (Bp a0.d) λ y1 =>
 if y1 then
   Option.bind C8 λ y2 =>
   some y2
 else
   some a0.d
def D6 (a0 : List Int) (a1 : List Int) (v1 : Int) (v3 : Int) (v4 : Int) (v5 : List Int) : Option ((Int × Int × (List Int)) ⊕ (Int × (List Int))) :=
 if decide (v4 < ((a1.length : Nat) : Int)) then
   need (Ae v1 a0.length) <|
   need (Ae v4 a1.length) <|
   need (Ae (IntKind.wrap .i64 (v1 + v4)) v5.length) <|
   need (Ae (IntKind.wrap .i64 (v1 + v4)) v5.length) <|
   need ((0 : Int) <= (32 : Int)) <|
   some (.inl (Int.fdiv (IntKind.wrap .u64 (v3 + (IntKind.wrap .u64 ((IntKind.wrap .u64 ((IntKind.wrap .u64 (List.getD a0 v1.toNat (0 : Int))) * (IntKind.wrap .u64 (List.getD a1 v4.toNat (0 : Int))))) + (IntKind.wrap .u64 (List.getD v5 (IntKind.wrap .i64 (v1 + v4)).toNat (0 : Int))))))) (2 ^ (min (32 : Int).toNat (IntKind.bits .u64))), IntKind.wrap .i64 (v4 + (1 : Int)), List.set v5 (IntKind.wrap .i64 (v1 + v4)).toNat (IntKind.wrap .u32 (IntKind.wrap .u64 (v3 + (IntKind.wrap .u64 ((IntKind.wrap .u64 ((IntKind.wrap .u64 (List.getD a0 v1.toNat (0 : Int))) * (IntKind.wrap .u64 (List.getD a1 v4.toNat (0 : Int))))) + (IntKind.wrap .u64 (List.getD v5 (IntKind.wrap .i64 (v1 + v4)).toNat (0 : Int))))))))))
 else
   some (.inr (v3, v5))
def D5 (a0 : List Int) (a1 : List Int) (v1 : Int) (v2 : List Int) : Option ((Int × (List Int)) ⊕ (List Int)) :=
 if decide (v1 < ((a0.length : Nat) : Int)) then
   Option.bind (Br (λ v : (Int × Int × (List Int)) => D6 a0 a1 v1 v.1 v.2.1 v.2.2) ((0 : Int), (0 : Int), v2)) λ r1 =>
     need (Ae (IntKind.wrap .i64 (v1 + ((a1.length : Nat) : Int))) r1.2.length) <|
     some (.inl (IntKind.wrap .i64 (v1 + (1 : Int)), List.set r1.2 (IntKind.wrap .i64 (v1 + ((a1.length : Nat) : Int))).toNat (IntKind.wrap .u32 r1.1)))
 else
   some (.inr v2)
def D1 (a0 : List Int) (a1 : List Int) : Option (List Int) :=
 need (0 <= (IntKind.wrap .i64 (((a0.length : Nat) : Int) + ((a1.length : Nat) : Int)))) <|
 need ((IntKind.wrap .i64 (((a0.length : Nat) : Int) + ((a1.length : Nat) : Int))) <= (IntKind.wrap .i64 (((a0.length : Nat) : Int) + ((a1.length : Nat) : Int)))) <|
 need ((IntKind.wrap .i64 (((a0.length : Nat) : Int) + ((a1.length : Nat) : Int))) * ((4 : Nat) : Int) <= ((As : Nat) : Int)) <|
 Option.bind (Br (λ v : (Int × (List Int)) => D5 a0 a1 v.1 v.2) ((0 : Int), List.replicate (IntKind.wrap .i64 (((a0.length : Nat) : Int) + ((a1.length : Nat) : Int))).toNat (0 : Int))) λ r2 =>
   Option.bind (Bq r2) λ y1 =>
   some y1
def Bk (a0 : Af) (a1 : Af) : Option Af :=
 Option.bind (D1 a0.d a1.d) λ y1 =>
 Option.bind (Bu y1 (!(a0.minus == a1.minus))) λ y2 =>
 some y2
def Dp (a0 : Ag) (a1 : Ag) (y1 : Af) (y2 : Af) : Option Ag :=
 Option.bind (Bk a0.n a1.n) λ y6 =>
 Option.bind (Bk y1 y2) λ y7 =>
 Option.bind (Ca y6 y7) λ y8 =>
 some y8
def Eh (a0 : Ag) (a1 : Ag) : Option Ag :=
 Option.bind (By a0) λ y1 =>
 Option.bind (By a1) λ y2 =>
 Option.bind (B4 y1) λ y3 =>
 if y3 then
   Option.bind (B4 y2) λ y4 =>
   if y4 then
     Option.bind (Bk a0.n a1.n) λ y5 =>
     some (⟨y5, y1⟩ : Ag)
   else
     Dp a0 a1 y1 y2
 else
   Dp a0 a1 y1 y2
def Df : Option Bool :=
 some false
def Gi (v2 : Int) (v3 : Int) : Option ((Int × Int) ⊕ Int) :=
 if decide ((0 : Int) < v3) then
   need (v3 ≠ 0) <|
   some (.inl (v3, Int.tmod v2 v3))
 else
   some (.inr v2)
def Eg (a0 : A7) (v1 : Int) : Option Bool :=
 Option.bind (Br (λ v : (Int × Int) => Gi v.1 v.2) (v1, a0.D)) λ r1 =>
   some (decide (r1 = (1 : Int)))
def Ei (a0 : A7) : Option Bool :=
 if decide (a0.D < (1 : Int)) then
   Df
 else
   if decide ((1000000000000 : Int) < a0.D) then
     Df
   else
     if decide (a0.N < (-1000000000000 : Int)) then
       Df
     else
       if decide ((1000000000000 : Int) < a0.N) then
         Df
       else
         if decide (a0.N < (0 : Int)) then
           Eg a0 (IntKind.wrap .i64 (0 - a0.N))
         else
           Eg a0 a0.N
def C7 : Option Int :=
 some (1 : Int)
def Bm : Option (Int ⊕ (Unit ⊕ Int)) :=
 some (.inr (.inr (1 : Int)))
def Ea (a0 : Ah) (v1 : Int) : Option (Int ⊕ (Unit ⊕ Int)) :=
 if decide (v1 < ((a0.Arms.length : Nat) : Int)) then
   need (Ae v1 a0.Arms.length) <|
   if decide (((List.getD a0.Arms v1.toNat Aa).A) < (0 : Int)) then
     Bm
   else
     if decide (a0.Nodes <= ((List.getD a0.Arms v1.toNat Aa).A)) then
       Bm
     else
       if decide (((List.getD a0.Arms v1.toNat Aa).B) < (0 : Int)) then
         Bm
       else
         if decide (a0.Nodes <= ((List.getD a0.Arms v1.toNat Aa).B)) then
           Bm
         else
           Option.bind (Ei ((List.getD a0.Arms v1.toNat Aa).R)) λ y1 =>
           if !y1 then
             Bm
           else
             if decide ((((List.getD a0.Arms v1.toNat Aa).R).N) <= (0 : Int)) then
               Bm
             else
               Option.bind (Ei ((List.getD a0.Arms v1.toNat Aa).E)) λ y2 =>
               if !y2 then
                 Bm
               else
                 some (.inl (IntKind.wrap .i64 (v1 + (1 : Int))))
 else
   some (.inr (.inl ()))
def Cz (a0 : Ah) : Option Int :=
 if decide ((40 : Int) < ((a0.Arms.length : Nat) : Int)) then
   some (3 : Int)
 else
   if decide (a0.Nodes < (1 : Int)) then
     C7
   else
     if decide ((12 : Int) < a0.Nodes) then
       C7
     else
       Option.bind (Br (λ v : Int => Ea a0 v) (0 : Int)) λ r =>
       match r with
       | .inl r1 =>
         some (0 : Int)
       | .inr r2 =>
         some r2
def Ch (a0 : Int) (a1 : Int) : Option Int :=
 if decide (a1 < a0) then
   some (IntKind.wrap .i64 (a0 - (1 : Int)))
 else
   some a0
def Di (a0 : Ag) (a1 : Ag) : Option Ag :=
 Option.bind (By a1) λ y1 =>
 Option.bind (Bk a0.n y1) λ y2 =>
 Option.bind (By a0) λ y3 =>
 Option.bind (Bk y3 a1.n) λ y4 =>
 Option.bind (Ca y2 y4) λ y5 =>
 some y5
def Ey (a0 : Int) : Option Ag :=
 Option.bind (Co a0) λ y1 =>
 Option.bind C8 λ y2 =>
 some (⟨y1, y2⟩ : Ag)
def Dh (a0 : Ag) : Option Ag :=
 Option.bind (Ey (1 : Int)) λ y1 =>
 Option.bind (Di y1 a0) λ y2 =>
 some y2
def Cd (a0 : List Int) (a1 : List Int) (v2 : Int) (v3 : List Int) (v5 : Int) : Option ((Int × Int × (List Int)) ⊕ (Int × (List Int))) :=
 need ((v3.length + [IntKind.wrap .u32 v5].length) * 4 <= As) <|
 need ((0 : Int) <= (32 : Int)) <|
 some (.inl (Int.fdiv v5 (2 ^ (min (32 : Int).toNat (IntKind.bits .u64))), IntKind.wrap .i64 (v2 + (1 : Int)), v3 ++ [IntKind.wrap .u32 v5]))
def Dq (a0 : List Int) (a1 : List Int) (v2 : Int) (v3 : List Int) (v4 : Int) : Option ((Int × Int × (List Int)) ⊕ (Int × (List Int))) :=
 if decide (v2 < ((a1.length : Nat) : Int)) then
   need (Ae v2 a1.length) <|
   Cd a0 a1 v2 v3 (IntKind.wrap .u64 (v4 + (IntKind.wrap .u64 (List.getD a1 v2.toNat (0 : Int)))))
 else
   Cd a0 a1 v2 v3 v4
def Dt (a0 : List Int) (a1 : List Int) (v1 : Int) (v2 : Int) (v3 : List Int) : Option ((Int × Int × (List Int)) ⊕ (Int × (List Int))) :=
 if decide (v2 < ((a0.length : Nat) : Int)) then
   need (Ae v2 a0.length) <|
   Dq a0 a1 v2 v3 (IntKind.wrap .u64 (v1 + (IntKind.wrap .u64 (List.getD a0 v2.toNat (0 : Int)))))
 else
   Dq a0 a1 v2 v3 v1
def Fh (a0 : List Int) (a1 : List Int) (v1 : Int) (v2 : Int) (v3 : List Int) : Option ((Int × Int × (List Int)) ⊕ (Int × (List Int))) :=
 if decide (v2 < ((a0.length : Nat) : Int)) then
   Dt a0 a1 v1 v2 v3
 else
   if decide (v2 < ((a1.length : Nat) : Int)) then
     Dt a0 a1 v1 v2 v3
   else
     some (.inr (v1, v3))
def D9 (a0 : List Int) (a1 : List Int) : Option (List Int) :=
 need (0 <= (0 : Int)) <|
 need ((0 : Int) <= (IntKind.wrap .i64 ((if ((a0.length : Nat) : Int) < ((a1.length : Nat) : Int) then ((a1.length : Nat) : Int) else ((a0.length : Nat) : Int)) + (1 : Int)))) <|
 need ((IntKind.wrap .i64 ((if ((a0.length : Nat) : Int) < ((a1.length : Nat) : Int) then ((a1.length : Nat) : Int) else ((a0.length : Nat) : Int)) + (1 : Int))) * ((4 : Nat) : Int) <= ((As : Nat) : Int)) <|
 Option.bind (Br (λ v : (Int × Int × (List Int)) => Fh a0 a1 v.1 v.2.1 v.2.2) ((0 : Int), (0 : Int), [])) λ r1 =>
   need ((r1.2.length + [IntKind.wrap .u32 r1.1].length) * 4 <= As) <|
   Option.bind (Bq (r1.2 ++ [IntKind.wrap .u32 r1.1])) λ y1 =>
   some y1
def Du (a0 : List Int) (a1 : List Int) (v2 : Int) (v3 : List Int) (v4 : Int) : Option ((Int × Int × (List Int)) ⊕ (List Int)) :=
 need ((v3.length + [IntKind.wrap .u32 v4].length) * 4 <= As) <|
 need ((0 : Int) <= (63 : Int)) <|
 some (.inl (Int.fdiv v4 (2 ^ (min (63 : Int).toNat (IntKind.bits .u64))), IntKind.wrap .i64 (v2 + (1 : Int)), v3 ++ [IntKind.wrap .u32 v4]))
def Fj (a0 : List Int) (a1 : List Int) (v1 : Int) (v2 : Int) (v3 : List Int) : Option ((Int × Int × (List Int)) ⊕ (List Int)) :=
 if decide (v2 < ((a0.length : Nat) : Int)) then
   need (Ae v2 a0.length) <|
   if decide (v2 < ((a1.length : Nat) : Int)) then
     need (Ae v2 a1.length) <|
     Du a0 a1 v2 v3 (IntKind.wrap .u64 ((IntKind.wrap .u64 ((IntKind.wrap .u64 (List.getD a0 v2.toNat (0 : Int))) - v1)) - (IntKind.wrap .u64 (List.getD a1 v2.toNat (0 : Int)))))
   else
     Du a0 a1 v2 v3 (IntKind.wrap .u64 ((IntKind.wrap .u64 (List.getD a0 v2.toNat (0 : Int))) - v1))
 else
   some (.inr v3)
def Dj (a0 : List Int) (a1 : List Int) : Option (List Int) :=
 need (0 <= (0 : Int)) <|
 need ((0 : Int) <= ((a0.length : Nat) : Int)) <|
 need (((a0.length : Nat) : Int) * ((4 : Nat) : Int) <= ((As : Nat) : Int)) <|
 Option.bind (Br (λ v : (Int × Int × (List Int)) => Fj a0 a1 v.1 v.2.1 v.2.2) ((0 : Int), (0 : Int), [])) λ r1 =>
   Option.bind (Bq r1) λ y1 =>
   some y1
def Cg (a0 : Af) (a1 : Af) : Option Af :=
 if (a0.minus == a1.minus) then
   Option.bind (D9 a0.d a1.d) λ y1 =>
   Option.bind (Bu y1 a0.minus) λ y2 =>
   some y2
 else
   Option.bind (C2 a0.d a1.d) λ y3 =>
   if decide ((0 : Int) <= y3) then
     Option.bind (Dj a0.d a1.d) λ y4 =>
     Option.bind (Bu y4 a0.minus) λ y5 =>
     some y5
   else
     Option.bind (Dj a1.d a0.d) λ y6 =>
     Option.bind (Bu y6 a1.minus) λ y7 =>
     some y7
def Dn (a0 : Ag) (a1 : Ag) (y1 : Af) (y2 : Af) : Option Ag :=
 Option.bind (Bk a0.n y2) λ y6 =>
 Option.bind (Bk a1.n y1) λ y7 =>
 Option.bind (Cg y6 y7) λ y8 =>
 Option.bind (Bk y1 y2) λ y9 =>
 Option.bind (Ca y8 y9) λ y10 =>
 some y10
def Dg (a0 : Ag) (a1 : Ag) : Option Ag :=
 Option.bind (By a0) λ y1 =>
 Option.bind (By a1) λ y2 =>
 Option.bind (B4 y1) λ y3 =>
 if y3 then
   Option.bind (B4 y2) λ y4 =>
   if y4 then
     Option.bind (Cg a0.n a1.n) λ y5 =>
     some (⟨y5, y1⟩ : Ag)
   else
     Dn a0 a1 y1 y2
 else
   Dn a0 a1 y1 y2
def Cm (a0 : Ag) : Option Bool :=
 Option.bind (Bp a0.n) λ y1 =>
 some y1
def Dx (a0 : Af) (v1 : Int) (v2 : Int) : Option ((Int × Int) ⊕ Int) :=
 if decide (v2 < ((a0.d.length : Nat) : Int)) then
   need (Ae v2 a0.d.length) <|
   need ((0 : Int) <= (IntKind.wrap .u64 ((32 : Int) * (IntKind.wrap .u64 v2)))) <|
   some (.inl (IntKind.wrap .u64 ((((BitVec.ofInt (IntKind.bits .u64) v1 ||| BitVec.ofInt (IntKind.bits .u64) (IntKind.wrap .u64 ((IntKind.wrap .u64 (List.getD a0.d v2.toNat (0 : Int))) * 2 ^ (min (IntKind.wrap .u64 ((32 : Int) * (IntKind.wrap .u64 v2))).toNat (IntKind.bits .u64))))).toNat : Nat) : Int)), IntKind.wrap .i64 (v2 + (1 : Int))))
 else
   some (.inr v1)
def B6 (a0 : Af) : Option (Int × Bool) :=
 if decide ((2 : Int) < ((a0.d.length : Nat) : Int)) then
   some ((0 : Int), false)
 else
   Option.bind (Br (λ v : (Int × Int) => Dx a0 v.1 v.2) ((0 : Int), (0 : Int))) λ r1 =>
     if a0.minus then
       some (IntKind.wrap .i64 (IntKind.wrap .u64 (0 - r1)), decide (r1 <= (9223372036854775808 : Int)))
     else
       some (IntKind.wrap .i64 r1, decide (r1 < (9223372036854775808 : Int)))
def Cp : Option (A7 × Bool) :=
 some ((⟨(0 : Int), (0 : Int)⟩ : A7), false)
def Ew (a0 : Ag) : Option (A7 × Bool) :=
 Option.bind (B6 a0.n) λ y1 =>
 Option.bind (By a0) λ y2 =>
 Option.bind (B6 y2) λ y3 =>
 if !y1.2 then
   Cp
 else
   if !y3.2 then
     Cp
   else
     if decide (y1.1 < (-1000000000000 : Int)) then
       Cp
     else
       if decide ((1000000000000 : Int) < y1.1) then
         Cp
       else
         if decide ((1000000000000 : Int) < y3.1) then
           Cp
         else
           some ((⟨y1.1, y3.1⟩ : A7), true)
def Dm : Option (Ah × Int) :=
 some ((⟨(0 : Int), []⟩ : Ah), (1 : Int))
def El (a0 : Ah) (a1 : Int) (v1 : Int) (v7 : List Aq) (v8 : List Int) (v9 : Bool) (v10 : List Int) (v11 : Bool) (v12 : List Ag) : Option ((Int × (List Int) × Bool × (List Int) × Bool × (List Ag) × (List Aq)) ⊕ (((List Int) × Bool × (List Int) × Bool × (List Ag) × (List Aq)) ⊕ (Ah × Int))) :=
 some (.inl (IntKind.wrap .i64 (v1 + (1 : Int)), v8, v9, v10, v11, v12, v7))
def Dr (a0 : Ah) (a1 : Int) (v1 : Int) (v2 : List Int) (v3 : Bool) (v4 : List Int) (v5 : Bool) (v6 : List Ag) (v7 : List Aq) : Option ((Int × (List Int) × Bool × (List Int) × Bool × (List Ag) × (List Aq)) ⊕ (((List Int) × Bool × (List Int) × Bool × (List Ag) × (List Aq)) ⊕ (Ah × Int))) :=
 if !decide ((((List.getD a0.Arms v1.toNat Aa).E).N) = (0 : Int)) then
   some (.inr (.inr ((⟨(0 : Int), []⟩ : Ah), (7 : Int))))
 else
   if !decide ((IntKind.wrap .i64 ((IntKind.wrap .i64 (((List.getD a0.Arms v1.toNat Aa).A) + ((List.getD a0.Arms v1.toNat Aa).B))) - a1)) = a1) then
     Option.bind (Dw ((List.getD a0.Arms v1.toNat Aa).R)) λ y4 =>
     Option.bind (Dh y4) λ y5 =>
     need (Ae (IntKind.wrap .i64 ((IntKind.wrap .i64 (((List.getD a0.Arms v1.toNat Aa).A) + ((List.getD a0.Arms v1.toNat Aa).B))) - a1)) v6.length) <|
     Option.bind (Dg (⟨((List.getD v6 (IntKind.wrap .i64 ((IntKind.wrap .i64 (((List.getD a0.Arms v1.toNat Aa).A) + ((List.getD a0.Arms v1.toNat Aa).B))) - a1)).toNat Bt).n), ((List.getD v6 (IntKind.wrap .i64 ((IntKind.wrap .i64 (((List.getD a0.Arms v1.toNat Aa).A) + ((List.getD a0.Arms v1.toNat Aa).B))) - a1)).toNat Bt).d)⟩ : Ag) y5) λ y6 =>
     Option.bind (Dg (⟨(⟨v2, v3⟩ : Af), (⟨v4, v5⟩ : Af)⟩ : Ag) y5) λ y7 =>
     need (Ae (IntKind.wrap .i64 ((IntKind.wrap .i64 (((List.getD a0.Arms v1.toNat Aa).A) + ((List.getD a0.Arms v1.toNat Aa).B))) - a1)) v6.length) <|
     El a0 a1 v1 v7 y7.n.d y7.n.minus y7.d.d y7.d.minus (List.set v6 (IntKind.wrap .i64 ((IntKind.wrap .i64 (((List.getD a0.Arms v1.toNat Aa).A) + ((List.getD a0.Arms v1.toNat Aa).B))) - a1)).toNat y6)
   else
     El a0 a1 v1 v7 v2 v3 v4 v5 v6
def Ek (a0 : Ah) (a1 : Int) (v1 : Int) (v2 : List Int) (v3 : Bool) (v4 : List Int) (v5 : Bool) (v6 : List Ag) (v7 : List Aq) : Option ((Int × (List Int) × Bool × (List Int) × Bool × (List Ag) × (List Aq)) ⊕ (((List Int) × Bool × (List Int) × Bool × (List Ag) × (List Aq)) ⊕ (Ah × Int))) :=
 if decide (v1 < ((a0.Arms.length : Nat) : Int)) then
   need (Ae v1 a0.Arms.length) <|
   if !decide (((List.getD a0.Arms v1.toNat Aa).A) = a1) then
     if !decide (((List.getD a0.Arms v1.toNat Aa).B) = a1) then
       Option.bind (Ch ((List.getD a0.Arms v1.toNat Aa).A) a1) λ y2 =>
       Option.bind (Ch ((List.getD a0.Arms v1.toNat Aa).B) a1) λ y3 =>
       need ((v7.length + [(⟨y2, y3, ((List.getD a0.Arms v1.toNat Aa).R), ((List.getD a0.Arms v1.toNat Aa).E)⟩ : Aq)].length) * 48 <= As) <|
       some (.inl (IntKind.wrap .i64 (v1 + (1 : Int)), v2, v3, v4, v5, v6, v7 ++ [(⟨y2, y3, ((List.getD a0.Arms v1.toNat Aa).R), ((List.getD a0.Arms v1.toNat Aa).E)⟩ : Aq)]))
     else
       Dr a0 a1 v1 v2 v3 v4 v5 v6 v7
   else
     Dr a0 a1 v1 v2 v3 v4 v5 v6 v7
 else
   some (.inr (.inl (v2, v3, v4, v5, v6, v7)))
def Ds (a0 : Ah) (a1 : Int) (v19 : Int) (v21 : Int) (v22 : List Aq) (r1 : ((List Int) × Bool × (List Int) × Bool × (List Ag) × (List Aq))) : Option ((Int × (List Aq)) ⊕ ((List Aq) ⊕ (Ah × Int))) :=
 some (.inl (IntKind.wrap .i64 (v21 + (1 : Int)), v22))
def En (a0 : Ah) (a1 : Int) (v19 : Int) (r1 : ((List Int) × Bool × (List Int) × Bool × (List Ag) × (List Aq))) (v21 : Int) (v22 : List Aq) : Option ((Int × (List Aq)) ⊕ ((List Aq) ⊕ (Ah × Int))) :=
 if decide (v21 < a0.Nodes) then
   need (Ae v19 r1.2.2.2.2.1.length) <|
   Option.bind (Cm (⟨((List.getD r1.2.2.2.2.1 v19.toNat Bt).n), ((List.getD r1.2.2.2.2.1 v19.toNat Bt).d)⟩ : Ag)) λ y8 =>
   if y8 then
     Ds a0 a1 v19 v21 v22 r1
   else
     need (Ae v21 r1.2.2.2.2.1.length) <|
     Option.bind (Cm (⟨((List.getD r1.2.2.2.2.1 v21.toNat Bt).n), ((List.getD r1.2.2.2.2.1 v21.toNat Bt).d)⟩ : Ag)) λ y9 =>
     if y9 then
       Ds a0 a1 v19 v21 v22 r1
     else
       need (Ae v19 r1.2.2.2.2.1.length) <|
       need (Ae v21 r1.2.2.2.2.1.length) <|
       Option.bind (Eh (⟨((List.getD r1.2.2.2.2.1 v19.toNat Bt).n), ((List.getD r1.2.2.2.2.1 v19.toNat Bt).d)⟩ : Ag) (⟨((List.getD r1.2.2.2.2.1 v21.toNat Bt).n), ((List.getD r1.2.2.2.2.1 v21.toNat Bt).d)⟩ : Ag)) λ y10 =>
       Option.bind (Di (⟨(⟨r1.1, r1.2.1⟩ : Af), (⟨r1.2.2.1, r1.2.2.2.1⟩ : Af)⟩ : Ag) y10) λ y11 =>
       Option.bind (Ew y11) λ y12 =>
       if !y12.2 then
         some (.inr (.inr ((⟨(0 : Int), []⟩ : Ah), (3 : Int))))
       else
         Option.bind (Ch v19 a1) λ y13 =>
         Option.bind (Ch v21 a1) λ y14 =>
         need ((v22.length + [(⟨y13, y14, y12.1, (⟨(0 : Int), (1 : Int)⟩ : A7)⟩ : Aq)].length) * 48 <= As) <|
         some (.inl (IntKind.wrap .i64 (v21 + (1 : Int)), v22 ++ [(⟨y13, y14, y12.1, (⟨(0 : Int), (1 : Int)⟩ : A7)⟩ : Aq)]))
 else
   some (.inr (.inl v22))
def Ej (a0 : Ah) (a1 : Int) (r1 : ((List Int) × Bool × (List Int) × Bool × (List Ag) × (List Aq))) (v19 : Int) (v20 : List Aq) : Option ((Int × (List Aq)) ⊕ ((List Aq) ⊕ (Ah × Int))) :=
 if decide (v19 < a0.Nodes) then
   Option.bind (Br (λ v : (Int × (List Aq)) => En a0 a1 v19 r1 v.1 v.2) (IntKind.wrap .i64 (v19 + (1 : Int)), v20)) λ r =>
   match r with
   | .inl r2 =>
     some (.inl (IntKind.wrap .i64 (v19 + (1 : Int)), r2))
   | .inr r3 =>
     some (.inr (.inr r3))
 else
   some (.inr (.inl v20))
def Eb (a0 : Ah) (a1 : Int) : Option (Ah × Int) :=
 Option.bind (Cz a0) λ y1 =>
 if !decide (y1 = (0 : Int)) then
   some ((⟨(0 : Int), []⟩ : Ah), y1)
 else
   if decide (a1 < (0 : Int)) then
     Dm
   else
     if decide (a0.Nodes <= a1) then
       Dm
     else
       if decide (a0.Nodes = (1 : Int)) then
         Dm
       else
         need (0 <= a0.Nodes) <|
         need (a0.Nodes <= a0.Nodes) <|
         need (a0.Nodes * ((64 : Nat) : Int) <= ((As : Nat) : Int)) <|
         Option.bind (Br (λ v : (Int × (List Int) × Bool × (List Int) × Bool × (List Ag) × (List Aq)) => Ek a0 a1 v.1 v.2.1 v.2.2.1 v.2.2.2.1 v.2.2.2.2.1 v.2.2.2.2.2.1 v.2.2.2.2.2.2) ((0 : Int), [], false, [], false, List.replicate (a0.Nodes).toNat (⟨(⟨[], false⟩ : Af), (⟨[], false⟩ : Af)⟩ : Ag), [])) λ r =>
         match r with
         | .inl r1 =>
           Option.bind (Br (λ v : (Int × (List Aq)) => Ej a0 a1 r1 v.1 v.2) ((0 : Int), r1.2.2.2.2.2)) λ r =>
           match r with
           | .inl r4 =>
             if decide ((40 : Int) < ((r4.length : Nat) : Int)) then
               some ((⟨(0 : Int), []⟩ : Ah), (3 : Int))
             else
               some ((⟨IntKind.wrap .i64 (a0.Nodes - (1 : Int)), r4⟩ : Ah), (0 : Int))
           | .inr r5 =>
             some r5
         | .inr r6 =>
           some r6
def Ee (a0 : Ah) (a1 : Ah) (v1 : Int) : Option (Int ⊕ (Unit ⊕ Bool)) :=
 if decide (v1 < ((a0.Arms.length : Nat) : Int)) then
   if decide (v1 < ((a1.Arms.length : Nat) : Int)) then
     need (Ae v1 a0.Arms.length) <|
     need (Ae v1 a1.Arms.length) <|
     if !(decide (((List.getD a0.Arms v1.toNat Aa).A) = ((List.getD a1.Arms v1.toNat Aa).A)) && (decide (((List.getD a0.Arms v1.toNat Aa).B) = ((List.getD a1.Arms v1.toNat Aa).B)) && (decide ((((List.getD a0.Arms v1.toNat Aa).R).N) = (((List.getD a1.Arms v1.toNat Aa).R).N)) && (decide ((((List.getD a0.Arms v1.toNat Aa).R).D) = (((List.getD a1.Arms v1.toNat Aa).R).D)) && (decide ((((List.getD a0.Arms v1.toNat Aa).E).N) = (((List.getD a1.Arms v1.toNat Aa).E).N)) && (decide ((((List.getD a0.Arms v1.toNat Aa).E).D) = (((List.getD a1.Arms v1.toNat Aa).E).D)) && true)))))) then
       some (.inr (.inr false))
     else
       some (.inl (IntKind.wrap .i64 (v1 + (1 : Int))))
   else
     some (.inr (.inl ()))
 else
   some (.inr (.inl ()))
def Cx (a0 : Ah) (a1 : Ah) : Option Bool :=
 Option.bind (Br (λ v : Int => Ee a0 a1 v) (0 : Int)) λ r =>
 match r with
 | .inl r1 =>
   if decide (a0.Nodes = a1.Nodes) then
     some (decide (((a0.Arms.length : Nat) : Int) = ((a1.Arms.length : Nat) : Int)))
   else
     some false
 | .inr r2 =>
   some r2
def Ec : Option Bool :=
 some false
def Bl : Option Bool :=
 Option.bind Cq λ y4 =>
 some y4
def Ck : Option Bool :=
 Option.bind Cq λ y7 =>
 some y7
def Cj (v1 : Int) (v2 : Int) (y1 : (Ah × Int)) (y5 : (A7 × Int)) : Option Bool :=
 Option.bind (Fe y1.1 v1 v2) λ y6 =>
 if decide (y5.2 = (3 : Int)) then
   Ck
 else
   if decide (y6.2 = (3 : Int)) then
     Ck
   else
     if (decide (y5.1.N = y6.1.N) && (decide (y5.1.D = y6.1.D) && true)) then
       if decide (y5.2 = y6.2) then
         Option.bind Cq λ y8 =>
         some y8
       else
         some false
     else
       some false
def Ci (a1 : Int) (a3 : Int) (v1 : Int) (y1 : (Ah × Int)) (y5 : (A7 × Int)) : Option Bool :=
 if decide (a1 < a3) then
   Cj v1 (IntKind.wrap .i64 (a3 - (1 : Int))) y1 y5
 else
   Cj v1 a3 y1 y5
def Cw (a0 : Ah) (a1 : Int) (a2 : Int) (a3 : Int) : Option Bool :=
 Option.bind (O7 a0 a1) λ y1 =>
 Option.bind (Eb a0 a1) λ y2 =>
 if !decide (y1.2 = y2.2) then
   Ec
 else
   Option.bind (Cx y1.1 y2.1) λ y3 =>
   if !y3 then
     Ec
   else
     if !decide (y1.2 = (0 : Int)) then
       Bl
     else
       if decide (a2 = a1) then
         Bl
       else
         if decide (a3 = a1) then
           Bl
         else
           if decide (a2 < (0 : Int)) then
             Bl
           else
             if decide (a3 < (0 : Int)) then
               Bl
             else
               if decide (a0.Nodes <= a2) then
                 Bl
               else
                 if decide (a0.Nodes <= a3) then
                   Bl
                 else
                   Option.bind (Fe a0 a2 a3) λ y5 =>
                   if decide (a1 < a2) then
                     Ci a1 a3 (IntKind.wrap .i64 (a2 - (1 : Int))) y1 y5
                   else
                     Ci a1 a3 a2 y1 y5
end
end Go.Ab
