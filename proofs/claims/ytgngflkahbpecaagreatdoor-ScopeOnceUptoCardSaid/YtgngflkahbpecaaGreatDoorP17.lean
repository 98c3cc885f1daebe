/- What the functions compute, as plain functions. Conditions: none beyond those that each theorem names. -/
import Derived.Test.YtgngflkahbpecaaGreatDoorP11
import Derived.Test.YtgngflkahbpecaaGreatDoorP16
import Derived.Test.YtgngflkahbpecaaGreatDoorP18
namespace Go.Ab
open Go
set_option linter.unusedVariables false
structure Bd where
 N:Int
 D:Int
def Bk5:Bd:=⟨(0:Int),(0:Int)⟩
structure Am where
 Op:Int
 Name:List UInt8
 N:Bd
 Kids:List Am
def D2:Am:=⟨(0:Int),([]:(List UInt8)),(Bk5),([]:(List Am))⟩
def Ap (z:Am):Am:=⟨z.Op,z.Name,z.N,z.Kids⟩
theorem Bg (z:Am):Ap z=z:=by cases z;rfl
structure Ak where
 Path:List UInt8
 Type_:List UInt8
 Value:Am
def A3:Ak:=⟨([]:(List UInt8)),([]:(List UInt8)),(D2)⟩
def Ea (z:Ak):Ak:=⟨z.Path,z.Type_,Ap z.Value⟩
theorem Ac1 (z:Ak):Ea z=z:=by cases z;simp only[Ea,Bg]
structure Qy where
 Name:List UInt8
 Mods:List Ak
def Cl:Qy:=⟨([]:(List UInt8)),([]:(List Ak))⟩
structure Ax where
 Name:List UInt8
 Type_:List UInt8
 Var:Int
 Flow:Bool
 Size:Int
 Scope:Int
 Replace:Bool
 Cond:Am
 Value:Am
 Unit:List UInt8
 Mods:List Ak
def An:Ax:=⟨([]:(List UInt8)),([]:(List UInt8)),(0:Int),false,(0:Int),(0:Int),false,(D2),(D2),([]:(List UInt8)),([]:(List Ak))⟩
def B1 (z:Ax):Ax:=⟨z.Name,z.Type_,z.Var,z.Flow,z.Size,z.Scope,z.Replace,Ap z.Cond,Ap z.Value,z.Unit,z.Mods⟩
structure U4 where
 Init:Bool
 L:Am
 R:Am
def Afa:U4:=⟨false,(D2),(D2)⟩
structure Mf where
 A:List UInt8
 B:List UInt8
 In:List UInt8
def Ay9:Mf:=⟨([]:(List UInt8)),([]:(List UInt8)),([]:(List UInt8))⟩
structure Aa9 where
 Name:List UInt8
 E:Am
def Ac2:Aa9:=⟨([]:(List UInt8)),(D2)⟩
structure G3 where
 C:Am
 Sets:List Aa9
def Bz:G3:=⟨(D2),([]:(List Aa9))⟩
structure Aa where
 Name:List UInt8
 Kind:Int
 Bases:List Qy
 Comps:List Ax
 Eqs:List U4
 Links:List Mf
 Whens:List G3
def Ag:Aa:=⟨([]:(List UInt8)),(0:Int),([]:(List Qy)),([]:(List Ax)),([]:(List U4)),([]:(List Mf)),([]:(List G3))⟩
structure A5 where
 e:Am
 cond:Bool
def T8:A5:=⟨(D2),false⟩
structure E9 where
 e0:Int
 e1:Int
 e2:Int
 e3:Int
 e4:Int
 e5:Int
 e6:Int
def Bm7:E9:=⟨(0:Int),(0:Int),(0:Int),(0:Int),(0:Int),(0:Int),(0:Int)⟩
structure A7 where
 E:E9
 F:Bd
def Aex:A7:=⟨(Bm7),(Bk5)⟩
structure A4 where
 v:Int
 m:List Int
 neg:Bool
def B2x:A4:=⟨(0:Int),([]:(List Int)),false⟩
structure B7 where
 N:A4
 D:A4
def B74:B7:=⟨(B2x),(B2x)⟩
structure Bm where
 name:List UInt8
 n:Int
def Ag4:Bm:=⟨([]:(List UInt8)),(0:Int)⟩
structure Bu where
 e:E9
 f:B7
def B21:Bu:=⟨(Bm7),(B74)⟩
structure Cb where
 comps:List Ax
 mods:List Ak
def Kf:Cb:=⟨([]:(List Ax)),([]:(List Ak))⟩
structure Ai where
 class_:Int
 by_:Int
 base:Int
def Be:Ai:=⟨(0:Int),(0:Int),(0:Int)⟩
structure D7 where
 e0:Int
 e1:Int
def B6e:D7:=⟨(0:Int),(0:Int)⟩
def Al4 (z:D7):List Int:=[z.e0,z.e1]
structure Bp where
 lo:Int
 hi:Int
def Bt:Bp:=⟨(0:Int),(0:Int)⟩
structure Bcp where
 e0:Bp
 e1:Bp
 e2:Bp
 e3:Bp
 e4:Bp
 e5:Bp
 e6:Bp
 e7:Bp
 e8:Bp
 e9:Bp
 e10:Bp
 e11:Bp
 e12:Bp
 e13:Bp
 e14:Bp
 e15:Bp
def B6d:Bcp:=⟨(Bt),(Bt),(Bt),(Bt),(Bt),(Bt),(Bt),(Bt),(Bt),(Bt),(Bt),(Bt),(Bt),(Bt),(Bt),(Bt)⟩
@[reducible] def yeE:Nat->Type
 |0=>Bd
 |1=>Am
 |2=>Ak
 |3=>Qy
 |4=>Ax
 |5=>U4
 |6=>Mf
 |7=>Aa9
 |8=>G3
 |9=>Aa
 |10=>A5
 |11=>E9
 |12=>A7
 |13=>A4
 |14=>B7
 |15=>Bm
 |16=>Bu
 |17=>Cb
 |18=>Ai
 |19=>D7
 |20=>Bp
 |21=>Bcp
 |_=>Unit
abbrev H:=HV yeE
abbrev HT:=List (Tk yeE)
noncomputable section
def Br (n d:Int) (l:List Int):Option A7:=
 need (l.length<=7)<|
 some ⟨⟨l.getD 0 0,l.getD 1 0,l.getD 2 0,l.getD 3 0,l.getD 4 0,l.getD 5 0,l.getD 6 0⟩,⟨n,d⟩⟩
def Aln (a0:Aa) (a1:(List UInt8)):Option (Bool×(List UInt8)):=
 some (decide (a0.Name=a1),a1)
abbrev E8:HT:=[.S 1000000 false,.k (.ptr 1000001 0),.C 1000001,.v .str]
abbrev Ch (a0:(List Aa)):HT:=[.S 0 false,.q (.sl (.nm 9)) a0,.S 1 false,.k (.clo 71 [.ptr 1000001 0]),.S 7 false,.q (.int .i64) (a0.length:Int),.S 8 false,.v (.int .i64),.S 1000000 false,.k (.ptr 1000001 0),.C 1000001,.v .str]
def Fs:H E8->Option (Int×(List UInt8)):=λ (v3,_)=>
 some ((-1:Int),v3)
def Fz (a0:(List Aa)):H (Ch a0)->Option ((H (Ch a0))⊕((H E8)⊕(Int×(List UInt8)))):=λ (v1,v2,_)=>
 if decide (v1<(a0.length:Int))then
 need (Af v1 a0.length)<|
 Option.bind (Aln (List.getD a0 (v1).toNat (Ag)) v2) λ y1=>
 if y1.1 then
  some (.inr (.inr (v1,y1.2)))
 else
  jp (Ch a0)<|some (.inl (IntKind.wrap .i64 (v1+(1:Int)),y1.2,()))
 else
 some (.inr (.inl (v2,())))
def Kx (a0:(List Aa)) (a1:(List UInt8)):Option (Int×(List UInt8)):=
 jp (Ch a0)<|Option.bind (iter (Fz a0) ((0:Int),a1,())) (Sum.elim Fs (λ y=>some y))
def Gc (a0:(List Aa)) (a1:(List UInt8)):Option Int:=
 Option.bind (Kx a0 a1) λ y1=>
 some y1.1
abbrev Atp:HT:=[]
abbrev Ym:HT:=[]
abbrev Jt (a0:Aa):HT:=[.S 62 false,.q (.sl (.nm 8)) a0.Whens,.S 63 false,.q (.int .i64) (a0.Whens.length:Int),.S 64 false,.v (.int .i64)]
abbrev R8 (a0:Aa):HT:=[.S 1 false,.k (.ptr 1 0),.C 1,.q (.nm 9) a0]
abbrev Jz (a0:Aa):HT:=[.S 1 false,.k (.ptr 1 0),.S 50 false,.q (.sl (.nm 4)) a0.Comps,.S 51 false,.q (.int .i64) (a0.Comps.length:Int),.S 52 false,.v (.int .i64),.C 1,.q (.nm 9) a0]
abbrev Sd (a0:Aa):HT:=[.S 1 false,.k (.ptr 1 0),.C 1,.q (.nm 9) a0]
abbrev J0 (a0:Aa):HT:=[.S 1 false,.k (.ptr 1 0),.S 38 false,.q (.sl (.nm 3)) a0.Bases,.S 39 false,.q (.int .i64) (a0.Bases.length:Int),.S 40 false,.v (.int .i64),.C 1,.q (.nm 9) a0]
def Lv:H Atp->Option Int:=λ _=>
 some (3:Int)
def Acn:H Ym->Option Int:=λ _=>
 some (0:Int)
def Acs (a0:Aa):H (Jt a0)->Option ((H (Jt a0))⊕((H Ym)⊕Int)):=λ (v3,_)=>
 if decide (v3<(a0.Whens.length:Int))then
 need (Af v3 a0.Whens.length)<|
 if decide ((6:Int)<(((List.getD a0.Whens (v3).toNat (Bz)).Sets).length:Int))then
  some (.inr (.inr (3:Int)))
 else
  jp (Jt a0)<|some (.inl (IntKind.wrap .i64 (v3+(1:Int)),()))
 else
 some (.inr (.inl ()))
def Acw (a0:Aa):H (R8 a0)->Option Int:=λ _=>
 jp (Jt a0)<|Option.bind (iter (Acs a0) ((0:Int),())) (Sum.elim Acn (λ y=>some y))
def Acz (a0:Aa):H (Jz a0)->Option ((H (Jz a0))⊕((H (R8 a0))⊕Int)):=λ (v2,_)=>
 if decide (v2<(a0.Comps.length:Int))then
 need (Af v2 a0.Comps.length)<|
 if decide ((8:Int)<(((List.getD a0.Comps (v2).toNat (An)).Mods).length:Int))then
  some (.inr (.inr (3:Int)))
 else
  jp (Jz a0)<|some (.inl (IntKind.wrap .i64 (v2+(1:Int)),()))
 else
 jp (R8 a0)<|some (.inr (.inl ()))
def Ado (a0:Aa):H (Sd a0)->Option Int:=λ _=>
 jp (Jz a0)<|Option.bind (iter (Acz a0) ((0:Int),())) (Sum.elim (Acw a0) (λ y=>some y))
def Acv (a0:Aa):H (J0 a0)->Option ((H (J0 a0))⊕((H (Sd a0))⊕Int)):=λ (v1,_)=>
 if decide (v1<(a0.Bases.length:Int))then
 need (Af v1 a0.Bases.length)<|
 if decide ((8:Int)<(((List.getD a0.Bases (v1).toNat (Cl)).Mods).length:Int))then
  some (.inr (.inr (3:Int)))
 else
  jp (J0 a0)<|some (.inl (IntKind.wrap .i64 (v1+(1:Int)),()))
 else
 jp (Sd a0)<|some (.inr (.inl ()))
def Am7 (a0:Aa):Option Int:=
 if decide ((6:Int)<(a0.Bases.length:Int))then
 Lv ()
 else
 if decide ((40:Int)<(a0.Comps.length:Int))then
  Lv ()
 else
  if decide ((40:Int)<(a0.Eqs.length:Int))then
   Lv ()
  else
   if decide ((40:Int)<(a0.Links.length:Int))then
    Lv ()
   else
    if decide ((40:Int)<(a0.Whens.length:Int))then
     Lv ()
    else
     jp (J0 a0)<|Option.bind (iter (Acv a0) ((0:Int),())) (Sum.elim (Ado a0) (λ y=>some y))
def Gn (a0:Int):Option Bool:=
 if decide ((97:Int)<=a0)then
  if decide (a0<=(122:Int))then
   some true
  else
   if decide ((65:Int)<=a0)then
    some (decide (a0<=(90:Int)))
   else
    some false
 else
  if decide ((65:Int)<=a0)then
   some (decide (a0<=(90:Int)))
  else
   some false
def Em (a0:(List UInt8)):Option Bool:=
 if decide (a0=([109,111,100,101,108]:List UInt8))then
  some true
 else
  if decide (a0=([112,111,114,116]:List UInt8))then
   some true
  else
   if decide (a0=([112,97,114,116,105,97,108]:List UInt8))then
    some true
   else
    if decide (a0=([101,120,116,101,110,100,115]:List UInt8))then
     some true
    else
     if decide (a0=([105,110,110,101,114]:List UInt8))then
      some true
     else
      if decide (a0=([111,117,116,101,114]:List UInt8))then
       some true
      else
       if decide (a0=([114,101,112,108,97,99,101,97,98,108,101]:List UInt8))then
        some true
       else
        if decide (a0=([102,108,111,119]:List UInt8))then
         some true
        else
         if decide (a0=([112,97,114,97,109,101,116,101,114]:List UInt8))then
          some true
         else
          if decide (a0=([100,105,115,99,114,101,116,101]:List UInt8))then
           some true
          else
           if decide (a0=([101,113,117,97,116,105,111,110]:List UInt8))then
            some true
           else
            if decide (a0=([105,110,105,116,105,97,108]:List UInt8))then
             some true
            else
             if decide (a0=([99,111,110,110,101,99,116]:List UInt8))then
              some true
             else
              if decide (a0=([119,104,101,110]:List UInt8))then
               some true
              else
               if decide (a0=([115,101,116]:List UInt8))then
                some true
               else
                if decide (a0=([101,110,100]:List UInt8))then
                 some true
                else
                 if decide (a0=([105,110]:List UInt8))then
                  some true
                 else
                  if decide (a0=([105,115]:List UInt8))then
                   some true
                  else
                   if decide (a0=([82,101,97,108]:List UInt8))then
                    some true
                   else
                    if decide (a0=([116,105,109,101]:List UInt8))then
                     some true
                    else
                     if decide (a0=([99,108,97,115,115]:List UInt8))then
                      some true
                     else
                      if decide (a0=([99,111,110,110,101,99,116,111,114]:List UInt8))then
                       some true
                      else
                       if decide (a0=([97,98,115,116,114,97,99,116]:List UInt8))then
                        some true
                       else
                        if decide (a0=([98,97,115,101]:List UInt8))then
                         some true
                        else
                         if decide (a0=([112,97,114,97,109]:List UInt8))then
                          some true
                         else
                          if decide (a0=([115,116,97,116,101]:List UInt8))then
                           some true
                          else
                           if decide (a0=([110,117,109,98,101,114]:List UInt8))then
                            some true
                           else
                            if decide (a0=([101,113]:List UInt8))then
                             some true
                            else
                             if decide (a0=([115,116,97,114,116]:List UInt8))then
                              some true
                             else
                              if decide (a0=([119,105,114,101]:List UInt8))then
                               some true
                              else
                               if decide (a0=([111,110]:List UInt8))then
                                some true
                               else
                                if decide (a0=([112,117,116]:List UInt8))then
                                 some true
                                else
                                 if decide (a0=([105,102]:List UInt8))then
                                  some true
                                 else
                                  if decide (a0=([116,104,101,110]:List UInt8))then
                                   some true
                                  else
                                   if decide (a0=([101,108,115,101]:List UInt8))then
                                    some true
                                   else
                                    if decide (a0=([111,114]:List UInt8))then
                                     some true
                                    else
                                     if decide (a0=([97,110,100]:List UInt8))then
                                      some true
                                     else
                                      if decide (a0=([110,111,116]:List UInt8))then
                                       some true
                                      else
                                       if decide (a0=([100,101,114]:List UInt8))then
                                        some true
                                       else
                                        if decide (a0=([112,114,101]:List UInt8))then
                                         some true
                                        else
                                         if decide (a0=([97,98,115]:List UInt8))then
                                          some true
                                         else
                                          if decide (a0=([109,105,110]:List UInt8))then
                                           some true
                                          else
                                           if decide (a0=([109,97,120]:List UInt8))then
                                            some true
                                           else
                                            some false
def Jc (a0:Int):Option Bool:=
 if decide ((48:Int)<=a0)then
  some (decide (a0<=(57:Int)))
 else
  some false
def G9:Option Bool:=
 some false
def I4 (a0:(List UInt8)) (v1:Int):Option (Int⊕(Unit⊕Bool)):=
 some (.inl (IntKind.wrap .i64 (v1+(1:Int))))
def Tc (a0:(List UInt8)) (v1:Int):Option (Int⊕(Unit⊕Bool)):=
 if decide (v1<(a0.length:Int))then
  need (Af v1 a0.length)<|
  Option.bind (Gn ((List.getD a0 v1.toNat 0).toNat:Int)) λ y3=>
  if !y3 then
   need (Af v1 a0.length)<|
   Option.bind (Jc ((List.getD a0 v1.toNat 0).toNat:Int)) λ y4=>
   if !y4 then
    need (Af v1 a0.length)<|
    if !decide (((List.getD a0 v1.toNat 0).toNat:Int)=(95:Int))then
     some (.inr (.inr false))
    else
     I4 a0 v1
   else
    I4 a0 v1
  else
   I4 a0 v1
 else
  some (.inr (.inl ()))
def E2 (a0:(List UInt8)):Option Bool:=
 if decide ((a0.length:Int)<(1:Int))then
  G9
 else
  if decide ((16:Int)<(a0.length:Int))then
   G9
  else
   need (Af (0:Int) a0.length)<|
   Option.bind (Gn ((List.getD a0 (0:Int).toNat 0).toNat:Int)) λ y1=>
   if !y1 then
    G9
   else
    Option.bind (Em a0) λ y2=>
    if y2 then
     G9
    else
     Option.bind (iter (λ v:Int=>Tc a0 v) (0:Int)) λ r=>
     match r with
     | .inl r1=>
       some true
     | .inr r2=>
       some r2
def Mu (a0:(List UInt8)) (a1:(List UInt8)):Option (List (List UInt8)):=
 Option.bind (Iz a0 a1 (0:Int) (-1:Int)) λ y1=>
 some y1
abbrev P5:HT:=[]
abbrev Lc:HT:=[.S 6 false,.v (.sl .str),.S 7 false,.v (.int .i64),.S 8 false,.v (.int .i64)]
def Ts:H P5->Option Bool:=λ _=>
 some true
def Tl:H Lc->Option ((H Lc)⊕((H P5)⊕Bool)):=λ (v1,v2,v3,_)=>
 if decide (v3<v2)then
 need (Af v3 v1.length)<|
 Option.bind (E2 (List.getD v1 (v3).toNat ([]:(List UInt8)))) λ y2=>
 if !y2 then
  some (.inr (.inr false))
 else
  some (.inl (v1,v2,IntKind.wrap .i64 (v3+(1:Int)),()))
 else
 some (.inr (.inl ()))
def Kb (a0:(List UInt8)):Option Bool:=
 Option.bind (Mu a0 ([46]:List UInt8)) λ y1=>
 Option.bind (iter Tl (y1,(y1.length:Int),(0:Int),())) (Sum.elim Ts (λ y=>some y))
def Hr (a0:(List UInt8)):Option Bool:=
 if decide ((a0.length:Int)<=(60:Int))then
 Option.bind (Kb a0) λ y1=>
 some y1
 else
 some false
def H7 (a0:Am):Option Bool:=
 if decide (a0.Op=(0:Int))then
 if decide (a0.Name=([]:List UInt8))then
  if(decide (a0.N.N=(0:Int))&&(decide (a0.N.D=(0:Int))&&true))then
   some (decide ((a0.Kids.length:Int)=(0:Int)))
  else
   some false
 else
  some false
 else
 some false
abbrev Aom:HT:=[]
abbrev Tw (a0:(List Ak)) (v1:Int):HT:=[.S 5 false,.q (.sl (.nm 2)) a0,.S 6 false,.q (.int .i64) (a0.length:Int),.S 7 false,.q (.int .i64) v1,.S 16 false,.k (.ptr 4 1),.S 17 false,.q .str ((List.getD a0 (v1).toNat (A3)).Type_),.S 18 false,.v .bool,.S 19 false,.v .bool,.S 24 false,.v .bool,.S 27 false,.k (.ptr 4 1),.S 28 false,.q .str ((List.getD a0 (v1).toNat (A3)).Type_),.S 29 false,.v .bool,.S 30 false,.k (.ptr 4 2),.S 31 true,.q (.nm 1) (Ap ((List.getD a0 (v1).toNat (A3)).Value)),.S 32 false,.v .bool,.S 33 false,.v .bool,.C 4,.q (.nm 2) (Ea (List.getD a0 (v1).toNat (A3)))]
abbrev I8:HT:=[]
abbrev Ei (a0:(List Ak)):HT:=[.S 5 false,.q (.sl (.nm 2)) a0,.S 6 false,.q (.int .i64) (a0.length:Int),.S 7 false,.v (.int .i64)]
def Ii (a0:(List Ak)):H Aom->Option ((H (Ei a0))⊕((H I8)⊕Bool)):=λ _=>
 some (.inr (.inr false))
def Pg (a0:(List Ak)) (v1:Int):H (Tw a0 v1)->Option ((H (Ei a0))⊕((H I8)⊕Bool)):=λ (v2,v3,v4,v5,v6,v7,_)=>
 jp (Ei a0)<|some (.inl (IntKind.wrap .i64 (v1+(1:Int)),()))
def Pq:H I8->Option Bool:=λ _=>
 some true
def Oy (a0:(List Ak)):H (Ei a0)->Option ((H (Ei a0))⊕((H I8)⊕Bool)):=λ (v1,_)=>
 if decide (v1<(a0.length:Int))then
 need (Af v1 a0.length)<|
 Option.bind (Kb ((List.getD a0 (v1).toNat (A3)).Path)) λ y1=>
 if !y1 then
  Ii a0 ()
 else
  if !decide (((List.getD a0 (v1).toNat (A3)).Type_)=([]:List UInt8))then
   Option.bind (Hr ((List.getD a0 (v1).toNat (A3)).Type_)) λ y2=>
   if !y2 then
    Ii a0 ()
   else
    Option.bind (H7 (Ap ((List.getD a0 (v1).toNat (A3)).Value))) λ y3=>
    if((decide (((List.getD a0 (v1).toNat (A3)).Type_)=([]:List UInt8)))==y3)then
     Ii a0 ()
    else
     jp (Tw a0 v1)<|Pg a0 v1 (!decide (((List.getD a0 (v1).toNat (A3)).Type_)=([]:List UInt8)), !decide (((List.getD a0 (v1).toNat (A3)).Type_)=([]:List UInt8)), !y2,decide (((List.getD a0 (v1).toNat (A3)).Type_)=([]:List UInt8)),y3,((decide (((List.getD a0 (v1).toNat (A3)).Type_)=([]:List UInt8)))==y3),())
  else
   Option.bind (H7 (Ap ((List.getD a0 (v1).toNat (A3)).Value))) λ y4=>
   if((decide (((List.getD a0 (v1).toNat (A3)).Type_)=([]:List UInt8)))==y4)then
    Ii a0 ()
   else
    jp (Tw a0 v1)<|Pg a0 v1 (!decide (((List.getD a0 (v1).toNat (A3)).Type_)=([]:List UInt8)), !decide (((List.getD a0 (v1).toNat (A3)).Type_)=([]:List UInt8)),false,decide (((List.getD a0 (v1).toNat (A3)).Type_)=([]:List UInt8)),y4,((decide (((List.getD a0 (v1).toNat (A3)).Type_)=([]:List UInt8)))==y4),())
 else
 some (.inr (.inl ()))
def Gl (a0:(List Ak)):Option Bool:=
 jp (Ei a0)<|Option.bind (iter (Oy a0) ((0:Int),())) (Sum.elim Pq (λ y=>some y))
def Agm (a0:(List UInt8)) (a1:(List UInt8)):Option ((List UInt8)×(List UInt8)×Bool):=
 Option.bind (Qh a0 a1) λ y1=>
 if decide ((0:Int)<=y1)then
 need ((0:Int)<=(0:Int))<|
 need ((0:Int)<=y1)<|
 need (y1<=(a0.length:Int))<|
 need ((0:Int)<=(IntKind.wrap .i64 (y1+(a1.length:Int))))<|
 need ((IntKind.wrap .i64 (y1+(a1.length:Int)))<=(a0.length:Int))<|
 need ((a0.length:Int)<=(a0.length:Int))<|
 some ((List.take (y1.toNat-(0:Int).toNat) (List.drop (0:Int).toNat a0)),(List.take ((a0.length:Int).toNat-(IntKind.wrap .i64 (y1+(a1.length:Int))).toNat) (List.drop (IntKind.wrap .i64 (y1+(a1.length:Int))).toNat a0)),true)
 else
 some (a0,([]:List UInt8),false)
def Pu (a0:(List UInt8)) (a1:(List UInt8)):Option ((List UInt8)×(List UInt8)×Bool):=
 Option.bind (Agm a0 a1) λ y1=>
 some (y1.1,y1.2.1,y1.2.2)
def Ai1 (a0:Int):Option A4:=
 some (⟨a0,[],false⟩:A4)
def Aaj (a0:Int):Option B7:=
 Option.bind (Ai1 a0) λ y1=>
 Option.bind (Ai1 (1:Int)) λ y2=>
 some (⟨y1,y2⟩:B7)
def Xn (a0:(List UInt8)) (a1:Int):Option Int:=
 Option.bind (Ji a0 a1) λ y1=>
 some y1
def P2 (a0:(List UInt8)) (a1:(List UInt8)):Option Bool:=
 if decide ((a1.length:Int)<=(a0.length:Int))then
 need ((0:Int)<=(0:Int))<|
 need ((0:Int)<=(a1.length:Int))<|
 need ((a1.length:Int)<=(a0.length:Int))<|
 some (decide ((List.take ((a1.length:Int).toNat-(0:Int).toNat) (List.drop (0:Int).toNat a0))=a1))
 else
 some false
def Oq (a0:(List UInt8)) (a1:(List UInt8)):Option ((List UInt8)×Bool):=
 Option.bind (P2 a0 a1) λ y1=>
 if !y1 then
 some (a0,false)
 else
 need ((0:Int)<=(a1.length:Int))<|
 need ((a1.length:Int)<=(a0.length:Int))<|
 need ((a0.length:Int)<=(a0.length:Int))<|
 some ((List.take ((a0.length:Int).toNat-(a1.length:Int).toNat) (List.drop (a1.length:Int).toNat a0)),true)
def Qp (a0:(List UInt8)) (a1:(List UInt8)):Option ((List UInt8)×Bool):=
 Option.bind (Oq a0 a1) λ y1=>
 some (y1.1,y1.2)
abbrev Apb:HT:=[]
abbrev Ps:HT:=[]
abbrev Gu (a0:(List UInt8)):HT:=[.S 0 false,.q .str a0,.S 5 false,.q (.int .i64) (a0.length:Int),.S 6 false,.v (.int .i64)]
def Ze (a0:(List UInt8)):H Apb->Option ((H (Gu a0))⊕((H Ps)⊕Bool)):=λ _=>
 some (.inr (.inr false))
def Zf:H Ps->Option Bool:=λ _=>
 some true
def Y3 (a0:(List UInt8)):H (Gu a0)->Option ((H (Gu a0))⊕((H Ps)⊕Bool)):=λ (v1,_)=>
 if decide (v1<(a0.length:Int))then
 need (Af v1 a0.length)<|
 if decide (((List.getD a0 v1.toNat 0).toNat:Int)<(48:Int))then
  Ze a0 ()
 else
  need (Af v1 a0.length)<|
  if decide ((57:Int)<((List.getD a0 v1.toNat 0).toNat:Int))then
   Ze a0 ()
  else
   jp (Gu a0)<|some (.inl (IntKind.wrap .i64 (v1+(1:Int)),()))
 else
 some (.inr (.inl ()))
def Pm (a0:(List UInt8)):Option Bool:=
 jp (Gu a0)<|Option.bind (iter (Y3 a0) ((0:Int),())) (Sum.elim Zf (λ y=>some y))
abbrev Anv:HT:=[]
abbrev S6 (a0:(List UInt8)):HT:=[.S 0 false,.q .str a0]
def Ph:H Anv->Option Bool:=λ _=>
 some false
def V1 (a0:(List UInt8)):H (S6 a0)->Option Bool:=λ _=>
 Option.bind (Pm a0) λ y1=>
 some y1
def H0 (a0:(List UInt8)):Option Bool:=
 if decide (a0=([]:List UInt8))then
 Ph ()
 else
 if decide ((20:Int)<(a0.length:Int))then
  Ph ()
 else
  need (Af (0:Int) a0.length)<|
  if decide (((List.getD a0 (0:Int).toNat 0).toNat:Int)=(48:Int))then
   if decide ((1:Int)<(a0.length:Int))then
    Ph ()
   else
    jp (S6 a0)<|V1 a0 ()
  else
   jp (S6 a0)<|V1 a0 ()
def Ya:Option Int:=
 some (-1:Int)
def Af0:Option Int:=
 some (1:Int)
def Uc (a0:A4):Option Int:=
 if List.isEmpty a0.m then
  if decide (a0.v=(0:Int))then
   some (0:Int)
  else
   Af0
 else
  Af0
def R6 (a0:A4):Option Int:=
 if !List.isEmpty a0.m then
  if a0.neg then
   Ya
  else
   if List.isEmpty a0.m then
    if decide (a0.v<(0:Int))then
     Ya
    else
     Uc a0
   else
    Uc a0
 else
  if List.isEmpty a0.m then
   if decide (a0.v<(0:Int))then
    Ya
   else
    Uc a0
  else
   Uc a0
def Um (a0:A4) (v1:Int):Option ((List Int)×Bool):=
 if decide (v1=(0:Int))then
  some ([],false)
 else
  need ((0:Int)<=(32:Int))<|
  if decide ((Int.fdiv v1 (2^(min (32:Int).toNat (IntKind.bits .u64))))=(0:Int))then
   some ([IntKind.wrap .u32 v1],decide (a0.v<(0:Int)))
  else
   need ((0:Int)<=(32:Int))<|
   some ([IntKind.wrap .u32 v1,IntKind.wrap .u32 (Int.fdiv v1 (2^(min (32:Int).toNat (IntKind.bits .u64))))],decide (a0.v<(0:Int)))
def Ic (a0:A4):Option ((List Int)×Bool):=
 if !List.isEmpty a0.m then
  some (a0.m,a0.neg)
 else
  if decide (a0.v<(0:Int))then
   Um a0 (IntKind.wrap .u64 (0-(IntKind.wrap .u64 a0.v)))
  else
   Um a0 (IntKind.wrap .u64 a0.v)
def Asp (a1:Bool) (v1:(List Int)):Option ((List Int)⊕(List Int)):=
 if decide ((0:Int)<(v1.length:Int))then
  need (Af (IntKind.wrap .i64 ((v1.length:Int) -(1:Int))) v1.length)<|
  if decide ((List.getD v1 (IntKind.wrap .i64 ((v1.length:Int) -(1:Int))).toNat (0:Int))=(0:Int))then
   need ((0:Int)<=(0:Int))<|
   need ((0:Int)<=(IntKind.wrap .i64 ((v1.length:Int) -(1:Int))))<|
   need ((IntKind.wrap .i64 ((v1.length:Int) -(1:Int)))<=(v1.length:Int))<|
   some (.inl (List.take ((IntKind.wrap .i64 ((v1.length:Int) -(1:Int))).toNat-(0:Int).toNat) (List.drop (0:Int).toNat v1)))
  else
   some (.inr v1)
 else
  some (.inr v1)
def Ak3 (a1:Bool) (r1:(List Int)) (v3:Int) (v4:Int):Option ((Int×Int)⊕Int):=
 if decide ((0:Int)<=v4)then
  need ((0:Int)<=(32:Int))<|
  need (Af v4 r1.length)<|
  some (.inl (IntKind.wrap .u64 ((((BitVec.ofInt (IntKind.bits .u64) (IntKind.wrap .u64 (v3*2^(min (32:Int).toNat (IntKind.bits .u64))))|||BitVec.ofInt (IntKind.bits .u64) (IntKind.wrap .u64 (List.getD r1 (v4).toNat (0:Int)))).toNat:Nat):Int)),IntKind.wrap .i64 (v4-(1:Int))))
 else
  some (.inr v3)
def Aeg (a1:Bool) (r1:(List Int)):Option A4:=
 need (r1≠[])<|
 some (⟨(0:Int),r1,a1⟩:A4)
def Ti (a0:(List Int)) (a1:Bool):Option A4:=
 Option.bind (iter (λ v:(List Int)=>Asp a1 v) a0) λ r1=>
  if decide ((r1.length:Int)<=(2:Int))then
   Option.bind (iter (λ v:(Int×Int)=>Ak3 a1 r1 v.1 v.2) ((0:Int),IntKind.wrap .i64 ((r1.length:Int) -(1:Int)))) λ r2=>
    if decide (r2<(9223372036854775808:Int))then
     if a1 then
      some (⟨IntKind.wrap .i64 (0-(IntKind.wrap .i64 r2)),[],false⟩:A4)
     else
      some (⟨IntKind.wrap .i64 r2,[],false⟩:A4)
    else
     Aeg a1 r1
  else
   Aeg a1 r1
def Aea (a0:A4):Option A4:=
 Option.bind (Ic a0) λ y1=>
 Option.bind (Ti y1.1 (!y1.2)) λ y2=>
 some y2
def Zl (a0:A4):Option A4:=
 if List.isEmpty a0.m then
  if !decide (a0.v=(-9223372036854775808:Int))then
   some (⟨IntKind.wrap .i64 (0-a0.v),[],false⟩:A4)
  else
   Aea a0
 else
  Aea a0
def Ul (v3:Int) (v4:Int):Option Int:=
 need (Af (IntKind.wrap .u8 v3) ([0,1,2,2,3,3,3,3,4,4,4,4,4,4,4,4,5,5,5,5,5,5,5,5,5,5,5,5,5,5,5,5,6,6,6,6,6,6,6,6,6,6,6,6,6,6,6,6,6,6,6,6,6,6,6,6,6,6,6,6,6,6,6,6,7,7,7,7,7,7,7,7,7,7,7,7,7,7,7,7,7,7,7,7,7,7,7,7,7,7,7,7,7,7,7,7,7,7,7,7,7,7,7,7,7,7,7,7,7,7,7,7,7,7,7,7,7,7,7,7,7,7,7,7,7,7,7,7,8,8,8,8,8,8,8,8,8,8,8,8,8,8,8,8,8,8,8,8,8,8,8,8,8,8,8,8,8,8,8,8,8,8,8,8,8,8,8,8,8,8,8,8,8,8,8,8,8,8,8,8,8,8,8,8,8,8,8,8,8,8,8,8,8,8,8,8,8,8,8,8,8,8,8,8,8,8,8,8,8,8,8,8,8,8,8,8,8,8,8,8,8,8,8,8,8,8,8,8,8,8,8,8,8,8,8,8,8,8,8,8,8,8,8,8,8,8,8,8,8,8,8,8,8,8,8,8]:List UInt8).length)<|
 some (IntKind.wrap .i64 (v4+(IntKind.wrap .i64 ((List.getD ([0,1,2,2,3,3,3,3,4,4,4,4,4,4,4,4,5,5,5,5,5,5,5,5,5,5,5,5,5,5,5,5,6,6,6,6,6,6,6,6,6,6,6,6,6,6,6,6,6,6,6,6,6,6,6,6,6,6,6,6,6,6,6,6,7,7,7,7,7,7,7,7,7,7,7,7,7,7,7,7,7,7,7,7,7,7,7,7,7,7,7,7,7,7,7,7,7,7,7,7,7,7,7,7,7,7,7,7,7,7,7,7,7,7,7,7,7,7,7,7,7,7,7,7,7,7,7,7,8,8,8,8,8,8,8,8,8,8,8,8,8,8,8,8,8,8,8,8,8,8,8,8,8,8,8,8,8,8,8,8,8,8,8,8,8,8,8,8,8,8,8,8,8,8,8,8,8,8,8,8,8,8,8,8,8,8,8,8,8,8,8,8,8,8,8,8,8,8,8,8,8,8,8,8,8,8,8,8,8,8,8,8,8,8,8,8,8,8,8,8,8,8,8,8,8,8,8,8,8,8,8,8,8,8,8,8,8,8,8,8,8,8,8,8,8,8,8,8,8,8,8,8,8,8,8,8]:List UInt8) (IntKind.wrap .u8 v3).toNat 0).toNat:Int))))
def Ui (v1:Int) (v2:Int):Option Int:=
 if decide ((256:Int)<=v1)then
  need ((0:Int)<=(8:Int))<|
  Ul (Int.fdiv v1 (2^(min (8:Int).toNat (IntKind.bits .u32)))) (IntKind.wrap .i64 (v2+(8:Int)))
 else
  Ul v1 v2
def Ad6 (a0:Int):Option Int:=
 if decide ((65536:Int)<=a0)then
  need ((0:Int)<=(16:Int))<|
  Ui (Int.fdiv a0 (2^(min (16:Int).toNat (IntKind.bits .u32)))) (16:Int)
 else
  Ui a0 (0:Int)
def Gb (a0:Int):Option Int:=
 Option.bind (Ad6 a0) λ y1=>
 some (IntKind.wrap .i64 ((32:Int) -y1))
def Yi (a0:(List Int)) (a1:(List Int)) (v1:Int):Option (Int⊕(Unit⊕Int)):=
 if decide ((0:Int)<=v1)then
  need (Af v1 a0.length)<|
  need (Af v1 a1.length)<|
  if !decide ((List.getD a0 (v1).toNat (0:Int))=(List.getD a1 (v1).toNat (0:Int)))then
   need (Af v1 a0.length)<|
   need (Af v1 a1.length)<|
   if decide ((List.getD a0 (v1).toNat (0:Int))<(List.getD a1 (v1).toNat (0:Int)))then
    some (.inr (.inr (-1:Int)))
   else
    some (.inr (.inr (1:Int)))
  else
   some (.inl (IntKind.wrap .i64 (v1-(1:Int))))
 else
  some (.inr (.inl ()))
def Pt (a0:(List Int)) (a1:(List Int)):Option Int:=
 if !decide ((a0.length:Int)=(a1.length:Int))then
  if decide ((a0.length:Int)<(a1.length:Int))then
   some (-1:Int)
  else
   some (1:Int)
 else
  Option.bind (iter (λ v:Int=>Yi a0 a1 v) (IntKind.wrap .i64 ((a0.length:Int) -(1:Int)))) λ r=>
  match r with
  | .inl r1=>
    some (0:Int)
  | .inr r2=>
    some r2
def S3 (a0:(List Int)) (a1:(List Int)) (v1:Int) (v2:Int) (v3:(List Int)):Option ((Int×Int×(List Int))⊕(Int×(List Int))):=
 if decide ((0:Int)<=v2)then
  need ((0:Int)<=(32:Int))<|
  need (Af v2 a0.length)<|
  need (Af (0:Int) a1.length)<|
  need ((IntKind.wrap .u64 (List.getD a1 ((0:Int)).toNat (0:Int)))≠0)<|
  need (Af v2 v3.length)<|
  need (Af (0:Int) a1.length)<|
  need ((IntKind.wrap .u64 (List.getD a1 ((0:Int)).toNat (0:Int)))≠0)<|
  some (.inl (Int.tmod (IntKind.wrap .u64 ((((BitVec.ofInt (IntKind.bits .u64) (IntKind.wrap .u64 (v1*2^(min (32:Int).toNat (IntKind.bits .u64))))|||BitVec.ofInt (IntKind.bits .u64) (IntKind.wrap .u64 (List.getD a0 (v2).toNat (0:Int)))).toNat:Nat):Int))) (IntKind.wrap .u64 (List.getD a1 ((0:Int)).toNat (0:Int))),IntKind.wrap .i64 (v2-(1:Int)),List.set v3 v2.toNat (IntKind.wrap .u32 (IntKind.wrap .u64 (Int.tdiv (IntKind.wrap .u64 ((((BitVec.ofInt (IntKind.bits .u64) (IntKind.wrap .u64 (v1*2^(min (32:Int).toNat (IntKind.bits .u64))))|||BitVec.ofInt (IntKind.bits .u64) (IntKind.wrap .u64 (List.getD a0 (v2).toNat (0:Int)))).toNat:Nat):Int))) (IntKind.wrap .u64 (List.getD a1 ((0:Int)).toNat (0:Int))))))))
 else
  some (.inr (v1,v3))
def J3 (a0:(List Int)) (a1:(List Int)) (v6:Int) (v7:(List Int)) (v9:(List Int)) (y2:Int):Option ((Int×(List Int)×(List Int))⊕((List Int)×(List Int))):=
 some (.inl (IntKind.wrap .i64 (v6+(1:Int)),v7,v9))
def Sj (a0:(List Int)) (a1:(List Int)) (y2:Int) (v6:Int) (v7:(List Int)) (v8:(List Int)):Option ((Int×(List Int)×(List Int))⊕((List Int)×(List Int))):=
 if decide (v6<(a1.length:Int))then
  need (Af v6 a1.length)<|
  need ((0:Int)<=(IntKind.wrap .u64 y2))<|
  need (Af v6 v8.length)<|
  if decide ((0:Int)<v6)then
   if decide ((0:Int)<(IntKind.wrap .u64 y2))then
    need (Af v6 (List.set v8 v6.toNat (IntKind.wrap .u32 ((List.getD a1 (v6).toNat (0:Int))*2^(min (IntKind.wrap .u64 y2).toNat (IntKind.bits .u32))))).length)<|
    need (Af (IntKind.wrap .i64 (v6-(1:Int))) a1.length)<|
    need ((0:Int)<=(IntKind.wrap .u64 ((32:Int) -(IntKind.wrap .u64 y2))))<|
    need (Af v6 (List.set v8 v6.toNat (IntKind.wrap .u32 ((List.getD a1 (v6).toNat (0:Int))*2^(min (IntKind.wrap .u64 y2).toNat (IntKind.bits .u32))))).length)<|
    J3 a0 a1 v6 v7 (List.set (List.set v8 v6.toNat (IntKind.wrap .u32 ((List.getD a1 (v6).toNat (0:Int))*2^(min (IntKind.wrap .u64 y2).toNat (IntKind.bits .u32))))) v6.toNat (IntKind.wrap .u32 ((((BitVec.ofInt (IntKind.bits .u32) (List.getD (List.set v8 v6.toNat (IntKind.wrap .u32 ((List.getD a1 (v6).toNat (0:Int))*2^(min (IntKind.wrap .u64 y2).toNat (IntKind.bits .u32))))) v6.toNat (0:Int))|||BitVec.ofInt (IntKind.bits .u32) (Int.fdiv (List.getD a1 (IntKind.wrap .i64 (v6-(1:Int))).toNat (0:Int)) (2^(min (IntKind.wrap .u64 ((32:Int) -(IntKind.wrap .u64 y2))).toNat (IntKind.bits .u32))))).toNat:Nat):Int)))) y2
   else
    J3 a0 a1 v6 v7 (List.set v8 v6.toNat (IntKind.wrap .u32 ((List.getD a1 (v6).toNat (0:Int))*2^(min (IntKind.wrap .u64 y2).toNat (IntKind.bits .u32))))) y2
  else
   J3 a0 a1 v6 v7 (List.set v8 v6.toNat (IntKind.wrap .u32 ((List.getD a1 (v6).toNat (0:Int))*2^(min (IntKind.wrap .u64 y2).toNat (IntKind.bits .u32))))) y2
 else
  some (.inr (v7,v8))
def H2 (a0:(List Int)) (v12:Int) (v15:(List Int)) (r2:((List Int)×(List Int))) (y2:Int):Option ((Int×(List Int))⊕(List Int)):=
 some (.inl (IntKind.wrap .i64 (v12+(1:Int)),v15))
def Nz (a0:(List Int)) (v12:Int) (v14:(List Int)) (r2:((List Int)×(List Int))) (y2:Int):Option ((Int×(List Int))⊕(List Int)):=
 if decide ((0:Int)<v12)then
  if decide ((0:Int)<(IntKind.wrap .u64 y2))then
   need (Af v12 v14.length)<|
   need (Af (IntKind.wrap .i64 (v12-(1:Int))) a0.length)<|
   need ((0:Int)<=(IntKind.wrap .u64 ((32:Int) -(IntKind.wrap .u64 y2))))<|
   need (Af v12 v14.length)<|
   H2 a0 v12 (List.set v14 v12.toNat (IntKind.wrap .u32 ((((BitVec.ofInt (IntKind.bits .u32) (List.getD v14 v12.toNat (0:Int))|||BitVec.ofInt (IntKind.bits .u32) (Int.fdiv (List.getD a0 (IntKind.wrap .i64 (v12-(1:Int))).toNat (0:Int)) (2^(min (IntKind.wrap .u64 ((32:Int) -(IntKind.wrap .u64 y2))).toNat (IntKind.bits .u32))))).toNat:Nat):Int)))) r2 y2
  else
   H2 a0 v12 v14 r2 y2
 else
  H2 a0 v12 v14 r2 y2
def Rm (a0:(List Int)) (r2:((List Int)×(List Int))) (y2:Int) (v12:Int) (v13:(List Int)):Option ((Int×(List Int))⊕(List Int)):=
 if decide (v12<(r2.1.length:Int))then
  if decide (v12<(a0.length:Int))then
   need (Af v12 a0.length)<|
   need ((0:Int)<=(IntKind.wrap .u64 y2))<|
   need (Af v12 v13.length)<|
   Nz a0 v12 (List.set v13 v12.toNat (IntKind.wrap .u32 ((List.getD a0 (v12).toNat (0:Int))*2^(min (IntKind.wrap .u64 y2).toNat (IntKind.bits .u32))))) r2 y2
  else
   Nz a0 v12 v13 r2 y2
 else
  some (.inr v13)
def Oc (v17:Int) (v18:(List Int)) (v19:(List Int)) (v20:Int) (v21:Int) (r2:((List Int)×(List Int))) (y2:Int):Option ((Int×Int)⊕Int):=
 need (Af (IntKind.wrap .i64 ((r2.2.length:Int) -(1:Int))) r2.2.length)<|
 if decide ((4294967296:Int)<=(IntKind.wrap .u64 (v21+(IntKind.wrap .u64 (List.getD r2.2 (IntKind.wrap .i64 ((r2.2.length:Int) -(1:Int))).toNat (0:Int))))))then
  some (.inr (IntKind.wrap .u64 (v20-(1:Int))))
 else
  some (.inl (IntKind.wrap .u64 (v20-(1:Int)),IntKind.wrap .u64 (v21+(IntKind.wrap .u64 (List.getD r2.2 (IntKind.wrap .i64 ((r2.2.length:Int) -(1:Int))).toNat (0:Int))))))
def Sn (v17:Int) (v18:(List Int)) (v19:(List Int)) (r2:((List Int)×(List Int))) (y2:Int) (v20:Int) (v21:Int):Option ((Int×Int)⊕Int):=
 if decide ((4294967296:Int)<=v20)then
  Oc v17 v18 v19 v20 v21 r2 y2
 else
  need (Af (IntKind.wrap .i64 ((r2.2.length:Int) -(2:Int))) r2.2.length)<|
  need ((0:Int)<=(32:Int))<|
  need (Af (IntKind.wrap .i64 ((IntKind.wrap .i64 (v17+(r2.2.length:Int))) -(2:Int))) v18.length)<|
  if decide ((IntKind.wrap .u64 ((((BitVec.ofInt (IntKind.bits .u64) (IntKind.wrap .u64 (v21*2^(min (32:Int).toNat (IntKind.bits .u64))))|||BitVec.ofInt (IntKind.bits .u64) (IntKind.wrap .u64 (List.getD v18 (IntKind.wrap .i64 ((IntKind.wrap .i64 (v17+(r2.2.length:Int))) -(2:Int))).toNat (0:Int)))).toNat:Nat):Int)))<(IntKind.wrap .u64 (v20*(IntKind.wrap .u64 (List.getD r2.2 (IntKind.wrap .i64 ((r2.2.length:Int) -(2:Int))).toNat (0:Int))))))then
   Oc v17 v18 v19 v20 v21 r2 y2
  else
   some (.inr v20)
def Nq (v17:Int) (v19:(List Int)) (v25:Int) (v27:Int) (v28:Int) (v29:(List Int)) (r2:((List Int)×(List Int))) (r4:Int) (y2:Int):Option ((Int×Int×Int×(List Int))⊕(Int×Int×(List Int))):=
 some (.inl (v27,v28,IntKind.wrap .i64 (v25+(1:Int)),v29))
def Rl (v17:Int) (v19:(List Int)) (r2:((List Int)×(List Int))) (r4:Int) (y2:Int) (v23:Int) (v24:Int) (v25:Int) (v26:(List Int)):Option ((Int×Int×Int×(List Int))⊕(Int×Int×(List Int))):=
 if decide (v25<(r2.2.length:Int))then
  need (Af v25 r2.2.length)<|
  need ((0:Int)<=(32:Int))<|
  need (Af (IntKind.wrap .i64 (v25+v17)) v26.length)<|
  need (Af (IntKind.wrap .i64 (v25+v17)) v26.length)<|
  if decide ((IntKind.wrap .i64 ((IntKind.wrap .i64 ((IntKind.wrap .i64 (List.getD v26 (IntKind.wrap .i64 (v25+v17)).toNat (0:Int))) -v23)) -(IntKind.wrap .i64 (IntKind.wrap .u32 (IntKind.wrap .u64 ((IntKind.wrap .u64 (r4*(IntKind.wrap .u64 (List.getD r2.2 v25.toNat (0:Int)))))+v24))))))<(0:Int))then
   Nq v17 v19 v25 (1:Int) (Int.fdiv (IntKind.wrap .u64 ((IntKind.wrap .u64 (r4*(IntKind.wrap .u64 (List.getD r2.2 v25.toNat (0:Int)))))+v24)) (2^(min (32:Int).toNat (IntKind.bits .u64)))) (List.set v26 (IntKind.wrap .i64 (v25+v17)).toNat (IntKind.wrap .u32 (IntKind.wrap .i64 ((IntKind.wrap .i64 ((IntKind.wrap .i64 (List.getD v26 (IntKind.wrap .i64 (v25+v17)).toNat (0:Int))) -v23)) -(IntKind.wrap .i64 (IntKind.wrap .u32 (IntKind.wrap .u64 ((IntKind.wrap .u64 (r4*(IntKind.wrap .u64 (List.getD r2.2 v25.toNat (0:Int)))))+v24)))))))) r2 r4 y2
  else
   Nq v17 v19 v25 (0:Int) (Int.fdiv (IntKind.wrap .u64 ((IntKind.wrap .u64 (r4*(IntKind.wrap .u64 (List.getD r2.2 v25.toNat (0:Int)))))+v24)) (2^(min (32:Int).toNat (IntKind.bits .u64)))) (List.set v26 (IntKind.wrap .i64 (v25+v17)).toNat (IntKind.wrap .u32 (IntKind.wrap .i64 ((IntKind.wrap .i64 ((IntKind.wrap .i64 (List.getD v26 (IntKind.wrap .i64 (v25+v17)).toNat (0:Int))) -v23)) -(IntKind.wrap .i64 (IntKind.wrap .u32 (IntKind.wrap .u64 ((IntKind.wrap .u64 (r4*(IntKind.wrap .u64 (List.getD r2.2 v25.toNat (0:Int)))))+v24)))))))) r2 r4 y2
 else
  some (.inr (v23,v24,v26))
def Su (v17:Int) (v19:(List Int)) (r2:((List Int)×(List Int))) (r4:Int) (y2:Int) (v33:Int) (v34:Int) (v35:(List Int)):Option ((Int×Int×(List Int))⊕(Int×(List Int))):=
 if decide (v34<(r2.2.length:Int))then
  need (Af (IntKind.wrap .i64 (v34+v17)) v35.length)<|
  need (Af v34 r2.2.length)<|
  need (Af (IntKind.wrap .i64 (v34+v17)) v35.length)<|
  need ((0:Int)<=(32:Int))<|
  some (.inl (Int.fdiv (IntKind.wrap .u64 ((IntKind.wrap .u64 ((IntKind.wrap .u64 (List.getD v35 (IntKind.wrap .i64 (v34+v17)).toNat (0:Int)))+(IntKind.wrap .u64 (List.getD r2.2 v34.toNat (0:Int)))))+v33)) (2^(min (32:Int).toNat (IntKind.bits .u64))),IntKind.wrap .i64 (v34+(1:Int)),List.set v35 (IntKind.wrap .i64 (v34+v17)).toNat (IntKind.wrap .u32 (IntKind.wrap .u64 ((IntKind.wrap .u64 ((IntKind.wrap .u64 (List.getD v35 (IntKind.wrap .i64 (v34+v17)).toNat (0:Int)))+(IntKind.wrap .u64 (List.getD r2.2 v34.toNat (0:Int)))))+v33)))))
 else
  some (.inr (v33,v35))
def Np (v17:Int) (v19:(List Int)) (v38:Int) (v39:(List Int)) (r2:((List Int)×(List Int))) (y2:Int):Option ((Int×(List Int)×(List Int))⊕((List Int)×(List Int))):=
 need (Af v17 v19.length)<|
 some (.inl (IntKind.wrap .i64 (v17-(1:Int)),v39,List.set v19 v17.toNat (IntKind.wrap .u32 v38)))
def Js (r2:((List Int)×(List Int))) (y2:Int) (v17:Int) (v18:(List Int)) (v19:(List Int)):Option ((Int×(List Int)×(List Int))⊕((List Int)×(List Int))):=
 if decide ((0:Int)<=v17)then
  need (Af (IntKind.wrap .i64 (v17+(r2.2.length:Int))) v18.length)<|
  need ((0:Int)<=(32:Int))<|
  need (Af (IntKind.wrap .i64 ((IntKind.wrap .i64 (v17+(r2.2.length:Int))) -(1:Int))) v18.length)<|
  need (Af (IntKind.wrap .i64 ((r2.2.length:Int) -(1:Int))) r2.2.length)<|
  need ((IntKind.wrap .u64 (List.getD r2.2 (IntKind.wrap .i64 ((r2.2.length:Int) -(1:Int))).toNat (0:Int)))≠0)<|
  need (Af (IntKind.wrap .i64 ((r2.2.length:Int) -(1:Int))) r2.2.length)<|
  need ((IntKind.wrap .u64 (List.getD r2.2 (IntKind.wrap .i64 ((r2.2.length:Int) -(1:Int))).toNat (0:Int)))≠0)<|
  Option.bind (iter (λ v:(Int×Int)=>Sn v17 v18 v19 r2 y2 v.1 v.2) (IntKind.wrap .u64 (Int.tdiv (IntKind.wrap .u64 ((((BitVec.ofInt (IntKind.bits .u64) (IntKind.wrap .u64 ((IntKind.wrap .u64 (List.getD v18 (IntKind.wrap .i64 (v17+(r2.2.length:Int))).toNat (0:Int)))*2^(min (32:Int).toNat (IntKind.bits .u64))))|||BitVec.ofInt (IntKind.bits .u64) (IntKind.wrap .u64 (List.getD v18 (IntKind.wrap .i64 ((IntKind.wrap .i64 (v17+(r2.2.length:Int))) -(1:Int))).toNat (0:Int)))).toNat:Nat):Int))) (IntKind.wrap .u64 (List.getD r2.2 (IntKind.wrap .i64 ((r2.2.length:Int) -(1:Int))).toNat (0:Int)))),Int.tmod (IntKind.wrap .u64 ((((BitVec.ofInt (IntKind.bits .u64) (IntKind.wrap .u64 ((IntKind.wrap .u64 (List.getD v18 (IntKind.wrap .i64 (v17+(r2.2.length:Int))).toNat (0:Int)))*2^(min (32:Int).toNat (IntKind.bits .u64))))|||BitVec.ofInt (IntKind.bits .u64) (IntKind.wrap .u64 (List.getD v18 (IntKind.wrap .i64 ((IntKind.wrap .i64 (v17+(r2.2.length:Int))) -(1:Int))).toNat (0:Int)))).toNat:Nat):Int))) (IntKind.wrap .u64 (List.getD r2.2 (IntKind.wrap .i64 ((r2.2.length:Int) -(1:Int))).toNat (0:Int))))) λ r4=>
   Option.bind (iter (λ v:(Int×Int×Int×(List Int))=>Rl v17 v19 r2 r4 y2 v.1 v.2.1 v.2.2.1 v.2.2.2) ((0:Int),(0:Int),(0:Int),v18)) λ r5=>
    need (Af (IntKind.wrap .i64 (v17+(r2.2.length:Int))) r5.2.2.length)<|
    need (Af (IntKind.wrap .i64 (v17+(r2.2.length:Int))) r5.2.2.length)<|
    if decide ((IntKind.wrap .i64 ((IntKind.wrap .i64 ((IntKind.wrap .i64 (List.getD r5.2.2 (IntKind.wrap .i64 (v17+(r2.2.length:Int))).toNat (0:Int))) -r5.1)) -(IntKind.wrap .i64 r5.2.1)))<(0:Int))then
     Option.bind (iter (λ v:(Int×Int×(List Int))=>Su v17 v19 r2 r4 y2 v.1 v.2.1 v.2.2) ((0:Int),(0:Int),List.set r5.2.2 (IntKind.wrap .i64 (v17+(r2.2.length:Int))).toNat (IntKind.wrap .u32 (IntKind.wrap .i64 ((IntKind.wrap .i64 ((IntKind.wrap .i64 (List.getD r5.2.2 (IntKind.wrap .i64 (v17+(r2.2.length:Int))).toNat (0:Int))) -r5.1)) -(IntKind.wrap .i64 r5.2.1)))))) λ r6=>
      need (Af (IntKind.wrap .i64 (v17+(r2.2.length:Int))) r6.2.length)<|
      need (Af (IntKind.wrap .i64 (v17+(r2.2.length:Int))) r6.2.length)<|
      Np v17 v19 (IntKind.wrap .u64 (r4-(1:Int))) (List.set r6.2 (IntKind.wrap .i64 (v17+(r2.2.length:Int))).toNat (IntKind.wrap .u32 ((List.getD r6.2 (IntKind.wrap .i64 (v17+(r2.2.length:Int))).toNat (0:Int))+(IntKind.wrap .u32 r6.1)))) r2 y2
    else
     Np v17 v19 r4 (List.set r5.2.2 (IntKind.wrap .i64 (v17+(r2.2.length:Int))).toNat (IntKind.wrap .u32 (IntKind.wrap .i64 ((IntKind.wrap .i64 ((IntKind.wrap .i64 (List.getD r5.2.2 (IntKind.wrap .i64 (v17+(r2.2.length:Int))).toNat (0:Int))) -r5.1)) -(IntKind.wrap .i64 r5.2.1))))) r2 y2
 else
  some (.inr (v18,v19))
def Nu (v42:Int) (v44:(List Int)) (r2:((List Int)×(List Int))) (r7:((List Int)×(List Int))) (y2:Int):Option ((Int×(List Int))⊕(List Int)):=
 some (.inl (IntKind.wrap .i64 (v42+(1:Int)),v44))
def R5 (r2:((List Int)×(List Int))) (r7:((List Int)×(List Int))) (y2:Int) (v42:Int) (v43:(List Int)):Option ((Int×(List Int))⊕(List Int)):=
 if decide (v42<(r2.2.length:Int))then
  need (Af v42 r7.1.length)<|
  need ((0:Int)<=(IntKind.wrap .u64 y2))<|
  need (Af v42 v43.length)<|
  if decide ((0:Int)<(IntKind.wrap .u64 y2))then
   need (Af v42 (List.set v43 v42.toNat (Int.fdiv (List.getD r7.1 v42.toNat (0:Int)) (2^(min (IntKind.wrap .u64 y2).toNat (IntKind.bits .u32))))).length)<|
   need (Af (IntKind.wrap .i64 (v42+(1:Int))) r7.1.length)<|
   need ((0:Int)<=(IntKind.wrap .u64 ((32:Int) -(IntKind.wrap .u64 y2))))<|
   need (Af v42 (List.set v43 v42.toNat (Int.fdiv (List.getD r7.1 v42.toNat (0:Int)) (2^(min (IntKind.wrap .u64 y2).toNat (IntKind.bits .u32))))).length)<|
   Nu v42 (List.set (List.set v43 v42.toNat (Int.fdiv (List.getD r7.1 v42.toNat (0:Int)) (2^(min (IntKind.wrap .u64 y2).toNat (IntKind.bits .u32))))) v42.toNat (IntKind.wrap .u32 ((((BitVec.ofInt (IntKind.bits .u32) (List.getD (List.set v43 v42.toNat (Int.fdiv (List.getD r7.1 v42.toNat (0:Int)) (2^(min (IntKind.wrap .u64 y2).toNat (IntKind.bits .u32))))) v42.toNat (0:Int))|||BitVec.ofInt (IntKind.bits .u32) (IntKind.wrap .u32 ((List.getD r7.1 (IntKind.wrap .i64 (v42+(1:Int))).toNat (0:Int))*2^(min (IntKind.wrap .u64 ((32:Int) -(IntKind.wrap .u64 y2))).toNat (IntKind.bits .u32))))).toNat:Nat):Int)))) r2 r7 y2
  else
   Nu v42 (List.set v43 v42.toNat (Int.fdiv (List.getD r7.1 v42.toNat (0:Int)) (2^(min (IntKind.wrap .u64 y2).toNat (IntKind.bits .u32))))) r2 r7 y2
 else
  some (.inr v43)
def Uw (a0:(List Int)) (a1:(List Int)):Option ((List Int)×(List Int)):=
 Option.bind (Pt a0 a1) λ y1=>
 if decide (y1<(0:Int))then
  need (a0.length*4<=As)<|
  some ([],a0)
 else
  if decide ((a1.length:Int)=(1:Int))then
   need (0<=(a0.length:Int))<|
   need ((a0.length:Int)<=(a0.length:Int))<|
   need ((a0.length:Int)*((4:Nat):Int)<=(As:Int))<|
   Option.bind (iter (λ v:(Int×Int×(List Int))=>S3 a0 a1 v.1 v.2.1 v.2.2) ((0:Int),IntKind.wrap .i64 ((a0.length:Int) -(1:Int)),List.replicate ((a0.length:Int)).toNat (0:Int))) λ r1=>
    some (r1.2,[IntKind.wrap .u32 r1.1])
  else
   need (Af (IntKind.wrap .i64 ((a1.length:Int) -(1:Int))) a1.length)<|
   Option.bind (Gb (List.getD a1 (IntKind.wrap .i64 ((a1.length:Int) -(1:Int))).toNat (0:Int))) λ y2=>
   need (0<=(IntKind.wrap .i64 ((a0.length:Int)+(1:Int))))<|
   need ((IntKind.wrap .i64 ((a0.length:Int)+(1:Int)))<=(IntKind.wrap .i64 ((a0.length:Int)+(1:Int))))<|
   need ((IntKind.wrap .i64 ((a0.length:Int)+(1:Int)))*((4:Nat):Int)<=(As:Int))<|
   need (0<=(a1.length:Int))<|
   need ((a1.length:Int)<=(a1.length:Int))<|
   need ((a1.length:Int)*((4:Nat):Int)<=(As:Int))<|
   Option.bind (iter (λ v:(Int×(List Int)×(List Int))=>Sj a0 a1 y2 v.1 v.2.1 v.2.2) ((0:Int),List.replicate (IntKind.wrap .i64 ((a0.length:Int)+(1:Int))).toNat (0:Int),List.replicate ((a1.length:Int)).toNat (0:Int))) λ r2=>
    Option.bind (iter (λ v:(Int×(List Int))=>Rm a0 r2 y2 v.1 v.2) ((0:Int),r2.1)) λ r3=>
     need (0<=(IntKind.wrap .i64 ((IntKind.wrap .i64 ((a0.length:Int) -(r2.2.length:Int)))+(1:Int))))<|
     need ((IntKind.wrap .i64 ((IntKind.wrap .i64 ((a0.length:Int) -(r2.2.length:Int)))+(1:Int)))<=(IntKind.wrap .i64 ((IntKind.wrap .i64 ((a0.length:Int) -(r2.2.length:Int)))+(1:Int))))<|
     need ((IntKind.wrap .i64 ((IntKind.wrap .i64 ((a0.length:Int) -(r2.2.length:Int)))+(1:Int)))*((4:Nat):Int)<=(As:Int))<|
     Option.bind (iter (λ v:(Int×(List Int)×(List Int))=>Js r2 y2 v.1 v.2.1 v.2.2) (IntKind.wrap .i64 ((a0.length:Int) -(r2.2.length:Int)),r3,List.replicate (IntKind.wrap .i64 ((IntKind.wrap .i64 ((a0.length:Int) -(r2.2.length:Int)))+(1:Int))).toNat (0:Int))) λ r7=>
      need (0<=(r2.2.length:Int))<|
      need ((r2.2.length:Int)<=(r2.2.length:Int))<|
      need ((r2.2.length:Int)*((4:Nat):Int)<=(As:Int))<|
      Option.bind (iter (λ v:(Int×(List Int))=>R5 r2 r7 y2 v.1 v.2) ((0:Int),List.replicate ((r2.2.length:Int)).toNat (0:Int))) λ r8=>
       some (r7.2,r8)
def Yc (a0:A4) (a1:A4):Option (A4×A4):=
 Option.bind (Ic a0) λ y1=>
 Option.bind (Ic a1) λ y2=>
 Option.bind (Uw y1.1 y2.1) λ y3=>
 Option.bind (Ti y3.1 (!(y1.2==y2.2))) λ y4=>
 Option.bind (Ti y3.2 y1.2) λ y5=>
 some (y4,y5)
def Ahq (a0:A4) (a1:A4):Option (A4×A4):=
 if List.isEmpty a0.m then
  if List.isEmpty a1.m then
   if !decide (a0.v=(-9223372036854775808:Int))then
    need (a1.v≠0)<|
    need (a1.v≠0)<|
    some ((⟨IntKind.wrap .i64 (Int.tdiv a0.v a1.v),[],false⟩:A4),(⟨Int.tmod a0.v a1.v,[],false⟩:A4))
   else
    Yc a0 a1
  else
   Yc a0 a1
 else
  Yc a0 a1
def Amp (a0:A4):Option A4:=
 Option.bind (R6 a0) λ y1=>
 if decide (y1<(0:Int))then
  Option.bind (Zl a0) λ y2=>
  some y2
 else
  some a0
def Azh (v7:Int) (v8:Int):Option ((Int×Int)⊕Int):=
 if !decide (v8=(0:Int))then
  need (v8≠0)<|
  some (.inl (v8,Int.tmod v7 v8))
 else
  some (.inr v7)
def Aj4 (v1:Int) (v2:(List Int)) (v3:Bool) (v4:Int) (v5:(List Int)) (v6:Bool):Option ((Int×(List Int)×Bool×Int×(List Int)×Bool)⊕((Int×(List Int)×Bool)⊕A4)):=
 Option.bind (Ahq (⟨v1,v2,v3⟩:A4) (⟨v4,v5,v6⟩:A4)) λ y4=>
 some (.inl (v4,v5,v6,y4.2.v,y4.2.m,y4.2.neg))
def Ayv (v1:Int) (v2:(List Int)) (v3:Bool) (v4:Int) (v5:(List Int)) (v6:Bool):Option ((Int×(List Int)×Bool×Int×(List Int)×Bool)⊕((Int×(List Int)×Bool)⊕A4)):=
 Option.bind (R6 (⟨v4,v5,v6⟩:A4)) λ y3=>
 if !decide (y3=(0:Int))then
  if List.isEmpty v2 then
   if List.isEmpty v5 then
    Option.bind (iter (λ v:(Int×Int)=>Azh v.1 v.2) (v1,v4)) λ r1=>
     some (.inr (.inr (⟨r1,[],false⟩:A4)))
   else
    Aj4 v1 v2 v3 v4 v5 v6
  else
   Aj4 v1 v2 v3 v4 v5 v6
 else
  some (.inr (.inl (v1,v2,v3)))
def A2q (a0:A4) (a1:A4):Option A4:=
 Option.bind (Amp a0) λ y1=>
 Option.bind (Amp a1) λ y2=>
 Option.bind (iter (λ v:(Int×(List Int)×Bool×Int×(List Int)×Bool)=>Ayv v.1 v.2.1 v.2.2.1 v.2.2.2.1 v.2.2.2.2.1 v.2.2.2.2.2) (y1.v,y1.m,y1.neg,y2.v,y2.m,y2.neg)) λ r=>
 match r with
 | .inl r2=>
   some (⟨r2.1,r2.2.1,r2.2.2⟩:A4)
 | .inr r3=>
   some r3
def Ad9 (v7:Int) (v8:(List Int)) (v9:Bool) (v10:Int) (v11:(List Int)) (v12:Bool):Option B7:=
 some (⟨(⟨v7,v8,v9⟩:A4),(⟨v10,v11,v12⟩:A4)⟩:B7)
def Ad8 (v1:Int) (v2:(List Int)) (v3:Bool) (v4:Int) (v5:(List Int)) (v6:Bool) (y4:A4):Option B7:=
 Option.bind (Ahq (⟨v1,v2,v3⟩:A4) y4) λ y5=>
 Option.bind (Ahq (⟨v4,v5,v6⟩:A4) y4) λ y6=>
 Ad9 y5.1.v y5.1.m y5.1.neg y6.1.v y6.1.m y6.1.neg
def Aeh (v1:Int) (v2:(List Int)) (v3:Bool) (v4:Int) (v5:(List Int)) (v6:Bool):Option B7:=
 Option.bind (A2q (⟨v1,v2,v3⟩:A4) (⟨v4,v5,v6⟩:A4)) λ y4=>
 if !List.isEmpty y4.m then
  Ad8 v1 v2 v3 v4 v5 v6 y4
 else
  if !decide (y4.v=(1:Int))then
   Ad8 v1 v2 v3 v4 v5 v6 y4
  else
   Ad9 v1 v2 v3 v4 v5 v6
def Oi (a0:A4) (a1:A4):Option B7:=
 Option.bind (R6 a1) λ y1=>
 if decide (y1<(0:Int))then
  Option.bind (Zl a0) λ y2=>
  Option.bind (Zl a1) λ y3=>
  Aeh y2.v y2.m y2.neg y3.v y3.m y3.neg
 else
  Aeh a0.v a0.m a0.neg a1.v a1.m a1.neg
def Aej (a0:Int) (a1:Int):Option (Int×Int):=
 need ((0:Int)<=(32:Int))<|
 need ((0:Int)<=(32:Int))<|
 need ((0:Int)<=(32:Int))<|
 need ((0:Int)<=(32:Int))<|
 need ((0:Int)<=(32:Int))<|
 some (IntKind.wrap .u64 ((IntKind.wrap .u64 ((IntKind.wrap .u64 ((Int.fdiv a0 (2^(min (32:Int).toNat (IntKind.bits .u64))))*(Int.fdiv a1 (2^(min (32:Int).toNat (IntKind.bits .u64))))))+(Int.fdiv (IntKind.wrap .u64 ((IntKind.wrap .u64 ((Int.fdiv a0 (2^(min (32:Int).toNat (IntKind.bits .u64))))*(IntKind.wrap .u64 ((((BitVec.ofInt (IntKind.bits .u64) a1&&& BitVec.ofInt (IntKind.bits .u64) (4294967295:Int)).toNat:Nat):Int)))))+(Int.fdiv (IntKind.wrap .u64 ((IntKind.wrap .u64 ((((BitVec.ofInt (IntKind.bits .u64) a0&&& BitVec.ofInt (IntKind.bits .u64) (4294967295:Int)).toNat:Nat):Int)))*(IntKind.wrap .u64 ((((BitVec.ofInt (IntKind.bits .u64) a1&&& BitVec.ofInt (IntKind.bits .u64) (4294967295:Int)).toNat:Nat):Int))))) (2^(min (32:Int).toNat (IntKind.bits .u64)))))) (2^(min (32:Int).toNat (IntKind.bits .u64))))))+(Int.fdiv (IntKind.wrap .u64 ((IntKind.wrap .u64 ((((BitVec.ofInt (IntKind.bits .u64) (IntKind.wrap .u64 ((IntKind.wrap .u64 ((Int.fdiv a0 (2^(min (32:Int).toNat (IntKind.bits .u64))))*(IntKind.wrap .u64 ((((BitVec.ofInt (IntKind.bits .u64) a1&&& BitVec.ofInt (IntKind.bits .u64) (4294967295:Int)).toNat:Nat):Int)))))+(Int.fdiv (IntKind.wrap .u64 ((IntKind.wrap .u64 ((((BitVec.ofInt (IntKind.bits .u64) a0&&& BitVec.ofInt (IntKind.bits .u64) (4294967295:Int)).toNat:Nat):Int)))*(IntKind.wrap .u64 ((((BitVec.ofInt (IntKind.bits .u64) a1&&& BitVec.ofInt (IntKind.bits .u64) (4294967295:Int)).toNat:Nat):Int))))) (2^(min (32:Int).toNat (IntKind.bits .u64))))))&&& BitVec.ofInt (IntKind.bits .u64) (4294967295:Int)).toNat:Nat):Int)))+(IntKind.wrap .u64 ((IntKind.wrap .u64 ((((BitVec.ofInt (IntKind.bits .u64) a0&&& BitVec.ofInt (IntKind.bits .u64) (4294967295:Int)).toNat:Nat):Int)))*(Int.fdiv a1 (2^(min (32:Int).toNat (IntKind.bits .u64)))))))) (2^(min (32:Int).toNat (IntKind.bits .u64))))),IntKind.wrap .u64 (a0*a1))
def Aka (v3:Int) (y2:((List Int)×Bool)) (y3:((List Int)×Bool)) (v5:Int) (v6:Int) (v7:(List Int)):Option ((Int×Int×(List Int))⊕(Int×(List Int))):=
 if decide (v6<(y3.1.length:Int))then
  need (Af (IntKind.wrap .i64 (v3+v6)) v7.length)<|
  need (Af v3 y2.1.length)<|
  need (Af v6 y3.1.length)<|
  need (Af (IntKind.wrap .i64 (v3+v6)) v7.length)<|
  need ((0:Int)<=(32:Int))<|
  some (.inl (Int.fdiv (IntKind.wrap .u64 ((IntKind.wrap .u64 ((IntKind.wrap .u64 (List.getD v7 (IntKind.wrap .i64 (v3+v6)).toNat (0:Int)))+(IntKind.wrap .u64 ((IntKind.wrap .u64 (List.getD y2.1 (v3).toNat (0:Int)))*(IntKind.wrap .u64 (List.getD y3.1 (v6).toNat (0:Int)))))))+v5)) (2^(min (32:Int).toNat (IntKind.bits .u64))),IntKind.wrap .i64 (v6+(1:Int)),List.set v7 (IntKind.wrap .i64 (v3+v6)).toNat (IntKind.wrap .u32 (IntKind.wrap .u64 ((IntKind.wrap .u64 ((IntKind.wrap .u64 (List.getD v7 (IntKind.wrap .i64 (v3+v6)).toNat (0:Int)))+(IntKind.wrap .u64 ((IntKind.wrap .u64 (List.getD y2.1 (v3).toNat (0:Int)))*(IntKind.wrap .u64 (List.getD y3.1 (v6).toNat (0:Int)))))))+v5)))))
 else
  some (.inr (v5,v7))
def Akp (y2:((List Int)×Bool)) (y3:((List Int)×Bool)) (v3:Int) (v4:(List Int)):Option ((Int×(List Int))⊕(List Int)):=
 if decide (v3<(y2.1.length:Int))then
  Option.bind (iter (λ v:(Int×Int×(List Int))=>Aka v3 y2 y3 v.1 v.2.1 v.2.2) ((0:Int),(0:Int),v4)) λ r1=>
   need (Af (IntKind.wrap .i64 (v3+(y3.1.length:Int))) r1.2.length)<|
   some (.inl (IntKind.wrap .i64 (v3+(1:Int)),List.set r1.2 (IntKind.wrap .i64 (v3+(y3.1.length:Int))).toNat (IntKind.wrap .u32 r1.1)))
 else
  some (.inr v4)
def Ut (a0:A4) (a1:A4):Option A4:=
 Option.bind (Ic a0) λ y2=>
 Option.bind (Ic a1) λ y3=>
 need (0<=(IntKind.wrap .i64 ((y2.1.length:Int)+(y3.1.length:Int))))<|
 need ((IntKind.wrap .i64 ((y2.1.length:Int)+(y3.1.length:Int)))<=(IntKind.wrap .i64 ((y2.1.length:Int)+(y3.1.length:Int))))<|
 need ((IntKind.wrap .i64 ((y2.1.length:Int)+(y3.1.length:Int)))*((4:Nat):Int)<=(As:Int))<|
 Option.bind (iter (λ v:(Int×(List Int))=>Akp y2 y3 v.1 v.2) ((0:Int),List.replicate (IntKind.wrap .i64 ((y2.1.length:Int)+(y3.1.length:Int))).toNat (0:Int))) λ r2=>
  Option.bind (Ti r2 (!(y2.2==y3.2))) λ y4=>
  some y4
def Ael (a0:A4) (a1:A4) (v1:Int) (v2:Int):Option A4:=
 Option.bind (Aej v1 v2) λ y1=>
 if decide (y1.1=(0:Int))then
  if decide (y1.2<(9223372036854775808:Int))then
   if !((decide (a0.v<(0:Int)))==(decide (a1.v<(0:Int))))then
    some (⟨IntKind.wrap .i64 (0-(IntKind.wrap .i64 y1.2)),[],false⟩:A4)
   else
    some (⟨IntKind.wrap .i64 y1.2,[],false⟩:A4)
  else
   Ut a0 a1
 else
  Ut a0 a1
def Ak2 (a0:A4) (a1:A4) (v1:Int):Option A4:=
 if decide (a1.v<(0:Int))then
  Ael a0 a1 v1 (IntKind.wrap .u64 (0-(IntKind.wrap .u64 a1.v)))
 else
  Ael a0 a1 v1 (IntKind.wrap .u64 a1.v)
def U3 (a0:A4) (a1:A4):Option A4:=
 if List.isEmpty a0.m then
  if List.isEmpty a1.m then
   if decide (a0.v<(0:Int))then
    Ak2 a0 a1 (IntKind.wrap .u64 (0-(IntKind.wrap .u64 a0.v)))
   else
    Ak2 a0 a1 (IntKind.wrap .u64 a0.v)
  else
   Ut a0 a1
 else
  Ut a0 a1
def N3 (v1:(List Int)) (v2:(List Int)) (v4:Int) (v5:(List Int)) (v6:Int):Option ((Int×Int×(List Int))⊕(Int×(List Int))):=
 need ((v5.length+[IntKind.wrap .u32 v6].length)*4<=As)<|
 need ((0:Int)<=(32:Int))<|
 some (.inl (Int.fdiv v6 (2^(min (32:Int).toNat (IntKind.bits .u64))),IntKind.wrap .i64 (v4+(1:Int)),v5++[IntKind.wrap .u32 v6]))
def Yh (v1:(List Int)) (v2:(List Int)) (v3:Int) (v4:Int) (v5:(List Int)):Option ((Int×Int×(List Int))⊕(Int×(List Int))):=
 if decide (v4<(v1.length:Int))then
  need (Af v4 v1.length)<|
  if decide (v4<(v2.length:Int))then
   need (Af v4 v2.length)<|
   N3 v1 v2 v4 v5 (IntKind.wrap .u64 ((IntKind.wrap .u64 ((IntKind.wrap .u64 (List.getD v1 (v4).toNat (0:Int)))+v3))+(IntKind.wrap .u64 (List.getD v2 (v4).toNat (0:Int)))))
  else
   N3 v1 v2 v4 v5 (IntKind.wrap .u64 ((IntKind.wrap .u64 (List.getD v1 (v4).toNat (0:Int)))+v3))
 else
  some (.inr (v3,v5))
def N8 (v1:(List Int)) (v2:(List Int)):Option (List Int):=
 need (0<=(0:Int))<|
 need ((0:Int)<=(IntKind.wrap .i64 ((v1.length:Int)+(1:Int))))<|
 need ((IntKind.wrap .i64 ((v1.length:Int)+(1:Int)))*((4:Nat):Int)<=(As:Int))<|
 Option.bind (iter (λ v:(Int×Int×(List Int))=>Yh v1 v2 v.1 v.2.1 v.2.2) ((0:Int),(0:Int),[])) λ r1=>
  need ((r1.2.length+[IntKind.wrap .u32 r1.1].length)*4<=As)<|
  some (r1.2++[IntKind.wrap .u32 r1.1])
def Up (a0:(List Int)) (a1:(List Int)):Option (List Int):=
 if decide ((a0.length:Int)<(a1.length:Int))then
  N8 a1 a0
 else
  N8 a0 a1
def N4 (a0:(List Int)) (a1:(List Int)) (v2:Int) (v3:(List Int)) (v5:Int) (v6:Int):Option ((Int×Int×(List Int))⊕(List Int)):=
 need ((v3.length+[IntKind.wrap .u32 v6].length)*4<=As)<|
 some (.inl (v5,IntKind.wrap .i64 (v2+(1:Int)),v3++[IntKind.wrap .u32 v6]))
def No (a0:(List Int)) (a1:(List Int)) (v2:Int) (v3:(List Int)) (v4:Int):Option ((Int×Int×(List Int))⊕(List Int)):=
 if decide (v4<(0:Int))then
  N4 a0 a1 v2 v3 (1:Int) (IntKind.wrap .i64 (v4+(4294967296:Int)))
 else
  N4 a0 a1 v2 v3 (0:Int) v4
def Zd (a0:(List Int)) (a1:(List Int)) (v1:Int) (v2:Int) (v3:(List Int)):Option ((Int×Int×(List Int))⊕(List Int)):=
 if decide (v2<(a0.length:Int))then
  need (Af v2 a0.length)<|
  if decide (v2<(a1.length:Int))then
   need (Af v2 a1.length)<|
   No a0 a1 v2 v3 (IntKind.wrap .i64 ((IntKind.wrap .i64 ((IntKind.wrap .i64 (List.getD a0 (v2).toNat (0:Int))) -v1)) -(IntKind.wrap .i64 (List.getD a1 (v2).toNat (0:Int)))))
  else
   No a0 a1 v2 v3 (IntKind.wrap .i64 ((IntKind.wrap .i64 (List.getD a0 (v2).toNat (0:Int))) -v1))
 else
  some (.inr v3)
def Pa (a0:(List Int)) (a1:(List Int)):Option (List Int):=
 need (0<=(0:Int))<|
 need ((0:Int)<=(a0.length:Int))<|
 need ((a0.length:Int)*((4:Nat):Int)<=(As:Int))<|
 Option.bind (iter (λ v:(Int×Int×(List Int))=>Zd a0 a1 v.1 v.2.1 v.2.2) ((0:Int),(0:Int),[])) λ r1=>
  some r1
def Xy (a0:A4) (a1:A4):Option A4:=
 Option.bind (Ic a0) λ y1=>
 Option.bind (Ic a1) λ y2=>
 if(y1.2==y2.2)then
  Option.bind (Up y1.1 y2.1) λ y3=>
  Option.bind (Ti y3 y1.2) λ y4=>
  some y4
 else
  Option.bind (Pt y1.1 y2.1) λ y5=>
  if decide ((0:Int)<=y5)then
   Option.bind (Pa y1.1 y2.1) λ y6=>
   Option.bind (Ti y6 y1.2) λ y7=>
   some y7
  else
   Option.bind (Pa y2.1 y1.1) λ y8=>
   Option.bind (Ti y8 y2.2) λ y9=>
   some y9
def Amo (a0:A4) (a1:A4):Option A4:=
 if List.isEmpty a0.m then
  if List.isEmpty a1.m then
   if((decide (a0.v<(IntKind.wrap .i64 (a0.v+a1.v))))==(decide ((0:Int)<a1.v)))then
    some (⟨IntKind.wrap .i64 (a0.v+a1.v),[],false⟩:A4)
   else
    Xy a0 a1
  else
   Xy a0 a1
 else
  Xy a0 a1
abbrev Vt (v1:(List UInt8)) (v2:A4) (v3:A4):HT:=[.S 0 false,.q .str v1,.S 2 false,.k (.ptr 2 0),.S 3 false,.k (.ptr 3 0),.S 4 false,.v (.int .i64),.S 5 false,.v (.int .i64),.S 7 false,.v (.int .i64),.C 2,.q (.nm 13) v2,.C 3,.q (.nm 13) v3]
abbrev Mx (v1:(List UInt8)) (v2:A4) (v3:A4):HT:=[.S 0 false,.q .str v1,.S 2 false,.k (.ptr 2 0),.S 3 false,.k (.ptr 3 0),.S 4 false,.v (.int .i64),.S 5 false,.v (.int .i64),.S 7 false,.v (.int .i64),.S 22 false,.v (.int .i64),.S 23 false,.v (.int .i64),.C 2,.q (.nm 13) v2,.C 3,.q (.nm 13) v3]
abbrev Va:HT:=[.S 2 false,.k (.ptr 2 0),.S 3 false,.k (.ptr 3 0),.C 2,.s 13,.C 3,.s 13]
abbrev Qx:HT:=[.S 0 false,.v .str,.S 2 false,.k (.ptr 2 0),.S 3 false,.k (.ptr 3 0),.C 2,.s 13,.C 3,.s 13]
def Ahm (v1:(List UInt8)) (v2:A4) (v3:A4):H (Vt v1 v2 v3)->Option ((H Qx)⊕(H Va)):=λ (v9,v10,v11,_)=>
 Option.bind (Ai1 v11) λ y3=>
 Option.bind (U3 v3 y3) λ y4=>
 Option.bind (Ai1 v10) λ y5=>
 Option.bind (Amo y4 y5) λ y6=>
 need ((0:Int)<=v9)<|
 need (v9<=(v1.length:Int))<|
 need ((v1.length:Int)<=(v1.length:Int))<|
 some (.inl ((List.take ((v1.length:Int).toNat-v9.toNat) (List.drop v9.toNat v1)),v2,y6,()))
def Aie (v1:(List UInt8)) (v2:A4) (v3:A4):H (Mx v1 v2 v3)->Option ((H (Mx v1 v2 v3))⊕(H (Vt v1 v2 v3))):=λ (v4,v5,v6,v7,v8,_)=>
 if decide (v8<v7)then
 jp (Mx v1 v2 v3)<|some (.inl (v4,v5,IntKind.wrap .i64 (v6*(10:Int)),v7,IntKind.wrap .i64 (v8+(1:Int)),()))
 else
 jp (Vt v1 v2 v3)<|some (.inr (v4,v5,v6,()))
def Ahi:H Va->Option A4:=λ (v12,v13,_)=>
 some v13
def Aha:H Qx->Option ((H Qx)⊕(H Va)):=λ (v1,v2,v3,_)=>
 if decide ((0:Int)<(v1.length:Int))then
 need ((0:Int)<=(0:Int))<|
 need ((0:Int)<=(if(9:Int)<(v1.length:Int)then(9:Int)else(v1.length:Int)))<|
 need ((if(9:Int)<(v1.length:Int)then(9:Int)else(v1.length:Int))<=(v1.length:Int))<|
 Option.bind (Apx (List.take ((if(9:Int)<(v1.length:Int)then(9:Int)else(v1.length:Int)).toNat-(0:Int).toNat) (List.drop (0:Int).toNat v1))) λ y2=>
 jp (Mx v1 v2 v3)<|Option.bind (iter (Aie v1 v2 v3) ((if(9:Int)<(v1.length:Int)then(9:Int)else(v1.length:Int)),y2,(1:Int),(if(9:Int)<(v1.length:Int)then(9:Int)else(v1.length:Int)),(0:Int),())) (Ahm v1 v2 v3)
 else
 some (.inr (v2,v3,()))
def Uu (a0:(List UInt8)):Option A4:=
 Option.bind (Ai1 (0:Int)) λ y1=>
 Option.bind (iter Aha (a0,(⟨(0:Int),[],false⟩:A4),y1,())) Ahi
def X0 (a0:B7):Option Bool:=
 Option.bind (R6 a0.N) λ y1=>
 some (decide (y1=(0:Int)))
def Ar7 (a0:B7):Option B7:=
 Option.bind (Zl a0.N) λ y1=>
 some (⟨y1,a0.D⟩:B7)
def Aef:Option (Int×Bool):=
 some ((0:Int),false)
def Ala (a0:A4) (a1:Int):Option (Int×Bool):=
 if !List.isEmpty a0.m then
  Aef
 else
  if decide (a1<a0.v)then
   Aef
  else
   if decide (a0.v<(IntKind.wrap .i64 (0-a1)))then
    Aef
   else
    some (a0.v,true)
def Akg:Option (Bd×Bool):=
 some ((⟨(0:Int),(0:Int)⟩:Bd),false)
def Alo (a0:B7):Option (Bd×Bool):=
 Option.bind (Ala a0.N (1000000000000:Int)) λ y1=>
 Option.bind (Ala a0.D (1000000000000:Int)) λ y2=>
 if !y1.2 then
  Akg
 else
  if !y2.2 then
   Akg
  else
   some ((⟨y1.1,y2.1⟩:Bd),true)
def A8g (a0:B7):Option (Bd×Int):=
 Option.bind (Alo a0) λ y1=>
 if !y1.2 then
 some ((⟨(0:Int),(0:Int)⟩:Bd),(3:Int))
 else
 some (y1.1,(0:Int))
abbrev A51:HT:=[.S 2 false,.k (.ptr 2 0),.C 2,.s 0]
abbrev Aii (v4:Bd):HT:=[.S 2 false,.k (.ptr 2 0),.S 9 false,.k (.ptr 9 0),.C 2,.q (.nm 0) v4,.C 9,.s 14]
abbrev A43:HT:=[.S 2 false,.k (.ptr 2 0),.S 5 false,.v .bool,.S 9 false,.k (.ptr 9 0),.C 2,.s 0,.C 9,.s 14]
abbrev A5c:HT:=[.S 2 false,.k (.ptr 2 0),.C 2,.s 0]
def Agd:H A51->Option (Bd×Int):=λ (v1,_)=>
 some ((⟨(0:Int),(0:Int)⟩:Bd),(2:Int))
def Aft (v4:Bd):H (Aii v4)->Option (Bd×Int):=λ (v6,_)=>
 Option.bind (A8g v6) λ y21=>
 some (y21.1,y21.2)
def X9:H A43->Option (Bd×Int):=λ (v3,v4,v5,_)=>
 if v3 then
 Option.bind (X0 v5) λ y19=>
 if y19 then
  some ((⟨(0:Int),(0:Int)⟩:Bd),(2:Int))
 else
  Option.bind (Ar7 v5) λ y20=>
  jp (Aii v4)<|Aft v4 (y20,())
 else
 jp (Aii v4)<|Aft v4 (v5,())
def Xm:H A5c->Option (Bd×Int):=λ (v2,_)=>
 some ((⟨(0:Int),(0:Int)⟩:Bd),(2:Int))
def Ayq (a0:(List UInt8)):Option (Bd×Int):=
 Option.bind (Qp a0 ([45]:List UInt8)) λ y1=>
 Option.bind (Pu y1.1 ([47]:List UInt8)) λ y2=>
 Option.bind (Xn y1.1 (46:Int)) λ y3=>
 if y2.2.2 then
 Option.bind (H0 y2.1) λ y4=>
 if !y4 then
  Agd ((⟨(0:Int),(0:Int)⟩:Bd),())
 else
  Option.bind (H0 y2.2.1) λ y5=>
  if !y5 then
   Agd ((⟨(0:Int),(0:Int)⟩:Bd),())
  else
   if decide (y2.2.1=([48]:List UInt8))then
    Agd ((⟨(0:Int),(0:Int)⟩:Bd),())
   else
    Option.bind (Uu y2.1) λ y6=>
    Option.bind (Uu y2.2.1) λ y7=>
    Option.bind (Oi y6 y7) λ y8=>
    X9 (y1.2,(⟨(0:Int),(0:Int)⟩:Bd),y8,())
 else
 if decide ((0:Int)<=y3)then
  need ((0:Int)<=(0:Int))<|
  need ((0:Int)<=y3)<|
  need (y3<=(y1.1.length:Int))<|
  need ((0:Int)<=(IntKind.wrap .i64 (y3+(1:Int))))<|
  need ((IntKind.wrap .i64 (y3+(1:Int)))<=(y1.1.length:Int))<|
  need ((y1.1.length:Int)<=(y1.1.length:Int))<|
  Option.bind (H0 (List.take (y3.toNat-(0:Int).toNat) (List.drop (0:Int).toNat y1.1))) λ y9=>
  if !y9 then
   Xm ((⟨(0:Int),(0:Int)⟩:Bd),())
  else
   if decide ((List.take ((y1.1.length:Int).toNat-(IntKind.wrap .i64 (y3+(1:Int))).toNat) (List.drop (IntKind.wrap .i64 (y3+(1:Int))).toNat y1.1))=([]:List UInt8))then
    Xm ((⟨(0:Int),(0:Int)⟩:Bd),())
   else
    if decide ((12:Int)<((List.take ((y1.1.length:Int).toNat-(IntKind.wrap .i64 (y3+(1:Int))).toNat) (List.drop (IntKind.wrap .i64 (y3+(1:Int))).toNat y1.1)).length:Int))then
     Xm ((⟨(0:Int),(0:Int)⟩:Bd),())
    else
     Option.bind (Pm (List.take ((y1.1.length:Int).toNat-(IntKind.wrap .i64 (y3+(1:Int))).toNat) (List.drop (IntKind.wrap .i64 (y3+(1:Int))).toNat y1.1))) λ y10=>
     if !y10 then
      Xm ((⟨(0:Int),(0:Int)⟩:Bd),())
     else
      need ((List.take (y3.toNat-(0:Int).toNat) (List.drop (0:Int).toNat y1.1)).length+(List.take ((y1.1.length:Int).toNat-(IntKind.wrap .i64 (y3+(1:Int))).toNat) (List.drop (IntKind.wrap .i64 (y3+(1:Int))).toNat y1.1)).length<=As)<|
      Option.bind (Uu ((List.take (y3.toNat-(0:Int).toNat) (List.drop (0:Int).toNat y1.1))++(List.take ((y1.1.length:Int).toNat-(IntKind.wrap .i64 (y3+(1:Int))).toNat) (List.drop (IntKind.wrap .i64 (y3+(1:Int))).toNat y1.1)))) λ y11=>
      Option.bind (Yz ([48]:List UInt8) ((List.take ((y1.1.length:Int).toNat-(IntKind.wrap .i64 (y3+(1:Int))).toNat) (List.drop (IntKind.wrap .i64 (y3+(1:Int))).toNat y1.1)).length:Int)) λ y12=>
      need (([49]:List UInt8).length+y12.length<=As)<|
      Option.bind (Uu (([49]:List UInt8)++y12)) λ y13=>
      Option.bind (Oi y11 y13) λ y14=>
      X9 (y1.2,(⟨(0:Int),(0:Int)⟩:Bd),y14,())
 else
  Option.bind (H0 y1.1) λ y15=>
  if !y15 then
   some ((⟨(0:Int),(0:Int)⟩:Bd),(2:Int))
  else
   Option.bind (Uu y1.1) λ y16=>
   Option.bind (Ai1 (1:Int)) λ y17=>
   Option.bind (Oi y16 y17) λ y18=>
   X9 (y1.2,(⟨(0:Int),(0:Int)⟩:Bd),y18,())
def Beo (a0:Bd):Option B7:=
 Option.bind (Ai1 a0.N) λ y1=>
 Option.bind (Ai1 a0.D) λ y2=>
 some (⟨y1,y2⟩:B7)
abbrev Aup:HT:=[.S 2 false,.k (.ptr 2 0),.C 2,.s 14]
abbrev Zb (v3:(List UInt8)) (v4:Int) (v5:B7) (v6:Bd):HT:=[.S 2 false,.k (.ptr 2 0),.S 6 false,.q .str v3,.S 8 false,.k (.ptr 8 0),.S 9 false,.q (.int .i64) v4,.C 2,.q (.nm 14) v5,.C 8,.q (.nm 0) v6]
abbrev Ato:HT:=[.S 2 false,.k (.ptr 2 0),.S 5 false,.v .str,.S 6 false,.v .str,.S 8 false,.k (.ptr 8 0),.S 9 false,.v (.int .i64),.C 2,.s 14,.C 8,.s 0]
def Acq:H Aup->Option (B7×(List UInt8)×Int):=λ (v1,_)=>
 some ((⟨(⟨(0:Int),[],false⟩:A4),(⟨(0:Int),[],false⟩:A4)⟩:B7),([]:List UInt8),(2:Int))
def Vf (v3:(List UInt8)) (v4:Int) (v5:B7) (v6:Bd):H (Zb v3 v4 v5 v6)->Option (B7×(List UInt8)×Int):=λ _=>
 if !decide (v4=(0:Int))then
 some ((⟨(⟨(0:Int),[],false⟩:A4),(⟨(0:Int),[],false⟩:A4)⟩:B7),v3,v4)
 else
 Option.bind (Beo v6) λ y4=>
 some (y4,v3,(0:Int))
def Vr:H Ato->Option (B7×(List UInt8)×Int):=λ (v2,v3,v4,v5,v6,_)=>
 if !decide (v4=(0:Int))then
 need (Af (0:Int) v2.length)<|
 if decide (((List.getD v2 (0:Int).toNat 0).toNat:Int)=(45:Int))then
  some ((⟨(⟨(0:Int),[],false⟩:A4),(⟨(0:Int),[],false⟩:A4)⟩:B7),([]:List UInt8),(2:Int))
 else
  jp (Zb v3 v4 v5 v6)<|Vf v3 v4 v5 v6 ()
 else
 jp (Zb v3 v4 v5 v6)<|Vf v3 v4 v5 v6 ()
def Ame (a0:(List UInt8)):Option (B7×(List UInt8)×Int):=
 Option.bind (Pu a0 ([32]:List UInt8)) λ y1=>
 if !y1.2.2 then
 Option.bind (Aaj (1:Int)) λ y2=>
 some (y2,a0,(0:Int))
 else
 Option.bind (Ayq y1.1) λ y3=>
 if decide (y3.2=(2:Int))then
  Acq ((⟨(⟨(0:Int),[],false⟩:A4),(⟨(0:Int),[],false⟩:A4)⟩:B7),())
 else
  if decide (y3.2=(0:Int))then
   if decide (y3.1.N<(1:Int))then
    Acq ((⟨(⟨(0:Int),[],false⟩:A4),(⟨(0:Int),[],false⟩:A4)⟩:B7),())
   else
    Vr (y1.1,y1.2.1,y3.2,(⟨(⟨(0:Int),[],false⟩:A4),(⟨(0:Int),[],false⟩:A4)⟩:B7),y3.1,())
  else
   Vr (y1.1,y1.2.1,y3.2,(⟨(⟨(0:Int),[],false⟩:A4),(⟨(0:Int),[],false⟩:A4)⟩:B7),y3.1,())
def P9 (a0:Int):Option Bool:=
 if decide ((97:Int)<=a0)then
 if decide (a0<=(122:Int))then
  some true
 else
  if decide ((65:Int)<=a0)then
   some (decide (a0<=(90:Int)))
  else
   some false
 else
 if decide ((65:Int)<=a0)then
  some (decide (a0<=(90:Int)))
 else
  some false
abbrev Ap4:HT:=[]
abbrev V6 (a1:Int) (v1:(List (List UInt8))) (v2:Int) (v3:Int):HT:=[.S 1 false,.q (.int .i64) a1,.S 6 false,.k (.ar 75 0),.S 10 false,.k (.ptr 10 0),.S 13 false,.q (.sl .str) v1,.S 14 false,.q (.int .i64) v2,.S 15 false,.q (.int .i64) v3,.C 10,.s 15,.A 75 251 (.nm 15) 0 false]
abbrev V0 (a1:Int) (v1:(List (List UInt8))) (v2:Int) (v3:Int):HT:=[.S 1 false,.q (.int .i64) a1,.S 6 false,.k (.ar 75 0),.S 10 false,.k (.ptr 10 0),.S 11 false,.v .str,.S 13 false,.q (.sl .str) v1,.S 14 false,.q (.int .i64) v2,.S 15 false,.q (.int .i64) v3,.C 10,.s 15,.A 75 251 (.nm 15) 0 false]
abbrev La (a1:Int) (v1:(List (List UInt8))) (v2:Int) (v3:Int):HT:=[.S 1 false,.q (.int .i64) a1,.S 6 false,.k (.ar 75 0),.S 8 false,.q .str (List.getD v1 (v3).toNat ([]:(List UInt8))),.S 9 false,.v (.int .i64),.S 13 false,.q (.sl .str) v1,.S 14 false,.q (.int .i64) v2,.S 15 false,.q (.int .i64) v3,.A 75 251 (.nm 15) 0 false]
abbrev Io (a1:Int) (v1:(List (List UInt8))) (v2:Int) (v3:Int):HT:=[.S 1 false,.q (.int .i64) a1,.S 6 false,.k (.ar 75 0),.S 8 false,.q .str (List.getD v1 (v3).toNat ([]:(List UInt8))),.S 9 false,.v (.int .i64),.S 13 false,.q (.sl .str) v1,.S 14 false,.q (.int .i64) v2,.S 15 false,.q (.int .i64) v3,.A 75 251 (.nm 15) 0 false]
abbrev Gy:HT:=[.S 6 false,.k (.ar 75 0),.A 75 251 (.nm 15) 0 false]
abbrev Ds (a1:Int):HT:=[.S 1 false,.q (.int .i64) a1,.S 6 false,.k (.ar 75 0),.S 13 false,.v (.sl .str),.S 14 false,.v (.int .i64),.S 15 false,.v (.int .i64),.A 75 251 (.nm 15) 0 false]
def N9 (a1:Int):H Ap4->Option ((H (Ds a1))⊕((H Gy)⊕((List Bm)×Bool))):=λ _=>
 some (.inr (.inr ([],false)))
def Sa (a1:Int) (v1:(List (List UInt8))) (v2:Int) (v3:Int):H (V6 a1 v1 v2 v3)->Option ((H (Ds a1))⊕((H Gy)⊕((List Bm)×Bool))):=λ (v12,v13,_)=>
 need ((v13.length+[v12].length)*24<=As)<|
 jp (Ds a1)<|some (.inl (v1,v2,IntKind.wrap .i64 (v3+(1:Int)),v13++[v12],()))
def Rh (a1:Int) (v1:(List (List UInt8))) (v2:Int) (v3:Int):H (V0 a1 v1 v2 v3)->Option ((H (Ds a1))⊕((H Gy)⊕((List Bm)×Bool))):=λ (v9,v10,v11,_)=>
 if !decide ((v9.length:Int)=(1:Int))then
 N9 a1 ()
 else
 need (Af (0:Int) v9.length)<|
 if decide (((List.getD v9 (0:Int).toNat 0).toNat:Int)<(49:Int))then
  N9 a1 ()
 else
  need (Af (0:Int) v9.length)<|
  if decide ((57:Int)<((List.getD v9 (0:Int).toNat 0).toNat:Int))then
   N9 a1 ()
  else
   need (Af (0:Int) v9.length)<|
   jp (V6 a1 v1 v2 v3)<|Sa a1 v1 v2 v3 ((⟨v10.name,IntKind.wrap .i64 (v10.n*(IntKind.wrap .i64 (IntKind.wrap .u8 (((List.getD v9 (0:Int).toNat 0).toNat:Int) -(48:Int)))))⟩:Bm),v11,())
def Se (a1:Int) (v1:(List (List UInt8))) (v2:Int) (v3:Int):H (La a1 v1 v2 v3)->Option ((H (Ds a1))⊕((H Gy)⊕((List Bm)×Bool))):=λ (v7,v8,_)=>
 need ((0:Int)<=(0:Int))<|
 need ((0:Int)<=v7)<|
 need (v7<=((List.getD v1 (v3).toNat ([]:(List UInt8))).length:Int))<|
 need ((0:Int)<=v7)<|
 need (v7<=((List.getD v1 (v3).toNat ([]:(List UInt8))).length:Int))<|
 need (((List.getD v1 (v3).toNat ([]:(List UInt8))).length:Int)<=((List.getD v1 (v3).toNat ([]:(List UInt8))).length:Int))<|
 if decide (v7=(0:Int))then
 some (.inr (.inr ([],false)))
 else
 if !decide ((List.take (((List.getD v1 (v3).toNat ([]:(List UInt8))).length:Int).toNat-v7.toNat) (List.drop v7.toNat (List.getD v1 (v3).toNat ([]:(List UInt8)))))=([]:List UInt8))then
  need (Af (0:Int) (List.take (((List.getD v1 (v3).toNat ([]:(List UInt8))).length:Int).toNat-v7.toNat) (List.drop v7.toNat (List.getD v1 (v3).toNat ([]:(List UInt8))))).length)<|
  if decide (((List.getD (List.take (((List.getD v1 (v3).toNat ([]:(List UInt8))).length:Int).toNat-v7.toNat) (List.drop v7.toNat (List.getD v1 (v3).toNat ([]:(List UInt8))))) (0:Int).toNat 0).toNat:Int)=(45:Int))then
   need ((0:Int)<=(1:Int))<|
   need ((1:Int)<=((List.take (((List.getD v1 (v3).toNat ([]:(List UInt8))).length:Int).toNat-v7.toNat) (List.drop v7.toNat (List.getD v1 (v3).toNat ([]:(List UInt8))))).length:Int))<|
   need (((List.take (((List.getD v1 (v3).toNat ([]:(List UInt8))).length:Int).toNat-v7.toNat) (List.drop v7.toNat (List.getD v1 (v3).toNat ([]:(List UInt8))))).length:Int)<=((List.take (((List.getD v1 (v3).toNat ([]:(List UInt8))).length:Int).toNat-v7.toNat) (List.drop v7.toNat (List.getD v1 (v3).toNat ([]:(List UInt8))))).length:Int))<|
   jp (V0 a1 v1 v2 v3)<|Rh a1 v1 v2 v3 ((List.take (((List.take (((List.getD v1 (v3).toNat ([]:(List UInt8))).length:Int).toNat-v7.toNat) (List.drop v7.toNat (List.getD v1 (v3).toNat ([]:(List UInt8))))).length:Int).toNat-(1:Int).toNat) (List.drop (1:Int).toNat (List.take (((List.getD v1 (v3).toNat ([]:(List UInt8))).length:Int).toNat-v7.toNat) (List.drop v7.toNat (List.getD v1 (v3).toNat ([]:(List UInt8))))))),(⟨(List.take (v7.toNat-(0:Int).toNat) (List.drop (0:Int).toNat (List.getD v1 (v3).toNat ([]:(List UInt8))))),IntKind.wrap .i64 (0-a1)⟩:Bm),v8,())
  else
   jp (V0 a1 v1 v2 v3)<|Rh a1 v1 v2 v3 ((List.take (((List.getD v1 (v3).toNat ([]:(List UInt8))).length:Int).toNat-v7.toNat) (List.drop v7.toNat (List.getD v1 (v3).toNat ([]:(List UInt8))))),(⟨(List.take (v7.toNat-(0:Int).toNat) (List.drop (0:Int).toNat (List.getD v1 (v3).toNat ([]:(List UInt8))))),a1⟩:Bm),v8,())
 else
  jp (V6 a1 v1 v2 v3)<|Sa a1 v1 v2 v3 ((⟨(List.take (v7.toNat-(0:Int).toNat) (List.drop (0:Int).toNat (List.getD v1 (v3).toNat ([]:(List UInt8))))),a1⟩:Bm),v8,())
def Ys (a1:Int) (v1:(List (List UInt8))) (v2:Int) (v3:Int):H (Io a1 v1 v2 v3)->Option ((H (Io a1 v1 v2 v3))⊕(H (La a1 v1 v2 v3))):=λ (v5,v6,_)=>
 if decide (v5<((List.getD v1 (v3).toNat ([]:(List UInt8))).length:Int))then
 need (Af v5 (List.getD v1 (v3).toNat ([]:(List UInt8))).length)<|
 Option.bind (P9 ((List.getD (List.getD v1 (v3).toNat ([]:(List UInt8))) v5.toNat 0).toNat:Int)) λ y2=>
 if y2 then
  jp (Io a1 v1 v2 v3)<|some (.inl (IntKind.wrap .i64 (v5+(1:Int)),v6,()))
 else
  jp (La a1 v1 v2 v3)<|some (.inr (v5,v6,()))
 else
 jp (La a1 v1 v2 v3)<|some (.inr (v5,v6,()))
def H8:H Gy->Option ((List Bm)×Bool):=λ (v14,_)=>
 some (v14,true)
def Y7 (a1:Int):H (Ds a1)->Option ((H (Ds a1))⊕((H Gy)⊕((List Bm)×Bool))):=λ (v1,v2,v3,v4,_)=>
 if decide (v3<v2)then
 need (Af v3 v1.length)<|
 jp (Io a1 v1 v2 v3)<|Option.bind (iter (Ys a1 v1 v2 v3) ((0:Int),v4,())) (Se a1 v1 v2 v3)
 else
 some (.inr (.inl (v4,())))
def Zr (a0:(List UInt8)) (a1:Int):Option ((List Bm)×Bool):=
 Option.bind (Mu a0 ([46]:List UInt8)) λ y1=>
 jp (Ds a1)<|Option.bind (iter (Y7 a1) (y1,(y1.length:Int),(0:Int),([]:List Bm),())) (Sum.elim H8 (λ y=>some y))
def Bdv (a0:A7):Option Bu:=
 Option.bind (Beo a0.F) λ y1=>
 some (⟨a0.E,y1⟩:Bu)
def Asd (a0:Int) (a1:Int):Option B7:=
 Option.bind (Ai1 a0) λ y1=>
 Option.bind (Ai1 a1) λ y2=>
 Option.bind (Oi y1 y2) λ y3=>
 some y3
def Alk (a0:Int):Option (B7×Bool):=
 if decide (a0=(110:Int))then
 Option.bind (Asd (1:Int) (1000000000:Int)) λ y1=>
 some (y1,true)
 else
 if decide (a0=(117:Int))then
  Option.bind (Asd (1:Int) (1000000:Int)) λ y2=>
  some (y2,true)
 else
  if decide (a0=(109:Int))then
   Option.bind (Asd (1:Int) (1000:Int)) λ y3=>
   some (y3,true)
  else
   if decide (a0=(107:Int))then
    Option.bind (Aaj (1000:Int)) λ y4=>
    some (y4,true)
   else
    if decide (a0=(77:Int))then
     Option.bind (Aaj (1000000:Int)) λ y5=>
     some (y5,true)
    else
     if decide (a0=(71:Int))then
      Option.bind (Aaj (1000000000:Int)) λ y6=>
      some (y6,true)
     else
      some ((⟨(⟨(0:Int),[],false⟩:A4),(⟨(0:Int),[],false⟩:A4)⟩:B7),false)
def Asf (a0:A4) (a1:A4):Option A4:=
 Option.bind (Zl a1) λ y1=>
 Option.bind (Amo a0 y1) λ y2=>
 some y2
def Aei (a0:A4) (a1:A4):Option Int:=
 Option.bind (Asf a0 a1) λ y1=>
 Option.bind (R6 y1) λ y2=>
 some y2
def Ar9 (a0:A4) (a1:A4):Option Int:=
 if List.isEmpty a0.m then
  if List.isEmpty a1.m then
   if decide (a0.v<a1.v)then
    some (-1:Int)
   else
    if decide (a1.v<a0.v)then
     some (1:Int)
    else
     some (0:Int)
  else
   Aei a0 a1
 else
  Aei a0 a1
def Xq (a0:B7):Option Bool:=
 Option.bind (Ai1 (1:Int)) λ y1=>
 Option.bind (Ar9 a0.D y1) λ y2=>
 some (decide (y2=(0:Int)))
def Asr (a0:B7) (a1:B7):Option B7:=
 Option.bind (U3 a0.N a1.N) λ y4=>
 Option.bind (U3 a0.D a1.D) λ y5=>
 Option.bind (Oi y4 y5) λ y6=>
 some y6
def Aci (a0:B7) (a1:B7):Option B7:=
 Option.bind (Xq a0) λ y1=>
 if y1 then
  Option.bind (Xq a1) λ y2=>
  if y2 then
   Option.bind (U3 a0.N a1.N) λ y3=>
   some (⟨y3,a0.D⟩:B7)
  else
   Asr a0 a1
 else
  Asr a0 a1
def Ak6:Option (List ((List UInt8)×A7)):=
 Option.bind (Br (1:Int) (1:Int) [(1:Int)]) λ y1=>
 Option.bind (Br (1:Int) (1:Int) [(0:Int),(1:Int)]) λ y2=>
 Option.bind (Br (1:Int) (1:Int) [(0:Int),(0:Int),(1:Int)]) λ y3=>
 Option.bind (Br (1:Int) (1:Int) [(0:Int),(0:Int),(0:Int),(1:Int)]) λ y4=>
 Option.bind (Br (1:Int) (1:Int) [(0:Int),(0:Int),(0:Int),(0:Int),(1:Int)]) λ y5=>
 Option.bind (Br (1:Int) (1:Int) [(0:Int),(0:Int),(0:Int),(0:Int),(0:Int),(1:Int)]) λ y6=>
 Option.bind (Br (1:Int) (1:Int) [(0:Int),(0:Int),(0:Int),(0:Int),(0:Int),(0:Int),(1:Int)]) λ y7=>
 Option.bind (Br (1:Int) (1000:Int) [(0:Int),(1:Int)]) λ y8=>
 Option.bind (Br (1:Int) (1:Int) [(0:Int),(0:Int),(-1:Int)]) λ y9=>
 Option.bind (Br (1:Int) (1:Int) [(1:Int),(1:Int),(-2:Int)]) λ y10=>
 Option.bind (Br (1:Int) (1:Int) [(-1:Int),(1:Int),(-2:Int)]) λ y11=>
 Option.bind (Br (1:Int) (1:Int) [(2:Int),(1:Int),(-2:Int)]) λ y12=>
 Option.bind (Br (1:Int) (1:Int) [(2:Int),(1:Int),(-3:Int)]) λ y13=>
 Option.bind (Br (1:Int) (1:Int) [(0:Int),(0:Int),(1:Int),(1:Int)]) λ y14=>
 Option.bind (Br (1:Int) (1:Int) [(2:Int),(1:Int),(-3:Int),(-1:Int)]) λ y15=>
 Option.bind (Br (1:Int) (1:Int) [(2:Int),(1:Int),(-3:Int),(-2:Int)]) λ y16=>
 Option.bind (Br (1:Int) (1:Int) [(-2:Int),(-1:Int),(3:Int),(2:Int)]) λ y17=>
 Option.bind (Br (1:Int) (1:Int) [(-2:Int),(-1:Int),(4:Int),(2:Int)]) λ y18=>
 Option.bind (Br (1:Int) (1:Int) [(2:Int),(1:Int),(-2:Int),(-1:Int)]) λ y19=>
 Option.bind (Br (1:Int) (1:Int) [(2:Int),(1:Int),(-2:Int),(-2:Int)]) λ y20=>
 Option.bind (Br (60:Int) (1:Int) [(0:Int),(0:Int),(1:Int)]) λ y21=>
 Option.bind (Br (3600:Int) (1:Int) [(0:Int),(0:Int),(1:Int)]) λ y22=>
 Option.bind (Br (1:Int) (1000:Int) [(3:Int)]) λ y23=>
 Option.bind (Br (100000:Int) (1:Int) [(-1:Int),(1:Int),(-2:Int)]) λ y24=>
 Option.bind (Br (1:Int) (1:Int) []) λ y25=>
 some (Hc kqS ([114,97,100]:List UInt8) y25 (Hc kqS ([98,97,114]:List UInt8) y24 (Hc kqS ([76]:List UInt8) y23 (Hc kqS ([104]:List UInt8) y22 (Hc kqS ([109,105,110]:List UInt8) y21 (Hc kqS ([72]:List UInt8) y20 (Hc kqS ([87,98]:List UInt8) y19 (Hc kqS ([70]:List UInt8) y18 (Hc kqS ([83]:List UInt8) y17 (Hc kqS ([79,104,109]:List UInt8) y16 (Hc kqS ([86]:List UInt8) y15 (Hc kqS ([67]:List UInt8) y14 (Hc kqS ([87]:List UInt8) y13 (Hc kqS ([74]:List UInt8) y12 (Hc kqS ([80,97]:List UInt8) y11 (Hc kqS ([78]:List UInt8) y10 (Hc kqS ([72,122]:List UInt8) y9 (Hc kqS ([103]:List UInt8) y8 (Hc kqS ([99,100]:List UInt8) y7 (Hc kqS ([109,111,108]:List UInt8) y6 (Hc kqS ([75]:List UInt8) y5 (Hc kqS ([65]:List UInt8) y4 (Hc kqS ([115]:List UInt8) y3 (Hc kqS ([107,103]:List UInt8) y2 (Hc kqS ([109]:List UInt8) y1 ([]:(List ((List UInt8)×A7))))))))))))))))))))))))))))
abbrev Ayt:HT:=[.S 2 false,.k (.ptr 2 0),.C 2,.s 16]
def Li:H Ayt->Option (Bu×Bool):=λ (v1,_)=>
 some ((⟨(⟨(0:Int),(0:Int),(0:Int),(0:Int),(0:Int),(0:Int),(0:Int)⟩:E9),(⟨(⟨(0:Int),[],false⟩:A4),(⟨(0:Int),[],false⟩:A4)⟩:B7)⟩:Bu),false)
def Asg (a0:(List UInt8)):Option (Bu×Bool):=
 Option.bind (Ak6) λ y1=>
 if Option.isSome (Kh kqS a0 y1)then
 Option.bind (Bdv (⟨((Option.getD (Kh kqS a0 y1) (Aex)).E),((Option.getD (Kh kqS a0 y1) (Aex)).F)⟩:A7)) λ y2=>
 some (y2,true)
 else
 if decide ((a0.length:Int)<(2:Int))then
  some ((⟨(⟨(0:Int),(0:Int),(0:Int),(0:Int),(0:Int),(0:Int),(0:Int)⟩:E9),(⟨(⟨(0:Int),[],false⟩:A4),(⟨(0:Int),[],false⟩:A4)⟩:B7)⟩:Bu),false)
 else
  need (Af (0:Int) a0.length)<|
  Option.bind (Alk ((List.getD a0 (0:Int).toNat 0).toNat:Int)) λ y3=>
  need ((0:Int)<=(1:Int))<|
  need ((1:Int)<=(a0.length:Int))<|
  need ((a0.length:Int)<=(a0.length:Int))<|
  if !y3.2 then
   Li ((⟨(⟨(0:Int),(0:Int),(0:Int),(0:Int),(0:Int),(0:Int),(0:Int)⟩:E9),(⟨(⟨(0:Int),[],false⟩:A4),(⟨(0:Int),[],false⟩:A4)⟩:B7)⟩:Bu),())
  else
   if !(Option.isSome (Kh kqS (List.take ((a0.length:Int).toNat-(1:Int).toNat) (List.drop (1:Int).toNat a0)) y1))then
    Li ((⟨(⟨(0:Int),(0:Int),(0:Int),(0:Int),(0:Int),(0:Int),(0:Int)⟩:E9),(⟨(⟨(0:Int),[],false⟩:A4),(⟨(0:Int),[],false⟩:A4)⟩:B7)⟩:Bu),())
   else
    need ((0:Int)<=(1:Int))<|
    need ((1:Int)<=(a0.length:Int))<|
    need ((a0.length:Int)<=(a0.length:Int))<|
    if decide ((List.take ((a0.length:Int).toNat-(1:Int).toNat) (List.drop (1:Int).toNat a0))=([107,103]:List UInt8))then
     Li ((⟨(⟨(0:Int),(0:Int),(0:Int),(0:Int),(0:Int),(0:Int),(0:Int)⟩:E9),(⟨(⟨(0:Int),[],false⟩:A4),(⟨(0:Int),[],false⟩:A4)⟩:B7)⟩:Bu),())
    else
     need ((0:Int)<=(1:Int))<|
     need ((1:Int)<=(a0.length:Int))<|
     need ((a0.length:Int)<=(a0.length:Int))<|
     if decide ((List.take ((a0.length:Int).toNat-(1:Int).toNat) (List.drop (1:Int).toNat a0))=([109,105,110]:List UInt8))then
      Li ((⟨(⟨(0:Int),(0:Int),(0:Int),(0:Int),(0:Int),(0:Int),(0:Int)⟩:E9),(⟨(⟨(0:Int),[],false⟩:A4),(⟨(0:Int),[],false⟩:A4)⟩:B7)⟩:Bu),())
     else
      need ((0:Int)<=(1:Int))<|
      need ((1:Int)<=(a0.length:Int))<|
      need ((a0.length:Int)<=(a0.length:Int))<|
      if decide ((List.take ((a0.length:Int).toNat-(1:Int).toNat) (List.drop (1:Int).toNat a0))=([104]:List UInt8))then
       Li ((⟨(⟨(0:Int),(0:Int),(0:Int),(0:Int),(0:Int),(0:Int),(0:Int)⟩:E9),(⟨(⟨(0:Int),[],false⟩:A4),(⟨(0:Int),[],false⟩:A4)⟩:B7)⟩:Bu),())
      else
       need ((0:Int)<=(1:Int))<|
       need ((1:Int)<=(a0.length:Int))<|
       need ((a0.length:Int)<=(a0.length:Int))<|
       if decide ((List.take ((a0.length:Int).toNat-(1:Int).toNat) (List.drop (1:Int).toNat a0))=([114,97,100]:List UInt8))then
        Li ((⟨(⟨(0:Int),(0:Int),(0:Int),(0:Int),(0:Int),(0:Int),(0:Int)⟩:E9),(⟨(⟨(0:Int),[],false⟩:A4),(⟨(0:Int),[],false⟩:A4)⟩:B7)⟩:Bu),())
       else
        Option.bind (Bdv (⟨((Option.getD (Kh kqS (List.take ((a0.length:Int).toNat-(1:Int).toNat) (List.drop (1:Int).toNat a0)) y1) (Aex)).E),((Option.getD (Kh kqS (List.take ((a0.length:Int).toNat-(1:Int).toNat) (List.drop (1:Int).toNat a0)) y1) (Aex)).F)⟩:A7)) λ y4=>
        Option.bind (Aci y4.f y3.1) λ y5=>
        some ((⟨y4.e,y5⟩:Bu),true)
abbrev Lb:=B7->Int->Option B7
abbrev Ag3:HT:=[.S 4 false,.k (.ptr 4 0),.S 5 false,.k (.ptr 5 0),.C 4,.s 14,.C 5,.s 14]
abbrev O6 (a0:B7) (a1:Int):HT:=[.S 2 false,.k (.ptr 2 0),.S 4 false,.k (.ptr 4 0),.S 5 false,.k (.ptr 5 0),.S 17 false,.q (.int .i64) a1,.S 18 false,.v (.int .i64),.C 2,.q (.nm 14) a0,.C 4,.s 14,.C 5,.s 14]
def Al3 (R:Lb):H Ag3->Option B7:=λ (v4,v5,_)=>
 some v5
def Alg (R:Lb) (a0:B7) (a1:Int):H (O6 a0 a1)->Option ((H (O6 a0 a1))⊕(H Ag3)):=λ (v1,v2,v3,_)=>
 if decide (v1<a1)then
 Option.bind (Aci v3 a0) λ y4=>
 jp (O6 a0 a1)<|some (.inl (IntKind.wrap .i64 (v1+(1:Int)),v2,y4,()))
 else
 some (.inr (v2,v3,()))
def Ayc (R:Lb) (a0:B7) (a1:Int):Option B7:=
 if decide (a1<(0:Int))then
 Option.bind (Oi a0.D a0.N) λ y1=>
 Option.bind (R y1 (IntKind.wrap .i64 (0-a1))) λ y2=>
 some y2
 else
 Option.bind (Aaj (1:Int)) λ y3=>
 jp (O6 a0 a1)<|Option.bind (iter (Alg R a0 a1) ((0:Int),(⟨(⟨(0:Int),[],false⟩:A4),(⟨(0:Int),[],false⟩:A4)⟩:B7),y3,())) (Al3 R)
def Aed:Nat->Lb
 |0=>λ _ _=>none
 |k+1=>Ayc (Aed k)
def A8t:Lb:=Aed 3
def Adm (a0:Bu) (a1:Bu) (a2:Int):Option Bu:=
 Option.bind (A8t a1.f a2) λ y1=>
 Option.bind (Aci a0.f y1) λ y2=>
 some (⟨(⟨IntKind.wrap .i64 (a0.e.e0+(IntKind.wrap .i64 (a2*a1.e.e0))),IntKind.wrap .i64 (a0.e.e1+(IntKind.wrap .i64 (a2*a1.e.e1))),IntKind.wrap .i64 (a0.e.e2+(IntKind.wrap .i64 (a2*a1.e.e2))),IntKind.wrap .i64 (a0.e.e3+(IntKind.wrap .i64 (a2*a1.e.e3))),IntKind.wrap .i64 (a0.e.e4+(IntKind.wrap .i64 (a2*a1.e.e4))),IntKind.wrap .i64 (a0.e.e5+(IntKind.wrap .i64 (a2*a1.e.e5))),IntKind.wrap .i64 (a0.e.e6+(IntKind.wrap .i64 (a2*a1.e.e6)))⟩:E9),y2⟩:Bu)
abbrev Rv (a0:Bu) (v2:A7) (v3:Bd):HT:=[.S 1 false,.k (.ptr 1 0),.S 2 false,.k (.ptr 2 0),.S 4 false,.k (.ptr 4 0),.S 5 false,.v .bool,.S 15 true,.q (.int .i64) a0.e.e0,.q (.int .i64) a0.e.e1,.q (.int .i64) a0.e.e2,.q (.int .i64) a0.e.e3,.q (.int .i64) a0.e.e4,.q (.int .i64) a0.e.e5,.q (.int .i64) a0.e.e6,.S 16 false,.k (.int .i64 (6:Int)),.C 1,.q (.nm 16) a0,.C 2,.q (.nm 12) v2,.C 4,.q (.nm 0) v3]
abbrev Sq (a0:Bu) (v2:A7) (v3:Bd):HT:=[.S 1 false,.k (.ptr 1 0),.S 2 false,.k (.ptr 2 0),.S 4 false,.k (.ptr 4 0),.S 5 false,.v .bool,.S 15 true,.q (.int .i64) a0.e.e0,.q (.int .i64) a0.e.e1,.q (.int .i64) a0.e.e2,.q (.int .i64) a0.e.e3,.q (.int .i64) a0.e.e4,.q (.int .i64) a0.e.e5,.q (.int .i64) a0.e.e6,.S 16 false,.k (.int .i64 (5:Int)),.C 1,.q (.nm 16) a0,.C 2,.q (.nm 12) v2,.C 4,.q (.nm 0) v3]
abbrev So (a0:Bu) (v2:A7) (v3:Bd):HT:=[.S 1 false,.k (.ptr 1 0),.S 2 false,.k (.ptr 2 0),.S 4 false,.k (.ptr 4 0),.S 5 false,.v .bool,.S 15 true,.q (.int .i64) a0.e.e0,.q (.int .i64) a0.e.e1,.q (.int .i64) a0.e.e2,.q (.int .i64) a0.e.e3,.q (.int .i64) a0.e.e4,.q (.int .i64) a0.e.e5,.q (.int .i64) a0.e.e6,.S 16 false,.k (.int .i64 (4:Int)),.C 1,.q (.nm 16) a0,.C 2,.q (.nm 12) v2,.C 4,.q (.nm 0) v3]
abbrev Rt (a0:Bu) (v2:A7) (v3:Bd):HT:=[.S 1 false,.k (.ptr 1 0),.S 2 false,.k (.ptr 2 0),.S 4 false,.k (.ptr 4 0),.S 5 false,.v .bool,.S 15 true,.q (.int .i64) a0.e.e0,.q (.int .i64) a0.e.e1,.q (.int .i64) a0.e.e2,.q (.int .i64) a0.e.e3,.q (.int .i64) a0.e.e4,.q (.int .i64) a0.e.e5,.q (.int .i64) a0.e.e6,.S 16 false,.k (.int .i64 (3:Int)),.C 1,.q (.nm 16) a0,.C 2,.q (.nm 12) v2,.C 4,.q (.nm 0) v3]
abbrev Sk (a0:Bu) (v2:A7) (v3:Bd):HT:=[.S 1 false,.k (.ptr 1 0),.S 2 false,.k (.ptr 2 0),.S 4 false,.k (.ptr 4 0),.S 5 false,.v .bool,.S 15 true,.q (.int .i64) a0.e.e0,.q (.int .i64) a0.e.e1,.q (.int .i64) a0.e.e2,.q (.int .i64) a0.e.e3,.q (.int .i64) a0.e.e4,.q (.int .i64) a0.e.e5,.q (.int .i64) a0.e.e6,.S 16 false,.k (.int .i64 (2:Int)),.C 1,.q (.nm 16) a0,.C 2,.q (.nm 12) v2,.C 4,.q (.nm 0) v3]
abbrev Sw (a0:Bu) (v2:A7) (v3:Bd):HT:=[.S 1 false,.k (.ptr 1 0),.S 2 false,.k (.ptr 2 0),.S 4 false,.k (.ptr 4 0),.S 5 false,.v .bool,.S 15 true,.q (.int .i64) a0.e.e0,.q (.int .i64) a0.e.e1,.q (.int .i64) a0.e.e2,.q (.int .i64) a0.e.e3,.q (.int .i64) a0.e.e4,.q (.int .i64) a0.e.e5,.q (.int .i64) a0.e.e6,.S 16 false,.k (.int .i64 (1:Int)),.C 1,.q (.nm 16) a0,.C 2,.q (.nm 12) v2,.C 4,.q (.nm 0) v3]
abbrev Ry (a0:Bu):HT:=[.S 1 false,.k (.ptr 1 0),.S 2 false,.k (.ptr 2 0),.S 4 false,.k (.ptr 4 0),.S 5 false,.v .bool,.S 15 true,.q (.int .i64) a0.e.e0,.q (.int .i64) a0.e.e1,.q (.int .i64) a0.e.e2,.q (.int .i64) a0.e.e3,.q (.int .i64) a0.e.e4,.q (.int .i64) a0.e.e5,.q (.int .i64) a0.e.e6,.S 16 false,.k (.int .i64 (0:Int)),.C 1,.q (.nm 16) a0,.C 2,.s 12,.C 4,.s 0]
def V4 (a0:Bu) (v2:A7) (v3:Bd):H (Rv a0 v2 v3)->Option (A7×Int):=λ (v9,_)=>
 if !v9 then
 some ((⟨(⟨(0:Int),(0:Int),(0:Int),(0:Int),(0:Int),(0:Int),(0:Int)⟩:E9),(⟨(0:Int),(0:Int)⟩:Bd)⟩:A7),(3:Int))
 else
 some ((⟨a0.e,v3⟩:A7),(0:Int))
def Xd (a0:Bu) (v2:A7) (v3:Bd):H (Sq a0 v2 v3)->Option (A7×Int):=λ (v8,_)=>
 if v8 then
 if decide ((-9:Int)<=a0.e.e6)then
  jp (Rv a0 v2 v3)<|V4 a0 v2 v3 (decide (a0.e.e6<=(9:Int)),())
 else
  jp (Rv a0 v2 v3)<|V4 a0 v2 v3 (false,())
 else
 jp (Rv a0 v2 v3)<|V4 a0 v2 v3 (false,())
def U7 (a0:Bu) (v2:A7) (v3:Bd):H (So a0 v2 v3)->Option (A7×Int):=λ (v7,_)=>
 if v7 then
 if decide ((-9:Int)<=a0.e.e5)then
  jp (Sq a0 v2 v3)<|Xd a0 v2 v3 (decide (a0.e.e5<=(9:Int)),())
 else
  jp (Sq a0 v2 v3)<|Xd a0 v2 v3 (false,())
 else
 jp (Sq a0 v2 v3)<|Xd a0 v2 v3 (false,())
def V7 (a0:Bu) (v2:A7) (v3:Bd):H (Rt a0 v2 v3)->Option (A7×Int):=λ (v6,_)=>
 if v6 then
 if decide ((-9:Int)<=a0.e.e4)then
  jp (So a0 v2 v3)<|U7 a0 v2 v3 (decide (a0.e.e4<=(9:Int)),())
 else
  jp (So a0 v2 v3)<|U7 a0 v2 v3 (false,())
 else
 jp (So a0 v2 v3)<|U7 a0 v2 v3 (false,())
def Vy (a0:Bu) (v2:A7) (v3:Bd):H (Sk a0 v2 v3)->Option (A7×Int):=λ (v5,_)=>
 if v5 then
 if decide ((-9:Int)<=a0.e.e3)then
  jp (Rt a0 v2 v3)<|V7 a0 v2 v3 (decide (a0.e.e3<=(9:Int)),())
 else
  jp (Rt a0 v2 v3)<|V7 a0 v2 v3 (false,())
 else
 jp (Rt a0 v2 v3)<|V7 a0 v2 v3 (false,())
def Vz (a0:Bu) (v2:A7) (v3:Bd):H (Sw a0 v2 v3)->Option (A7×Int):=λ (v4,_)=>
 if v4 then
 if decide ((-9:Int)<=a0.e.e2)then
  jp (Sk a0 v2 v3)<|Vy a0 v2 v3 (decide (a0.e.e2<=(9:Int)),())
 else
  jp (Sk a0 v2 v3)<|Vy a0 v2 v3 (false,())
 else
 jp (Sk a0 v2 v3)<|Vy a0 v2 v3 (false,())
def Vi (a0:Bu):H (Ry a0)->Option (A7×Int):=λ (v1,v2,v3,_)=>
 if v1 then
 if decide ((-9:Int)<=a0.e.e1)then
  jp (Sw a0 v2 v3)<|Vz a0 v2 v3 (decide (a0.e.e1<=(9:Int)),())
 else
  jp (Sw a0 v2 v3)<|Vz a0 v2 v3 (false,())
 else
 jp (Sw a0 v2 v3)<|Vz a0 v2 v3 (false,())
def Am5 (a0:Bu):Option (A7×Int):=
 Option.bind (Alo a0.f) λ y1=>
 if y1.2 then
 if decide ((-9:Int)<=a0.e.e0)then
  jp (Ry a0)<|Vi a0 (decide (a0.e.e0<=(9:Int)),(⟨(⟨(0:Int),(0:Int),(0:Int),(0:Int),(0:Int),(0:Int),(0:Int)⟩:E9),(⟨(0:Int),(0:Int)⟩:Bd)⟩:A7),y1.1,())
 else
  jp (Ry a0)<|Vi a0 (false,(⟨(⟨(0:Int),(0:Int),(0:Int),(0:Int),(0:Int),(0:Int),(0:Int)⟩:E9),(⟨(0:Int),(0:Int)⟩:Bd)⟩:A7),y1.1,())
 else
 jp (Ry a0)<|Vi a0 (false,(⟨(⟨(0:Int),(0:Int),(0:Int),(0:Int),(0:Int),(0:Int),(0:Int)⟩:E9),(⟨(0:Int),(0:Int)⟩:Bd)⟩:A7),y1.1,())
abbrev Acm (v1:Int) (v4:A7) (v7:(List Bm)) (v8:Int):HT:=[.S 2 false,.k (.ptr 2 0),.S 6 false,.q (.int .i64) v1,.S 15 false,.k (.ptr 15 0),.S 65 false,.k (.ar 44 0),.S 66 false,.q (.int .i64) (v7.length:Int),.S 67 false,.q (.int .i64) v8,.C 2,.q (.nm 12) v4,.C 15,.s 16,.A 44 251 (.nm 15) 0 false]
abbrev Qc (v1:Int) (v4:A7):HT:=[.S 2 false,.k (.ptr 2 0),.S 6 false,.q (.int .i64) v1,.S 15 false,.k (.ptr 15 0),.C 2,.q (.nm 12) v4,.C 15,.s 16]
abbrev Jr (v1:Int) (v4:A7) (v7:(List Bm)):HT:=[.S 2 false,.k (.ptr 2 0),.S 6 false,.q (.int .i64) v1,.S 15 false,.k (.ptr 15 0),.S 65 false,.k (.ar 44 0),.S 66 false,.q (.int .i64) (v7.length:Int),.S 67 false,.v (.int .i64),.C 2,.q (.nm 12) v4,.C 15,.s 16,.A 44 251 (.nm 15) 0 false]
abbrev Ack (v1:Int) (v4:A7) (v5:B7):HT:=[.S 2 false,.k (.ptr 2 0),.S 4 false,.k (.ptr 4 0),.S 6 false,.q (.int .i64) v1,.S 7 false,.k (.ar 44 0),.C 2,.q (.nm 12) v4,.C 4,.q (.nm 14) v5,.A 44 251 (.nm 15) 0 false]
abbrev Azb:HT:=[.S 2 false,.k (.ptr 2 0),.S 4 false,.k (.ptr 4 0),.S 6 false,.v (.int .i64),.S 7 false,.k (.ar 44 0),.S 9 false,.v .str,.S 10 false,.v .bool,.C 2,.s 12,.C 4,.s 14,.A 44 251 (.nm 15) 0 false]
def Ah2 (v1:Int) (v4:A7) (v7:(List Bm)) (v8:Int):H (Acm v1 v4 v7 v8)->Option ((H (Jr v1 v4 v7))⊕((H (Qc v1 v4))⊕(A7×Int))):=λ (v11,v12,_)=>
 jp (Jr v1 v4 v7)<|some (.inl (IntKind.wrap .i64 (v8+(1:Int)),v11,v12,()))
def Aij (v1:Int) (v4:A7):H (Qc v1 v4)->Option (A7×Int):=λ (v13,_)=>
 if !decide (v1=(0:Int))then
 some ((⟨(⟨(0:Int),(0:Int),(0:Int),(0:Int),(0:Int),(0:Int),(0:Int)⟩:E9),(⟨(0:Int),(0:Int)⟩:Bd)⟩:A7),v1)
 else
 Option.bind (Am5 v13) λ y7=>
 some (y7.1,y7.2)
def Aho (v1:Int) (v4:A7) (v7:(List Bm)):H (Jr v1 v4 v7)->Option ((H (Jr v1 v4 v7))⊕((H (Qc v1 v4))⊕(A7×Int))):=λ (v8,v9,v10,_)=>
 if decide (v8<(v7.length:Int))then
 need (Af v8 v10.length)<|
 Option.bind (Asg ((List.getD v10 v8.toNat (Ag4)).name)) λ y5=>
 if !y5.2 then
  some (.inr (.inr ((⟨(⟨(0:Int),(0:Int),(0:Int),(0:Int),(0:Int),(0:Int),(0:Int)⟩:E9),(⟨(0:Int),(0:Int)⟩:Bd)⟩:A7),(4:Int))))
 else
  if decide (v1=(0:Int))then
   Option.bind (Adm v9 y5.1 ((List.getD v10 v8.toNat (Ag4)).n)) λ y6=>
   jp (Acm v1 v4 v7 v8)<|Ah2 v1 v4 v7 v8 (y6,v10,())
  else
   jp (Acm v1 v4 v7 v8)<|Ah2 v1 v4 v7 v8 (v9,v10,())
 else
 jp (Qc v1 v4)<|some (.inr (.inl (v9,())))
def Zt (v1:Int) (v4:A7) (v5:B7):H (Ack v1 v4 v5)->Option (A7×Int):=λ (v7,_)=>
 jp (Jr v1 v4 v7)<|Option.bind (iter (Aho v1 v4 v7) ((0:Int),(⟨(⟨(0:Int),(0:Int),(0:Int),(0:Int),(0:Int),(0:Int),(0:Int)⟩:E9),v5⟩:Bu),v7,())) (Sum.elim (Aij v1 v4) (λ y=>some y))
def Aaf:H Azb->Option (A7×Int):=λ (v1,v2,v3,v4,v5,v6,_)=>
 if v3 then
 Option.bind (Zr v2 (-1:Int)) λ y4=>
 if !y4.2 then
  some ((⟨(⟨(0:Int),(0:Int),(0:Int),(0:Int),(0:Int),(0:Int),(0:Int)⟩:E9),(⟨(0:Int),(0:Int)⟩:Bd)⟩:A7),(2:Int))
 else
  need ((v6.length+y4.1.length)*24<=As)<|
  jp (Ack v1 v4 v5)<|Zt v1 v4 v5 (v6++y4.1,())
 else
 jp (Ack v1 v4 v5)<|Zt v1 v4 v5 (v6,())
def Aem (a0:(List UInt8)):Option (A7×Int):=
 if decide ((600:Int)<(a0.length:Int))then
 some ((⟨(⟨(0:Int),(0:Int),(0:Int),(0:Int),(0:Int),(0:Int),(0:Int)⟩:E9),(⟨(0:Int),(0:Int)⟩:Bd)⟩:A7),(3:Int))
 else
 Option.bind (Ame a0) λ y1=>
 if decide (y1.2.2=(2:Int))then
  some ((⟨(⟨(0:Int),(0:Int),(0:Int),(0:Int),(0:Int),(0:Int),(0:Int)⟩:E9),(⟨(0:Int),(0:Int)⟩:Bd)⟩:A7),y1.2.2)
 else
  Option.bind (Pu y1.2.1 ([47]:List UInt8)) λ y2=>
  if !decide (y2.1=([49]:List UInt8))then
   Option.bind (Zr y2.1 (1:Int)) λ y3=>
   if !y3.2 then
    some ((⟨(⟨(0:Int),(0:Int),(0:Int),(0:Int),(0:Int),(0:Int),(0:Int)⟩:E9),(⟨(0:Int),(0:Int)⟩:Bd)⟩:A7),(2:Int))
   else
    Aaf (y1.2.2,y2.2.1,y2.2.2,(⟨(⟨(0:Int),(0:Int),(0:Int),(0:Int),(0:Int),(0:Int),(0:Int)⟩:E9),(⟨(0:Int),(0:Int)⟩:Bd)⟩:A7),y1.1,y3.1,())
  else
   Aaf (y1.2.2,y2.2.1,y2.2.2,(⟨(⟨(0:Int),(0:Int),(0:Int),(0:Int),(0:Int),(0:Int),(0:Int)⟩:E9),(⟨(0:Int),(0:Int)⟩:Bd)⟩:A7),y1.1,([]:List Bm),())
abbrev Ap0:HT:=[]
abbrev Vk (a0:Ax):HT:=[.S 1 false,.k (.ptr 1 0),.S 3 false,.q .bool (decide (a0.Type_=([82,101,97,108]:List UInt8))),.C 1,.q (.nm 4) (B1 a0)]
abbrev Vd (a0:Ax):HT:=[.S 1 false,.k (.ptr 1 0),.S 3 false,.q .bool (decide (a0.Type_=([82,101,97,108]:List UInt8))),.C 1,.q (.nm 4) (B1 a0)]
def B8:H Ap0->Option Bool:=λ _=>
 some false
def R4 (a0:Ax):H (Vk a0)->Option Bool:=λ _=>
 if decide (a0.Type_=([82,101,97,108]:List UInt8))then
 if !a0.Replace then
  some (decide ((a0.Mods.length:Int)=(0:Int)))
 else
  some false
 else
 if !a0.Flow then
  if decide (a0.Unit=([]:List UInt8))then
   if decide (a0.Var=(0:Int))then
    Option.bind (H7 (Ap a0.Value)) λ y6=>
    some y6
   else
    some false
  else
   some false
 else
  some false
def Sv (a0:Ax):H (Vd a0)->Option Bool:=λ _=>
 if !decide (a0.Unit=([]:List UInt8))then
 Option.bind (Aem a0.Unit) λ y5=>
 if !decide (y5.2=(0:Int))then
  some false
 else
  jp (Vk a0)<|R4 a0 ()
 else
 jp (Vk a0)<|R4 a0 ()
def Ur (a0:Ax):Option Bool:=
 Option.bind (E2 a0.Name) λ y1=>
 if !y1 then
 B8 ()
 else
 if !(decide (a0.Type_=([82,101,97,108]:List UInt8)))then
  Option.bind (Hr a0.Type_) λ y2=>
  if !y2 then
   B8 ()
  else
   if decide (a0.Var<(0:Int))then
    B8 ()
   else
    if decide ((2:Int)<a0.Var)then
     B8 ()
    else
     if decide (a0.Size<(0:Int))then
      B8 ()
     else
      if decide ((8:Int)<a0.Size)then
       B8 ()
      else
       if decide (a0.Scope<(0:Int))then
        B8 ()
       else
        if decide ((2:Int)<a0.Scope)then
         B8 ()
        else
         Option.bind (Gl a0.Mods) λ y3=>
         if !y3 then
          B8 ()
         else
          jp (Vd a0)<|Sv a0 ()
 else
  if decide (a0.Var<(0:Int))then
   B8 ()
  else
   if decide ((2:Int)<a0.Var)then
    B8 ()
   else
    if decide (a0.Size<(0:Int))then
     B8 ()
    else
     if decide ((8:Int)<a0.Size)then
      B8 ()
     else
      if decide (a0.Scope<(0:Int))then
       B8 ()
      else
       if decide ((2:Int)<a0.Scope)then
        B8 ()
       else
        Option.bind (Gl a0.Mods) λ y4=>
        if !y4 then
         B8 ()
        else
         jp (Vd a0)<|Sv a0 ()
abbrev Gw (v1:(List (List UInt8))) (v2:Int) (v3:Int):HT:=[.S 4 false,.v .str,.S 10 false,.q (.sl .str) v1,.S 11 false,.q (.int .i64) v2,.S 12 false,.q (.int .i64) v3]
abbrev O1:HT:=[]
abbrev Lh:HT:=[.S 10 false,.v (.sl .str),.S 11 false,.v (.int .i64),.S 12 false,.v (.int .i64)]
def H4 (v1:(List (List UInt8))) (v2:Int) (v3:Int):H (Gw v1 v2 v3)->Option ((H Lh)⊕((H O1)⊕Bool)):=λ (v4,_)=>
 Option.bind (E2 v4) λ y2=>
 if !y2 then
 some (.inr (.inr false))
 else
 some (.inl (v1,v2,IntKind.wrap .i64 (v3+(1:Int)),()))
def Zo:H O1->Option Bool:=λ _=>
 some true
def Yk:H Lh->Option ((H Lh)⊕((H O1)⊕Bool)):=λ (v1,v2,v3,_)=>
 if decide (v3<v2)then
 need (Af v3 v1.length)<|
 if decide ((3:Int)<((List.getD v1 (v3).toNat ([]:(List UInt8))).length:Int))then
  need (Af (IntKind.wrap .i64 (((List.getD v1 (v3).toNat ([]:(List UInt8))).length:Int) -(1:Int))) (List.getD v1 (v3).toNat ([]:(List UInt8))).length)<|
  if decide (((List.getD (List.getD v1 (v3).toNat ([]:(List UInt8))) (IntKind.wrap .i64 (((List.getD v1 (v3).toNat ([]:(List UInt8))).length:Int) -(1:Int))).toNat 0).toNat:Int)=(93:Int))then
   need (Af (IntKind.wrap .i64 (((List.getD v1 (v3).toNat ([]:(List UInt8))).length:Int) -(3:Int))) (List.getD v1 (v3).toNat ([]:(List UInt8))).length)<|
   if decide (((List.getD (List.getD v1 (v3).toNat ([]:(List UInt8))) (IntKind.wrap .i64 (((List.getD v1 (v3).toNat ([]:(List UInt8))).length:Int) -(3:Int))).toNat 0).toNat:Int)=(91:Int))then
    need (Af (IntKind.wrap .i64 (((List.getD v1 (v3).toNat ([]:(List UInt8))).length:Int) -(2:Int))) (List.getD v1 (v3).toNat ([]:(List UInt8))).length)<|
    if decide ((49:Int)<=((List.getD (List.getD v1 (v3).toNat ([]:(List UInt8))) (IntKind.wrap .i64 (((List.getD v1 (v3).toNat ([]:(List UInt8))).length:Int) -(2:Int))).toNat 0).toNat:Int))then
     need (Af (IntKind.wrap .i64 (((List.getD v1 (v3).toNat ([]:(List UInt8))).length:Int) -(2:Int))) (List.getD v1 (v3).toNat ([]:(List UInt8))).length)<|
     if decide (((List.getD (List.getD v1 (v3).toNat ([]:(List UInt8))) (IntKind.wrap .i64 (((List.getD v1 (v3).toNat ([]:(List UInt8))).length:Int) -(2:Int))).toNat 0).toNat:Int)<=(56:Int))then
      need ((0:Int)<=(0:Int))<|
      need ((0:Int)<=(IntKind.wrap .i64 (((List.getD v1 (v3).toNat ([]:(List UInt8))).length:Int) -(3:Int))))<|
      need ((IntKind.wrap .i64 (((List.getD v1 (v3).toNat ([]:(List UInt8))).length:Int) -(3:Int)))<=((List.getD v1 (v3).toNat ([]:(List UInt8))).length:Int))<|
      jp (Gw v1 v2 v3)<|H4 v1 v2 v3 ((List.take ((IntKind.wrap .i64 (((List.getD v1 (v3).toNat ([]:(List UInt8))).length:Int) -(3:Int))).toNat-(0:Int).toNat) (List.drop (0:Int).toNat (List.getD v1 (v3).toNat ([]:(List UInt8))))),())
     else
      jp (Gw v1 v2 v3)<|H4 v1 v2 v3 (List.getD v1 (v3).toNat ([]:(List UInt8)),())
    else
     jp (Gw v1 v2 v3)<|H4 v1 v2 v3 (List.getD v1 (v3).toNat ([]:(List UInt8)),())
   else
    jp (Gw v1 v2 v3)<|H4 v1 v2 v3 (List.getD v1 (v3).toNat ([]:(List UInt8)),())
  else
   jp (Gw v1 v2 v3)<|H4 v1 v2 v3 (List.getD v1 (v3).toNat ([]:(List UInt8)),())
 else
  jp (Gw v1 v2 v3)<|H4 v1 v2 v3 (List.getD v1 (v3).toNat ([]:(List UInt8)),())
 else
 some (.inr (.inl ()))
def Ln (a0:(List UInt8)):Option Bool:=
 if decide ((60:Int)<(a0.length:Int))then
 some false
 else
 Option.bind (Mu a0 ([46]:List UInt8)) λ y1=>
 Option.bind (iter Yk (y1,(y1.length:Int),(0:Int),())) (Sum.elim Zo (λ y=>some y))
abbrev Abm:HT:=[]
abbrev Abk:HT:=[]
abbrev Abl:HT:=[]
abbrev Gr (a0:Aa) (v4:Int):HT:=[.S 80 false,.q (.sl (.nm 8)) a0.Whens,.S 81 false,.q (.int .i64) (a0.Whens.length:Int),.S 82 false,.q (.int .i64) v4]
abbrev Dv (a0:Aa) (v4:Int):HT:=[.S 80 false,.q (.sl (.nm 8)) a0.Whens,.S 81 false,.q (.int .i64) (a0.Whens.length:Int),.S 82 false,.q (.int .i64) v4,.S 87 false,.q (.sl (.nm 7)) ((List.getD a0.Whens (v4).toNat (Bz)).Sets),.S 88 false,.v (.int .i64),.S 89 false,.v (.int .i64)]
abbrev Gx:HT:=[]
abbrev C2 (a0:Aa):HT:=[.S 80 false,.q (.sl (.nm 8)) a0.Whens,.S 81 false,.q (.int .i64) (a0.Whens.length:Int),.S 82 false,.v (.int .i64)]
abbrev Fi (a0:Aa):HT:=[.S 1 false,.k (.ptr 1 0),.C 1,.q (.nm 9) a0]
abbrev Dm (a0:Aa):HT:=[.S 1 false,.k (.ptr 1 0),.S 57 false,.q (.sl (.nm 6)) a0.Links,.S 58 false,.q (.int .i64) (a0.Links.length:Int),.S 59 false,.v (.int .i64),.C 1,.q (.nm 9) a0]
abbrev Hl (a0:Aa):HT:=[.S 1 false,.k (.ptr 1 0),.C 1,.q (.nm 9) a0]
abbrev D6 (a0:Aa):HT:=[.S 1 false,.k (.ptr 1 0),.S 46 false,.q (.sl (.nm 4)) a0.Comps,.S 47 false,.q (.int .i64) (a0.Comps.length:Int),.S 48 false,.v (.int .i64),.C 1,.q (.nm 9) a0]
abbrev Fg (a0:Aa):HT:=[.S 1 false,.k (.ptr 1 0),.C 1,.q (.nm 9) a0]
abbrev Dl (a0:Aa):HT:=[.S 1 false,.k (.ptr 1 0),.S 28 false,.q (.sl (.nm 3)) a0.Bases,.S 29 false,.q (.int .i64) (a0.Bases.length:Int),.S 30 false,.v (.int .i64),.C 1,.q (.nm 9) a0]
def Im:H Abm->Option Bool:=λ _=>
 some false
def Mt (a0:Aa):H Abk->Option ((H (Dl a0))⊕((H (Fg a0))⊕Bool)):=λ _=>
 some (.inr (.inr false))
def Ip (a0:Aa):H Abl->Option ((H (Dm a0))⊕((H (Fi a0))⊕Bool)):=λ _=>
 some (.inr (.inr false))
def Kn (a0:Aa) (v4:Int):H (Gr a0 v4)->Option ((H (C2 a0))⊕((H Gx)⊕Bool)):=λ _=>
 jp (C2 a0)<|some (.inl (IntKind.wrap .i64 (v4+(1:Int)),()))
def Kk (a0:Aa) (v4:Int):H (Dv a0 v4)->Option ((H (Dv a0 v4))⊕((H (Gr a0 v4))⊕Bool)):=λ (v5,v6,_)=>
 if decide (v6<v5)then
 need (Af v6 ((List.getD a0.Whens (v4).toNat (Bz)).Sets).length)<|
 Option.bind (Ln ((List.getD ((List.getD a0.Whens (v4).toNat (Bz)).Sets) (v6).toNat (Ac2)).Name)) λ y7=>
 if !y7 then
  some (.inr (.inr false))
 else
  jp (Dv a0 v4)<|some (.inl (v5,IntKind.wrap .i64 (v6+(1:Int)),()))
 else
 jp (Gr a0 v4)<|some (.inr (.inl ()))
def Kr:H Gx->Option Bool:=λ _=>
 some true
def Kj (a0:Aa):H (C2 a0)->Option ((H (C2 a0))⊕((H Gx)⊕Bool)):=λ (v4,_)=>
 if decide (v4<(a0.Whens.length:Int))then
 need (Af v4 a0.Whens.length)<|
 jp (Dv a0 v4)<|Option.bind (iter (Kk a0 v4) ((((List.getD a0.Whens (v4).toNat (Bz)).Sets).length:Int),(0:Int),())) (Sum.elim (Kn a0 v4) (λ y=>some (.inr (.inr y))))
 else
 some (.inr (.inl ()))
def Lu (a0:Aa):H (Fi a0)->Option Bool:=λ _=>
 jp (C2 a0)<|Option.bind (iter (Kj a0) ((0:Int),())) (Sum.elim Kr (λ y=>some y))
def Mn (a0:Aa):H (Dm a0)->Option ((H (Dm a0))⊕((H (Fi a0))⊕Bool)):=λ (v3,_)=>
 if decide (v3<(a0.Links.length:Int))then
 need (Af v3 a0.Links.length)<|
 Option.bind (Ln ((List.getD a0.Links (v3).toNat (Ay9)).A)) λ y5=>
 if !y5 then
  Ip a0 ()
 else
  Option.bind (Ln ((List.getD a0.Links (v3).toNat (Ay9)).B)) λ y6=>
  if !y6 then
   Ip a0 ()
  else
   if !decide (((List.getD a0.Links (v3).toNat (Ay9)).In)=([]:List UInt8))then
    Ip a0 ()
   else
    jp (Dm a0)<|some (.inl (IntKind.wrap .i64 (v3+(1:Int)),()))
 else
 jp (Fi a0)<|some (.inr (.inl ()))
def L6 (a0:Aa):H (Hl a0)->Option Bool:=λ _=>
 jp (Dm a0)<|Option.bind (iter (Mn a0) ((0:Int),())) (Sum.elim (Lu a0) (λ y=>some y))
def Mi (a0:Aa):H (D6 a0)->Option ((H (D6 a0))⊕((H (Hl a0))⊕Bool)):=λ (v2,_)=>
 if decide (v2<(a0.Comps.length:Int))then
 need (Af v2 a0.Comps.length)<|
 Option.bind (Ur (B1 (List.getD a0.Comps (v2).toNat (An)))) λ y4=>
 if !y4 then
  some (.inr (.inr false))
 else
  jp (D6 a0)<|some (.inl (IntKind.wrap .i64 (v2+(1:Int)),()))
 else
 jp (Hl a0)<|some (.inr (.inl ()))
def Ma (a0:Aa):H (Fg a0)->Option Bool:=λ _=>
 jp (D6 a0)<|Option.bind (iter (Mi a0) ((0:Int),())) (Sum.elim (L6 a0) (λ y=>some y))
def Mg (a0:Aa):H (Dl a0)->Option ((H (Dl a0))⊕((H (Fg a0))⊕Bool)):=λ (v1,_)=>
 if decide (v1<(a0.Bases.length:Int))then
 need (Af v1 a0.Bases.length)<|
 Option.bind (Hr ((List.getD a0.Bases (v1).toNat (Cl)).Name)) λ y2=>
 if !y2 then
  Mt a0 ()
 else
  Option.bind (Gl ((List.getD a0.Bases (v1).toNat (Cl)).Mods)) λ y3=>
  if !y3 then
   Mt a0 ()
  else
   jp (Dl a0)<|some (.inl (IntKind.wrap .i64 (v1+(1:Int)),()))
 else
 jp (Fg a0)<|some (.inr (.inl ()))
def Qo (a0:Aa):Option Bool:=
 Option.bind (Hr a0.Name) λ y1=>
 if !y1 then
 Im ()
 else
 if decide (a0.Kind<(0:Int))then
  Im ()
 else
  if decide ((2:Int)<a0.Kind)then
   Im ()
  else
   jp (Dl a0)<|Option.bind (iter (Mg a0) ((0:Int),())) (Sum.elim (Ma a0) (λ y=>some y))
abbrev M4 (a0:(List Ak)) (v1:Int):HT:=[.S 0 false,.q (.sl (.nm 2)) a0,.S 6 false,.q (.int .i64) (a0.length:Int),.S 7 false,.q (.int .i64) v1]
abbrev Hb (a0:(List Ak)) (v1:Int):HT:=[.S 0 false,.q (.sl (.nm 2)) a0,.S 3 false,.q (.int .i64) v1,.S 6 false,.q (.int .i64) (a0.length:Int),.S 7 false,.q (.int .i64) v1,.S 10 false,.q (.int .i64) v1,.S 11 false,.v (.int .i64)]
abbrev Nd:HT:=[]
abbrev Fp (a0:(List Ak)):HT:=[.S 0 false,.q (.sl (.nm 2)) a0,.S 6 false,.q (.int .i64) (a0.length:Int),.S 7 false,.v (.int .i64)]
def Wr (a0:(List Ak)) (v1:Int):H (M4 a0 v1)->Option ((H (Fp a0))⊕((H Nd)⊕Bool)):=λ _=>
 jp (Fp a0)<|some (.inl (IntKind.wrap .i64 (v1+(1:Int)),()))
def Wl (a0:(List Ak)) (v1:Int):H (Hb a0 v1)->Option ((H (Hb a0 v1))⊕((H (M4 a0 v1))⊕Bool)):=λ (v2,_)=>
 if decide (v2<v1)then
 need (Af v1 a0.length)<|
 need (Af v2 a0.length)<|
 if decide (((List.getD a0 (v1).toNat (A3)).Path)=((List.getD a0 (v2).toNat (A3)).Path))then
  some (.inr (.inr true))
 else
  jp (Hb a0 v1)<|some (.inl (IntKind.wrap .i64 (v2+(1:Int)),()))
 else
 jp (M4 a0 v1)<|some (.inr (.inl ()))
def Xa:H Nd->Option Bool:=λ _=>
 some false
def Wt (a0:(List Ak)):H (Fp a0)->Option ((H (Fp a0))⊕((H Nd)⊕Bool)):=λ (v1,_)=>
 if decide (v1<(a0.length:Int))then
 jp (Hb a0 v1)<|Option.bind (iter (Wl a0 v1) ((0:Int),())) (Sum.elim (Wr a0 v1) (λ y=>some (.inr (.inr y))))
 else
 some (.inr (.inl ()))
def Mh (a0:(List Ak)):Option Bool:=
 jp (Fp a0)<|Option.bind (iter (Wt a0) ((0:Int),())) (Sum.elim Xa (λ y=>some y))
abbrev Sg (a0:Aa) (v1:Int):HT:=[.S 1 false,.k (.ptr 1 0),.S 3 false,.q (.int .i64) v1,.S 9 false,.q (.int .i64) (a0.Comps.length:Int),.S 10 false,.q (.int .i64) v1,.C 1,.q (.nm 9) a0]
abbrev J9 (a0:Aa) (v1:Int):HT:=[.S 1 false,.k (.ptr 1 0),.S 3 false,.q (.int .i64) v1,.S 9 false,.q (.int .i64) (a0.Comps.length:Int),.S 10 false,.q (.int .i64) v1,.S 13 false,.q (.int .i64) v1,.S 14 false,.v (.int .i64),.C 1,.q (.nm 9) a0]
abbrev Zh:HT:=[]
abbrev J6 (a0:Aa):HT:=[.S 40 false,.q (.sl (.nm 3)) a0.Bases,.S 41 false,.q (.int .i64) (a0.Bases.length:Int),.S 42 false,.v (.int .i64)]
abbrev Nt (a0:Aa):HT:=[.S 1 false,.k (.ptr 1 0),.C 1,.q (.nm 9) a0]
abbrev H6 (a0:Aa):HT:=[.S 1 false,.k (.ptr 1 0),.S 9 false,.q (.int .i64) (a0.Comps.length:Int),.S 10 false,.v (.int .i64),.C 1,.q (.nm 9) a0]
def Acl (a0:Aa) (v1:Int):H (Sg a0 v1)->Option ((H (H6 a0))⊕((H (Nt a0))⊕Int)):=λ _=>
 need (Af v1 a0.Comps.length)<|
 Option.bind (Mh ((List.getD a0.Comps (v1).toNat (An)).Mods)) λ y1=>
 if y1 then
 some (.inr (.inr (5:Int)))
 else
 jp (H6 a0)<|some (.inl (IntKind.wrap .i64 (v1+(1:Int)),()))
def Ad0 (a0:Aa) (v1:Int):H (J9 a0 v1)->Option ((H (J9 a0 v1))⊕((H (Sg a0 v1))⊕Int)):=λ (v2,_)=>
 if decide (v2<v1)then
 need (Af v1 a0.Comps.length)<|
 need (Af v2 a0.Comps.length)<|
 if decide (((List.getD a0.Comps (v1).toNat (An)).Name)=((List.getD a0.Comps (v2).toNat (An)).Name))then
  some (.inr (.inr (5:Int)))
 else
  jp (J9 a0 v1)<|some (.inl (IntKind.wrap .i64 (v2+(1:Int)),()))
 else
 jp (Sg a0 v1)<|some (.inr (.inl ()))
def Aby:H Zh->Option Int:=λ _=>
 some (0:Int)
def Abr (a0:Aa):H (J6 a0)->Option ((H (J6 a0))⊕((H Zh)⊕Int)):=λ (v3,_)=>
 if decide (v3<(a0.Bases.length:Int))then
 need (Af v3 a0.Bases.length)<|
 Option.bind (Mh ((List.getD a0.Bases (v3).toNat (Cl)).Mods)) λ y2=>
 if y2 then
  some (.inr (.inr (5:Int)))
 else
  jp (J6 a0)<|some (.inl (IntKind.wrap .i64 (v3+(1:Int)),()))
 else
 some (.inr (.inl ()))
def Ab0 (a0:Aa):H (Nt a0)->Option Int:=λ _=>
 jp (J6 a0)<|Option.bind (iter (Abr a0) ((0:Int),())) (Sum.elim Aby (λ y=>some y))
def Abs (a0:Aa):H (H6 a0)->Option ((H (H6 a0))⊕((H (Nt a0))⊕Int)):=λ (v1,_)=>
 if decide (v1<(a0.Comps.length:Int))then
 jp (J9 a0 v1)<|Option.bind (iter (Ad0 a0 v1) ((0:Int),())) (Sum.elim (Acl a0 v1) (λ y=>some (.inr (.inr y))))
 else
 jp (Nt a0)<|some (.inr (.inl ()))
def Amv (a0:Aa):Option Int:=
 jp (H6 a0)<|Option.bind (iter (Abs a0) ((0:Int),())) (Sum.elim (Ab0 a0) (λ y=>some y))
abbrev Tz (a0:(List Ak)) (v1:Int):HT:=[.S 1 false,.k (.ptr 1000001 0),.S 5 false,.q (.sl (.nm 2)) a0,.S 6 false,.q (.int .i64) (a0.length:Int),.S 7 false,.q (.int .i64) v1,.S 1000000 false,.k (.ptr 1000001 0),.C 1000001,.k (.ar 1000002 0),.A 1000002 181 (.nm 10) 0 false]
abbrev Fr (a0:(List Ak)):HT:=[.S 1 false,.k (.ptr 1000001 0),.S 5 false,.q (.sl (.nm 2)) a0,.S 6 false,.q (.int .i64) (a0.length:Int),.S 7 false,.v (.int .i64),.S 1000000 false,.k (.ptr 1000001 0),.C 1000001,.k (.ar 1000002 0),.A 1000002 181 (.nm 10) 0 false]
def V9 (a0:(List Ak)) (v1:Int):H (Tz a0 v1)->Option ((H (Fr a0))⊕(List A5)):=λ (v3,_)=>
 jp (Fr a0)<|some (.inl (IntKind.wrap .i64 (v1+(1:Int)),v3,()))
def W7 (a0:(List Ak)):H (Fr a0)->Option ((H (Fr a0))⊕(List A5)):=λ (v1,v2,_)=>
 if decide (v1<(a0.length:Int))then
 need (Af v1 a0.length)<|
 if decide (((List.getD a0 (v1).toNat (A3)).Type_)=([]:List UInt8))then
  need ((v2.length+[(⟨(Ap ((List.getD a0 (v1).toNat (A3)).Value)),false⟩:A5)].length)*72<=As)<|
  jp (Tz a0 v1)<|V9 a0 v1 (v2++[(⟨(Ap ((List.getD a0 (v1).toNat (A3)).Value)),false⟩:A5)],())
 else
  jp (Tz a0 v1)<|V9 a0 v1 (v2,())
 else
 some (.inr v2)
def Xb (a0:(List Ak)) (a1:(List A5)):Option (List A5):=
 jp (Fr a0)<|Option.bind (iter (W7 a0) ((0:Int),a1,())) (λ y=>some y)
abbrev Zp (a0:Aa) (v4:Int):HT:=[.S 1 false,.k (.ptr 1 0),.S 3 false,.k (.ptr 3 0),.S 4 false,.k (.clo 149 [.ptr 3 0]),.S 29 false,.q (.sl (.nm 4)) a0.Comps,.S 30 false,.q (.int .i64) (a0.Comps.length:Int),.S 31 false,.q (.int .i64) v4,.C 1,.q (.nm 9) a0,.C 3,.k (.ar 4000003 0),.A 4000003 181 (.nm 10) 0 false]
abbrev Yt (a0:Aa) (v4:Int):HT:=[.S 1 false,.k (.ptr 1 0),.S 3 false,.k (.ptr 3 0),.S 4 false,.k (.clo 149 [.ptr 3 0]),.S 8 false,.k (.ptr 8 0),.S 29 false,.q (.sl (.nm 4)) a0.Comps,.S 30 false,.q (.int .i64) (a0.Comps.length:Int),.S 31 false,.q (.int .i64) v4,.C 1,.q (.nm 9) a0,.C 3,.k (.ar 4000003 0),.C 8,.q (.nm 4) (B1 (List.getD a0.Comps (v4).toNat (An))),.A 4000003 181 (.nm 10) 0 false]
abbrev O3 (a0:Aa) (v12:Int):HT:=[.S 3 false,.k (.ptr 3 0),.S 78 false,.q (.sl (.nm 8)) a0.Whens,.S 79 false,.q (.int .i64) (a0.Whens.length:Int),.S 80 false,.q (.int .i64) v12,.C 3,.k (.ar 4000003 0),.A 4000003 181 (.nm 10) 0 false]
abbrev Ig (a0:Aa) (v12:Int):HT:=[.S 3 false,.k (.ptr 3 0),.S 78 false,.q (.sl (.nm 8)) a0.Whens,.S 79 false,.q (.int .i64) (a0.Whens.length:Int),.S 80 false,.q (.int .i64) v12,.S 91 false,.q (.sl (.nm 7)) ((List.getD a0.Whens (v12).toNat (Bz)).Sets),.S 92 false,.v (.int .i64),.S 93 false,.v (.int .i64),.C 3,.k (.ar 4000003 0),.A 4000003 181 (.nm 10) 0 false]
abbrev O5:HT:=[.S 3 false,.k (.ptr 3 0),.C 3,.k (.ar 4000003 0),.A 4000003 181 (.nm 10) 0 false]
abbrev H5 (a0:Aa):HT:=[.S 3 false,.k (.ptr 3 0),.S 78 false,.q (.sl (.nm 8)) a0.Whens,.S 79 false,.q (.int .i64) (a0.Whens.length:Int),.S 80 false,.v (.int .i64),.C 3,.k (.ar 4000003 0),.A 4000003 181 (.nm 10) 0 false]
abbrev Rs (a0:Aa):HT:=[.S 1 false,.k (.ptr 1 0),.S 3 false,.k (.ptr 3 0),.C 1,.q (.nm 9) a0,.C 3,.k (.ar 4000003 0),.A 4000003 181 (.nm 10) 0 false]
abbrev Kd (a0:Aa):HT:=[.S 1 false,.k (.ptr 1 0),.S 3 false,.k (.ptr 3 0),.S 61 false,.q (.sl (.nm 5)) a0.Eqs,.S 62 false,.q (.int .i64) (a0.Eqs.length:Int),.S 63 false,.v (.int .i64),.C 1,.q (.nm 9) a0,.C 3,.k (.ar 4000003 0),.A 4000003 181 (.nm 10) 0 false]
abbrev J7 (a0:Aa):HT:=[.S 1 false,.k (.ptr 1 0),.S 3 false,.k (.ptr 3 0),.C 1,.q (.nm 9) a0,.C 3,.k (.ar 4000003 0),.A 4000003 181 (.nm 10) 0 false]
abbrev Gh (a0:Aa):HT:=[.S 1 false,.k (.ptr 1 0),.S 3 false,.k (.ptr 3 0),.S 4 false,.k (.clo 149 [.ptr 3 0]),.S 29 false,.q (.sl (.nm 4)) a0.Comps,.S 30 false,.q (.int .i64) (a0.Comps.length:Int),.S 31 false,.v (.int .i64),.C 1,.q (.nm 9) a0,.C 3,.k (.ar 4000003 0),.A 4000003 181 (.nm 10) 0 false]
abbrev Rz (a0:Aa):HT:=[.S 1 false,.k (.ptr 1 0),.S 3 false,.k (.ptr 3 0),.S 4 false,.k (.clo 149 [.ptr 3 0]),.C 1,.q (.nm 9) a0,.C 3,.k (.ar 4000003 0),.A 4000003 181 (.nm 10) 0 false]
abbrev Jx (a0:Aa):HT:=[.S 1 false,.k (.ptr 1 0),.S 3 false,.k (.ptr 3 0),.S 4 false,.k (.clo 149 [.ptr 3 0]),.S 17 false,.q (.sl (.nm 3)) a0.Bases,.S 18 false,.q (.int .i64) (a0.Bases.length:Int),.S 19 false,.v (.int .i64),.C 1,.q (.nm 9) a0,.C 3,.k (.ar 4000003 0),.A 4000003 181 (.nm 10) 0 false]
def Abq (a0:Aa) (v4:Int):H (Zp a0 v4)->Option ((H (Gh a0))⊕(H (J7 a0))):=λ (v7,_)=>
 jp (Gh a0)<|some (.inl (IntKind.wrap .i64 (v4+(1:Int)),v7,()))
def Ve (a0:Aa) (v4:Int):H (Yt a0 v4)->Option ((H (Gh a0))⊕(H (J7 a0))):=λ (v6,_)=>
 Option.bind (H7 (Ap ((List.getD a0.Comps (v4).toNat (An)).Cond))) λ y4=>
 if !y4 then
 need ((v6.length+[(⟨(Ap ((List.getD a0.Comps (v4).toNat (An)).Cond)),true⟩:A5)].length)*72<=As)<|
 jp (Zp a0 v4)<|Abq a0 v4 (v6++[(⟨(Ap ((List.getD a0.Comps (v4).toNat (An)).Cond)),true⟩:A5)],())
 else
 jp (Zp a0 v4)<|Abq a0 v4 (v6,())
def Yr (a0:Aa) (v12:Int):H (O3 a0 v12)->Option ((H (H5 a0))⊕(H O5)):=λ (v17,_)=>
 jp (H5 a0)<|some (.inl (IntKind.wrap .i64 (v12+(1:Int)),v17,()))
def Y2 (a0:Aa) (v12:Int):H (Ig a0 v12)->Option ((H (Ig a0 v12))⊕(H (O3 a0 v12))):=λ (v14,v15,v16,_)=>
 if decide (v15<v14)then
 need (Af v15 ((List.getD a0.Whens (v12).toNat (Bz)).Sets).length)<|
 need ((v16.length+[(⟨(Ap ((List.getD ((List.getD a0.Whens (v12).toNat (Bz)).Sets) (v15).toNat (Ac2)).E)),false⟩:A5)].length)*72<=As)<|
 jp (Ig a0 v12)<|some (.inl (v14,IntKind.wrap .i64 (v15+(1:Int)),v16++[(⟨(Ap ((List.getD ((List.getD a0.Whens (v12).toNat (Bz)).Sets) (v15).toNat (Ac2)).E)),false⟩:A5)],()))
 else
 jp (O3 a0 v12)<|some (.inr (v16,()))
def Y1:H O5->Option (List A5):=λ (v18,_)=>
 some v18
def Abx (a0:Aa):H (H5 a0)->Option ((H (H5 a0))⊕(H O5)):=λ (v12,v13,_)=>
 if decide (v12<(a0.Whens.length:Int))then
 need (Af v12 a0.Whens.length)<|
 need ((v13.length+[(⟨(Ap ((List.getD a0.Whens (v12).toNat (Bz)).C)),true⟩:A5)].length)*72<=As)<|
 jp (Ig a0 v12)<|Option.bind (iter (Y2 a0 v12) ((((List.getD a0.Whens (v12).toNat (Bz)).Sets).length:Int),(0:Int),v13++[(⟨(Ap ((List.getD a0.Whens (v12).toNat (Bz)).C)),true⟩:A5)],())) (Yr a0 v12)
 else
 some (.inr (v13,()))
def Acf (a0:Aa):H (Rs a0)->Option (List A5):=λ (v11,_)=>
 jp (H5 a0)<|Option.bind (iter (Abx a0) ((0:Int),v11,())) Y1
def Acu (a0:Aa):H (Kd a0)->Option ((H (Kd a0))⊕(H (Rs a0))):=λ (v9,v10,_)=>
 if decide (v9<(a0.Eqs.length:Int))then
 need (Af v9 a0.Eqs.length)<|
 need ((v10.length+[(⟨(Ap ((List.getD a0.Eqs (v9).toNat (Afa)).L)),false⟩:A5),(⟨(Ap ((List.getD a0.Eqs (v9).toNat (Afa)).R)),false⟩:A5)].length)*72<=As)<|
 jp (Kd a0)<|some (.inl (IntKind.wrap .i64 (v9+(1:Int)),v10++[(⟨(Ap ((List.getD a0.Eqs (v9).toNat (Afa)).L)),false⟩:A5),(⟨(Ap ((List.getD a0.Eqs (v9).toNat (Afa)).R)),false⟩:A5)],()))
 else
 jp (Rs a0)<|some (.inr (v10,()))
def Vq (a0:Aa):H (J7 a0)->Option (List A5):=λ (v8,_)=>
 jp (Kd a0)<|Option.bind (iter (Acu a0) ((0:Int),v8,())) (Acf a0)
def Abt (a0:Aa):H (Gh a0)->Option ((H (Gh a0))⊕(H (J7 a0))):=λ (v4,v5,_)=>
 if decide (v4<(a0.Comps.length:Int))then
 need (Af v4 a0.Comps.length)<|
 Option.bind (Xb ((List.getD a0.Comps (v4).toNat (An)).Mods) v5) λ y2=>
 Option.bind (H7 (Ap ((List.getD a0.Comps (v4).toNat (An)).Value))) λ y3=>
 if !y3 then
  need ((y2.length+[(⟨(Ap ((List.getD a0.Comps (v4).toNat (An)).Value)),false⟩:A5)].length)*72<=As)<|
  jp (Yt a0 v4)<|Ve a0 v4 (y2++[(⟨(Ap ((List.getD a0.Comps (v4).toNat (An)).Value)),false⟩:A5)],())
 else
  jp (Yt a0 v4)<|Ve a0 v4 (y2,())
 else
 jp (J7 a0)<|some (.inr (v5,()))
def Ab1 (a0:Aa):H (Rz a0)->Option (List A5):=λ (v3,_)=>
 jp (Gh a0)<|Option.bind (iter (Abt a0) ((0:Int),v3,())) (Vq a0)
def Aco (a0:Aa):H (Jx a0)->Option ((H (Jx a0))⊕(H (Rz a0))):=λ (v1,v2,_)=>
 if decide (v1<(a0.Bases.length:Int))then
 need (Af v1 a0.Bases.length)<|
 Option.bind (Xb ((List.getD a0.Bases (v1).toNat (Cl)).Mods) v2) λ y1=>
 jp (Jx a0)<|some (.inl (IntKind.wrap .i64 (v1+(1:Int)),y1,()))
 else
 jp (Rz a0)<|some (.inr (v2,()))
def Am6 (a0:Aa):Option (List A5):=
 jp (Jx a0)<|Option.bind (iter (Aco a0) ((0:Int),([]:List A5),())) (Ab1 a0)
abbrev Bh:=Am->Int->Int->Option (Bool×Int)
def Aio (R:Bh) (a0:Am) (a1:Int) (a2:Int):Option (Bool×Int×Int):=
 Option.bind (R (Ap a0) (IntKind.wrap .i64 (a1+(1:Int))) a2) λ y1=>
 some (y1.1,a1,y1.2)
abbrev Ep:HT:=[.S 1000000 false,.k (.ptr 1000001 0),.S 2000000 false,.k (.ptr 1000002 0),.S 3000000 false,.k (.ptr 1000003 0),.C 1000001,.v (.int .i64),.C 1000002,.k (.ptr 1000003 0),.C 1000003,.v (.int .i64)]
abbrev B9 (a0:(List Am)):HT:=[.S 0 false,.q (.sl (.nm 1)) a0,.S 1 false,.k (.clo 165 [.ptr 1000001 0,.ptr 1000002 0]),.S 7 false,.q (.int .i64) (a0.length:Int),.S 8 false,.v (.int .i64),.S 1000000 false,.k (.ptr 1000001 0),.S 2000000 false,.k (.ptr 1000002 0),.S 3000000 false,.k (.ptr 1000003 0),.C 1000001,.v (.int .i64),.C 1000002,.k (.ptr 1000003 0),.C 1000003,.v (.int .i64)]
def Ew (R:Bh):H Ep->Option (Int×Int×Int):=λ (v4,v5,_)=>
 some ((-1:Int),v4,v5)
def E0 (R:Bh) (a0:(List Am)):H (B9 a0)->Option ((H (B9 a0))⊕((H Ep)⊕(Int×Int×Int))):=λ (v1,v2,v3,_)=>
 if decide (v1<(a0.length:Int))then
 need (Af v1 a0.length)<|
 Option.bind (Aio R (Ap (List.getD a0 (v1).toNat (D2))) v2 v3) λ y1=>
 if y1.1 then
  some (.inr (.inr (v1,y1.2.1,y1.2.2)))
 else
  jp (B9 a0)<|some (.inl (IntKind.wrap .i64 (v1+(1:Int)),y1.2.1,y1.2.2,()))
 else
 some (.inr (.inl (v2,v3,())))
def Iw (R:Bh) (a0:(List Am)) (a1:Int) (a2:Int):Option (Int×Int×Int):=
 jp (B9 a0)<|Option.bind (iter (E0 R a0) ((0:Int),a1,a2,())) (Sum.elim (Ew R) (λ y=>some y))
def Hd (R:Bh) (a0:(List Am)) (a1:Int) (a2:Int):Option (Bool×Int×Int):=
 Option.bind (Iw R a0 a1 a2) λ y1=>
 some (decide ((0:Int)<=y1.1),y1.2.1,y1.2.2)
abbrev Tb (a2:Int):HT:=[.S 1000000 false,.k (.ptr 1000001 0),.C 1000001,.q (.int .i64) (IntKind.wrap .i64 (a2+(1:Int)))]
def Vn (R:Bh) (a2:Int):H (Tb a2)->Option (Bool×Int):=λ _=>
 some (true,IntKind.wrap .i64 (a2+(1:Int)))
def Amh (R:Bh) (a0:Am) (a1:Int) (a2:Int):Option (Bool×Int):=
 if decide ((80:Int)<(IntKind.wrap .i64 (a2+(1:Int))))then
 jp (Tb a2)<|Vn R a2 ()
 else
 if decide ((12:Int)<a1)then
  jp (Tb a2)<|Vn R a2 ()
 else
  Option.bind (Hd R a0.Kids a1 (IntKind.wrap .i64 (a2+(1:Int)))) λ y1=>
  some (y1.1,y1.2.2)
def Ob:Nat->Bh
 |0=>λ _ _ _=>none
 |k+1=>Amh (Ob k)
def Aia:Bh:=λ a0 a1 a2=>Ob (SizeOf.sizeOf a0+1) a0 a1 a2
abbrev A49:HT:=[]
abbrev Ahy (a0:Int):HT:=[.S 0 false,.q (.int .i64) a0]
abbrev Aht (a0:Int):HT:=[.S 0 false,.q (.int .i64) a0]
abbrev Aig (a0:Int):HT:=[.S 0 false,.q (.int .i64) a0]
def Agg:H A49->Option Int:=λ _=>
 some (1:Int)
def Amd (a0:Int):H (Ahy a0)->Option Int:=λ _=>
 if decide (a0=(19:Int))then
 some (3:Int)
 else
 some (-1:Int)
def Alw (a0:Int):H (Aht a0)->Option Int:=λ _=>
 if decide ((8:Int)<=a0)then
 if decide (a0<=(17:Int))then
  some (2:Int)
 else
  jp (Ahy a0)<|Amd a0 ()
 else
 jp (Ahy a0)<|Amd a0 ()
def Alj (a0:Int):H (Aig a0)->Option Int:=λ _=>
 if decide ((5:Int)<=a0)then
 if decide (a0<=(7:Int))then
  Agg ()
 else
  if decide (a0=(18:Int))then
   Agg ()
  else
   jp (Aht a0)<|Alw a0 ()
 else
 if decide (a0=(18:Int))then
  Agg ()
 else
  jp (Aht a0)<|Alw a0 ()
def Ak0 (a0:Int):Option Int:=
 if decide ((1:Int)<=a0)then
 if decide (a0<=(4:Int))then
  some (0:Int)
 else
  jp (Aig a0)<|Alj a0 ()
 else
 jp (Aig a0)<|Alj a0 ()
def T5:Option Bool:=
 some false
def Ali (v1:Int) (v2:Int):Option ((Int×Int)⊕Int):=
 if !decide (v2=(0:Int))then
  need (v2≠0)<|
  some (.inl (v2,Int.tmod v1 v2))
 else
  some (.inr v1)
def Z4 (a0:Bd):Option Bool:=
 if decide (a0.D<(1:Int))then
  T5
 else
  if decide ((1000000000000:Int)<a0.D)then
   T5
  else
   if decide ((1000000000000:Int)<a0.N)then
    T5
   else
    if decide (a0.N<(-1000000000000:Int))then
     T5
    else
     Option.bind (iter (λ v:(Int×Int)=>Ali v.1 v.2) (a0.N,a0.D)) λ r1=>
      if decide (r1=(1:Int))then
       some true
      else
       some (decide (r1=(-1:Int)))
def Ml (a0:Int):Option Bool:=
 if decide ((97:Int)<=a0)then
 if decide (a0<=(122:Int))then
  some true
 else
  if decide ((65:Int)<=a0)then
   some (decide (a0<=(90:Int)))
  else
   some false
 else
 if decide ((65:Int)<=a0)then
  some (decide (a0<=(90:Int)))
 else
  some false
def Xs (a0:(List UInt8)):Option Bool:=
 if decide (a0=([105,102]:List UInt8))then
 some true
 else
 if decide (a0=([116,104,101,110]:List UInt8))then
  some true
 else
  if decide (a0=([101,108,115,101]:List UInt8))then
   some true
  else
   if decide (a0=([111,114]:List UInt8))then
    some true
   else
    if decide (a0=([97,110,100]:List UInt8))then
     some true
    else
     if decide (a0=([110,111,116]:List UInt8))then
      some true
     else
      if decide (a0=([100,101,114]:List UInt8))then
       some true
      else
       if decide (a0=([112,114,101]:List UInt8))then
        some true
       else
        if decide (a0=([97,98,115]:List UInt8))then
         some true
        else
         if decide (a0=([109,105,110]:List UInt8))then
          some true
         else
          if decide (a0=([109,97,120]:List UInt8))then
           some true
          else
           some false
def Uk (a0:Int):Option Bool:=
 if decide ((48:Int)<=a0)then
 some (decide (a0<=(57:Int)))
 else
 some false
def Uh (a0:Int):Option Bool:=
 Option.bind (Ml a0) λ y1=>
 if y1 then
 some true
 else
 Option.bind (Uk a0) λ y2=>
 if y2 then
  some true
 else
  if decide (a0=(95:Int))then
   some true
  else
   if decide (a0=(46:Int))then
    some true
   else
    if decide (a0=(91:Int))then
     some true
    else
     some (decide (a0=(93:Int)))
abbrev Aum:HT:=[]
abbrev Yo:HT:=[]
abbrev J8 (a0:(List UInt8)):HT:=[.S 0 false,.q .str a0,.S 22 false,.q (.int .i64) (a0.length:Int),.S 23 false,.v (.int .i64)]
def Qt:H Aum->Option Bool:=λ _=>
 some false
def Adv:H Yo->Option Bool:=λ _=>
 some true
def Adf (a0:(List UInt8)):H (J8 a0)->Option ((H (J8 a0))⊕((H Yo)⊕Bool)):=λ (v1,_)=>
 if decide (v1<(a0.length:Int))then
 need (Af v1 a0.length)<|
 Option.bind (Uh ((List.getD a0 v1.toNat 0).toNat:Int)) λ y3=>
 if !y3 then
  some (.inr (.inr false))
 else
  jp (J8 a0)<|some (.inl (IntKind.wrap .i64 (v1+(1:Int)),()))
 else
 some (.inr (.inl ()))
def P1 (a0:(List UInt8)):Option Bool:=
 if decide (a0=([]:List UInt8))then
 Qt ()
 else
 if decide ((60:Int)<(a0.length:Int))then
  Qt ()
 else
  need (Af (0:Int) a0.length)<|
  Option.bind (Ml ((List.getD a0 (0:Int).toNat 0).toNat:Int)) λ y1=>
  if !y1 then
   Qt ()
  else
   Option.bind (Xs a0) λ y2=>
   if y2 then
    Qt ()
   else
    jp (J8 a0)<|Option.bind (iter (Adf a0) ((0:Int),())) (Sum.elim Adv (λ y=>some y))
def Xl (a0:Am):Option Bool:=
 Option.bind (Ak0 a0.Op) λ y1=>
 if !decide ((a0.Kids.length:Int)=y1)then
 some false
 else
 if decide (a0.Op=(1:Int))then
  if decide (a0.Name=([]:List UInt8))then
   Option.bind (Z4 a0.N) λ y2=>
   some y2
  else
   some false
 else
  if decide (a0.Op=(2:Int))then
   Option.bind (P1 a0.Name) λ y3=>
   if y3 then
    some (decide (a0.N.N=(0:Int))&&(decide (a0.N.D=(0:Int))&&true))
   else
    some false
  else
   if decide (a0.Op=(3:Int))then
    Option.bind (P1 a0.Name) λ y4=>
    if y4 then
     some (decide (a0.N.N=(0:Int))&&(decide (a0.N.D=(0:Int))&&true))
    else
     some false
   else
    if decide (a0.Op=(4:Int))then
     Option.bind (P1 a0.Name) λ y5=>
     if y5 then
      some (decide (a0.N.N=(0:Int))&&(decide (a0.N.D=(0:Int))&&true))
     else
      some false
    else
     if decide (a0.Op=(18:Int))then
      if decide (a0.Name=([]:List UInt8))then
       if decide (a0.N.D=(1:Int))then
        if decide ((-6:Int)<=a0.N.N)then
         some (decide (a0.N.N<=(6:Int)))
        else
         some false
       else
        some false
      else
       some false
     else
      if decide (a0.Name=([]:List UInt8))then
       some (decide (a0.N.N=(0:Int))&&(decide (a0.N.D=(0:Int))&&true))
      else
       some false
abbrev Db:=Am->Option Bool
abbrev Oj:HT:=[]
abbrev E3 (a0:Am):HT:=[.S 1 false,.k (.clo 153 []),.S 12 false,.q (.sl (.nm 1)) a0.Kids,.S 13 false,.q (.int .i64) (a0.Kids.length:Int),.S 14 false,.v (.int .i64)]
def P6 (R:Db):H Oj->Option Bool:=λ _=>
 some true
def Q3 (R:Db) (a0:Am):H (E3 a0)->Option ((H (E3 a0))⊕((H Oj)⊕Bool)):=λ (v1,_)=>
 if decide (v1<(a0.Kids.length:Int))then
 need (Af v1 a0.Kids.length)<|
 Option.bind (R (Ap (List.getD a0.Kids (v1).toNat (D2)))) λ y2=>
 if !y2 then
  some (.inr (.inr false))
 else
  jp (E3 a0)<|some (.inl (IntKind.wrap .i64 (v1+(1:Int)),()))
 else
 some (.inr (.inl ()))
def Afv (R:Db) (a0:Am):Option Bool:=
 Option.bind (Xl (Ap a0)) λ y1=>
 if !y1 then
 some false
 else
 jp (E3 a0)<|Option.bind (iter (Q3 R a0) ((0:Int),())) (Sum.elim (P6 R) (λ y=>some y))
def I5:Nat->Db
 |0=>λ _=>none
 |k+1=>Afv (I5 k)
def Zc:Db:=λ a0=>I5 (SizeOf.sizeOf a0+1) a0
def Xr (a0:Int):Option Bool:=
 if decide (a0=(7:Int))then
 some true
 else
 if decide ((14:Int)<=a0)then
  some (decide (a0<=(17:Int)))
 else
  some false
def N6 (a0:Int) (a1:Int):Option Bool:=
 if decide (a0=(7:Int))then
 some true
 else
 if decide (a0=(16:Int))then
  some true
 else
  if decide (a0=(17:Int))then
   some true
  else
   if decide (a0=(19:Int))then
    some (decide (a1=(0:Int)))
   else
    some false
abbrev Wn:HT:=[]
abbrev Is (a0:Am):HT:=[.S 1 false,.k (.ptr 1 0),.S 6 false,.q (.sl (.nm 1)) a0.Kids,.S 7 false,.q (.int .i64) (a0.Kids.length:Int),.S 8 false,.v (.int .i64),.C 1,.q (.nm 1) (Ap a0)]
def Yy:H Wn->Option Bool:=λ _=>
 some true
def Yv (a0:Am):H (Is a0)->Option ((H (Is a0))⊕((H Wn)⊕Bool)):=λ (v1,_)=>
 if decide (v1<(a0.Kids.length:Int))then
 need (Af v1 a0.Kids.length)<|
 Option.bind (Xr ((List.getD a0.Kids (v1).toNat (D2)).Op)) λ y1=>
 Option.bind (N6 a0.Op v1) λ y2=>
 if !(y1==y2)then
  some (.inr (.inr false))
 else
  jp (Is a0)<|some (.inl (IntKind.wrap .i64 (v1+(1:Int)),()))
 else
 some (.inr (.inl ()))
def Ahd (a0:Am):Option Bool:=
 jp (Is a0)<|Option.bind (iter (Yv a0) ((0:Int),())) (Sum.elim Yy (λ y=>some y))
abbrev Da:=Am->Option Bool
abbrev Of:HT:=[]
abbrev Fb (a0:Am):HT:=[.S 1 false,.k (.clo 154 []),.S 12 false,.q (.sl (.nm 1)) a0.Kids,.S 13 false,.q (.int .i64) (a0.Kids.length:Int),.S 14 false,.v (.int .i64)]
def Qu (R:Da):H Of->Option Bool:=λ _=>
 some true
def Qv (R:Da) (a0:Am):H (Fb a0)->Option ((H (Fb a0))⊕((H Of)⊕Bool)):=λ (v1,_)=>
 if decide (v1<(a0.Kids.length:Int))then
 need (Af v1 a0.Kids.length)<|
 Option.bind (R (Ap (List.getD a0.Kids (v1).toNat (D2)))) λ y2=>
 if !y2 then
  some (.inr (.inr false))
 else
  jp (Fb a0)<|some (.inl (IntKind.wrap .i64 (v1+(1:Int)),()))
 else
 some (.inr (.inl ()))
def Ae8 (R:Da) (a0:Am):Option Bool:=
 Option.bind (Ahd (Ap a0)) λ y1=>
 if !y1 then
 some false
 else
 jp (Fb a0)<|Option.bind (iter (Qv R a0) ((0:Int),())) (Sum.elim (Qu R) (λ y=>some y))
def I6:Nat->Da
 |0=>λ _=>none
 |k+1=>Ae8 (I6 k)
def Yj:Da:=λ a0=>I6 (SizeOf.sizeOf a0+1) a0
def Adg (a0:Am):Option Int:=
 Option.bind (Aia (Ap a0) (1:Int) (0:Int)) λ y1=>
 if y1.1 then
 some (3:Int)
 else
 Option.bind (Zc (Ap a0)) λ y2=>
 if !y2 then
  some (1:Int)
 else
  Option.bind (Yj (Ap a0)) λ y3=>
  if !y3 then
   some (6:Int)
  else
   some (0:Int)
abbrev Cw:=Am->Option Bool
abbrev P4:HT:=[]
abbrev F8 (a0:Am):HT:=[.S 23 false,.q (.sl (.nm 1)) a0.Kids,.S 24 false,.q (.int .i64) (a0.Kids.length:Int),.S 25 false,.v (.int .i64)]
abbrev P8 (a0:Am):HT:=[.S 1 false,.k (.ptr 1 0),.C 1,.q (.nm 1) (Ap a0)]
abbrev Ql (a0:Am):HT:=[.S 1 false,.k (.ptr 1 0),.S 3 false,.v .str,.C 1,.q (.nm 1) (Ap a0)]
def S5 (R:Cw):H P4->Option Bool:=λ _=>
 some false
def Te (R:Cw) (a0:Am):H (F8 a0)->Option ((H (F8 a0))⊕((H P4)⊕Bool)):=λ (v2,_)=>
 if decide (v2<(a0.Kids.length:Int))then
 need (Af v2 a0.Kids.length)<|
 Option.bind (R (Ap (List.getD a0.Kids (v2).toNat (D2)))) λ y3=>
 if y3 then
  some (.inr (.inr true))
 else
  jp (F8 a0)<|some (.inl (IntKind.wrap .i64 (v2+(1:Int)),()))
 else
 some (.inr (.inl ()))
def Ni (R:Cw) (a0:Am):H (P8 a0)->Option Bool:=λ _=>
 jp (F8 a0)<|Option.bind (iter (Te R a0) ((0:Int),())) (Sum.elim (S5 R) (λ y=>some y))
def M9 (R:Cw) (a0:Am):H (Ql a0)->Option Bool:=λ (v1,_)=>
 if !decide (v1=([116,105,109,101]:List UInt8))then
 Option.bind (Em v1) λ y2=>
 if y2 then
  some true
 else
  jp (P8 a0)<|Ni R a0 ()
 else
 jp (P8 a0)<|Ni R a0 ()
def Ai7 (R:Cw) (a0:Am):Option Bool:=
 Option.bind (Tq a0.Name ([46,91]:List UInt8)) λ y1=>
 if decide ((0:Int)<=y1)then
 need ((0:Int)<=(0:Int))<|
 need ((0:Int)<=y1)<|
 need (y1<=(a0.Name.length:Int))<|
 jp (Ql a0)<|M9 R a0 ((List.take (y1.toNat-(0:Int).toNat) (List.drop (0:Int).toNat a0.Name)),())
 else
 jp (Ql a0)<|M9 R a0 (a0.Name,())
def Iv:Nat->Cw
 |0=>λ _=>none
 |k+1=>Ai7 (Iv k)
def Al9:Cw:=λ a0=>Iv (SizeOf.sizeOf a0+1) a0
def Ia (a0:Am):Option Bool:=
 if decide (a0.Op=(14:Int))then
 some true
 else
 if decide (a0.Op=(15:Int))then
  some true
 else
  if decide (a0.Op=(7:Int))then
   some true
  else
   if decide (a0.Op=(16:Int))then
    some true
   else
    if decide (a0.Op=(17:Int))then
     some true
    else
     some false
abbrev Qi:HT:=[]
abbrev Ga (v5:(List A5)):HT:=[.S 51 false,.q (.sl (.nm 10)) v5,.S 52 false,.q (.int .i64) (v5.length:Int),.S 53 false,.v (.int .i64)]
abbrev Ky (v5:(List A5)):HT:=[.S 5 false,.q (.sl (.nm 10)) v5]
abbrev F7 (v5:(List A5)):HT:=[.S 5 false,.q (.sl (.nm 10)) v5,.S 41 false,.q (.sl (.nm 10)) v5,.S 42 false,.q (.int .i64) (v5.length:Int),.S 43 false,.v (.int .i64)]
abbrev Qj:HT:=[.S 5 false,.v (.sl (.nm 10))]
abbrev Kz:HT:=[.S 5 false,.v (.sl (.nm 10)),.S 28 false,.v (.sl (.nm 10)),.S 29 false,.v (.int .i64),.S 30 false,.v (.int .i64)]
def S4:H Qi->Option Int:=λ _=>
 some (0:Int)
def S9 (v5:(List A5)):H (Ga v5)->Option ((H (Ga v5))⊕((H Qi)⊕Int)):=λ (v7,_)=>
 if decide (v7<(v5.length:Int))then
 need (Af v7 v5.length)<|
 Option.bind (Ia (Ap ((List.getD v5 (v7).toNat (T8)).e))) λ y7=>
 if !(y7==((List.getD v5 (v7).toNat (T8)).cond))then
  some (.inr (.inr (6:Int)))
 else
  jp (Ga v5)<|some (.inl (IntKind.wrap .i64 (v7+(1:Int)),()))
 else
 some (.inr (.inl ()))
def Tu (v5:(List A5)):H (Ky v5)->Option Int:=λ _=>
 jp (Ga v5)<|Option.bind (iter (S9 v5) ((0:Int),())) (Sum.elim S4 (λ y=>some y))
def Tj (v5:(List A5)):H (F7 v5)->Option ((H (F7 v5))⊕((H (Ky v5))⊕Int)):=λ (v6,_)=>
 if decide (v6<(v5.length:Int))then
 need (Af v6 v5.length)<|
 Option.bind (Al9 (Ap ((List.getD v5 (v6).toNat (T8)).e))) λ y6=>
 if y6 then
  some (.inr (.inr (1:Int)))
 else
  jp (F7 v5)<|some (.inl (IntKind.wrap .i64 (v6+(1:Int)),()))
 else
 jp (Ky v5)<|some (.inr (.inl ()))
def Tt:H Qj->Option Int:=λ (v5,_)=>
 jp (F7 v5)<|Option.bind (iter (Tj v5) ((0:Int),())) (Sum.elim (Tu v5) (λ y=>some y))
def Th:H Kz->Option ((H Kz)⊕((H Qj)⊕Int)):=λ (v1,v2,v3,v4,_)=>
 if decide (v4<v3)then
 need (Af v4 v2.length)<|
 Option.bind (Adg (Ap ((List.getD v2 (v4).toNat (T8)).e))) λ y5=>
 if !decide (y5=(0:Int))then
  some (.inr (.inr y5))
 else
  some (.inl (v1,v2,v3,IntKind.wrap .i64 (v4+(1:Int)),()))
 else
 some (.inr (.inl (v1,())))
def Zg (a0:Aa):Option Int:=
 Option.bind (Am7 a0) λ y1=>
 if !decide (y1=(0:Int))then
 some y1
 else
 Option.bind (Qo a0) λ y2=>
 if !y2 then
  some (1:Int)
 else
  Option.bind (Amv a0) λ y3=>
  if !decide (y3=(0:Int))then
   some y3
  else
   Option.bind (Am6 a0) λ y4=>
   Option.bind (iter Th (y4,y4,(y4.length:Int),(0:Int),())) (Sum.elim Tt (λ y=>some y))
abbrev Hk (a0:(List Aa)) (v2:Int):HT:=[.S 0 false,.q (.sl (.nm 9)) a0,.S 24 false,.q (.int .i64) (a0.length:Int),.S 25 false,.q (.int .i64) v2]
abbrev D8 (a0:(List Aa)) (v2:Int):HT:=[.S 0 false,.q (.sl (.nm 9)) a0,.S 6 false,.q (.int .i64) v2,.S 24 false,.q (.int .i64) (a0.length:Int),.S 25 false,.q (.int .i64) v2,.S 28 false,.q (.int .i64) v2,.S 29 false,.v (.int .i64)]
abbrev Hn:HT:=[]
abbrev Dk (a0:(List Aa)):HT:=[.S 0 false,.q (.sl (.nm 9)) a0,.S 24 false,.q (.int .i64) (a0.length:Int),.S 25 false,.v (.int .i64)]
abbrev Hj (a0:(List Aa)):HT:=[.S 0 false,.q (.sl (.nm 9)) a0]
abbrev D5 (a0:(List Aa)):HT:=[.S 0 false,.q (.sl (.nm 9)) a0,.S 11 false,.q (.sl (.nm 9)) a0,.S 12 false,.q (.int .i64) (a0.length:Int),.S 13 false,.v (.int .i64)]
def L3 (a0:(List Aa)) (v2:Int):H (Hk a0 v2)->Option ((H (Dk a0))⊕((H Hn)⊕Int)):=λ _=>
 jp (Dk a0)<|some (.inl (IntKind.wrap .i64 (v2+(1:Int)),()))
def Ly (a0:(List Aa)) (v2:Int):H (D8 a0 v2)->Option ((H (D8 a0 v2))⊕((H (Hk a0 v2))⊕Int)):=λ (v3,_)=>
 if decide (v3<v2)then
 need (Af v2 a0.length)<|
 need (Af v3 a0.length)<|
 if decide (((List.getD a0 (v2).toNat (Ag)).Name)=((List.getD a0 (v3).toNat (Ag)).Name))then
  some (.inr (.inr (5:Int)))
 else
  jp (D8 a0 v2)<|some (.inl (IntKind.wrap .i64 (v3+(1:Int)),()))
 else
 jp (Hk a0 v2)<|some (.inr (.inl ()))
def Ms:H Hn->Option Int:=λ _=>
 some (0:Int)
def Lr (a0:(List Aa)):H (Dk a0)->Option ((H (Dk a0))⊕((H Hn)⊕Int)):=λ (v2,_)=>
 if decide (v2<(a0.length:Int))then
 jp (D8 a0 v2)<|Option.bind (iter (Ly a0 v2) ((0:Int),())) (Sum.elim (L3 a0 v2) (λ y=>some (.inr (.inr y))))
 else
 some (.inr (.inl ()))
def Lp (a0:(List Aa)):H (Hj a0)->Option Int:=λ _=>
 jp (Dk a0)<|Option.bind (iter (Lr a0) ((0:Int),())) (Sum.elim Ms (λ y=>some y))
def L9 (a0:(List Aa)):H (D5 a0)->Option ((H (D5 a0))⊕((H (Hj a0))⊕Int)):=λ (v1,_)=>
 if decide (v1<(a0.length:Int))then
 need (Af v1 a0.length)<|
 Option.bind (Zg (List.getD a0 (v1).toNat (Ag))) λ y1=>
 if !decide (y1=(0:Int))then
  some (.inr (.inr y1))
 else
  jp (D5 a0)<|some (.inl (IntKind.wrap .i64 (v1+(1:Int)),()))
 else
 jp (Hj a0)<|some (.inr (.inl ()))
def Qb (a0:(List Aa)):Option Int:=
 if decide ((60:Int)<(a0.length:Int))then
 some (3:Int)
 else
 jp (D5 a0)<|Option.bind (iter (L9 a0) ((0:Int),())) (Sum.elim (Lp a0) (λ y=>some y))
abbrev Y8:HT:=[]
abbrev Jv (a0:(List Aa)) (a1:(List (List UInt8))):HT:=[.S 0 false,.q (.sl (.nm 9)) a0,.S 13 false,.q (.sl .str) a1,.S 14 false,.q (.int .i64) (a1.length:Int),.S 15 false,.v (.int .i64)]
def Adw:H Y8->Option Int:=λ _=>
 some (0:Int)
def Adr (a0:(List Aa)) (a1:(List (List UInt8))):H (Jv a0 a1)->Option ((H (Jv a0 a1))⊕((H Y8)⊕Int)):=λ (v1,_)=>
 if decide (v1<(a1.length:Int))then
 need (Af v1 a1.length)<|
 Option.bind (Gc a0 (List.getD a1 (v1).toNat ([]:(List UInt8)))) λ y2=>
 if decide (y2<(0:Int))then
  some (.inr (.inr (4:Int)))
 else
  jp (Jv a0 a1)<|some (.inl (IntKind.wrap .i64 (v1+(1:Int)),()))
 else
 some (.inr (.inl ()))
def Aes (a0:(List Aa)) (a1:(List (List UInt8))):Option Int:=
 Option.bind (Qb a0) λ y1=>
 if !decide (y1=(0:Int))then
 some y1
 else
 jp (Jv a0 a1)<|Option.bind (iter (Adr a0 a1) ((0:Int),())) (Sum.elim Adw (λ y=>some y))
abbrev D9:HT:=[]
abbrev B4 (a0:(List UInt8)) (a1:Int):HT:=[.S 0 false,.q .str a0,.S 1 false,.q (.int .u8) a1,.S 5 false,.v (.int .i64)]
def Ek:H D9->Option Int:=λ _=>
 some (-1:Int)
def El (a0:(List UInt8)) (a1:Int):H (B4 a0 a1)->Option ((H (B4 a0 a1))⊕((H D9)⊕Int)):=λ (v1,_)=>
 if decide ((0:Int)<=v1)then
 need (Af v1 a0.length)<|
 if decide (((List.getD a0 v1.toNat 0).toNat:Int)=a1)then
  some (.inr (.inr v1))
 else
  jp (B4 a0 a1)<|some (.inl (IntKind.wrap .i64 (v1-(1:Int)),()))
 else
 some (.inr (.inl ()))
def Ij (a0:(List UInt8)) (a1:Int):Option Int:=
 jp (B4 a0 a1)<|Option.bind (iter (El a0 a1) (IntKind.wrap .i64 ((a0.length:Int) -(1:Int)),())) (Sum.elim Ek (λ y=>some y))
def Je (a0:(List UInt8)) (a1:Int):Option Int:=
 Option.bind (Ij a0 a1) λ y1=>
 some y1
abbrev Hg (a0:(List Aa)) (a2:(List UInt8)):HT:=[.S 0 false,.q (.sl (.nm 9)) a0,.S 1 false,.v .str,.S 2 false,.q .str a2]
def Xe (a0:(List Aa)) (a2:(List UInt8)):H (Hg a0 a2)->Option ((H (Hg a0 a2))⊕Int):=λ (v1,_)=>
 need (v1.length+([46]:List UInt8).length<=As)<|
 need ((v1++([46]:List UInt8)).length+a2.length<=As)<|
 Option.bind (Gc a0 ((v1++([46]:List UInt8))++a2)) λ y1=>
 if decide ((0:Int)<=y1)then
 some (.inr y1)
 else
 Option.bind (Je v1 (46:Int)) λ y2=>
 if decide (y2<(0:Int))then
  Option.bind (Gc a0 a2) λ y3=>
  some (.inr y3)
 else
  need ((0:Int)<=(0:Int))<|
  need ((0:Int)<=y2)<|
  need (y2<=(v1.length:Int))<|
  jp (Hg a0 a2)<|some (.inl ((List.take (y2.toNat-(0:Int).toNat) (List.drop (0:Int).toNat v1)),()))
def Dy (a0:(List Aa)) (a1:(List UInt8)) (a2:(List UInt8)):Option Int:=
 jp (Hg a0 a2)<|Option.bind (iter (Xe a0 a2) (a1,())) (λ y=>some y)
abbrev G5:HT:=[]
abbrev Ct (a0:(List Int)) (a1:Int):HT:=[.S 0 false,.q (.sl (.int .i64)) a0,.S 1 false,.q (.int .i64) a1,.S 7 false,.q (.int .i64) (a0.length:Int),.S 8 false,.v (.int .i64)]
def Hu:H G5->Option Int:=λ _=>
 some (-1:Int)
def Hv (a0:(List Int)) (a1:Int):H (Ct a0 a1)->Option ((H (Ct a0 a1))⊕((H G5)⊕Int)):=λ (v1,_)=>
 if decide (v1<(a0.length:Int))then
 need (Af v1 a0.length)<|
 if decide (a1=(List.getD a0 (v1).toNat (0:Int)))then
  some (.inr (.inr v1))
 else
  jp (Ct a0 a1)<|some (.inl (IntKind.wrap .i64 (v1+(1:Int)),()))
 else
 some (.inr (.inl ()))
def Ot (a0:(List Int)) (a1:Int):Option Int:=
 jp (Ct a0 a1)<|Option.bind (iter (Hv a0 a1) ((0:Int),())) (Sum.elim Hu (λ y=>some y))
def Et (a0:(List Int)) (a1:Int):Option Bool:=
 Option.bind (Ot a0 a1) λ y1=>
 some (decide ((0:Int)<=y1))
abbrev Gv:=(List Aa)->Ai->(List Int)->(List (Int×Bool))->(List Ai)->Option (Int×(List (Int×Bool))×(List Ai))
abbrev Rr (a1:Ai):HT:=[.S 3 false,.k (.mp 1000001),.S 4 false,.k (.ar 1000002 0),.S 6 false,.k (.ptr 6 0),.S 1000000 false,.k (.mp 1000001),.C 6,.q (.nm 18) a1,.M 1000001 (.int .i64) .bool,.A 1000002 84 (.nm 18) 0 false]
abbrev Jy (a0:(List Aa)) (a1:Ai):HT:=[.S 0 false,.q (.sl (.nm 9)) a0,.S 2 false,.v (.sl (.int .i64)),.S 3 false,.k (.mp 1000001),.S 4 false,.k (.ar 1000002 0),.S 6 false,.k (.ptr 6 0),.S 36 false,.q (.sl (.nm 3)) ((List.getD a0 (a1.class_).toNat (Ag)).Bases),.S 37 false,.v (.int .i64),.S 38 false,.v (.int .i64),.S 1000000 false,.k (.mp 1000001),.C 6,.q (.nm 18) a1,.M 1000001 (.int .i64) .bool,.A 1000002 84 (.nm 18) 0 false]
def Adz (R:Gv) (a1:Ai):H (Rr a1)->Option (Int×(List (Int×Bool))×(List Ai)):=λ (v6,v7,_)=>
 need ((v7.length+[a1].length)*24<=As)<|
 some ((0:Int),Hc kqI a1.class_ true v6,v7++[a1])
def Acy (R:Gv) (a0:(List Aa)) (a1:Ai):H (Jy a0 a1)->Option ((H (Jy a0 a1))⊕((H (Rr a1))⊕(Int×(List (Int×Bool))×(List Ai)))):=λ (v1,v2,v3,v4,v5,_)=>
 if decide (v3<v2)then
 need (Af v3 ((List.getD a0 (a1.class_).toNat (Ag)).Bases).length)<|
 need (Af a1.class_ a0.length)<|
 Option.bind (Dy a0 ((List.getD a0 (a1.class_).toNat (Ag)).Name) ((List.getD ((List.getD a0 (a1.class_).toNat (Ag)).Bases) (v3).toNat (Cl)).Name)) λ y3=>
 if decide (y3<(0:Int))then
  some (.inr (.inr ((4:Int),v4,([]:List Ai))))
 else
  Option.bind (R a0 (⟨y3,a1.class_,v3⟩:Ai) v1 v4 v5) λ y4=>
  if !decide (y4.1=(0:Int))then
   some (.inr (.inr (y4.1,y4.2.1,([]:List Ai))))
  else
   jp (Jy a0 a1)<|some (.inl (v1,v2,IntKind.wrap .i64 (v3+(1:Int)),y4.2.1,y4.2.2,()))
 else
 jp (Rr a1)<|some (.inr (.inl (v4,v5,())))
def Av6 (R:Gv) (a0:(List Aa)) (a1:Ai) (a2:(List Int)) (a3:(List (Int×Bool))) (a4:(List Ai)):Option (Int×(List (Int×Bool))×(List Ai)):=
 Option.bind (Et a2 a1.class_) λ y1=>
 if y1 then
 some ((10:Int),a3,([]:List Ai))
 else
 if Option.getD (Kh kqI a1.class_ a3) false then
  some ((0:Int),a3,a4)
 else
  Option.bind (Du a2) λ y2=>
  need ((y2.length+[a1.class_].length)*8<=As)<|
  need (Af a1.class_ a0.length)<|
  jp (Jy a0 a1)<|Option.bind (iter (Acy R a0 a1) (y2++[a1.class_],(((List.getD a0 (a1.class_).toNat (Ag)).Bases).length:Int),(0:Int),a3,a4,())) (Sum.elim (Adz R a1) (λ y=>some y))
def Uv:Nat->Gv
 |0=>λ _ _ _ _ _=>none
 |k+1=>Av6 (Uv k)
def Asu:Gv:=λ a0 a1 a2 a3 a4=>Uv (List.length a0+2) a0 a1 a2 a3 a4
abbrev Sr (a1:Ai):HT:=[.S 3 false,.k (.mp 1000001),.S 4 false,.k (.ar 270336 0),.S 6 false,.k (.ptr 6 0),.S 1000000 false,.k (.mp 1000001),.C 6,.q (.nm 18) a1,.A 270336 84 (.nm 18) 0 false,.M 1000001 (.int .i64) .bool]
abbrev J4 (a0:(List Aa)) (a1:Ai):HT:=[.S 0 false,.q (.sl (.nm 9)) a0,.S 2 false,.v (.sl (.int .i64)),.S 3 false,.k (.mp 1000001),.S 4 false,.k (.ar 270336 0),.S 6 false,.k (.ptr 6 0),.S 36 false,.q (.sl (.nm 3)) ((List.getD a0 (a1.class_).toNat (Ag)).Bases),.S 37 false,.v (.int .i64),.S 38 false,.v (.int .i64),.S 1000000 false,.k (.mp 1000001),.C 6,.q (.nm 18) a1,.A 270336 84 (.nm 18) 0 false,.M 1000001 (.int .i64) .bool]
def Adj (a1:Ai):H (Sr a1)->Option (Int×(List (Int×Bool))×(List Ai)):=λ (v6,v7,_)=>
 need ((v6.length+[a1].length)*24<=As)<|
 some ((0:Int),Hc kqI a1.class_ true v7,v6++[a1])
def Adn (a0:(List Aa)) (a1:Ai):H (J4 a0 a1)->Option ((H (J4 a0 a1))⊕((H (Sr a1))⊕(Int×(List (Int×Bool))×(List Ai)))):=λ (v1,v2,v3,v4,v5,_)=>
 if decide (v3<v2)then
 need (Af v3 ((List.getD a0 (a1.class_).toNat (Ag)).Bases).length)<|
 need (Af a1.class_ a0.length)<|
 Option.bind (Dy a0 ((List.getD a0 (a1.class_).toNat (Ag)).Name) ((List.getD ((List.getD a0 (a1.class_).toNat (Ag)).Bases) (v3).toNat (Cl)).Name)) λ y3=>
 if decide (y3<(0:Int))then
  some (.inr (.inr ((4:Int),v5,([]:List Ai))))
 else
  Option.bind (Asu a0 (⟨y3,a1.class_,v3⟩:Ai) v1 v5 v4) λ y4=>
  if !decide (y4.1=(0:Int))then
   some (.inr (.inr (y4.1,y4.2.1,([]:List Ai))))
  else
   jp (J4 a0 a1)<|some (.inl (v1,v2,IntKind.wrap .i64 (v3+(1:Int)),y4.2.2,y4.2.1,()))
 else
 jp (Sr a1)<|some (.inr (.inl (v4,v5,())))
def Avl (a0:(List Aa)) (a1:Ai) (a2:(List Int)) (a3:(List (Int×Bool))):Option (Int×(List (Int×Bool))×(List Ai)):=
 Option.bind (Et a2 a1.class_) λ y1=>
 if y1 then
 some ((10:Int),a3,([]:List Ai))
 else
 if Option.getD (Kh kqI a1.class_ a3) false then
  some ((0:Int),a3,([]:List Ai))
 else
  Option.bind (Du a2) λ y2=>
  need ((y2.length+[a1.class_].length)*8<=As)<|
  need (Af a1.class_ a0.length)<|
  jp (J4 a0 a1)<|Option.bind (iter (Adn a0 a1) (y2++[a1.class_],(((List.getD a0 (a1.class_).toNat (Ag)).Bases).length:Int),(0:Int),([]:List Ai),a3,())) (Sum.elim (Adj a1) (λ y=>some y))
def Xc (a0:(List Aa)) (a1:Int):Option ((List Ai)×Int):=
 Option.bind (Avl a0 (⟨a1,(-1:Int),(-1:Int)⟩:Ai) [] ([]:(List (Int×Bool)))) λ y1=>
 some (y1.2.2,y1.1)
def Am9 (a0:Ak) (a1:Ak):Option (Bool×Ak):=
 some (decide (a0.Path=a1.Path),(Ea a1))
abbrev Fa:HT:=[.S 1000000 false,.k (.ptr 1000001 0),.C 1000001,.s 2]
abbrev Cg (a0:(List Ak)):HT:=[.S 0 false,.q (.sl (.nm 2)) a0,.S 1 false,.k (.clo 86 [.ptr 1000001 0]),.S 7 false,.q (.int .i64) (a0.length:Int),.S 8 false,.v (.int .i64),.S 1000000 false,.k (.ptr 1000001 0),.C 1000001,.s 2]
def F5:H Fa->Option (Int×Ak):=λ (v3,_)=>
 some ((-1:Int),(Ea v3))
def Ft (a0:(List Ak)):H (Cg a0)->Option ((H (Cg a0))⊕((H Fa)⊕(Int×Ak))):=λ (v1,v2,_)=>
 if decide (v1<(a0.length:Int))then
 need (Af v1 a0.length)<|
 Option.bind (Am9 (Ea (List.getD a0 (v1).toNat (A3))) (Ea v2)) λ y1=>
 if y1.1 then
  some (.inr (.inr (v1,(Ea y1.2))))
 else
  jp (Cg a0)<|some (.inl (IntKind.wrap .i64 (v1+(1:Int)),(Ea y1.2),()))
 else
 some (.inr (.inl ((Ea v2),())))
def G7 (a0:(List Ak)) (a1:Ak):Option (Int×Ak):=
 jp (Cg a0)<|Option.bind (iter (Ft a0) ((0:Int),(Ea a1),())) (Sum.elim F5 (λ y=>some y))
abbrev Ta (a0:(List Ak)) (a1:(List Ak)) (v1:Int):HT:=[.S 0 false,.q (.sl (.nm 2)) a0,.S 5 false,.k (.ar 34 0),.S 6 false,.k (.mp 12),.S 8 false,.k (.ptr 8 0),.S 13 false,.q (.sl (.nm 2)) a1,.S 14 false,.q (.int .i64) (a1.length:Int),.S 15 false,.q (.int .i64) v1,.C 8,.s 2,.M 12 .str .bool,.A 34 75 (.nm 2) 0 false]
abbrev Tr (a0:(List Ak)) (v9:Int):HT:=[.S 5 false,.k (.ar 34 0),.S 6 false,.k (.mp 12),.S 36 false,.q (.sl (.nm 2)) a0,.S 37 false,.q (.int .i64) (a0.length:Int),.S 38 false,.q (.int .i64) v9,.M 12 .str .bool,.A 34 75 (.nm 2) 0 false]
abbrev Nh:HT:=[.S 5 false,.k (.ar 34 0),.A 34 75 (.nm 2) 0 false]
abbrev Fk (a0:(List Ak)):HT:=[.S 5 false,.k (.ar 34 0),.S 6 false,.k (.mp 12),.S 36 false,.q (.sl (.nm 2)) a0,.S 37 false,.q (.int .i64) (a0.length:Int),.S 38 false,.v (.int .i64),.M 12 .str .bool,.A 34 75 (.nm 2) 0 false]
abbrev Iy (a0:(List Ak)):HT:=[.S 0 false,.q (.sl (.nm 2)) a0,.S 5 false,.k (.ar 34 0),.S 6 false,.k (.mp 12),.M 12 .str .bool,.A 34 75 (.nm 2) 0 false]
abbrev Fm (a0:(List Ak)) (a1:(List Ak)):HT:=[.S 0 false,.q (.sl (.nm 2)) a0,.S 5 false,.k (.ar 34 0),.S 6 false,.k (.mp 12),.S 13 false,.q (.sl (.nm 2)) a1,.S 14 false,.q (.int .i64) (a1.length:Int),.S 15 false,.v (.int .i64),.M 12 .str .bool,.A 34 75 (.nm 2) 0 false]
def W4 (a0:(List Ak)) (a1:(List Ak)) (v1:Int):H (Ta a0 a1 v1)->Option ((H (Fm a0 a1))⊕(H (Iy a0))):=λ (v4,v5,v6,_)=>
 need ((v6.length+[(Ea v4)].length)*96<=As)<|
 jp (Fm a0 a1)<|some (.inl (IntKind.wrap .i64 (v1+(1:Int)),v5,v6++[(Ea v4)],()))
def Wb (a0:(List Ak)) (v9:Int):H (Tr a0 v9)->Option ((H (Fk a0))⊕(H Nh)):=λ (v12,v13,_)=>
 jp (Fk a0)<|some (.inl (IntKind.wrap .i64 (v9+(1:Int)),v12,v13,()))
def Xh:H Nh->Option (List Ak):=λ (v14,_)=>
 some v14
def Ww (a0:(List Ak)):H (Fk a0)->Option ((H (Fk a0))⊕(H Nh)):=λ (v9,v10,v11,_)=>
 if decide (v9<(a0.length:Int))then
 need (Af v9 a0.length)<|
 if !(Option.getD (Kh kqS ((List.getD a0 (v9).toNat (A3)).Path) v10) false)then
  need ((v11.length+[(Ea (List.getD a0 (v9).toNat (A3)))].length)*96<=As)<|
  jp (Tr a0 v9)<|Wb a0 v9 (v10,v11++[(Ea (List.getD a0 (v9).toNat (A3)))],())
 else
  jp (Tr a0 v9)<|Wb a0 v9 (v10,v11,())
 else
 some (.inr (v11,()))
def U9 (a0:(List Ak)):H (Iy a0)->Option (List Ak):=λ (v7,v8,_)=>
 jp (Fk a0)<|Option.bind (iter (Ww a0) ((0:Int),v7,v8,())) Xh
def V8 (a0:(List Ak)) (a1:(List Ak)):H (Fm a0 a1)->Option ((H (Fm a0 a1))⊕(H (Iy a0))):=λ (v1,v2,v3,_)=>
 if decide (v1<(a1.length:Int))then
 need (Af v1 a1.length)<|
 Option.bind (G7 a0 (Ea (List.getD a1 (v1).toNat (A3)))) λ y1=>
 if decide ((0:Int)<=y1.1)then
  need (Af y1.1 a0.length)<|
  jp (Ta a0 a1 v1)<|W4 a0 a1 v1 ((Ea (List.getD a0 (y1.1).toNat (A3))),Hc kqS ((List.getD a0 (y1.1).toNat (A3)).Path) true v2,v3,())
 else
  jp (Ta a0 a1 v1)<|W4 a0 a1 v1 ((Ea y1.2),v2,v3,())
 else
 jp (Iy a0)<|some (.inr (v2,v3,()))
def Wx (a0:(List Ak)) (a1:(List Ak)):Option (List Ak):=
 jp (Fm a0 a1)<|Option.bind (iter (V8 a0 a1) ((0:Int),([]:(List ((List UInt8)×Bool))),([]:List Ak),())) (U9 a0)
def Are (a0:Am):Option Am:=
 some (⟨a0.Op,a0.Name,a0.N,[]⟩:Am)
abbrev Dc:=Am->Option Am
abbrev Jp (a0:Am):HT:=[.S 4 false,.k (.ptr 4 0),.S 5 false,.k (.ptr 5 0),.C 4,.s 1,.C 5,.q (.int .i64) a0.Op,.q .str a0.Name,.q (.int .i64) a0.N.N,.q (.int .i64) a0.N.D,.k (.ar 4000504 0),.A 4000504 68 (.nm 1) 0 false]
abbrev Fc (a0:Am):HT:=[.S 1 false,.k (.clo 120 []),.S 4 false,.k (.ptr 4 0),.S 5 false,.k (.ptr 5 0),.S 18 false,.q (.sl (.nm 1)) a0.Kids,.S 19 false,.q (.int .i64) (a0.Kids.length:Int),.S 20 false,.v (.int .i64),.C 4,.s 1,.C 5,.q (.int .i64) a0.Op,.q .str a0.Name,.q (.int .i64) a0.N.N,.q (.int .i64) a0.N.D,.k (.ar 4000504 0),.A 4000504 68 (.nm 1) 0 false]
def Q2 (R:Dc) (a0:Am):H (Jp a0)->Option Am:=λ (v4,v5,_)=>
 some (⟨a0.Op,a0.Name,a0.N,v5⟩:Am)
def Q4 (R:Dc) (a0:Am):H (Fc a0)->Option ((H (Fc a0))⊕(H (Jp a0))):=λ (v1,v2,v3,_)=>
 if decide (v1<(a0.Kids.length:Int))then
 need (Af v1 a0.Kids.length)<|
 Option.bind (R (Ap (List.getD a0.Kids (v1).toNat (D2)))) λ y2=>
 need ((v3.length+[(Ap y2)].length)*64<=As)<|
 jp (Fc a0)<|some (.inl (IntKind.wrap .i64 (v1+(1:Int)),(Ap v2),v3++[(Ap y2)],()))
 else
 jp (Jp a0)<|some (.inr ((Ap v2),v3,()))
def Aeu (R:Dc) (a0:Am):Option Am:=
 if decide ((a0.Kids.length:Int)=(0:Int))then
 Option.bind (Are (Ap a0)) λ y1=>
 some (Ap y1)
 else
 jp (Fc a0)<|Option.bind (iter (Q4 R a0) ((0:Int),(⟨(0:Int),([]:List UInt8),(⟨(0:Int),(0:Int)⟩:Bd),[]⟩:Am),([]:List Am),())) (Q2 R a0)
def Ix:Nat->Dc
 |0=>λ _=>none
 |k+1=>Aeu (Ix k)
def Y4:Dc:=λ a0=>Ix (SizeOf.sizeOf a0+1) a0
def N1 (a0:Am):Option Am:=
 Option.bind (Y4 (Ap a0)) λ y1=>
 some (Ap y1)
abbrev Ol:HT:=[.S 3 false,.k (.ar 7 0),.A 7 75 (.nm 2) 0 false]
abbrev E4 (a0:(List Ak)):HT:=[.S 3 false,.k (.ar 7 0),.S 12 false,.q (.int .i64) (a0.length:Int),.S 13 false,.v (.int .i64),.A 7 75 (.nm 2) 0 false]
def Qn:H Ol->Option (List Ak):=λ (v3,_)=>
 some v3
def Qw (a0:(List Ak)):H (E4 a0)->Option ((H (E4 a0))⊕(H Ol)):=λ (v1,v2,_)=>
 if decide (v1<(a0.length:Int))then
 need (Af v1 v2.length)<|
 Option.bind (N1 (Ap ((List.getD v2 v1.toNat (A3)).Value))) λ y1=>
 need (Af v1 v2.length)<|
 jp (E4 a0)<|some (.inl (IntKind.wrap .i64 (v1+(1:Int)),List.set v2 v1.toNat (⟨(List.getD v2 v1.toNat (A3)).Path,(List.getD v2 v1.toNat (A3)).Type_,(Ap y1)⟩:Ak),()))
 else
 some (.inr (v2,()))
def Wk (a0:(List Ak)):Option (List Ak):=
 need (0<=(a0.length:Int))<|
 need ((a0.length:Int)<=(a0.length:Int))<|
 need ((a0.length:Int)*((96:Nat):Int)<=(As:Int))<|
 need (a0.length=(List.replicate ((a0.length:Int)).toNat (⟨([]:List UInt8),([]:List UInt8),(⟨(0:Int),([]:List UInt8),(⟨(0:Int),(0:Int)⟩:Bd),[]⟩:Am)⟩:Ak)).length)<|
 jp (E4 a0)<|Option.bind (iter (Qw a0) ((0:Int),a0,())) Qn
abbrev Ag1:HT:=[.S 8 false,.k (.ar 13 0),.A 13 75 (.nm 2) 0 false]
abbrev Lo (a0:(List Aa)) (a1:(List UInt8)):HT:=[.S 0 false,.q (.sl (.nm 9)) a0,.S 1 false,.q .str a1,.S 8 false,.k (.ar 13 0),.S 14 false,.k (.ar 13 0),.S 15 false,.v (.int .i64),.S 16 false,.v (.int .i64),.A 13 75 (.nm 2) 0 false]
def Ams:H Ag1->Option ((List Ak)×Bool):=λ (v4,_)=>
 some (v4,true)
def Al6 (a0:(List Aa)) (a1:(List UInt8)):H (Lo a0 a1)->Option ((H (Lo a0 a1))⊕((H Ag1)⊕((List Ak)×Bool))):=λ (v1,v2,v3,_)=>
 if decide (v2<v1)then
 need (Af v2 v3.length)<|
 if decide (((List.getD v3 v2.toNat (A3)).Type_)=([]:List UInt8))then
  jp (Lo a0 a1)<|some (.inl (v1,IntKind.wrap .i64 (v2+(1:Int)),v3,()))
 else
  Option.bind (Dy a0 a1 ((List.getD v3 v2.toNat (A3)).Type_)) λ y2=>
  if decide (y2<(0:Int))then
   some (.inr (.inr ([],false)))
  else
   need (Af y2 a0.length)<|
   need (Af v2 v3.length)<|
   jp (Lo a0 a1)<|some (.inl (v1,IntKind.wrap .i64 (v2+(1:Int)),List.set v3 v2.toNat (⟨(List.getD v3 v2.toNat (A3)).Path,(List.getD a0 (y2).toNat (Ag)).Name,(Ap ((List.getD v3 v2.toNat (A3)).Value))⟩:Ak),()))
 else
 some (.inr (.inl (v3,())))
def Ajt (a0:(List Aa)) (a1:(List UInt8)) (a2:(List Ak)):Option ((List Ak)×Bool):=
 Option.bind (Wk a2) λ y1=>
 jp (Lo a0 a1)<|Option.bind (iter (Al6 a0 a1) ((y1.length:Int),(0:Int),y1,())) (Sum.elim Ams (λ y=>some y))
abbrev Kv (a1:(List Ak)) (v1:Int) (v3:Ax):HT:=[.S 2 false,.k (.ptr 2 0),.S 4 false,.k (.ptr 4 0),.S 5 false,.k (.ar 39 0),.S 11 false,.q (.sl (.nm 2)) a1,.S 12 false,.q (.int .i64) (a1.length:Int),.S 13 false,.q (.int .i64) v1,.C 2,.s 4,.C 4,.q (.nm 4) (B1 v3),.A 39 75 (.nm 2) 0 false]
abbrev O4:HT:=[.S 2 false,.k (.ptr 2 0),.S 4 false,.k (.ptr 4 0),.S 5 false,.k (.ar 39 0),.C 2,.s 4,.C 4,.s 4,.A 39 75 (.nm 2) 0 false]
abbrev Gt (a1:(List Ak)):HT:=[.S 2 false,.k (.ptr 2 0),.S 4 false,.k (.ptr 4 0),.S 5 false,.k (.ar 39 0),.S 11 false,.q (.sl (.nm 2)) a1,.S 12 false,.q (.int .i64) (a1.length:Int),.S 13 false,.v (.int .i64),.C 2,.s 4,.C 4,.s 4,.A 39 75 (.nm 2) 0 false]
def N2 (a1:(List Ak)) (v1:Int) (v3:Ax):H (Kv a1 v1 v3)->Option ((H (Gt a1))⊕(H O4)):=λ (v5,v6,_)=>
 jp (Gt a1)<|some (.inl (IntKind.wrap .i64 (v1+(1:Int)),(B1 v5),(B1 v3),v6,()))
def Y5:H O4->Option Ax:=λ (v7,v8,v9,_)=>
 Option.bind (Wx v9 v7.Mods) λ y2=>
 some (⟨v7.Name,v7.Type_,v7.Var,v7.Flow,v7.Size,v7.Scope,v7.Replace,(Ap v7.Cond),(Ap v7.Value),v7.Unit,y2⟩:Ax)
def Zq (a1:(List Ak)):H (Gt a1)->Option ((H (Gt a1))⊕(H O4)):=λ (v1,v2,v3,v4,_)=>
 if decide (v1<(a1.length:Int))then
 need (Af v1 a1.length)<|
 Option.bind (Pu ((List.getD a1 (v1).toNat (A3)).Path) ([46]:List UInt8)) λ y1=>
 if !decide (y1.1=v2.Name)then
  jp (Kv a1 v1 v3)<|N2 a1 v1 v3 ((B1 v2),v4,())
 else
  if y1.2.2 then
   need ((v4.length+[(⟨y1.2.1,(List.getD a1 (v1).toNat (A3)).Type_,(Ap ((List.getD a1 (v1).toNat (A3)).Value))⟩:Ak)].length)*96<=As)<|
   jp (Kv a1 v1 v3)<|N2 a1 v1 v3 ((B1 v2),v4++[(⟨y1.2.1,(List.getD a1 (v1).toNat (A3)).Type_,(Ap ((List.getD a1 (v1).toNat (A3)).Value))⟩:Ak)],())
  else
   if !decide (((List.getD a1 (v1).toNat (A3)).Type_)=([]:List UInt8))then
    jp (Kv a1 v1 v3)<|N2 a1 v1 v3 ((⟨v2.Name,(List.getD a1 (v1).toNat (A3)).Type_,v2.Var,v2.Flow,v2.Size,v2.Scope,v2.Replace,(Ap v2.Cond),(Ap v2.Value),v2.Unit,v2.Mods⟩:Ax),v4,())
   else
    jp (Kv a1 v1 v3)<|N2 a1 v1 v3 ((⟨v2.Name,v2.Type_,v2.Var,v2.Flow,v2.Size,v2.Scope,v2.Replace,(Ap v2.Cond),(Ap ((List.getD a1 (v1).toNat (A3)).Value)),v2.Unit,v2.Mods⟩:Ax),v4,())
 else
 some (.inr ((B1 v2),(B1 v3),v4,()))
def Aim (a0:Ax) (a1:(List Ak)):Option Ax:=
 jp (Gt a1)<|Option.bind (iter (Zq a1) ((0:Int),(B1 a0),(⟨([]:List UInt8),([]:List UInt8),(0:Int),false,(0:Int),(0:Int),false,(⟨(0:Int),([]:List UInt8),(⟨(0:Int),(0:Int)⟩:Bd),[]⟩:Am),(⟨(0:Int),([]:List UInt8),(⟨(0:Int),(0:Int)⟩:Bd),[]⟩:Am),([]:List UInt8),[]⟩:Ax),([]:List Ak),())) Y5
abbrev Aab (a0:(List Aa)) (a1:Int) (a2:(List Ak)) (v1:(List Ai)) (v2:(List Ai)) (v3:Int) (v4:Int):HT:=[.S 0 false,.q (.sl (.nm 9)) a0,.S 1 false,.q (.int .i64) a1,.S 2 false,.q (.sl (.nm 2)) a2,.S 6 false,.k (.ptr 6 0),.S 7 false,.k (.ptr 7 0),.S 9 false,.q (.sl (.nm 18)) v1,.S 10 false,.k (.mp 57),.S 58 false,.q (.sl (.nm 18)) v2,.S 59 false,.q (.int .i64) v3,.S 60 false,.q (.int .i64) v4,.C 6,.q .str ((List.getD a0 (a1).toNat (Ag)).Name),.q (.int .i64) ((List.getD a0 (a1).toNat (Ag)).Kind),.k (.sl (.nm 3) true []),.k (.sl (.nm 4) true []),.k (.sl (.nm 5) true []),.k (.sl (.nm 6) true []),.k (.sl (.nm 8) true []),.C 7,.k (.str ([]:List UInt8)),.k (.int .i64 (0:Int)),.k (.sl (.nm 3) true []),.k (.sl (.nm 4) true []),.k (.sl (.nm 5) true []),.k (.sl (.nm 6) true []),.k (.sl (.nm 8) true []),.M 57 .str .bool]
abbrev O8 (a0:(List Aa)) (a1:Int) (a2:(List Ak)) (v1:(List Ai)) (v2:(List Ai)) (v3:Int) (v4:Int):HT:=[.S 0 false,.q (.sl (.nm 9)) a0,.S 1 false,.q (.int .i64) a1,.S 2 false,.q (.sl (.nm 2)) a2,.S 6 false,.k (.ptr 6 0),.S 7 false,.k (.ptr 7 0),.S 9 false,.q (.sl (.nm 18)) v1,.S 10 false,.k (.mp 57),.S 58 false,.q (.sl (.nm 18)) v2,.S 59 false,.q (.int .i64) v3,.S 60 false,.q (.int .i64) v4,.S 69 false,.v (.sl (.nm 4)),.S 70 false,.v (.int .i64),.S 71 false,.v (.int .i64),.C 6,.q .str ((List.getD a0 (a1).toNat (Ag)).Name),.q (.int .i64) ((List.getD a0 (a1).toNat (Ag)).Kind),.k (.sl (.nm 3) true []),.k (.sl (.nm 4) true []),.k (.sl (.nm 5) true []),.k (.sl (.nm 6) true []),.k (.sl (.nm 8) true []),.C 7,.k (.str ([]:List UInt8)),.k (.int .i64 (0:Int)),.k (.sl (.nm 3) true []),.k (.sl (.nm 4) true []),.k (.sl (.nm 5) true []),.k (.sl (.nm 6) true []),.k (.sl (.nm 8) true []),.M 57 .str .bool]
abbrev Ahh (a0:(List Aa)) (a1:Int) (v11:(List Ai)) (v15:Int) (v22:(List Ax)) (v23:Int) (v24:Int) (v25:Aa):HT:=[.S 0 false,.q (.sl (.nm 9)) a0,.S 6 false,.k (.ptr 6 0),.S 7 false,.k (.ptr 7 0),.S 15 false,.k (.mp 86),.S 21 false,.k (.ptr 21 0),.S 22 false,.k (.ptr 22 0),.S 24 false,.k (.ptr 24 0),.S 137 false,.q (.sl (.nm 18)) v11,.S 138 false,.q (.int .i64) (v11.length:Int),.S 139 false,.q (.int .i64) v15,.S 149 false,.q (.sl (.nm 4)) v22,.S 150 false,.q (.int .i64) v23,.S 151 false,.q (.int .i64) v24,.C 6,.q .str ((List.getD a0 (a1).toNat (Ag)).Name),.q (.int .i64) ((List.getD a0 (a1).toNat (Ag)).Kind),.k (.sl (.nm 3) true []),.k (.ar 4000603 0),.k (.ar 4000604 0),.k (.ar 4000605 0),.k (.ar 4000606 0),.C 7,.q .str ((List.getD a0 (a1).toNat (Ag)).Name),.q (.int .i64) ((List.getD a0 (a1).toNat (Ag)).Kind),.k (.sl (.nm 3) true []),.k (.ar 4000703 0),.k (.sl (.nm 5) true []),.k (.sl (.nm 6) true []),.k (.sl (.nm 8) true []),.C 21,.q (.nm 18) (List.getD v11 (v15).toNat (Be)),.C 22,.q (.nm 9) v25,.C 24,.s 4,.M 86 (.int .i64) (.sl (.nm 2)),.A 4000603 70 (.nm 4) 0 false,.A 4000604 100 (.nm 5) 0 false,.A 4000605 123 (.nm 6) 0 false,.A 4000606 126 (.nm 8) 0 false,.A 4000703 70 (.nm 4) 0 false]
abbrev W0 (a0:(List Aa)) (a1:Int) (v11:(List Ai)) (v15:Int) (v39:Aa) (v59:Int):HT:=[.S 0 false,.q (.sl (.nm 9)) a0,.S 6 false,.k (.ptr 6 0),.S 7 false,.k (.ptr 7 0),.S 15 false,.k (.mp 86),.S 32 false,.k (.ptr 32 0),.S 137 false,.q (.sl (.nm 18)) v11,.S 138 false,.q (.int .i64) (v11.length:Int),.S 139 false,.q (.int .i64) v15,.S 244 false,.q (.sl (.nm 8)) v39.Whens,.S 245 false,.q (.int .i64) (v39.Whens.length:Int),.S 246 false,.q (.int .i64) v59,.C 6,.q .str ((List.getD a0 (a1).toNat (Ag)).Name),.q (.int .i64) ((List.getD a0 (a1).toNat (Ag)).Kind),.k (.sl (.nm 3) true []),.k (.ar 4000603 0),.k (.ar 4000604 0),.k (.ar 4000605 0),.k (.ar 4000606 0),.C 7,.q .str ((List.getD a0 (a1).toNat (Ag)).Name),.q (.int .i64) ((List.getD a0 (a1).toNat (Ag)).Kind),.k (.sl (.nm 3) true []),.k (.ar 4000703 0),.k (.sl (.nm 5) true []),.k (.sl (.nm 6) true []),.k (.sl (.nm 8) true []),.C 32,.v (.int .i64),.v .str,.v (.int .i64),.v (.int .i64),.v (.sl (.nm 1)),.k (.ar 4003205 0),.M 86 (.int .i64) (.sl (.nm 2)),.A 4000603 70 (.nm 4) 0 false,.A 4000604 100 (.nm 5) 0 false,.A 4000605 123 (.nm 6) 0 false,.A 4000606 126 (.nm 8) 0 false,.A 4000703 70 (.nm 4) 0 false,.A 4003205 128 (.nm 7) 0 false]
abbrev L5 (a0:(List Aa)) (a1:Int) (v11:(List Ai)) (v15:Int) (v39:Aa) (v59:Int):HT:=[.S 0 false,.q (.sl (.nm 9)) a0,.S 6 false,.k (.ptr 6 0),.S 7 false,.k (.ptr 7 0),.S 15 false,.k (.mp 86),.S 32 false,.k (.ptr 32 0),.S 137 false,.q (.sl (.nm 18)) v11,.S 138 false,.q (.int .i64) (v11.length:Int),.S 139 false,.q (.int .i64) v15,.S 244 false,.q (.sl (.nm 8)) v39.Whens,.S 245 false,.q (.int .i64) (v39.Whens.length:Int),.S 246 false,.q (.int .i64) v59,.S 255 false,.q (.sl (.nm 7)) ((List.getD v39.Whens (v59).toNat (Bz)).Sets),.S 256 false,.v (.int .i64),.S 257 false,.v (.int .i64),.C 6,.q .str ((List.getD a0 (a1).toNat (Ag)).Name),.q (.int .i64) ((List.getD a0 (a1).toNat (Ag)).Kind),.k (.sl (.nm 3) true []),.k (.ar 4000603 0),.k (.ar 4000604 0),.k (.ar 4000605 0),.k (.ar 4000606 0),.C 7,.q .str ((List.getD a0 (a1).toNat (Ag)).Name),.q (.int .i64) ((List.getD a0 (a1).toNat (Ag)).Kind),.k (.sl (.nm 3) true []),.k (.ar 4000703 0),.k (.sl (.nm 5) true []),.k (.sl (.nm 6) true []),.k (.sl (.nm 8) true []),.C 32,.v (.int .i64),.v .str,.v (.int .i64),.v (.int .i64),.v (.sl (.nm 1)),.k (.ar 4003205 0),.M 86 (.int .i64) (.sl (.nm 2)),.A 4000603 70 (.nm 4) 0 false,.A 4000604 100 (.nm 5) 0 false,.A 4000605 123 (.nm 6) 0 false,.A 4000606 126 (.nm 8) 0 false,.A 4000703 70 (.nm 4) 0 false,.A 4003205 128 (.nm 7) 0 false]
abbrev Qm (a0:(List Aa)) (a1:Int) (v11:(List Ai)) (v15:Int):HT:=[.S 0 false,.q (.sl (.nm 9)) a0,.S 6 false,.k (.ptr 6 0),.S 7 false,.k (.ptr 7 0),.S 15 false,.k (.mp 86),.S 137 false,.q (.sl (.nm 18)) v11,.S 138 false,.q (.int .i64) (v11.length:Int),.S 139 false,.q (.int .i64) v15,.C 6,.q .str ((List.getD a0 (a1).toNat (Ag)).Name),.q (.int .i64) ((List.getD a0 (a1).toNat (Ag)).Kind),.k (.sl (.nm 3) true []),.k (.ar 4000603 0),.k (.ar 4000604 0),.k (.ar 4000605 0),.k (.ar 4000606 0),.C 7,.q .str ((List.getD a0 (a1).toNat (Ag)).Name),.q (.int .i64) ((List.getD a0 (a1).toNat (Ag)).Kind),.k (.sl (.nm 3) true []),.k (.ar 4000703 0),.k (.sl (.nm 5) true []),.k (.sl (.nm 6) true []),.k (.sl (.nm 8) true []),.M 86 (.int .i64) (.sl (.nm 2)),.A 4000603 70 (.nm 4) 0 false,.A 4000604 100 (.nm 5) 0 false,.A 4000605 123 (.nm 6) 0 false,.A 4000606 126 (.nm 8) 0 false,.A 4000703 70 (.nm 4) 0 false]
abbrev Jj (a0:(List Aa)) (a1:Int) (v11:(List Ai)) (v15:Int) (v39:Aa):HT:=[.S 0 false,.q (.sl (.nm 9)) a0,.S 6 false,.k (.ptr 6 0),.S 7 false,.k (.ptr 7 0),.S 15 false,.k (.mp 86),.S 137 false,.q (.sl (.nm 18)) v11,.S 138 false,.q (.int .i64) (v11.length:Int),.S 139 false,.q (.int .i64) v15,.S 244 false,.q (.sl (.nm 8)) v39.Whens,.S 245 false,.q (.int .i64) (v39.Whens.length:Int),.S 246 false,.v (.int .i64),.C 6,.q .str ((List.getD a0 (a1).toNat (Ag)).Name),.q (.int .i64) ((List.getD a0 (a1).toNat (Ag)).Kind),.k (.sl (.nm 3) true []),.k (.ar 4000603 0),.k (.ar 4000604 0),.k (.ar 4000605 0),.k (.ar 4000606 0),.C 7,.q .str ((List.getD a0 (a1).toNat (Ag)).Name),.q (.int .i64) ((List.getD a0 (a1).toNat (Ag)).Kind),.k (.sl (.nm 3) true []),.k (.ar 4000703 0),.k (.sl (.nm 5) true []),.k (.sl (.nm 6) true []),.k (.sl (.nm 8) true []),.M 86 (.int .i64) (.sl (.nm 2)),.A 4000603 70 (.nm 4) 0 false,.A 4000604 100 (.nm 5) 0 false,.A 4000605 123 (.nm 6) 0 false,.A 4000606 126 (.nm 8) 0 false,.A 4000703 70 (.nm 4) 0 false]
abbrev Vs (a0:(List Aa)) (a1:Int) (v11:(List Ai)) (v15:Int) (v39:Aa):HT:=[.S 0 false,.q (.sl (.nm 9)) a0,.S 6 false,.k (.ptr 6 0),.S 7 false,.k (.ptr 7 0),.S 15 false,.k (.mp 86),.S 22 false,.k (.ptr 22 0),.S 137 false,.q (.sl (.nm 18)) v11,.S 138 false,.q (.int .i64) (v11.length:Int),.S 139 false,.q (.int .i64) v15,.C 6,.q .str ((List.getD a0 (a1).toNat (Ag)).Name),.q (.int .i64) ((List.getD a0 (a1).toNat (Ag)).Kind),.k (.sl (.nm 3) true []),.k (.ar 4000603 0),.k (.ar 4000604 0),.k (.ar 4000605 0),.k (.ar 4000606 0),.C 7,.q .str ((List.getD a0 (a1).toNat (Ag)).Name),.q (.int .i64) ((List.getD a0 (a1).toNat (Ag)).Kind),.k (.sl (.nm 3) true []),.k (.ar 4000703 0),.k (.sl (.nm 5) true []),.k (.sl (.nm 6) true []),.k (.sl (.nm 8) true []),.C 22,.q (.nm 9) v39,.M 86 (.int .i64) (.sl (.nm 2)),.A 4000603 70 (.nm 4) 0 false,.A 4000604 100 (.nm 5) 0 false,.A 4000605 123 (.nm 6) 0 false,.A 4000606 126 (.nm 8) 0 false,.A 4000703 70 (.nm 4) 0 false]
abbrev Mv (a0:(List Aa)) (a1:Int) (v11:(List Ai)) (v15:Int) (v39:Aa):HT:=[.S 0 false,.q (.sl (.nm 9)) a0,.S 6 false,.k (.ptr 6 0),.S 7 false,.k (.ptr 7 0),.S 15 false,.k (.mp 86),.S 22 false,.k (.ptr 22 0),.S 137 false,.q (.sl (.nm 18)) v11,.S 138 false,.q (.int .i64) (v11.length:Int),.S 139 false,.q (.int .i64) v15,.S 216 false,.q (.sl (.nm 5)) v39.Eqs,.S 217 false,.q (.int .i64) (v39.Eqs.length:Int),.S 218 false,.v (.int .i64),.C 6,.q .str ((List.getD a0 (a1).toNat (Ag)).Name),.q (.int .i64) ((List.getD a0 (a1).toNat (Ag)).Kind),.k (.sl (.nm 3) true []),.k (.ar 4000603 0),.k (.ar 4000604 0),.k (.ar 4000605 0),.k (.ar 4000606 0),.C 7,.q .str ((List.getD a0 (a1).toNat (Ag)).Name),.q (.int .i64) ((List.getD a0 (a1).toNat (Ag)).Kind),.k (.sl (.nm 3) true []),.k (.ar 4000703 0),.k (.sl (.nm 5) true []),.k (.sl (.nm 6) true []),.k (.sl (.nm 8) true []),.C 22,.q (.nm 9) v39,.M 86 (.int .i64) (.sl (.nm 2)),.A 4000603 70 (.nm 4) 0 false,.A 4000604 100 (.nm 5) 0 false,.A 4000605 123 (.nm 6) 0 false,.A 4000606 126 (.nm 8) 0 false,.A 4000703 70 (.nm 4) 0 false]
abbrev Mo (a0:(List Aa)) (a1:Int) (v11:(List Ai)) (v15:Int):HT:=[.S 0 false,.q (.sl (.nm 9)) a0,.S 6 false,.k (.ptr 6 0),.S 7 false,.k (.ptr 7 0),.S 15 false,.k (.mp 86),.S 22 false,.k (.ptr 22 0),.S 137 false,.q (.sl (.nm 18)) v11,.S 138 false,.q (.int .i64) (v11.length:Int),.S 139 false,.q (.int .i64) v15,.C 6,.q .str ((List.getD a0 (a1).toNat (Ag)).Name),.q (.int .i64) ((List.getD a0 (a1).toNat (Ag)).Kind),.k (.sl (.nm 3) true []),.k (.ar 4000603 0),.k (.ar 4000604 0),.k (.ar 4000605 0),.k (.ar 4000606 0),.C 7,.q .str ((List.getD a0 (a1).toNat (Ag)).Name),.q (.int .i64) ((List.getD a0 (a1).toNat (Ag)).Kind),.k (.sl (.nm 3) true []),.k (.ar 4000703 0),.k (.sl (.nm 5) true []),.k (.sl (.nm 6) true []),.k (.sl (.nm 8) true []),.C 22,.s 9,.M 86 (.int .i64) (.sl (.nm 2)),.A 4000603 70 (.nm 4) 0 false,.A 4000604 100 (.nm 5) 0 false,.A 4000605 123 (.nm 6) 0 false,.A 4000606 126 (.nm 8) 0 false,.A 4000703 70 (.nm 4) 0 false]
abbrev Lj (a0:(List Aa)) (a1:Int) (v11:(List Ai)) (v15:Int):HT:=[.S 0 false,.q (.sl (.nm 9)) a0,.S 6 false,.k (.ptr 6 0),.S 7 false,.k (.ptr 7 0),.S 15 false,.k (.mp 86),.S 21 false,.k (.ptr 21 0),.S 22 false,.k (.ptr 22 0),.S 137 false,.q (.sl (.nm 18)) v11,.S 138 false,.q (.int .i64) (v11.length:Int),.S 139 false,.q (.int .i64) v15,.S 149 false,.v (.sl (.nm 4)),.S 150 false,.v (.int .i64),.S 151 false,.v (.int .i64),.C 6,.q .str ((List.getD a0 (a1).toNat (Ag)).Name),.q (.int .i64) ((List.getD a0 (a1).toNat (Ag)).Kind),.k (.sl (.nm 3) true []),.k (.ar 4000603 0),.k (.ar 4000604 0),.k (.ar 4000605 0),.k (.ar 4000606 0),.C 7,.q .str ((List.getD a0 (a1).toNat (Ag)).Name),.q (.int .i64) ((List.getD a0 (a1).toNat (Ag)).Kind),.k (.sl (.nm 3) true []),.k (.ar 4000703 0),.k (.sl (.nm 5) true []),.k (.sl (.nm 6) true []),.k (.sl (.nm 8) true []),.C 21,.q (.nm 18) (List.getD v11 (v15).toNat (Be)),.C 22,.s 9,.M 86 (.int .i64) (.sl (.nm 2)),.A 4000603 70 (.nm 4) 0 false,.A 4000604 100 (.nm 5) 0 false,.A 4000605 123 (.nm 6) 0 false,.A 4000606 126 (.nm 8) 0 false,.A 4000703 70 (.nm 4) 0 false]
abbrev Gi (a0:(List Aa)) (a1:Int):HT:=[.S 6 false,.k (.ptr 6 0),.S 7 false,.k (.ptr 7 0),.C 6,.q .str ((List.getD a0 (a1).toNat (Ag)).Name),.q (.int .i64) ((List.getD a0 (a1).toNat (Ag)).Kind),.k (.sl (.nm 3) true []),.k (.ar 4000603 0),.k (.ar 4000604 0),.k (.ar 4000605 0),.k (.ar 4000606 0),.C 7,.q .str ((List.getD a0 (a1).toNat (Ag)).Name),.q (.int .i64) ((List.getD a0 (a1).toNat (Ag)).Kind),.k (.sl (.nm 3) true []),.k (.ar 4000703 0),.k (.sl (.nm 5) true []),.k (.sl (.nm 6) true []),.k (.sl (.nm 8) true []),.A 4000603 70 (.nm 4) 0 false,.A 4000604 100 (.nm 5) 0 false,.A 4000605 123 (.nm 6) 0 false,.A 4000606 126 (.nm 8) 0 false,.A 4000703 70 (.nm 4) 0 false]
abbrev Fo (a0:(List Aa)) (a1:Int) (v11:(List Ai)):HT:=[.S 0 false,.q (.sl (.nm 9)) a0,.S 6 false,.k (.ptr 6 0),.S 7 false,.k (.ptr 7 0),.S 15 false,.k (.mp 86),.S 137 false,.q (.sl (.nm 18)) v11,.S 138 false,.q (.int .i64) (v11.length:Int),.S 139 false,.v (.int .i64),.C 6,.q .str ((List.getD a0 (a1).toNat (Ag)).Name),.q (.int .i64) ((List.getD a0 (a1).toNat (Ag)).Kind),.k (.sl (.nm 3) true []),.k (.ar 4000603 0),.k (.ar 4000604 0),.k (.ar 4000605 0),.k (.ar 4000606 0),.C 7,.q .str ((List.getD a0 (a1).toNat (Ag)).Name),.q (.int .i64) ((List.getD a0 (a1).toNat (Ag)).Kind),.k (.sl (.nm 3) true []),.k (.ar 4000703 0),.k (.sl (.nm 5) true []),.k (.sl (.nm 6) true []),.k (.sl (.nm 8) true []),.M 86 (.int .i64) (.sl (.nm 2)),.A 4000603 70 (.nm 4) 0 false,.A 4000604 100 (.nm 5) 0 false,.A 4000605 123 (.nm 6) 0 false,.A 4000606 126 (.nm 8) 0 false,.A 4000703 70 (.nm 4) 0 false]
abbrev Aaa (a0:(List Aa)) (a1:Int) (v11:(List Ai)):HT:=[.S 0 false,.q (.sl (.nm 9)) a0,.S 6 false,.k (.ptr 6 0),.S 7 false,.k (.ptr 7 0),.S 9 false,.q (.sl (.nm 18)) v11,.S 15 false,.k (.mp 86),.C 6,.q .str ((List.getD a0 (a1).toNat (Ag)).Name),.q (.int .i64) ((List.getD a0 (a1).toNat (Ag)).Kind),.k (.sl (.nm 3) true []),.k (.sl (.nm 4) true []),.k (.sl (.nm 5) true []),.k (.sl (.nm 6) true []),.k (.sl (.nm 8) true []),.C 7,.k (.str ([]:List UInt8)),.k (.int .i64 (0:Int)),.k (.sl (.nm 3) true []),.k (.sl (.nm 4) true []),.k (.sl (.nm 5) true []),.k (.sl (.nm 6) true []),.k (.sl (.nm 8) true []),.M 86 (.int .i64) (.sl (.nm 2))]
abbrev Pb (a0:(List Aa)) (a1:Int) (v11:(List Ai)):HT:=[.S 0 false,.q (.sl (.nm 9)) a0,.S 6 false,.k (.ptr 6 0),.S 7 false,.k (.ptr 7 0),.S 9 false,.q (.sl (.nm 18)) v11,.S 15 false,.k (.mp 86),.S 16 false,.v (.int .i64),.C 6,.q .str ((List.getD a0 (a1).toNat (Ag)).Name),.q (.int .i64) ((List.getD a0 (a1).toNat (Ag)).Kind),.k (.sl (.nm 3) true []),.k (.sl (.nm 4) true []),.k (.sl (.nm 5) true []),.k (.sl (.nm 6) true []),.k (.sl (.nm 8) true []),.C 7,.k (.str ([]:List UInt8)),.k (.int .i64 (0:Int)),.k (.sl (.nm 3) true []),.k (.sl (.nm 4) true []),.k (.sl (.nm 5) true []),.k (.sl (.nm 6) true []),.k (.sl (.nm 8) true []),.M 86 (.int .i64) (.sl (.nm 2))]
abbrev Uq (a0:(List Aa)) (a1:Int) (a2:(List Ak)):HT:=[.S 0 false,.q (.sl (.nm 9)) a0,.S 1 false,.q (.int .i64) a1,.S 2 false,.q (.sl (.nm 2)) a2,.S 6 false,.k (.ptr 6 0),.S 7 false,.k (.ptr 7 0),.S 9 false,.v (.sl (.nm 18)),.C 6,.q .str ((List.getD a0 (a1).toNat (Ag)).Name),.q (.int .i64) ((List.getD a0 (a1).toNat (Ag)).Kind),.k (.sl (.nm 3) true []),.k (.sl (.nm 4) true []),.k (.sl (.nm 5) true []),.k (.sl (.nm 6) true []),.k (.sl (.nm 8) true []),.C 7,.k (.str ([]:List UInt8)),.k (.int .i64 (0:Int)),.k (.sl (.nm 3) true []),.k (.sl (.nm 4) true []),.k (.sl (.nm 5) true []),.k (.sl (.nm 6) true []),.k (.sl (.nm 8) true [])]
abbrev Lk (a0:(List Aa)) (a1:Int) (a2:(List Ak)):HT:=[.S 0 false,.q (.sl (.nm 9)) a0,.S 1 false,.q (.int .i64) a1,.S 2 false,.q (.sl (.nm 2)) a2,.S 6 false,.k (.ptr 6 0),.S 7 false,.k (.ptr 7 0),.S 9 false,.v (.sl (.nm 18)),.S 10 false,.k (.mp 57),.S 58 false,.v (.sl (.nm 18)),.S 59 false,.v (.int .i64),.S 60 false,.v (.int .i64),.C 6,.q .str ((List.getD a0 (a1).toNat (Ag)).Name),.q (.int .i64) ((List.getD a0 (a1).toNat (Ag)).Kind),.k (.sl (.nm 3) true []),.k (.sl (.nm 4) true []),.k (.sl (.nm 5) true []),.k (.sl (.nm 6) true []),.k (.sl (.nm 8) true []),.C 7,.k (.str ([]:List UInt8)),.k (.int .i64 (0:Int)),.k (.sl (.nm 3) true []),.k (.sl (.nm 4) true []),.k (.sl (.nm 5) true []),.k (.sl (.nm 6) true []),.k (.sl (.nm 8) true []),.M 57 .str .bool]
def Amm (a0:(List Aa)) (a1:Int) (a2:(List Ak)) (v1:(List Ai)) (v2:(List Ai)) (v3:Int) (v4:Int):H (Aab a0 a1 a2 v1 v2 v3 v4)->Option ((H (Lk a0 a1 a2))⊕((H (Uq a0 a1 a2))⊕(Aa×Aa×Int))):=λ (v10,_)=>
 jp (Lk a0 a1 a2)<|some (.inl (v1,v2,v3,IntKind.wrap .i64 (v4+(1:Int)),v10,()))
def Amy (a0:(List Aa)) (a1:Int) (a2:(List Ak)) (v1:(List Ai)) (v2:(List Ai)) (v3:Int) (v4:Int):H (O8 a0 a1 a2 v1 v2 v3 v4)->Option ((H (O8 a0 a1 a2 v1 v2 v3 v4))⊕((H (Aab a0 a1 a2 v1 v2 v3 v4))⊕(Aa×Aa×Int))):=λ (v6,v7,v8,v9,_)=>
 if decide (v8<v7)then
 need (Af v8 v6.length)<|
 if Option.getD (Kh kqS ((List.getD v6 (v8).toNat (An)).Name) v9) false then
  some (.inr (.inr ((⟨([]:List UInt8),(0:Int),[],[],[],[],[]⟩:Aa),(⟨([]:List UInt8),(0:Int),[],[],[],[],[]⟩:Aa),(5:Int))))
 else
  jp (O8 a0 a1 a2 v1 v2 v3 v4)<|some (.inl (v6,v7,IntKind.wrap .i64 (v8+(1:Int)),Hc kqS ((List.getD v6 (v8).toNat (An)).Name) true v9,()))
 else
 jp (Aab a0 a1 a2 v1 v2 v3 v4)<|some (.inr (.inl (v9,())))
def Af8 (a0:(List Aa)) (a1:Int) (v11:(List Ai)) (v15:Int) (v22:(List Ax)) (v23:Int) (v24:Int) (v25:Aa):H (Ahh a0 a1 v11 v15 v22 v23 v24 v25)->Option ((H (Lj a0 a1 v11 v15))⊕((H (Mo a0 a1 v11 v15))⊕(Aa×Aa×Int))):=λ (v32,v33,v34,v35,v36,v37,v38,_)=>
 Option.bind (Ajt a0 v25.Name v32.Mods) λ y5=>
 if !y5.2 then
 some (.inr (.inr ((⟨([]:List UInt8),(0:Int),[],[],[],[],[]⟩:Aa),(⟨([]:List UInt8),(0:Int),[],[],[],[],[]⟩:Aa),(4:Int))))
 else
 Option.bind (N1 (Ap v32.Cond)) λ y6=>
 Option.bind (N1 (Ap v32.Value)) λ y7=>
 need ((v38.length+[(⟨v32.Name,v32.Type_,v32.Var,v32.Flow,v32.Size,v32.Scope,v32.Replace,(Ap y6),(Ap y7),v32.Unit,y5.1⟩:Ax)].length)*240<=As)<|
 Option.bind (Aim (⟨v32.Name,v32.Type_,v32.Var,v32.Flow,v32.Size,v32.Scope,v32.Replace,(Ap y6),(Ap y7),v32.Unit,y5.1⟩:Ax) (Option.getD (Kh kqI ((List.getD v11 (v15).toNat (Be)).class_) v33) ([]:List Ak))) λ y8=>
 need ((v34.length+[(B1 y8)].length)*240<=As)<|
 jp (Lj a0 a1 v11 v15)<|some (.inl (v22,v23,IntKind.wrap .i64 (v24+(1:Int)),v25,v33,v34++[(B1 y8)],v35,v36,v37,v38++[(⟨v32.Name,v32.Type_,v32.Var,v32.Flow,v32.Size,v32.Scope,v32.Replace,(Ap y6),(Ap y7),v32.Unit,y5.1⟩:Ax)],()))
def Aih (a0:(List Aa)) (a1:Int) (v11:(List Ai)) (v15:Int) (v39:Aa) (v59:Int):H (W0 a0 a1 v11 v15 v39 v59)->Option ((H (Jj a0 a1 v11 v15 v39))⊕(H (Qm a0 a1 v11 v15))):=λ (v80,v81,v82,v83,v84,v85,v86,v87,v88,v89,v90,v91,_)=>
 need ((v89.length+[(⟨(⟨v80,v81,(⟨v82,v83⟩:Bd),v84⟩:Am),v91⟩:G3)].length)*88<=As)<|
 jp (Jj a0 a1 v11 v15 v39)<|some (.inl (IntKind.wrap .i64 (v59+(1:Int)),v85,v86,v87,v88,v89++[(⟨(⟨v80,v81,(⟨v82,v83⟩:Bd),v84⟩:Am),v91⟩:G3)],v90,()))
def Ahu (a0:(List Aa)) (a1:Int) (v11:(List Ai)) (v15:Int) (v39:Aa) (v59:Int):H (L5 a0 a1 v11 v15 v39 v59)->Option ((H (L5 a0 a1 v11 v15 v39 v59))⊕(H (W0 a0 a1 v11 v15 v39 v59))):=λ (v66,v67,v68,v69,v70,v71,v72,v73,v74,v75,v76,v77,v78,v79,_)=>
 if decide (v67<v66)then
 need (Af v67 ((List.getD v39.Whens (v59).toNat (Bz)).Sets).length)<|
 Option.bind (N1 (Ap ((List.getD ((List.getD v39.Whens (v59).toNat (Bz)).Sets) (v67).toNat (Ac2)).E))) λ y12=>
 need ((v79.length+[(⟨(List.getD ((List.getD v39.Whens (v59).toNat (Bz)).Sets) (v67).toNat (Ac2)).Name,(Ap y12)⟩:Aa9)].length)*80<=As)<|
 jp (L5 a0 a1 v11 v15 v39 v59)<|some (.inl (v66,IntKind.wrap .i64 (v67+(1:Int)),v68,v69,v70,v71,v72,v73,v74,v75,v76,v77,v78,v79++[(⟨(List.getD ((List.getD v39.Whens (v59).toNat (Bz)).Sets) (v67).toNat (Ac2)).Name,(Ap y12)⟩:Aa9)],()))
 else
 jp (W0 a0 a1 v11 v15 v39 v59)<|some (.inr (v68,v69,v70,v71,v72,v73,v74,v75,v76,v77,v78,v79,()))
def P0 (a0:(List Aa)) (a1:Int) (v11:(List Ai)) (v15:Int):H (Qm a0 a1 v11 v15)->Option ((H (Fo a0 a1 v11))⊕((H (Gi a0 a1))⊕(Aa×Aa×Int))):=λ (v92,v93,v94,v95,v96,v97,_)=>
 jp (Fo a0 a1 v11)<|some (.inl (IntKind.wrap .i64 (v15+(1:Int)),v92,v93,v94,v95,v96,v97,()))
def Aad (a0:(List Aa)) (a1:Int) (v11:(List Ai)) (v15:Int) (v39:Aa):H (Jj a0 a1 v11 v15 v39)->Option ((H (Jj a0 a1 v11 v15 v39))⊕(H (Qm a0 a1 v11 v15))):=λ (v59,v60,v61,v62,v63,v64,v65,_)=>
 if decide (v59<(v39.Whens.length:Int))then
 need (Af v59 v39.Whens.length)<|
 Option.bind (N1 (Ap ((List.getD v39.Whens (v59).toNat (Bz)).C))) λ y11=>
 jp (L5 a0 a1 v11 v15 v39 v59)<|Option.bind (iter (Ahu a0 a1 v11 v15 v39 v59) ((((List.getD v39.Whens (v59).toNat (Bz)).Sets).length:Int),(0:Int),y11.Op,y11.Name,y11.N.N,y11.N.D,y11.Kids,v60,v61,v62,v63,v64,v65,([]:List Aa9),())) (Aih a0 a1 v11 v15 v39 v59)
 else
 jp (Qm a0 a1 v11 v15)<|some (.inr (v60,v61,v62,v63,v64,v65,()))
def Ah1 (a0:(List Aa)) (a1:Int) (v11:(List Ai)) (v15:Int) (v39:Aa):H (Vs a0 a1 v11 v15 v39)->Option ((H (Fo a0 a1 v11))⊕((H (Gi a0 a1))⊕(Aa×Aa×Int))):=λ (v53,v54,v55,v56,v57,v58,_)=>
 need ((v56.length+v39.Links.length)*48<=As)<|
 jp (Jj a0 a1 v11 v15 v39)<|Option.bind (iter (Aad a0 a1 v11 v15 v39) ((0:Int),v53,v54,v55,v56++v39.Links,v57,v58,())) (P0 a0 a1 v11 v15)
def Aik (a0:(List Aa)) (a1:Int) (v11:(List Ai)) (v15:Int) (v39:Aa):H (Mv a0 a1 v11 v15 v39)->Option ((H (Mv a0 a1 v11 v15 v39))⊕(H (Vs a0 a1 v11 v15 v39))):=λ (v46,v47,v48,v49,v50,v51,v52,_)=>
 if decide (v46<(v39.Eqs.length:Int))then
 need (Af v46 v39.Eqs.length)<|
 Option.bind (N1 (Ap ((List.getD v39.Eqs (v46).toNat (Afa)).L))) λ y9=>
 Option.bind (N1 (Ap ((List.getD v39.Eqs (v46).toNat (Afa)).R))) λ y10=>
 need ((v49.length+[(⟨(List.getD v39.Eqs (v46).toNat (Afa)).Init,(Ap y9),(Ap y10)⟩:U4)].length)*136<=As)<|
 jp (Mv a0 a1 v11 v15 v39)<|some (.inl (IntKind.wrap .i64 (v46+(1:Int)),v47,v48,v49++[(⟨(List.getD v39.Eqs (v46).toNat (Afa)).Init,(Ap y9),(Ap y10)⟩:U4)],v50,v51,v52,()))
 else
 jp (Vs a0 a1 v11 v15 v39)<|some (.inr (v47,v48,v49,v50,v51,v52,()))
def Z1 (a0:(List Aa)) (a1:Int) (v11:(List Ai)) (v15:Int):H (Mo a0 a1 v11 v15)->Option ((H (Fo a0 a1 v11))⊕((H (Gi a0 a1))⊕(Aa×Aa×Int))):=λ (v39,v40,v41,v42,v43,v44,v45,_)=>
 jp (Mv a0 a1 v11 v15 v39)<|Option.bind (iter (Aik a0 a1 v11 v15 v39) ((0:Int),v40,v41,v42,v43,v44,v45,())) (Ah1 a0 a1 v11 v15 v39)
def Afx (a0:(List Aa)) (a1:Int) (v11:(List Ai)) (v15:Int):H (Lj a0 a1 v11 v15)->Option ((H (Lj a0 a1 v11 v15))⊕((H (Mo a0 a1 v11 v15))⊕(Aa×Aa×Int))):=λ (v22,v23,v24,v25,v26,v27,v28,v29,v30,v31,_)=>
 if decide (v24<v23)then
 need (Af v24 v22.length)<|
 if !decide (((List.getD v22 (v24).toNat (An)).Type_)=([82,101,97,108]:List UInt8))then
  Option.bind (Dy a0 v25.Name ((List.getD v22 (v24).toNat (An)).Type_)) λ y4=>
  if decide (y4<(0:Int))then
   some (.inr (.inr ((⟨([]:List UInt8),(0:Int),[],[],[],[],[]⟩:Aa),(⟨([]:List UInt8),(0:Int),[],[],[],[],[]⟩:Aa),(4:Int))))
  else
   need (Af y4 a0.length)<|
   jp (Ahh a0 a1 v11 v15 v22 v23 v24 v25)<|Af8 a0 a1 v11 v15 v22 v23 v24 v25 ((⟨(List.getD v22 (v24).toNat (An)).Name,(List.getD a0 (y4).toNat (Ag)).Name,(List.getD v22 (v24).toNat (An)).Var,(List.getD v22 (v24).toNat (An)).Flow,(List.getD v22 (v24).toNat (An)).Size,(List.getD v22 (v24).toNat (An)).Scope,(List.getD v22 (v24).toNat (An)).Replace,(Ap ((List.getD v22 (v24).toNat (An)).Cond)),(Ap ((List.getD v22 (v24).toNat (An)).Value)),(List.getD v22 (v24).toNat (An)).Unit,(List.getD v22 (v24).toNat (An)).Mods⟩:Ax),v26,v27,v28,v29,v30,v31,())
 else
  jp (Ahh a0 a1 v11 v15 v22 v23 v24 v25)<|Af8 a0 a1 v11 v15 v22 v23 v24 v25 ((B1 (List.getD v22 (v24).toNat (An))),v26,v27,v28,v29,v30,v31,())
 else
 jp (Mo a0 a1 v11 v15)<|some (.inr (.inl (v25,v26,v27,v28,v29,v30,v31,())))
def Ah8 (a0:(List Aa)) (a1:Int):H (Gi a0 a1)->Option (Aa×Aa×Int):=λ (v98,v99,v100,v101,v102,_)=>
 some ((⟨(List.getD a0 (a1).toNat (Ag)).Name,(List.getD a0 (a1).toNat (Ag)).Kind,[],v98,v99,v100,v101⟩:Aa),(⟨(List.getD a0 (a1).toNat (Ag)).Name,(List.getD a0 (a1).toNat (Ag)).Kind,[],v102,[],[],[]⟩:Aa),(0:Int))
def Amt (a0:(List Aa)) (a1:Int) (v11:(List Ai)):H (Fo a0 a1 v11)->Option ((H (Fo a0 a1 v11))⊕((H (Gi a0 a1))⊕(Aa×Aa×Int))):=λ (v15,v16,v17,v18,v19,v20,v21,_)=>
 if decide (v15<(v11.length:Int))then
 need (Af v15 v11.length)<|
 need (Af ((List.getD v11 (v15).toNat (Be)).class_) a0.length)<|
 jp (Lj a0 a1 v11 v15)<|Option.bind (iter (Afx a0 a1 v11 v15) ((List.getD a0 ((List.getD v11 (v15).toNat (Be)).class_).toNat (Ag)).Comps,(((List.getD a0 ((List.getD v11 (v15).toNat (Be)).class_).toNat (Ag)).Comps).length:Int),(0:Int),(List.getD a0 ((List.getD v11 (v15).toNat (Be)).class_).toNat (Ag)),v16,v17,v18,v19,v20,v21,())) (Sum.elim (Z1 a0 a1 v11 v15) (λ y=>some (.inr (.inr y))))
 else
 jp (Gi a0 a1)<|some (.inr (.inl (v17,v18,v19,v20,v21,())))
def Alx (a0:(List Aa)) (a1:Int) (v11:(List Ai)):H (Aaa a0 a1 v11)->Option (Aa×Aa×Int):=λ (v14,_)=>
 jp (Fo a0 a1 v11)<|Option.bind (iter (Amt a0 a1 v11) ((0:Int),v14,([]:List Ax),([]:List U4),([]:List Mf),([]:List G3),([]:List Ax),())) (Sum.elim (Ah8 a0 a1) (λ y=>some y))
def Alv (a0:(List Aa)) (a1:Int) (v11:(List Ai)):H (Pb a0 a1 v11)->Option ((H (Pb a0 a1 v11))⊕((H (Aaa a0 a1 v11))⊕(Aa×Aa×Int))):=λ (v12,v13,_)=>
 if decide ((0:Int)<=v12)then
 need (Af v12 v11.length)<|
 need (Af ((List.getD v11 (v12).toNat (Be)).by_) a0.length)<|
 need (Af ((List.getD v11 (v12).toNat (Be)).by_) a0.length)<|
 need (Af ((List.getD v11 (v12).toNat (Be)).base) ((List.getD a0 ((List.getD v11 (v12).toNat (Be)).by_).toNat (Ag)).Bases).length)<|
 Option.bind (Ajt a0 ((List.getD a0 ((List.getD v11 (v12).toNat (Be)).by_).toNat (Ag)).Name) ((List.getD ((List.getD a0 ((List.getD v11 (v12).toNat (Be)).by_).toNat (Ag)).Bases) ((List.getD v11 (v12).toNat (Be)).base).toNat (Cl)).Mods)) λ y2=>
 if !y2.2 then
  some (.inr (.inr ((⟨([]:List UInt8),(0:Int),[],[],[],[],[]⟩:Aa),(⟨([]:List UInt8),(0:Int),[],[],[],[],[]⟩:Aa),(4:Int))))
 else
  Option.bind (Wx (Option.getD (Kh kqI ((List.getD v11 (v12).toNat (Be)).by_) v13) ([]:List Ak)) y2.1) λ y3=>
  jp (Pb a0 a1 v11)<|some (.inl (IntKind.wrap .i64 (v12-(1:Int)),Hc kqI ((List.getD v11 (v12).toNat (Be)).class_) y3 v13,()))
 else
 jp (Aaa a0 a1 v11)<|some (.inr (.inl (v13,())))
def Amb (a0:(List Aa)) (a1:Int) (a2:(List Ak)):H (Uq a0 a1 a2)->Option (Aa×Aa×Int):=λ (v11,_)=>
 jp (Pb a0 a1 v11)<|Option.bind (iter (Alv a0 a1 v11) (IntKind.wrap .i64 ((v11.length:Int) -(2:Int)),Hc kqI a1 a2 ([]:(List (Int×(List Ak)))),())) (Sum.elim (Alx a0 a1 v11) (λ y=>some y))
def Alf (a0:(List Aa)) (a1:Int) (a2:(List Ak)):H (Lk a0 a1 a2)->Option ((H (Lk a0 a1 a2))⊕((H (Uq a0 a1 a2))⊕(Aa×Aa×Int))):=λ (v1,v2,v3,v4,v5,_)=>
 if decide (v4<v3)then
 need (Af v4 v2.length)<|
 need (Af ((List.getD v2 (v4).toNat (Be)).class_) a0.length)<|
 jp (O8 a0 a1 a2 v1 v2 v3 v4)<|Option.bind (iter (Amy a0 a1 a2 v1 v2 v3 v4) ((List.getD a0 ((List.getD v2 (v4).toNat (Be)).class_).toNat (Ag)).Comps,(((List.getD a0 ((List.getD v2 (v4).toNat (Be)).class_).toNat (Ag)).Comps).length:Int),(0:Int),v5,())) (Sum.elim (Amm a0 a1 a2 v1 v2 v3 v4) (λ y=>some (.inr (.inr y))))
 else
 jp (Uq a0 a1 a2)<|some (.inr (.inl (v1,())))
def Ako (a0:(List Aa)) (a1:Int) (a2:(List Ak)):Option (Aa×Aa×Int):=
 Option.bind (Xc a0 a1) λ y1=>
 if !decide (y1.2=(0:Int))then
 some ((⟨([]:List UInt8),(0:Int),[],[],[],[],[]⟩:Aa),(⟨([]:List UInt8),(0:Int),[],[],[],[],[]⟩:Aa),y1.2)
 else
 need (Af a1 a0.length)<|
 need (Af a1 a0.length)<|
 jp (Lk a0 a1 a2)<|Option.bind (iter (Alf a0 a1 a2) (y1.1,y1.1,(y1.1.length:Int),(0:Int),([]:(List ((List UInt8)×Bool))),())) (Sum.elim (Amb a0 a1 a2) (λ y=>some y))
abbrev Anq:HT:=[]
abbrev I0 (a0:(List Aa)) (v1:(List Ai)) (v2:Int) (v3:Int):HT:=[.S 0 false,.q (.sl (.nm 9)) a0,.S 6 false,.k (.ar 82 0),.S 24 false,.q (.sl (.nm 18)) v1,.S 25 false,.q (.int .i64) v2,.S 26 false,.q (.int .i64) v3,.A 82 118 (.nm 17) 0 false]
abbrev Fn (a0:(List Aa)) (v1:(List Ai)) (v2:Int) (v3:Int):HT:=[.S 0 false,.q (.sl (.nm 9)) a0,.S 6 false,.k (.ar 82 0),.S 10 false,.k (.ptr 10 0),.S 24 false,.q (.sl (.nm 18)) v1,.S 25 false,.q (.int .i64) v2,.S 26 false,.q (.int .i64) v3,.S 35 false,.v (.sl (.nm 3)),.S 36 false,.v (.int .i64),.S 37 false,.v (.int .i64),.C 10,.q (.nm 18) (List.getD v1 (v3).toNat (Be)),.A 82 118 (.nm 17) 0 false]
abbrev M6:HT:=[.S 6 false,.k (.ar 82 0),.A 82 118 (.nm 17) 0 false]
abbrev Fq (a0:(List Aa)):HT:=[.S 0 false,.q (.sl (.nm 9)) a0,.S 6 false,.k (.ar 82 0),.S 24 false,.v (.sl (.nm 18)),.S 25 false,.v (.int .i64),.S 26 false,.v (.int .i64),.A 82 118 (.nm 17) 0 false]
def W8 (a0:(List Aa)) (v1:(List Ai)) (v2:Int) (v3:Int):H Anq->Option ((H (Fn a0 v1 v2 v3))⊕((H (I0 a0 v1 v2 v3))⊕((List Cb)×Int))):=λ _=>
 some (.inr (.inr ([],(4:Int))))
def Vp (a0:(List Aa)) (v1:(List Ai)) (v2:Int) (v3:Int):H (I0 a0 v1 v2 v3)->Option ((H (Fq a0))⊕((H M6)⊕((List Cb)×Int))):=λ (v9,_)=>
 jp (Fq a0)<|some (.inl (v1,v2,IntKind.wrap .i64 (v3+(1:Int)),v9,()))
def Vg (a0:(List Aa)) (v1:(List Ai)) (v2:Int) (v3:Int):H (Fn a0 v1 v2 v3)->Option ((H (Fn a0 v1 v2 v3))⊕((H (I0 a0 v1 v2 v3))⊕((List Cb)×Int))):=λ (v5,v6,v7,v8,_)=>
 if decide (v7<v6)then
 need (Af v7 v5.length)<|
 need (Af ((List.getD v1 (v3).toNat (Be)).class_) a0.length)<|
 Option.bind (Ajt a0 ((List.getD a0 ((List.getD v1 (v3).toNat (Be)).class_).toNat (Ag)).Name) ((List.getD v5 (v7).toNat (Cl)).Mods)) λ y2=>
 need (Af ((List.getD v1 (v3).toNat (Be)).class_) a0.length)<|
 Option.bind (Dy a0 ((List.getD a0 ((List.getD v1 (v3).toNat (Be)).class_).toNat (Ag)).Name) ((List.getD v5 (v7).toNat (Cl)).Name)) λ y3=>
 Option.bind (Ako a0 y3 []) λ y4=>
 if !y2.2 then
  W8 a0 v1 v2 v3 ()
 else
  if !decide (y4.2.2=(0:Int))then
   W8 a0 v1 v2 v3 ()
  else
   need ((v8.length+[(⟨y4.2.1.Comps,y2.1⟩:Cb)].length)*48<=As)<|
   jp (Fn a0 v1 v2 v3)<|some (.inl (v5,v6,IntKind.wrap .i64 (v7+(1:Int)),v8++[(⟨y4.2.1.Comps,y2.1⟩:Cb)],()))
 else
 jp (I0 a0 v1 v2 v3)<|some (.inr (.inl (v8,())))
def Vl:H M6->Option ((List Cb)×Int):=λ (v10,_)=>
 some (v10,(0:Int))
def Wa (a0:(List Aa)):H (Fq a0)->Option ((H (Fq a0))⊕((H M6)⊕((List Cb)×Int))):=λ (v1,v2,v3,v4,_)=>
 if decide (v3<v2)then
 need (Af v3 v1.length)<|
 need (Af ((List.getD v1 (v3).toNat (Be)).class_) a0.length)<|
 jp (Fn a0 v1 v2 v3)<|Option.bind (iter (Vg a0 v1 v2 v3) ((List.getD a0 ((List.getD v1 (v3).toNat (Be)).class_).toNat (Ag)).Bases,(((List.getD a0 ((List.getD v1 (v3).toNat (Be)).class_).toNat (Ag)).Bases).length:Int),(0:Int),v4,())) (Sum.elim (Vp a0 v1 v2 v3) (λ y=>some (.inr (.inr y))))
 else
 some (.inr (.inl (v4,())))
def Wg (a0:(List Aa)) (a1:Int):Option ((List Cb)×Int):=
 Option.bind (Xc a0 a1) λ y1=>
 jp (Fq a0)<|Option.bind (iter (Wa a0) (y1.1,(y1.1.length:Int),(0:Int),([]:List Cb),())) (Sum.elim Vl (λ y=>some y))
def Ae6 (a0:Ax) (a1:(List UInt8)):Option (Bool×(List UInt8)):=
 some (decide (a0.Name=a1),a1)
abbrev Fd:HT:=[.S 1000000 false,.k (.ptr 1000001 0),.C 1000001,.v .str]
abbrev Cf (a0:(List Ax)):HT:=[.S 0 false,.q (.sl (.nm 4)) a0,.S 1 false,.k (.clo 94 [.ptr 1000001 0]),.S 7 false,.q (.int .i64) (a0.length:Int),.S 8 false,.v (.int .i64),.S 1000000 false,.k (.ptr 1000001 0),.C 1000001,.v .str]
def F4:H Fd->Option (Int×(List UInt8)):=λ (v3,_)=>
 some ((-1:Int),v3)
def F1 (a0:(List Ax)):H (Cf a0)->Option ((H (Cf a0))⊕((H Fd)⊕(Int×(List UInt8)))):=λ (v1,v2,_)=>
 if decide (v1<(a0.length:Int))then
 need (Af v1 a0.length)<|
 Option.bind (Ae6 (B1 (List.getD a0 (v1).toNat (An))) v2) λ y1=>
 if y1.1 then
  some (.inr (.inr (v1,y1.2)))
 else
  jp (Cf a0)<|some (.inl (IntKind.wrap .i64 (v1+(1:Int)),y1.2,()))
 else
 some (.inr (.inl (v2,())))
def G6 (a0:(List Ax)) (a1:(List UInt8)):Option (Int×(List UInt8)):=
 jp (Cf a0)<|Option.bind (iter (F1 a0) ((0:Int),a1,())) (Sum.elim F4 (λ y=>some y))
abbrev A0:=(List Aa)->Int->Int->(List (D7×Bool))->Option (Bool×Int×(List (D7×Bool)))
def Ai2 (R:A0) (a0:(List Aa)) (a1:(List UInt8)) (a2:(List UInt8)):Option Bool:=
 Option.bind (Gc a0 a1) λ y1=>
 Option.bind (Gc a0 a2) λ y2=>
 Option.bind (R a0 y1 y2 ([]:(List (D7×Bool)))) λ y3=>
 if y3.1 then
 some (decide (y3.2.1=(0:Int)))
 else
 some false
abbrev An3:HT:=[]
abbrev Dg (a0:(List Aa)) (a1:(List Ax)) (a2:(List Ak)) (a3:Int) (v1:Int):HT:=[.S 0 false,.q (.sl (.nm 9)) a0,.S 1 false,.q (.sl (.nm 4)) a1,.S 3 false,.q (.int .i64) a3,.S 17 false,.q (.sl (.nm 2)) a2,.S 18 false,.q (.int .i64) (a2.length:Int),.S 19 false,.q (.int .i64) v1]
abbrev Aoa:HT:=[]
abbrev Ha:HT:=[]
abbrev Dd (a0:(List Aa)) (a1:(List Ax)) (a2:(List Ak)) (a3:Int):HT:=[.S 0 false,.q (.sl (.nm 9)) a0,.S 1 false,.q (.sl (.nm 4)) a1,.S 3 false,.q (.int .i64) a3,.S 17 false,.q (.sl (.nm 2)) a2,.S 18 false,.q (.int .i64) (a2.length:Int),.S 19 false,.v (.int .i64)]
def Ox (R:A0) (a0:(List Aa)) (a1:(List Ax)) (a2:(List Ak)) (a3:Int):H An3->Option ((H (Dd a0 a1 a2 a3))⊕((H Ha)⊕Bool)):=λ _=>
 some (.inr (.inr true))
def Dq (R:A0) (a0:(List Aa)) (a1:(List Ax)) (a2:(List Ak)) (a3:Int) (v1:Int):H (Dg a0 a1 a2 a3 v1)->Option ((H (Dd a0 a1 a2 a3))⊕((H Ha)⊕Bool)):=λ _=>
 jp (Dd a0 a1 a2 a3)<|some (.inl (IntKind.wrap .i64 (v1+(1:Int)),()))
def V5 (R:A0) (a0:(List Aa)) (a1:(List Ax)) (a2:(List Ak)) (a3:Int):H Aoa->Option ((H (Dd a0 a1 a2 a3))⊕((H Ha)⊕Bool)):=λ _=>
 some (.inr (.inr true))
def Vb (R:A0):H Ha->Option Bool:=λ _=>
 some false
def Wz (R:A0) (a0:(List Aa)) (a1:(List Ax)) (a2:(List Ak)) (a3:Int):H (Dd a0 a1 a2 a3)->Option ((H (Dd a0 a1 a2 a3))⊕((H Ha)⊕Bool)):=λ (v1,_)=>
 if decide (v1<(a2.length:Int))then
 need (Af v1 a2.length)<|
 Option.bind (Pu ((List.getD a2 (v1).toNat (A3)).Path) ([46]:List UInt8)) λ y1=>
 Option.bind (G6 a1 y1.1) λ y2=>
 if decide (y2.1<(0:Int))then
  if decide (a3=(4:Int))then
   some (.inr (.inr true))
  else
   jp (Dd a0 a1 a2 a3)<|some (.inl (IntKind.wrap .i64 (v1+(1:Int)),()))
 else
  need (Af y2.1 a1.length)<|
  if decide (a3=(6:Int))then
   if y1.2.2 then
    if decide (((List.getD a1 (y2.1).toNat (An)).Type_)=([82,101,97,108]:List UInt8))then
     Ox R a0 a1 a2 a3 ()
    else
     if !y1.2.2 then
      if !((decide (((List.getD a2 (v1).toNat (A3)).Type_)=([]:List UInt8)))==(decide (((List.getD a1 (y2.1).toNat (An)).Type_)=([82,101,97,108]:List UInt8))))then
       Ox R a0 a1 a2 a3 ()
      else
       jp (Dg a0 a1 a2 a3 v1)<|Dq R a0 a1 a2 a3 v1 ()
     else
      jp (Dg a0 a1 a2 a3 v1)<|Dq R a0 a1 a2 a3 v1 ()
   else
    if !y1.2.2 then
     if !((decide (((List.getD a2 (v1).toNat (A3)).Type_)=([]:List UInt8)))==(decide (((List.getD a1 (y2.1).toNat (An)).Type_)=([82,101,97,108]:List UInt8))))then
      Ox R a0 a1 a2 a3 ()
     else
      jp (Dg a0 a1 a2 a3 v1)<|Dq R a0 a1 a2 a3 v1 ()
    else
     jp (Dg a0 a1 a2 a3 v1)<|Dq R a0 a1 a2 a3 v1 ()
  else
   if decide (a3=(7:Int))then
    if !y1.2.2 then
     if !decide (((List.getD a2 (v1).toNat (A3)).Type_)=([]:List UInt8))then
      if !((List.getD a1 (y2.1).toNat (An)).Replace)then
       V5 R a0 a1 a2 a3 ()
      else
       if !(decide (((List.getD a1 (y2.1).toNat (An)).Type_)=([82,101,97,108]:List UInt8)))then
        Option.bind (Ai2 R a0 ((List.getD a2 (v1).toNat (A3)).Type_) ((List.getD a1 (y2.1).toNat (An)).Type_)) λ y3=>
        if !y3 then
         V5 R a0 a1 a2 a3 ()
        else
         jp (Dg a0 a1 a2 a3 v1)<|Dq R a0 a1 a2 a3 v1 ()
       else
        jp (Dg a0 a1 a2 a3 v1)<|Dq R a0 a1 a2 a3 v1 ()
     else
      jp (Dg a0 a1 a2 a3 v1)<|Dq R a0 a1 a2 a3 v1 ()
    else
     jp (Dg a0 a1 a2 a3 v1)<|Dq R a0 a1 a2 a3 v1 ()
   else
    jp (Dg a0 a1 a2 a3 v1)<|Dq R a0 a1 a2 a3 v1 ()
 else
 some (.inr (.inl ()))
def Vx (R:A0) (a0:(List Aa)) (a1:(List Ax)) (a2:(List Ak)) (a3:Int):Option Bool:=
 jp (Dd a0 a1 a2 a3)<|Option.bind (iter (Wz R a0 a1 a2 a3) ((0:Int),())) (Sum.elim (Vb R) (λ y=>some y))
abbrev Yx:HT:=[.S 4 false,.k (.ptr 4 0),.S 6 false,.k (.ptr 6 0),.C 4,.s 9,.C 6,.s 9]
abbrev J5 (a0:(List Aa)):HT:=[.S 0 false,.q (.sl (.nm 9)) a0,.S 4 false,.k (.ptr 4 0),.S 6 false,.k (.ptr 6 0),.S 33 false,.v (.sl (.nm 17)),.S 34 false,.v (.int .i64),.S 35 false,.v (.int .i64),.C 4,.s 9,.C 6,.s 9]
def Ab3 (R:A0):H Yx->Option (Aa×Int):=λ (v6,v7,_)=>
 some (v7,(0:Int))
def Ady (R:A0) (a0:(List Aa)):H (J5 a0)->Option ((H (J5 a0))⊕((H Yx)⊕(Aa×Int))):=λ (v1,v2,v3,v4,v5,_)=>
 if decide (v3<v2)then
 need (Af v3 v1.length)<|
 Option.bind (Vx R a0 ((List.getD v1 (v3).toNat (Kf)).comps) ((List.getD v1 (v3).toNat (Kf)).mods) (4:Int)) λ y3=>
 if y3 then
  some (.inr (.inr ((⟨([]:List UInt8),(0:Int),[],[],[],[],[]⟩:Aa),(4:Int))))
 else
  jp (J5 a0)<|some (.inl (v1,v2,IntKind.wrap .i64 (v3+(1:Int)),v4,v5,()))
 else
 some (.inr (.inl (v4,v5,())))
def Af2 (R:A0) (a0:(List Aa)) (a1:Int):Option (Aa×Int):=
 Option.bind (Ako a0 a1 []) λ y1=>
 if !decide (y1.2.2=(0:Int))then
 some ((⟨([]:List UInt8),(0:Int),[],[],[],[],[]⟩:Aa),y1.2.2)
 else
 Option.bind (Wg a0 a1) λ y2=>
 if !decide (y2.2=(0:Int))then
  some ((⟨([]:List UInt8),(0:Int),[],[],[],[],[]⟩:Aa),y2.2)
 else
  jp (J5 a0)<|Option.bind (iter (Ady R a0) (y2.1,(y2.1.length:Int),(0:Int),(⟨([]:List UInt8),(0:Int),[],[],[],[],[]⟩:Aa),y1.1,())) (Sum.elim (Ab3 R) (λ y=>some y))
def Aqi (a0:Ax) (a1:Ax):Option (Bool×Ax):=
 some (decide (a0.Name=a1.Name),(B1 a1))
abbrev E5:HT:=[.S 1000000 false,.k (.ptr 1000001 0),.C 1000001,.s 4]
abbrev Ce (a0:(List Ax)):HT:=[.S 0 false,.q (.sl (.nm 4)) a0,.S 1 false,.k (.clo 69 [.ptr 1000001 0]),.S 7 false,.q (.int .i64) (a0.length:Int),.S 8 false,.v (.int .i64),.S 1000000 false,.k (.ptr 1000001 0),.C 1000001,.s 4]
def Fu:H E5->Option (Int×Ax):=λ (v3,_)=>
 some ((-1:Int),(B1 v3))
def Fx (a0:(List Ax)):H (Ce a0)->Option ((H (Ce a0))⊕((H E5)⊕(Int×Ax))):=λ (v1,v2,_)=>
 if decide (v1<(a0.length:Int))then
 need (Af v1 a0.length)<|
 Option.bind (Aqi (B1 (List.getD a0 (v1).toNat (An))) (B1 v2)) λ y1=>
 if y1.1 then
  some (.inr (.inr (v1,(B1 y1.2))))
 else
  jp (Ce a0)<|some (.inl (IntKind.wrap .i64 (v1+(1:Int)),(B1 y1.2),()))
 else
 some (.inr (.inl ((B1 v2),())))
def G4 (a0:(List Ax)) (a1:Ax):Option (Int×Ax):=
 jp (Ce a0)<|Option.bind (iter (Fx a0) ((0:Int),(B1 a1),())) (Sum.elim Fu (λ y=>some y))
abbrev Aol:HT:=[.S 1000000 false,.k (.mp 1000001),.M 1000001 (.nm 19) .bool]
abbrev Ani:HT:=[.S 18 false,.v (.int .i64),.S 1000000 false,.k (.mp 1000001),.M 1000001 (.nm 19) .bool]
abbrev I7:HT:=[.S 1000000 false,.k (.mp 1000001),.M 1000001 (.nm 19) .bool]
abbrev Dw (a0:(List Aa)):HT:=[.S 0 false,.q (.sl (.nm 9)) a0,.S 3 false,.k (.mp 1000001),.S 10 false,.k (.ptr 10 0),.S 47 false,.v (.sl (.nm 4)),.S 48 false,.v (.int .i64),.S 49 false,.v (.int .i64),.S 1000000 false,.k (.mp 1000001),.C 10,.s 9,.M 1000001 (.nm 19) .bool]
def Ku (R:A0) (a0:(List Aa)):H Aol->Option ((H (Dw a0))⊕((H I7)⊕(Bool×Int×(List (D7×Bool))))):=λ (v6,_)=>
 some (.inr (.inr (false,(0:Int),v6)))
def Wp (R:A0) (a0:(List Aa)):H Ani->Option ((H (Dw a0))⊕((H I7)⊕(Bool×Int×(List (D7×Bool))))):=λ (v7,v8,_)=>
 some (.inr (.inr (false,v7,v8)))
def U5 (R:A0):H I7->Option (Bool×Int×(List (D7×Bool))):=λ (v9,_)=>
 some (true,(0:Int),v9)
def Vm (R:A0) (a0:(List Aa)):H (Dw a0)->Option ((H (Dw a0))⊕((H I7)⊕(Bool×Int×(List (D7×Bool))))):=λ (v1,v2,v3,v4,v5,_)=>
 if decide (v3<v2)then
 need (Af v3 v1.length)<|
 Option.bind (G4 v4.Comps (B1 (List.getD v1 (v3).toNat (An)))) λ y3=>
 if decide (y3.1<(0:Int))then
  some (.inr (.inr (false,(0:Int),v5)))
 else
  need (Af y3.1 v4.Comps.length)<|
  if !decide (((List.getD v4.Comps (y3.1).toNat (An)).Var)=y3.2.Var)then
   Ku R a0 (v5,())
  else
   if !(((List.getD v4.Comps (y3.1).toNat (An)).Flow)==y3.2.Flow)then
    Ku R a0 (v5,())
   else
    if !decide (((List.getD v4.Comps (y3.1).toNat (An)).Size)=y3.2.Size)then
     Ku R a0 (v5,())
    else
     if !((decide (((List.getD v4.Comps (y3.1).toNat (An)).Type_)=([82,101,97,108]:List UInt8)))==(decide (y3.2.Type_=([82,101,97,108]:List UInt8))))then
      Ku R a0 (v5,())
     else
      if decide (y3.2.Type_=([82,101,97,108]:List UInt8))then
       jp (Dw a0)<|some (.inl (v1,v2,IntKind.wrap .i64 (v3+(1:Int)),v4,v5,()))
      else
       Option.bind (Gc a0 ((List.getD v4.Comps (y3.1).toNat (An)).Type_)) λ y4=>
       Option.bind (Gc a0 y3.2.Type_) λ y5=>
       Option.bind (R a0 y4 y5 v5) λ y6=>
       if !decide (y6.2.1=(0:Int))then
        Wp R a0 (y6.2.1,y6.2.2,())
       else
        if !y6.1 then
         Wp R a0 (y6.2.1,y6.2.2,())
        else
         jp (Dw a0)<|some (.inl (v1,v2,IntKind.wrap .i64 (v3+(1:Int)),v4,y6.2.2,()))
 else
 some (.inr (.inl (v5,())))
def Alq (R:A0) (a0:(List Aa)) (a1:Int) (a2:Int) (a3:(List (D7×Bool))):Option (Bool×Int×(List (D7×Bool))):=
 if Option.getD (Kh (kqA Al4) (⟨a1,a2⟩:D7) a3) false then
 some (true,(0:Int),a3)
 else
 Option.bind (Af2 R a0 a1) λ y1=>
 if !decide (y1.2=(0:Int))then
  some (false,y1.2,Hc (kqA Al4) (⟨a1,a2⟩:D7) true a3)
 else
  Option.bind (Af2 R a0 a2) λ y2=>
  if !decide (y2.2=(0:Int))then
   some (false,y2.2,Hc (kqA Al4) (⟨a1,a2⟩:D7) true a3)
  else
   jp (Dw a0)<|Option.bind (iter (Vm R a0) (y2.1.Comps,(y2.1.Comps.length:Int),(0:Int),y1.1,Hc (kqA Al4) (⟨a1,a2⟩:D7) true a3,())) (Sum.elim (U5 R) (λ y=>some y))
def N7:Nat->A0
 |0=>λ _ _ _ _=>none
 |k+1=>Alq (N7 k)
def Pw:A0:=λ a0 a1 a2 a3=>N7 (List.length a0*List.length a0+2) a0 a1 a2 a3
abbrev Wd (a0:(List Aa)) (v1:Int) (v2:Int) (v3:Aa) (v4:Aa):HT:=[.S 0 false,.q (.sl (.nm 9)) a0,.S 6 false,.k (.ptr 6 0),.S 9 false,.k (.ptr 9 0),.S 12 false,.k (.ar 48 0),.S 51 false,.k (.ar 51 0),.S 52 false,.q (.int .i64) v1,.S 53 false,.q (.int .i64) v2,.C 6,.q (.nm 9) v3,.C 9,.q (.nm 9) v4,.A 48 118 (.nm 17) 0 false,.A 51 30 (.int .i64) 0 false]
abbrev Mr (a0:(List Aa)) (v1:Int) (v2:Int) (v3:Aa) (v4:Aa) (v5:(List Cb)) (v6:(List Int)):HT:=[.S 0 false,.q (.sl (.nm 9)) a0,.S 6 false,.k (.ptr 6 0),.S 9 false,.k (.ptr 9 0),.S 12 false,.k (.ar 48 0),.S 14 false,.q (.int .i64) (List.getD v6 v2.toNat (0:Int)),.S 51 false,.k (.ar 51 0),.S 52 false,.q (.int .i64) v1,.S 53 false,.q (.int .i64) v2,.S 57 false,.k (.ar 48 0),.S 58 false,.q (.int .i64) (v5.length:Int),.S 59 false,.v (.int .i64),.C 6,.q (.nm 9) v3,.C 9,.q (.nm 9) v4,.A 48 118 (.nm 17) 0 false,.A 51 30 (.int .i64) 0 false]
abbrev Qr (v12:Aa):HT:=[.S 6 false,.k (.ptr 6 0),.C 6,.q (.nm 9) v12]
abbrev Vc (v12:Aa) (v13:Aa):HT:=[.S 6 false,.k (.ptr 6 0),.S 9 false,.k (.ptr 9 0),.C 6,.q (.nm 9) v12,.C 9,.q (.nm 9) v13]
abbrev Me (v12:Aa) (v13:Aa):HT:=[.S 6 false,.k (.ptr 6 0),.S 9 false,.k (.ptr 9 0),.S 98 false,.q (.sl (.nm 4)) v13.Comps,.S 99 false,.q (.int .i64) (v13.Comps.length:Int),.S 100 false,.v (.int .i64),.C 6,.q (.nm 9) v12,.C 9,.q (.nm 9) v13]
abbrev Ws:HT:=[.S 6 false,.k (.ptr 6 0),.S 9 false,.k (.ptr 9 0),.C 6,.s 9,.C 9,.s 9]
abbrev Jh (a0:(List Aa)):HT:=[.S 0 false,.q (.sl (.nm 9)) a0,.S 6 false,.k (.ptr 6 0),.S 9 false,.k (.ptr 9 0),.S 12 false,.k (.ar 48 0),.S 51 false,.k (.ar 51 0),.S 52 false,.v (.int .i64),.S 53 false,.v (.int .i64),.C 6,.s 9,.C 9,.s 9,.A 48 118 (.nm 17) 0 false,.A 51 30 (.int .i64) 0 false]
def Ag6 (a0:(List Aa)) (v1:Int) (v2:Int) (v3:Aa) (v4:Aa):H (Wd a0 v1 v2 v3 v4)->Option ((H (Jh a0))⊕((H Ws)⊕(Aa×Int))):=λ (v10,v11,_)=>
 jp (Jh a0)<|some (.inl (v1,IntKind.wrap .i64 (v2+(1:Int)),v3,v4,v10,v11,()))
def Ahn (a0:(List Aa)) (v1:Int) (v2:Int) (v3:Aa) (v4:Aa) (v5:(List Cb)) (v6:(List Int)):H (Mr a0 v1 v2 v3 v4 v5 v6)->Option ((H (Mr a0 v1 v2 v3 v4 v5 v6))⊕((H (Wd a0 v1 v2 v3 v4))⊕(Aa×Int))):=λ (v7,v8,v9,_)=>
 if decide (v7<(v5.length:Int))then
 need (Af v7 v8.length)<|
 Option.bind (Vx Pw a0 ((List.getD v8 v7.toNat (Kf)).comps) ((List.getD v8 v7.toNat (Kf)).mods) (List.getD v6 v2.toNat (0:Int))) λ y4=>
 if y4 then
  some (.inr (.inr ((⟨([]:List UInt8),(0:Int),[],[],[],[],[]⟩:Aa),List.getD v6 v2.toNat (0:Int))))
 else
  jp (Mr a0 v1 v2 v3 v4 v5 v6)<|some (.inl (IntKind.wrap .i64 (v7+(1:Int)),v8,v9,()))
 else
 jp (Wd a0 v1 v2 v3 v4)<|some (.inr (.inl (v8,v9,())))
def Uj (v12:Aa):H (Qr v12)->Option (Aa×Int):=λ _=>
 some ((⟨([]:List UInt8),(0:Int),[],[],[],[],[]⟩:Aa),(3:Int))
def Ag9 (v12:Aa) (v13:Aa):H (Vc v12 v13)->Option (Aa×Int):=λ _=>
 some (v13,(0:Int))
def Ahb (v12:Aa) (v13:Aa):H (Me v12 v13)->Option ((H (Me v12 v13))⊕((H (Vc v12 v13))⊕(Aa×Int))):=λ (v14,_)=>
 if decide (v14<(v13.Comps.length:Int))then
 need (Af v14 v13.Comps.length)<|
 if decide ((8:Int)<(((List.getD v13.Comps (v14).toNat (An)).Mods).length:Int))then
  some (.inr (.inr ((⟨([]:List UInt8),(0:Int),[],[],[],[],[]⟩:Aa),(3:Int))))
 else
  jp (Me v12 v13)<|some (.inl (IntKind.wrap .i64 (v14+(1:Int)),()))
 else
 jp (Vc v12 v13)<|some (.inr (.inl ()))
def Ahw:H Ws->Option (Aa×Int):=λ (v12,v13,_)=>
 if decide ((40:Int)<(v13.Comps.length:Int))then
 jp (Qr v12)<|Uj v12 ()
 else
 if decide ((40:Int)<(v13.Eqs.length:Int))then
  jp (Qr v12)<|Uj v12 ()
 else
  if decide ((40:Int)<(v13.Links.length:Int))then
   jp (Qr v12)<|Uj v12 ()
  else
   if decide ((40:Int)<(v13.Whens.length:Int))then
    jp (Qr v12)<|Uj v12 ()
   else
    jp (Me v12 v13)<|Option.bind (iter (Ahb v12 v13) ((0:Int),())) (Sum.elim (Ag9 v12 v13) (λ y=>some y))
def Ahs (a0:(List Aa)):H (Jh a0)->Option ((H (Jh a0))⊕((H Ws)⊕(Aa×Int))):=λ (v1,v2,v3,v4,v5,v6,_)=>
 if decide (v2<v1)then
 need (Af v2 v6.length)<|
 jp (Mr a0 v1 v2 v3 v4 v5 v6)<|Option.bind (iter (Ahn a0 v1 v2 v3 v4 v5 v6) ((0:Int),v5,v6,())) (Sum.elim (Ag6 a0 v1 v2 v3 v4) (λ y=>some (.inr (.inr y))))
 else
 some (.inr (.inl (v3,v4,())))
def Asy (a0:(List Aa)) (a1:(List UInt8)) (a2:(List Ak)):Option (Aa×Int):=
 Option.bind (Gc a0 a1) λ y1=>
 Option.bind (Ako a0 y1 a2) λ y2=>
 if !decide (y2.2.2=(0:Int))then
 some ((⟨([]:List UInt8),(0:Int),[],[],[],[],[]⟩:Aa),y2.2.2)
 else
 Option.bind (Wg a0 y1) λ y3=>
 if !decide (y3.2=(0:Int))then
  some ((⟨([]:List UInt8),(0:Int),[],[],[],[],[]⟩:Aa),y3.2)
 else
  need (([(⟨y2.2.1.Comps,a2⟩:Cb)].length+y3.1.length)*48<=As)<|
  jp (Jh a0)<|Option.bind (iter (Ahs a0) (([(4:Int),(6:Int),(7:Int)].length:Int),(0:Int),(⟨([]:List UInt8),(0:Int),[],[],[],[],[]⟩:Aa),y2.1,[(⟨y2.2.1.Comps,a2⟩:Cb)]++y3.1,[(4:Int),(6:Int),(7:Int)],())) (Sum.elim Ahw (λ y=>some y))
def Aey (a0:(List Aa)) (a1:(List UInt8)):Option (Aa×Int):=
 Option.bind (Aes a0 [a1]) λ y1=>
 if !decide (y1=(0:Int))then
 some ((⟨([]:List UInt8),(0:Int),[],[],[],[],[]⟩:Aa),y1)
 else
 Option.bind (Asy a0 a1 []) λ y2=>
 some (y2.1,y2.2)
def Gf:Option Bool:=some true
def A26 (a0:(List Aa)) (a1:(List UInt8)) (a2:(List UInt8)):Option (Bool×Int):=
 Option.bind (Aes a0 [a1,a2]) λ y1=>
 if !decide (y1=(0:Int))then
 some (false,y1)
 else
 Option.bind (Gc a0 a1) λ y2=>
 Option.bind (Gc a0 a2) λ y3=>
 Option.bind (Pw a0 y2 y3 ([]:(List (D7×Bool)))) λ y4=>
 some (y4.1,y4.2.1)
abbrev Jg:HT:=[]
abbrev Dt (a0:(List Aa)) (a1:(List UInt8)):HT:=[.S 0 false,.q (.sl (.nm 9)) a0,.S 1 false,.q .str a1,.S 5 false,.v (.int .i64)]
def Kp:H Jg->Option Int:=λ _=>
 some (-1:Int)
def Ki (a0:(List Aa)) (a1:(List UInt8)):H (Dt a0 a1)->Option ((H (Dt a0 a1))⊕((H Jg)⊕Int)):=λ (v1,_)=>
 if decide (v1<(a0.length:Int))then
 need (Af v1 a0.length)<|
 if decide (((List.getD a0 (v1).toNat (Ag)).Name)=a1)then
  some (.inr (.inr v1))
 else
  jp (Dt a0 a1)<|some (.inl (IntKind.wrap .i64 (v1+(1:Int)),()))
 else
 some (.inr (.inl ()))
def On (a0:(List Aa)) (a1:(List UInt8)):Option Int:=
 jp (Dt a0 a1)<|Option.bind (iter (Ki a0 a1) ((0:Int),())) (Sum.elim Kp (λ y=>some y))
abbrev Q7:HT:=[]
abbrev D4:HT:=[]
abbrev Ca (a0:Aa) (a1:Aa):HT:=[.S 2 false,.k (.ptr 2 0),.S 3 false,.k (.ptr 3 0),.S 15 false,.q (.int .i64) (a0.Comps.length:Int),.S 16 false,.v (.int .i64),.C 2,.q (.nm 9) a0,.C 3,.q (.nm 9) a1]
def Gj (a0:Aa) (a1:Aa):H Q7->Option ((H (Ca a0 a1))⊕((H D4)⊕Bool)):=λ _=>
 some (.inr (.inr false))
def Gp:H D4->Option Bool:=λ _=>
 some true
def Gk (a0:Aa) (a1:Aa):H (Ca a0 a1)->Option ((H (Ca a0 a1))⊕((H D4)⊕Bool)):=λ (v1,_)=>
 if decide (v1<(a0.Comps.length:Int))then
 need (Af v1 a0.Comps.length)<|
 need (Af v1 a1.Comps.length)<|
 if !decide (((List.getD a0.Comps (v1).toNat (An)).Name)=((List.getD a1.Comps (v1).toNat (An)).Name))then
  Gj a0 a1 ()
 else
  need (Af v1 a0.Comps.length)<|
  need (Af v1 a1.Comps.length)<|
  if !((decide (((List.getD a0.Comps (v1).toNat (An)).Type_)=([82,101,97,108]:List UInt8)))==(decide (((List.getD a1.Comps (v1).toNat (An)).Type_)=([82,101,97,108]:List UInt8))))then
   Gj a0 a1 ()
  else
   jp (Ca a0 a1)<|some (.inl (IntKind.wrap .i64 (v1+(1:Int)),()))
 else
 some (.inr (.inl ()))
def Hz (a0:Aa) (a1:Aa):Option Bool:=
 if !decide ((a0.Comps.length:Int)=(a1.Comps.length:Int))then
 some false
 else
 jp (Ca a0 a1)<|Option.bind (iter (Gk a0 a1) ((0:Int),())) (Sum.elim Gp (λ y=>some y))
abbrev Q5:HT:=[]
abbrev F3 (a0:(List Aa)) (a1:(List UInt8)):HT:=[.S 0 false,.q (.sl (.nm 9)) a0,.S 1 false,.q .str a1]
def Gm:H Q5->Option Bool:=λ _=>
 some false
def Ee (a0:(List Aa)) (a1:(List UInt8)):H (F3 a0 a1)->Option Bool:=λ _=>
 Option.bind (A26 a0 a1 a1) λ y6=>
 if !decide (y6.2=(0:Int))then
 Option.bind (Gf) λ y7=>
 some y7
 else
 if y6.1 then
  Option.bind (Gf) λ y8=>
  some y8
 else
  some false
def Lt (a0:(List Aa)) (a1:(List UInt8)):Option Bool:=
 Option.bind (Aey a0 a1) λ y1=>
 if !decide (y1.2=(0:Int))then
 Option.bind (Gf) λ y2=>
 some y2
 else
 Option.bind (On a0 a1) λ y3=>
 need (a0.length*144<=As)<|
 need (Af y3 a0.length)<|
 Option.bind (Aey (List.set a0 y3.toNat y1.1) a1) λ y4=>
 if decide ((0:Int)<(y1.1.Bases.length:Int))then
  Gm ()
 else
  if decide (y4.2=(0:Int))then
   Option.bind (Hz y1.1 y4.1) λ y5=>
   if !y5 then
    Gm ()
   else
    jp (F3 a0 a1)<|Ee a0 a1 ()
  else
   jp (F3 a0 a1)<|Ee a0 a1 ()
end
end Go.Ab
