/- What the functions compute, as plain functions. Conditions: none beyond those that each theorem names. -/
import Derived.Test.YtgngflkahbpecaaGreatDoorP11
import Derived.Test.YtgngflkahbpecaaGreatDoorP16
set_option linter.unusedSimpArgs false
namespace Go.Ab
open Go
set_option linter.unusedVariables false
structure Bd where
 N:Int
 D:Int
def Bn3:Bd:=⟨(0:Int),(0:Int)⟩
structure Am where
 Op:Int
 Name:List UInt8
 N:Bd
 Kids:List Am
def D4:Am:=⟨(0:Int),([]:(List UInt8)),(Bn3),([]:(List Am))⟩
def Ap (z:Am):Am:=⟨z.Op,z.Name,z.N,z.Kids⟩
theorem Bg (z:Am):Ap z=z:=by cases z;rfl
structure Ak where
 Path:List UInt8
 Type_:List UInt8
 Value:Am
def A3:Ak:=⟨([]:(List UInt8)),([]:(List UInt8)),(D4)⟩
def Ea (z:Ak):Ak:=⟨z.Path,z.Type_,Ap z.Value⟩
theorem Ack (z:Ak):Ea z=z:=by cases z;simp only[Ea,Bg]
structure Qv where
 Name:List UInt8
 Mods:List Ak
def Cl:Qv:=⟨([]:(List UInt8)),([]:(List Ak))⟩
structure Ax where
 Name:List UInt8
 Type_:List UInt8
 Var:Int
 Flow:Bool
 Size:Int
 Scope:Int
 Replace:Bool
 Cond:Am
 Value:Am
 Unit:List UInt8
 Mods:List Ak
def An:Ax:=⟨([]:(List UInt8)),([]:(List UInt8)),(0:Int),false,(0:Int),(0:Int),false,(D4),(D4),([]:(List UInt8)),([]:(List Ak))⟩
def B1 (z:Ax):Ax:=⟨z.Name,z.Type_,z.Var,z.Flow,z.Size,z.Scope,z.Replace,Ap z.Cond,Ap z.Value,z.Unit,z.Mods⟩
structure Wo where
 Init:Bool
 L:Am
 R:Am
def Aeq:Wo:=⟨false,(D4),(D4)⟩
structure Mi where
 A:List UInt8
 B:List UInt8
 In:List UInt8
def Azo:Mi:=⟨([]:(List UInt8)),([]:(List UInt8)),([]:(List UInt8))⟩
structure Aan where
 Name:List UInt8
 E:Am
def Ab8:Aan:=⟨([]:(List UInt8)),(D4)⟩
structure G5 where
 C:Am
 Sets:List Aan
def Bz:G5:=⟨(D4),([]:(List Aan))⟩
structure Aa where
 Name:List UInt8
 Kind:Int
 Bases:List Qv
 Comps:List Ax
 Eqs:List Wo
 Links:List Mi
 Whens:List G5
def Ag:Aa:=⟨([]:(List UInt8)),(0:Int),([]:(List Qv)),([]:(List Ax)),([]:(List Wo)),([]:(List Mi)),([]:(List G5))⟩
structure A5 where
 e:Am
 cond:Bool
def T4:A5:=⟨(D4),false⟩
structure E5 where
 e0:Int
 e1:Int
 e2:Int
 e3:Int
 e4:Int
 e5:Int
 e6:Int
def Blj:E5:=⟨(0:Int),(0:Int),(0:Int),(0:Int),(0:Int),(0:Int),(0:Int)⟩
structure A7 where
 E:E5
 F:Bd
def Af5:A7:=⟨(Blj),(Bn3)⟩
structure A4 where
 v:Int
 m:List Int
 neg:Bool
def B35:A4:=⟨(0:Int),([]:(List Int)),false⟩
structure B6 where
 N:A4
 D:A4
def B8y:B6:=⟨(B35),(B35)⟩
structure Bm where
 name:List UInt8
 n:Int
def Ahu:Bm:=⟨([]:(List UInt8)),(0:Int)⟩
structure Bu where
 e:E5
 f:B6
def B39:Bu:=⟨(Blj),(B8y)⟩
structure Cb where
 comps:List Ax
 mods:List Ak
def Kd:Cb:=⟨([]:(List Ax)),([]:(List Ak))⟩
structure Ai where
 class_:Int
 by_:Int
 base:Int
def Be:Ai:=⟨(0:Int),(0:Int),(0:Int)⟩
structure D6 where
 e0:Int
 e1:Int
def B6e:D6:=⟨(0:Int),(0:Int)⟩
def Amw (z:D6):List Int:=[z.e0,z.e1]
structure Bp where
 lo:Int
 hi:Int
def Bt:Bp:=⟨(0:Int),(0:Int)⟩
structure Ba0 where
 e0:Bp
 e1:Bp
 e2:Bp
 e3:Bp
 e4:Bp
 e5:Bp
 e6:Bp
 e7:Bp
 e8:Bp
 e9:Bp
 e10:Bp
 e11:Bp
 e12:Bp
 e13:Bp
 e14:Bp
 e15:Bp
def B57:Ba0:=⟨(Bt),(Bt),(Bt),(Bt),(Bt),(Bt),(Bt),(Bt),(Bt),(Bt),(Bt),(Bt),(Bt),(Bt),(Bt),(Bt)⟩
@[reducible] def yeE:Nat->Type
 |0=>Bd
 |1=>Am
 |2=>Ak
 |3=>Qv
 |4=>Ax
 |5=>Wo
 |6=>Mi
 |7=>Aan
 |8=>G5
 |9=>Aa
 |10=>A5
 |11=>E5
 |12=>A7
 |13=>A4
 |14=>B6
 |15=>Bm
 |16=>Bu
 |17=>Cb
 |18=>Ai
 |19=>D6
 |20=>Bp
 |21=>Ba0
 |_=>Unit
abbrev H:=HV yeE
abbrev HT:=List (Tk yeE)
noncomputable section
def Br (n d:Int) (l:List Int):Option A7:=
 need (l.length<=7)<|
 some ⟨⟨l.getD 0 0,l.getD 1 0,l.getD 2 0,l.getD 3 0,l.getD 4 0,l.getD 5 0,l.getD 6 0⟩,⟨n,d⟩⟩
def Ald (a0:Aa) (a1:(List UInt8)):Option (Bool×(List UInt8)):=
 some (decide (a0.Name=a1),a1)
abbrev Fa:HT:=[.S 1000000 false,.k (.ptr 1000001 0),.C 1000001,.v .str]
abbrev Cc (a0:(List Aa)):HT:=[.S 0 false,.q (.sl (.nm 9)) a0,.S 1 false,.k (.clo 71 [.ptr 1000001 0]),.S 7 false,.q (.int .i64) (a0.length:Int),.S 8 false,.v (.int .i64),.S 1000000 false,.k (.ptr 1000001 0),.C 1000001,.v .str]
def F1:H Fa->Option (Int×(List UInt8)):=λ (v3,_)=>
 some ((-1:Int),v3)
def Fx (a0:(List Aa)):H (Cc a0)->Option ((H (Cc a0))⊕((H Fa)⊕(Int×(List UInt8)))):=λ (v1,v2,_)=>
 if decide (v1<(a0.length:Int))then
 need (Af v1 a0.length)<|
 Option.bind (Ald (List.getD a0 (v1).toNat (Ag)) v2) λ y1=>
 if y1.1 then
  some (.inr (.inr (v1,y1.2)))
 else
  jp (Cc a0)<|some (.inl (IntKind.wrap .i64 (v1+(1:Int)),y1.2,()))
 else
 some (.inr (.inl (v2,())))
def Kv (a0:(List Aa)) (a1:(List UInt8)):Option (Int×(List UInt8)):=
 jp (Cc a0)<|Option.bind (iter (Fx a0) ((0:Int),a1,())) (Sum.elim F1 (λ y=>some y))
def Gc (a0:(List Aa)) (a1:(List UInt8)):Option Int:=
 Option.bind (Kv a0 a1) λ y1=>
 some y1.1
abbrev Aul:HT:=[]
abbrev Yz:HT:=[]
abbrev Ju (a0:Aa):HT:=[.S 62 false,.q (.sl (.nm 8)) a0.Whens,.S 63 false,.q (.int .i64) (a0.Whens.length:Int),.S 64 false,.v (.int .i64)]
abbrev Sj (a0:Aa):HT:=[.S 1 false,.k (.ptr 1 0),.C 1,.q (.nm 9) a0]
abbrev Jz (a0:Aa):HT:=[.S 1 false,.k (.ptr 1 0),.S 50 false,.q (.sl (.nm 4)) a0.Comps,.S 51 false,.q (.int .i64) (a0.Comps.length:Int),.S 52 false,.v (.int .i64),.C 1,.q (.nm 9) a0]
abbrev Sp (a0:Aa):HT:=[.S 1 false,.k (.ptr 1 0),.C 1,.q (.nm 9) a0]
abbrev Jt (a0:Aa):HT:=[.S 1 false,.k (.ptr 1 0),.S 38 false,.q (.sl (.nm 3)) a0.Bases,.S 39 false,.q (.int .i64) (a0.Bases.length:Int),.S 40 false,.v (.int .i64),.C 1,.q (.nm 9) a0]
def Lp:H Aul->Option Int:=λ _=>
 some (3:Int)
def Adw:H Yz->Option Int:=λ _=>
 some (0:Int)
def Acx (a0:Aa):H (Ju a0)->Option ((H (Ju a0))⊕((H Yz)⊕Int)):=λ (v3,_)=>
 if decide (v3<(a0.Whens.length:Int))then
 need (Af v3 a0.Whens.length)<|
 if decide ((6:Int)<(((List.getD a0.Whens (v3).toNat (Bz)).Sets).length:Int))then
  some (.inr (.inr (3:Int)))
 else
  jp (Ju a0)<|some (.inl (IntKind.wrap .i64 (v3+(1:Int)),()))
 else
 some (.inr (.inl ()))
def Aco (a0:Aa):H (Sj a0)->Option Int:=λ _=>
 jp (Ju a0)<|Option.bind (iter (Acx a0) ((0:Int),())) (Sum.elim Adw (λ y=>some y))
def Ab1 (a0:Aa):H (Jz a0)->Option ((H (Jz a0))⊕((H (Sj a0))⊕Int)):=λ (v2,_)=>
 if decide (v2<(a0.Comps.length:Int))then
 need (Af v2 a0.Comps.length)<|
 if decide ((8:Int)<(((List.getD a0.Comps (v2).toNat (An)).Mods).length:Int))then
  some (.inr (.inr (3:Int)))
 else
  jp (Jz a0)<|some (.inl (IntKind.wrap .i64 (v2+(1:Int)),()))
 else
 jp (Sj a0)<|some (.inr (.inl ()))
def Acv (a0:Aa):H (Sp a0)->Option Int:=λ _=>
 jp (Jz a0)<|Option.bind (iter (Ab1 a0) ((0:Int),())) (Sum.elim (Aco a0) (λ y=>some y))
def Adx (a0:Aa):H (Jt a0)->Option ((H (Jt a0))⊕((H (Sp a0))⊕Int)):=λ (v1,_)=>
 if decide (v1<(a0.Bases.length:Int))then
 need (Af v1 a0.Bases.length)<|
 if decide ((8:Int)<(((List.getD a0.Bases (v1).toNat (Cl)).Mods).length:Int))then
  some (.inr (.inr (3:Int)))
 else
  jp (Jt a0)<|some (.inl (IntKind.wrap .i64 (v1+(1:Int)),()))
 else
 jp (Sp a0)<|some (.inr (.inl ()))
def Ams (a0:Aa):Option Int:=
 if decide ((6:Int)<(a0.Bases.length:Int))then
 Lp ()
 else
 if decide ((40:Int)<(a0.Comps.length:Int))then
  Lp ()
 else
  if decide ((40:Int)<(a0.Eqs.length:Int))then
   Lp ()
  else
   if decide ((40:Int)<(a0.Links.length:Int))then
    Lp ()
   else
    if decide ((40:Int)<(a0.Whens.length:Int))then
     Lp ()
    else
     jp (Jt a0)<|Option.bind (iter (Adx a0) ((0:Int),())) (Sum.elim (Acv a0) (λ y=>some y))
def Gm (a0:Int):Option Bool:=
 if decide ((97:Int)<=a0)then
  if decide (a0<=(122:Int))then
   some true
  else
   if decide ((65:Int)<=a0)then
    some (decide (a0<=(90:Int)))
   else
    some false
 else
  if decide ((65:Int)<=a0)then
   some (decide (a0<=(90:Int)))
  else
   some false
def Em (a0:(List UInt8)):Option Bool:=
 if decide (a0=([109,111,100,101,108]:List UInt8))then
  some true
 else
  if decide (a0=([112,111,114,116]:List UInt8))then
   some true
  else
   if decide (a0=([112,97,114,116,105,97,108]:List UInt8))then
    some true
   else
    if decide (a0=([101,120,116,101,110,100,115]:List UInt8))then
     some true
    else
     if decide (a0=([105,110,110,101,114]:List UInt8))then
      some true
     else
      if decide (a0=([111,117,116,101,114]:List UInt8))then
       some true
      else
       if decide (a0=([114,101,112,108,97,99,101,97,98,108,101]:List UInt8))then
        some true
       else
        if decide (a0=([102,108,111,119]:List UInt8))then
         some true
        else
         if decide (a0=([112,97,114,97,109,101,116,101,114]:List UInt8))then
          some true
         else
          if decide (a0=([100,105,115,99,114,101,116,101]:List UInt8))then
           some true
          else
           if decide (a0=([101,113,117,97,116,105,111,110]:List UInt8))then
            some true
           else
            if decide (a0=([105,110,105,116,105,97,108]:List UInt8))then
             some true
            else
             if decide (a0=([99,111,110,110,101,99,116]:List UInt8))then
              some true
             else
              if decide (a0=([119,104,101,110]:List UInt8))then
               some true
              else
               if decide (a0=([115,101,116]:List UInt8))then
                some true
               else
                if decide (a0=([101,110,100]:List UInt8))then
                 some true
                else
                 if decide (a0=([105,110]:List UInt8))then
                  some true
                 else
                  if decide (a0=([105,115]:List UInt8))then
                   some true
                  else
                   if decide (a0=([82,101,97,108]:List UInt8))then
                    some true
                   else
                    if decide (a0=([116,105,109,101]:List UInt8))then
                     some true
                    else
                     if decide (a0=([99,108,97,115,115]:List UInt8))then
                      some true
                     else
                      if decide (a0=([99,111,110,110,101,99,116,111,114]:List UInt8))then
                       some true
                      else
                       if decide (a0=([97,98,115,116,114,97,99,116]:List UInt8))then
                        some true
                       else
                        if decide (a0=([98,97,115,101]:List UInt8))then
                         some true
                        else
                         if decide (a0=([112,97,114,97,109]:List UInt8))then
                          some true
                         else
                          if decide (a0=([115,116,97,116,101]:List UInt8))then
                           some true
                          else
                           if decide (a0=([110,117,109,98,101,114]:List UInt8))then
                            some true
                           else
                            if decide (a0=([101,113]:List UInt8))then
                             some true
                            else
                             if decide (a0=([115,116,97,114,116]:List UInt8))then
                              some true
                             else
                              if decide (a0=([119,105,114,101]:List UInt8))then
                               some true
                              else
                               if decide (a0=([111,110]:List UInt8))then
                                some true
                               else
                                if decide (a0=([112,117,116]:List UInt8))then
                                 some true
                                else
                                 if decide (a0=([105,102]:List UInt8))then
                                  some true
                                 else
                                  if decide (a0=([116,104,101,110]:List UInt8))then
                                   some true
                                  else
                                   if decide (a0=([101,108,115,101]:List UInt8))then
                                    some true
                                   else
                                    if decide (a0=([111,114]:List UInt8))then
                                     some true
                                    else
                                     if decide (a0=([97,110,100]:List UInt8))then
                                      some true
                                     else
                                      if decide (a0=([110,111,116]:List UInt8))then
                                       some true
                                      else
                                       if decide (a0=([100,101,114]:List UInt8))then
                                        some true
                                       else
                                        if decide (a0=([112,114,101]:List UInt8))then
                                         some true
                                        else
                                         if decide (a0=([97,98,115]:List UInt8))then
                                          some true
                                         else
                                          if decide (a0=([109,105,110]:List UInt8))then
                                           some true
                                          else
                                           if decide (a0=([109,97,120]:List UInt8))then
                                            some true
                                           else
                                            some false
def Jp (a0:Int):Option Bool:=
 if decide ((48:Int)<=a0)then
  some (decide (a0<=(57:Int)))
 else
  some false
def Hf:Option Bool:=
 some false
def I0 (a0:(List UInt8)) (v1:Int):Option (Int⊕(Unit⊕Bool)):=
 some (.inl (IntKind.wrap .i64 (v1+(1:Int))))
def Ti (a0:(List UInt8)) (v1:Int):Option (Int⊕(Unit⊕Bool)):=
 if decide (v1<(a0.length:Int))then
  need (Af v1 a0.length)<|
  Option.bind (Gm ((List.getD a0 v1.toNat 0).toNat:Int)) λ y3=>
  if !y3 then
   need (Af v1 a0.length)<|
   Option.bind (Jp ((List.getD a0 v1.toNat 0).toNat:Int)) λ y4=>
   if !y4 then
    need (Af v1 a0.length)<|
    if !decide (((List.getD a0 v1.toNat 0).toNat:Int)=(95:Int))then
     some (.inr (.inr false))
    else
     I0 a0 v1
   else
    I0 a0 v1
  else
   I0 a0 v1
 else
  some (.inr (.inl ()))
def E2 (a0:(List UInt8)):Option Bool:=
 if decide ((a0.length:Int)<(1:Int))then
  Hf
 else
  if decide ((16:Int)<(a0.length:Int))then
   Hf
  else
   need (Af (0:Int) a0.length)<|
   Option.bind (Gm ((List.getD a0 (0:Int).toNat 0).toNat:Int)) λ y1=>
   if !y1 then
    Hf
   else
    Option.bind (Em a0) λ y2=>
    if y2 then
     Hf
    else
     Option.bind (iter (λ v:Int=>Ti a0 v) (0:Int)) λ r=>
     match r with
     | .inl r1=>
       some true
     | .inr r2=>
       some r2
def Mr (a0:(List UInt8)) (a1:(List UInt8)):Option (List (List UInt8)):=
 Option.bind (I7 a0 a1 (0:Int) (-1:Int)) λ y1=>
 some y1
abbrev Qe:HT:=[]
abbrev K9:HT:=[.S 6 false,.v (.sl .str),.S 7 false,.v (.int .i64),.S 8 false,.v (.int .i64)]
def Tz:H Qe->Option Bool:=λ _=>
 some true
def Tl:H K9->Option ((H K9)⊕((H Qe)⊕Bool)):=λ (v1,v2,v3,_)=>
 if decide (v3<v2)then
 need (Af v3 v1.length)<|
 Option.bind (E2 (List.getD v1 (v3).toNat ([]:(List UInt8)))) λ y2=>
 if !y2 then
  some (.inr (.inr false))
 else
  some (.inl (v1,v2,IntKind.wrap .i64 (v3+(1:Int)),()))
 else
 some (.inr (.inl ()))
def Js (a0:(List UInt8)):Option Bool:=
 Option.bind (Mr a0 ([46]:List UInt8)) λ y1=>
 Option.bind (iter Tl (y1,(y1.length:Int),(0:Int),())) (Sum.elim Tz (λ y=>some y))
def Hz (a0:(List UInt8)):Option Bool:=
 if decide ((a0.length:Int)<=(60:Int))then
 Option.bind (Js a0) λ y1=>
 some y1
 else
 some false
def H7 (a0:Am):Option Bool:=
 if decide (a0.Op=(0:Int))then
 if decide (a0.Name=([]:List UInt8))then
  if(decide (a0.N.N=(0:Int))&&(decide (a0.N.D=(0:Int))&&true))then
   some (decide ((a0.Kids.length:Int)=(0:Int)))
  else
   some false
 else
  some false
 else
 some false
abbrev Anu:HT:=[]
abbrev Ts (a0:(List Ak)) (v1:Int):HT:=[.S 5 false,.q (.sl (.nm 2)) a0,.S 6 false,.q (.int .i64) (a0.length:Int),.S 7 false,.q (.int .i64) v1,.S 16 false,.k (.ptr 4 1),.S 17 false,.q .str ((List.getD a0 (v1).toNat (A3)).Type_),.S 18 false,.v .bool,.S 19 false,.v .bool,.S 24 false,.v .bool,.S 27 false,.k (.ptr 4 1),.S 28 false,.q .str ((List.getD a0 (v1).toNat (A3)).Type_),.S 29 false,.v .bool,.S 30 false,.k (.ptr 4 2),.S 31 true,.q (.nm 1) (Ap ((List.getD a0 (v1).toNat (A3)).Value)),.S 32 false,.v .bool,.S 33 false,.v .bool,.C 4,.q (.nm 2) (Ea (List.getD a0 (v1).toNat (A3)))]
abbrev I6:HT:=[]
abbrev Eg (a0:(List Ak)):HT:=[.S 5 false,.q (.sl (.nm 2)) a0,.S 6 false,.q (.int .i64) (a0.length:Int),.S 7 false,.v (.int .i64)]
def Ih (a0:(List Ak)):H Anu->Option ((H (Eg a0))⊕((H I6)⊕Bool)):=λ _=>
 some (.inr (.inr false))
def P2 (a0:(List Ak)) (v1:Int):H (Ts a0 v1)->Option ((H (Eg a0))⊕((H I6)⊕Bool)):=λ (v2,v3,v4,v5,v6,v7,_)=>
 jp (Eg a0)<|some (.inl (IntKind.wrap .i64 (v1+(1:Int)),()))
def O1:H I6->Option Bool:=λ _=>
 some true
def Pm (a0:(List Ak)):H (Eg a0)->Option ((H (Eg a0))⊕((H I6)⊕Bool)):=λ (v1,_)=>
 if decide (v1<(a0.length:Int))then
 need (Af v1 a0.length)<|
 Option.bind (Js ((List.getD a0 (v1).toNat (A3)).Path)) λ y1=>
 if !y1 then
  Ih a0 ()
 else
  if !decide (((List.getD a0 (v1).toNat (A3)).Type_)=([]:List UInt8))then
   Option.bind (Hz ((List.getD a0 (v1).toNat (A3)).Type_)) λ y2=>
   if !y2 then
    Ih a0 ()
   else
    Option.bind (H7 (Ap ((List.getD a0 (v1).toNat (A3)).Value))) λ y3=>
    if((decide (((List.getD a0 (v1).toNat (A3)).Type_)=([]:List UInt8)))==y3)then
     Ih a0 ()
    else
     jp (Ts a0 v1)<|P2 a0 v1 (!decide (((List.getD a0 (v1).toNat (A3)).Type_)=([]:List UInt8)), !decide (((List.getD a0 (v1).toNat (A3)).Type_)=([]:List UInt8)), !y2,decide (((List.getD a0 (v1).toNat (A3)).Type_)=([]:List UInt8)),y3,((decide (((List.getD a0 (v1).toNat (A3)).Type_)=([]:List UInt8)))==y3),())
  else
   Option.bind (H7 (Ap ((List.getD a0 (v1).toNat (A3)).Value))) λ y4=>
   if((decide (((List.getD a0 (v1).toNat (A3)).Type_)=([]:List UInt8)))==y4)then
    Ih a0 ()
   else
    jp (Ts a0 v1)<|P2 a0 v1 (!decide (((List.getD a0 (v1).toNat (A3)).Type_)=([]:List UInt8)), !decide (((List.getD a0 (v1).toNat (A3)).Type_)=([]:List UInt8)),false,decide (((List.getD a0 (v1).toNat (A3)).Type_)=([]:List UInt8)),y4,((decide (((List.getD a0 (v1).toNat (A3)).Type_)=([]:List UInt8)))==y4),())
 else
 some (.inr (.inl ()))
def Gj (a0:(List Ak)):Option Bool:=
 jp (Eg a0)<|Option.bind (iter (Pm a0) ((0:Int),())) (Sum.elim O1 (λ y=>some y))
def Agc (a0:(List UInt8)) (a1:(List UInt8)):Option ((List UInt8)×(List UInt8)×Bool):=
 Option.bind (Qo a0 a1) λ y1=>
 if decide ((0:Int)<=y1)then
 need ((0:Int)<=(0:Int))<|
 need ((0:Int)<=y1)<|
 need (y1<=(a0.length:Int))<|
 need ((0:Int)<=(IntKind.wrap .i64 (y1+(a1.length:Int))))<|
 need ((IntKind.wrap .i64 (y1+(a1.length:Int)))<=(a0.length:Int))<|
 need ((a0.length:Int)<=(a0.length:Int))<|
 some ((List.take (y1.toNat-(0:Int).toNat) (List.drop (0:Int).toNat a0)),(List.take ((a0.length:Int).toNat-(IntKind.wrap .i64 (y1+(a1.length:Int))).toNat) (List.drop (IntKind.wrap .i64 (y1+(a1.length:Int))).toNat a0)),true)
 else
 some (a0,([]:List UInt8),false)
def Pv (a0:(List UInt8)) (a1:(List UInt8)):Option ((List UInt8)×(List UInt8)×Bool):=
 Option.bind (Agc a0 a1) λ y1=>
 some (y1.1,y1.2.1,y1.2.2)
def Ajc (a0:Int):Option A4:=
 some (⟨a0,[],false⟩:A4)
def Aa4 (a0:Int):Option B6:=
 Option.bind (Ajc a0) λ y1=>
 Option.bind (Ajc (1:Int)) λ y2=>
 some (⟨y1,y2⟩:B6)
def Yf (a0:(List UInt8)) (a1:Int):Option Int:=
 Option.bind (I9 a0 a1) λ y1=>
 some y1
def Pz (a0:(List UInt8)) (a1:(List UInt8)):Option Bool:=
 if decide ((a1.length:Int)<=(a0.length:Int))then
 need ((0:Int)<=(0:Int))<|
 need ((0:Int)<=(a1.length:Int))<|
 need ((a1.length:Int)<=(a0.length:Int))<|
 some (decide ((List.take ((a1.length:Int).toNat-(0:Int).toNat) (List.drop (0:Int).toNat a0))=a1))
 else
 some false
def P1 (a0:(List UInt8)) (a1:(List UInt8)):Option ((List UInt8)×Bool):=
 Option.bind (Pz a0 a1) λ y1=>
 if !y1 then
 some (a0,false)
 else
 need ((0:Int)<=(a1.length:Int))<|
 need ((a1.length:Int)<=(a0.length:Int))<|
 need ((a0.length:Int)<=(a0.length:Int))<|
 some ((List.take ((a0.length:Int).toNat-(a1.length:Int).toNat) (List.drop (a1.length:Int).toNat a0)),true)
def Ql (a0:(List UInt8)) (a1:(List UInt8)):Option ((List UInt8)×Bool):=
 Option.bind (P1 a0 a1) λ y1=>
 some (y1.1,y1.2)
abbrev Aq3:HT:=[]
abbrev O8:HT:=[]
abbrev Gv (a0:(List UInt8)):HT:=[.S 0 false,.q .str a0,.S 5 false,.q (.int .i64) (a0.length:Int),.S 6 false,.v (.int .i64)]
def Zn (a0:(List UInt8)):H Aq3->Option ((H (Gv a0))⊕((H O8)⊕Bool)):=λ _=>
 some (.inr (.inr false))
def Yq:H O8->Option Bool:=λ _=>
 some true
def Zc (a0:(List UInt8)):H (Gv a0)->Option ((H (Gv a0))⊕((H O8)⊕Bool)):=λ (v1,_)=>
 if decide (v1<(a0.length:Int))then
 need (Af v1 a0.length)<|
 if decide (((List.getD a0 v1.toNat 0).toNat:Int)<(48:Int))then
  Zn a0 ()
 else
  need (Af v1 a0.length)<|
  if decide ((57:Int)<((List.getD a0 v1.toNat 0).toNat:Int))then
   Zn a0 ()
  else
   jp (Gv a0)<|some (.inl (IntKind.wrap .i64 (v1+(1:Int)),()))
 else
 some (.inr (.inl ()))
def Pp (a0:(List UInt8)):Option Bool:=
 jp (Gv a0)<|Option.bind (iter (Zc a0) ((0:Int),())) (Sum.elim Yq (λ y=>some y))
abbrev An7:HT:=[]
abbrev Tr (a0:(List UInt8)):HT:=[.S 0 false,.q .str a0]
def Oz:H An7->Option Bool:=λ _=>
 some false
def Wb (a0:(List UInt8)):H (Tr a0)->Option Bool:=λ _=>
 Option.bind (Pp a0) λ y1=>
 some y1
def Ht (a0:(List UInt8)):Option Bool:=
 if decide (a0=([]:List UInt8))then
 Oz ()
 else
 if decide ((20:Int)<(a0.length:Int))then
  Oz ()
 else
  need (Af (0:Int) a0.length)<|
  if decide (((List.getD a0 (0:Int).toNat 0).toNat:Int)=(48:Int))then
   if decide ((1:Int)<(a0.length:Int))then
    Oz ()
   else
    jp (Tr a0)<|Wb a0 ()
  else
   jp (Tr a0)<|Wb a0 ()
def Ye:Option Int:=
 some (-1:Int)
def Aft:Option Int:=
 some (1:Int)
def Ug (a0:A4):Option Int:=
 if List.isEmpty a0.m then
  if decide (a0.v=(0:Int))then
   some (0:Int)
  else
   Aft
 else
  Aft
def Rs (a0:A4):Option Int:=
 if !List.isEmpty a0.m then
  if a0.neg then
   Ye
  else
   if List.isEmpty a0.m then
    if decide (a0.v<(0:Int))then
     Ye
    else
     Ug a0
   else
    Ug a0
 else
  if List.isEmpty a0.m then
   if decide (a0.v<(0:Int))then
    Ye
   else
    Ug a0
  else
   Ug a0
def Un (a0:A4) (v1:Int):Option ((List Int)×Bool):=
 if decide (v1=(0:Int))then
  some ([],false)
 else
  need ((0:Int)<=(32:Int))<|
  if decide ((Int.fdiv v1 (2^(min (32:Int).toNat (IntKind.bits .u64))))=(0:Int))then
   some ([IntKind.wrap .u32 v1],decide (a0.v<(0:Int)))
  else
   need ((0:Int)<=(32:Int))<|
   some ([IntKind.wrap .u32 v1,IntKind.wrap .u32 (Int.fdiv v1 (2^(min (32:Int).toNat (IntKind.bits .u64))))],decide (a0.v<(0:Int)))
def Ib (a0:A4):Option ((List Int)×Bool):=
 if !List.isEmpty a0.m then
  some (a0.m,a0.neg)
 else
  if decide (a0.v<(0:Int))then
   Un a0 (IntKind.wrap .u64 (0-(IntKind.wrap .u64 a0.v)))
  else
   Un a0 (IntKind.wrap .u64 a0.v)
def Ar9 (a1:Bool) (v1:(List Int)):Option ((List Int)⊕(List Int)):=
 if decide ((0:Int)<(v1.length:Int))then
  need (Af (IntKind.wrap .i64 ((v1.length:Int) -(1:Int))) v1.length)<|
  if decide ((List.getD v1 (IntKind.wrap .i64 ((v1.length:Int) -(1:Int))).toNat (0:Int))=(0:Int))then
   need ((0:Int)<=(0:Int))<|
   need ((0:Int)<=(IntKind.wrap .i64 ((v1.length:Int) -(1:Int))))<|
   need ((IntKind.wrap .i64 ((v1.length:Int) -(1:Int)))<=(v1.length:Int))<|
   some (.inl (List.take ((IntKind.wrap .i64 ((v1.length:Int) -(1:Int))).toNat-(0:Int).toNat) (List.drop (0:Int).toNat v1)))
  else
   some (.inr v1)
 else
  some (.inr v1)
def Aky (a1:Bool) (r1:(List Int)) (v3:Int) (v4:Int):Option ((Int×Int)⊕Int):=
 if decide ((0:Int)<=v4)then
  need ((0:Int)<=(32:Int))<|
  need (Af v4 r1.length)<|
  some (.inl (IntKind.wrap .u64 ((((BitVec.ofInt (IntKind.bits .u64) (IntKind.wrap .u64 (v3*2^(min (32:Int).toNat (IntKind.bits .u64))))|||BitVec.ofInt (IntKind.bits .u64) (IntKind.wrap .u64 (List.getD r1 (v4).toNat (0:Int)))).toNat:Nat):Int)),IntKind.wrap .i64 (v4-(1:Int))))
 else
  some (.inr v3)
def Ael (a1:Bool) (r1:(List Int)):Option A4:=
 need (r1≠[])<|
 some (⟨(0:Int),r1,a1⟩:A4)
def Tn (a0:(List Int)) (a1:Bool):Option A4:=
 Option.bind (iter (λ v:(List Int)=>Ar9 a1 v) a0) λ r1=>
  if decide ((r1.length:Int)<=(2:Int))then
   Option.bind (iter (λ v:(Int×Int)=>Aky a1 r1 v.1 v.2) ((0:Int),IntKind.wrap .i64 ((r1.length:Int) -(1:Int)))) λ r2=>
    if decide (r2<(9223372036854775808:Int))then
     if a1 then
      some (⟨IntKind.wrap .i64 (0-(IntKind.wrap .i64 r2)),[],false⟩:A4)
     else
      some (⟨IntKind.wrap .i64 r2,[],false⟩:A4)
    else
     Ael a1 r1
  else
   Ael a1 r1
def Ad5 (a0:A4):Option A4:=
 Option.bind (Ib a0) λ y1=>
 Option.bind (Tn y1.1 (!y1.2)) λ y2=>
 some y2
def Yk (a0:A4):Option A4:=
 if List.isEmpty a0.m then
  if !decide (a0.v=(-9223372036854775808:Int))then
   some (⟨IntKind.wrap .i64 (0-a0.v),[],false⟩:A4)
  else
   Ad5 a0
 else
  Ad5 a0
def Uk (v3:Int) (v4:Int):Option Int:=
 need (Af (IntKind.wrap .u8 v3) ([0,1,2,2,3,3,3,3,4,4,4,4,4,4,4,4,5,5,5,5,5,5,5,5,5,5,5,5,5,5,5,5,6,6,6,6,6,6,6,6,6,6,6,6,6,6,6,6,6,6,6,6,6,6,6,6,6,6,6,6,6,6,6,6,7,7,7,7,7,7,7,7,7,7,7,7,7,7,7,7,7,7,7,7,7,7,7,7,7,7,7,7,7,7,7,7,7,7,7,7,7,7,7,7,7,7,7,7,7,7,7,7,7,7,7,7,7,7,7,7,7,7,7,7,7,7,7,7,8,8,8,8,8,8,8,8,8,8,8,8,8,8,8,8,8,8,8,8,8,8,8,8,8,8,8,8,8,8,8,8,8,8,8,8,8,8,8,8,8,8,8,8,8,8,8,8,8,8,8,8,8,8,8,8,8,8,8,8,8,8,8,8,8,8,8,8,8,8,8,8,8,8,8,8,8,8,8,8,8,8,8,8,8,8,8,8,8,8,8,8,8,8,8,8,8,8,8,8,8,8,8,8,8,8,8,8,8,8,8,8,8,8,8,8,8,8,8,8,8,8,8,8,8,8,8,8]:List UInt8).length)<|
 some (IntKind.wrap .i64 (v4+(IntKind.wrap .i64 ((List.getD ([0,1,2,2,3,3,3,3,4,4,4,4,4,4,4,4,5,5,5,5,5,5,5,5,5,5,5,5,5,5,5,5,6,6,6,6,6,6,6,6,6,6,6,6,6,6,6,6,6,6,6,6,6,6,6,6,6,6,6,6,6,6,6,6,7,7,7,7,7,7,7,7,7,7,7,7,7,7,7,7,7,7,7,7,7,7,7,7,7,7,7,7,7,7,7,7,7,7,7,7,7,7,7,7,7,7,7,7,7,7,7,7,7,7,7,7,7,7,7,7,7,7,7,7,7,7,7,7,8,8,8,8,8,8,8,8,8,8,8,8,8,8,8,8,8,8,8,8,8,8,8,8,8,8,8,8,8,8,8,8,8,8,8,8,8,8,8,8,8,8,8,8,8,8,8,8,8,8,8,8,8,8,8,8,8,8,8,8,8,8,8,8,8,8,8,8,8,8,8,8,8,8,8,8,8,8,8,8,8,8,8,8,8,8,8,8,8,8,8,8,8,8,8,8,8,8,8,8,8,8,8,8,8,8,8,8,8,8,8,8,8,8,8,8,8,8,8,8,8,8,8,8,8,8,8,8]:List UInt8) (IntKind.wrap .u8 v3).toNat 0).toNat:Int))))
def Uw (v1:Int) (v2:Int):Option Int:=
 if decide ((256:Int)<=v1)then
  need ((0:Int)<=(8:Int))<|
  Uk (Int.fdiv v1 (2^(min (8:Int).toNat (IntKind.bits .u32)))) (IntKind.wrap .i64 (v2+(8:Int)))
 else
  Uk v1 v2
def Aef (a0:Int):Option Int:=
 if decide ((65536:Int)<=a0)then
  need ((0:Int)<=(16:Int))<|
  Uw (Int.fdiv a0 (2^(min (16:Int).toNat (IntKind.bits .u32)))) (16:Int)
 else
  Uw a0 (0:Int)
def Gd (a0:Int):Option Int:=
 Option.bind (Aef a0) λ y1=>
 some (IntKind.wrap .i64 ((32:Int) -y1))
def Zp (a0:(List Int)) (a1:(List Int)) (v1:Int):Option (Int⊕(Unit⊕Int)):=
 if decide ((0:Int)<=v1)then
  need (Af v1 a0.length)<|
  need (Af v1 a1.length)<|
  if !decide ((List.getD a0 (v1).toNat (0:Int))=(List.getD a1 (v1).toNat (0:Int)))then
   need (Af v1 a0.length)<|
   need (Af v1 a1.length)<|
   if decide ((List.getD a0 (v1).toNat (0:Int))<(List.getD a1 (v1).toNat (0:Int)))then
    some (.inr (.inr (-1:Int)))
   else
    some (.inr (.inr (1:Int)))
  else
   some (.inl (IntKind.wrap .i64 (v1-(1:Int))))
 else
  some (.inr (.inl ()))
def Pf (a0:(List Int)) (a1:(List Int)):Option Int:=
 if !decide ((a0.length:Int)=(a1.length:Int))then
  if decide ((a0.length:Int)<(a1.length:Int))then
   some (-1:Int)
  else
   some (1:Int)
 else
  Option.bind (iter (λ v:Int=>Zp a0 a1 v) (IntKind.wrap .i64 ((a0.length:Int) -(1:Int)))) λ r=>
  match r with
  | .inl r1=>
    some (0:Int)
  | .inr r2=>
    some r2
def Rn (a0:(List Int)) (a1:(List Int)) (v1:Int) (v2:Int) (v3:(List Int)):Option ((Int×Int×(List Int))⊕(Int×(List Int))):=
 if decide ((0:Int)<=v2)then
  need ((0:Int)<=(32:Int))<|
  need (Af v2 a0.length)<|
  need (Af (0:Int) a1.length)<|
  need ((IntKind.wrap .u64 (List.getD a1 ((0:Int)).toNat (0:Int)))≠0)<|
  need (Af v2 v3.length)<|
  need (Af (0:Int) a1.length)<|
  need ((IntKind.wrap .u64 (List.getD a1 ((0:Int)).toNat (0:Int)))≠0)<|
  some (.inl (Int.tmod (IntKind.wrap .u64 ((((BitVec.ofInt (IntKind.bits .u64) (IntKind.wrap .u64 (v1*2^(min (32:Int).toNat (IntKind.bits .u64))))|||BitVec.ofInt (IntKind.bits .u64) (IntKind.wrap .u64 (List.getD a0 (v2).toNat (0:Int)))).toNat:Nat):Int))) (IntKind.wrap .u64 (List.getD a1 ((0:Int)).toNat (0:Int))),IntKind.wrap .i64 (v2-(1:Int)),List.set v3 v2.toNat (IntKind.wrap .u32 (IntKind.wrap .u64 (Int.tdiv (IntKind.wrap .u64 ((((BitVec.ofInt (IntKind.bits .u64) (IntKind.wrap .u64 (v1*2^(min (32:Int).toNat (IntKind.bits .u64))))|||BitVec.ofInt (IntKind.bits .u64) (IntKind.wrap .u64 (List.getD a0 (v2).toNat (0:Int)))).toNat:Nat):Int))) (IntKind.wrap .u64 (List.getD a1 ((0:Int)).toNat (0:Int))))))))
 else
  some (.inr (v1,v3))
def Kb (a0:(List Int)) (a1:(List Int)) (v6:Int) (v7:(List Int)) (v9:(List Int)) (y2:Int):Option ((Int×(List Int)×(List Int))⊕((List Int)×(List Int))):=
 some (.inl (IntKind.wrap .i64 (v6+(1:Int)),v7,v9))
def Ss (a0:(List Int)) (a1:(List Int)) (y2:Int) (v6:Int) (v7:(List Int)) (v8:(List Int)):Option ((Int×(List Int)×(List Int))⊕((List Int)×(List Int))):=
 if decide (v6<(a1.length:Int))then
  need (Af v6 a1.length)<|
  need ((0:Int)<=(IntKind.wrap .u64 y2))<|
  need (Af v6 v8.length)<|
  if decide ((0:Int)<v6)then
   if decide ((0:Int)<(IntKind.wrap .u64 y2))then
    need (Af v6 (List.set v8 v6.toNat (IntKind.wrap .u32 ((List.getD a1 (v6).toNat (0:Int))*2^(min (IntKind.wrap .u64 y2).toNat (IntKind.bits .u32))))).length)<|
    need (Af (IntKind.wrap .i64 (v6-(1:Int))) a1.length)<|
    need ((0:Int)<=(IntKind.wrap .u64 ((32:Int) -(IntKind.wrap .u64 y2))))<|
    need (Af v6 (List.set v8 v6.toNat (IntKind.wrap .u32 ((List.getD a1 (v6).toNat (0:Int))*2^(min (IntKind.wrap .u64 y2).toNat (IntKind.bits .u32))))).length)<|
    Kb a0 a1 v6 v7 (List.set (List.set v8 v6.toNat (IntKind.wrap .u32 ((List.getD a1 (v6).toNat (0:Int))*2^(min (IntKind.wrap .u64 y2).toNat (IntKind.bits .u32))))) v6.toNat (IntKind.wrap .u32 ((((BitVec.ofInt (IntKind.bits .u32) (List.getD (List.set v8 v6.toNat (IntKind.wrap .u32 ((List.getD a1 (v6).toNat (0:Int))*2^(min (IntKind.wrap .u64 y2).toNat (IntKind.bits .u32))))) v6.toNat (0:Int))|||BitVec.ofInt (IntKind.bits .u32) (Int.fdiv (List.getD a1 (IntKind.wrap .i64 (v6-(1:Int))).toNat (0:Int)) (2^(min (IntKind.wrap .u64 ((32:Int) -(IntKind.wrap .u64 y2))).toNat (IntKind.bits .u32))))).toNat:Nat):Int)))) y2
   else
    Kb a0 a1 v6 v7 (List.set v8 v6.toNat (IntKind.wrap .u32 ((List.getD a1 (v6).toNat (0:Int))*2^(min (IntKind.wrap .u64 y2).toNat (IntKind.bits .u32))))) y2
  else
   Kb a0 a1 v6 v7 (List.set v8 v6.toNat (IntKind.wrap .u32 ((List.getD a1 (v6).toNat (0:Int))*2^(min (IntKind.wrap .u64 y2).toNat (IntKind.bits .u32))))) y2
 else
  some (.inr (v7,v8))
def H2 (a0:(List Int)) (v12:Int) (v15:(List Int)) (r2:((List Int)×(List Int))) (y2:Int):Option ((Int×(List Int))⊕(List Int)):=
 some (.inl (IntKind.wrap .i64 (v12+(1:Int)),v15))
def Np (a0:(List Int)) (v12:Int) (v14:(List Int)) (r2:((List Int)×(List Int))) (y2:Int):Option ((Int×(List Int))⊕(List Int)):=
 if decide ((0:Int)<v12)then
  if decide ((0:Int)<(IntKind.wrap .u64 y2))then
   need (Af v12 v14.length)<|
   need (Af (IntKind.wrap .i64 (v12-(1:Int))) a0.length)<|
   need ((0:Int)<=(IntKind.wrap .u64 ((32:Int) -(IntKind.wrap .u64 y2))))<|
   need (Af v12 v14.length)<|
   H2 a0 v12 (List.set v14 v12.toNat (IntKind.wrap .u32 ((((BitVec.ofInt (IntKind.bits .u32) (List.getD v14 v12.toNat (0:Int))|||BitVec.ofInt (IntKind.bits .u32) (Int.fdiv (List.getD a0 (IntKind.wrap .i64 (v12-(1:Int))).toNat (0:Int)) (2^(min (IntKind.wrap .u64 ((32:Int) -(IntKind.wrap .u64 y2))).toNat (IntKind.bits .u32))))).toNat:Nat):Int)))) r2 y2
  else
   H2 a0 v12 v14 r2 y2
 else
  H2 a0 v12 v14 r2 y2
def Se (a0:(List Int)) (r2:((List Int)×(List Int))) (y2:Int) (v12:Int) (v13:(List Int)):Option ((Int×(List Int))⊕(List Int)):=
 if decide (v12<(r2.1.length:Int))then
  if decide (v12<(a0.length:Int))then
   need (Af v12 a0.length)<|
   need ((0:Int)<=(IntKind.wrap .u64 y2))<|
   need (Af v12 v13.length)<|
   Np a0 v12 (List.set v13 v12.toNat (IntKind.wrap .u32 ((List.getD a0 (v12).toNat (0:Int))*2^(min (IntKind.wrap .u64 y2).toNat (IntKind.bits .u32))))) r2 y2
  else
   Np a0 v12 v13 r2 y2
 else
  some (.inr v13)
def N4 (v17:Int) (v18:(List Int)) (v19:(List Int)) (v20:Int) (v21:Int) (r2:((List Int)×(List Int))) (y2:Int):Option ((Int×Int)⊕Int):=
 need (Af (IntKind.wrap .i64 ((r2.2.length:Int) -(1:Int))) r2.2.length)<|
 if decide ((4294967296:Int)<=(IntKind.wrap .u64 (v21+(IntKind.wrap .u64 (List.getD r2.2 (IntKind.wrap .i64 ((r2.2.length:Int) -(1:Int))).toNat (0:Int))))))then
  some (.inr (IntKind.wrap .u64 (v20-(1:Int))))
 else
  some (.inl (IntKind.wrap .u64 (v20-(1:Int)),IntKind.wrap .u64 (v21+(IntKind.wrap .u64 (List.getD r2.2 (IntKind.wrap .i64 ((r2.2.length:Int) -(1:Int))).toNat (0:Int))))))
def So (v17:Int) (v18:(List Int)) (v19:(List Int)) (r2:((List Int)×(List Int))) (y2:Int) (v20:Int) (v21:Int):Option ((Int×Int)⊕Int):=
 if decide ((4294967296:Int)<=v20)then
  N4 v17 v18 v19 v20 v21 r2 y2
 else
  need (Af (IntKind.wrap .i64 ((r2.2.length:Int) -(2:Int))) r2.2.length)<|
  need ((0:Int)<=(32:Int))<|
  need (Af (IntKind.wrap .i64 ((IntKind.wrap .i64 (v17+(r2.2.length:Int))) -(2:Int))) v18.length)<|
  if decide ((IntKind.wrap .u64 ((((BitVec.ofInt (IntKind.bits .u64) (IntKind.wrap .u64 (v21*2^(min (32:Int).toNat (IntKind.bits .u64))))|||BitVec.ofInt (IntKind.bits .u64) (IntKind.wrap .u64 (List.getD v18 (IntKind.wrap .i64 ((IntKind.wrap .i64 (v17+(r2.2.length:Int))) -(2:Int))).toNat (0:Int)))).toNat:Nat):Int)))<(IntKind.wrap .u64 (v20*(IntKind.wrap .u64 (List.getD r2.2 (IntKind.wrap .i64 ((r2.2.length:Int) -(2:Int))).toNat (0:Int))))))then
   N4 v17 v18 v19 v20 v21 r2 y2
  else
   some (.inr v20)
def Ny (v17:Int) (v19:(List Int)) (v25:Int) (v27:Int) (v28:Int) (v29:(List Int)) (r2:((List Int)×(List Int))) (r4:Int) (y2:Int):Option ((Int×Int×Int×(List Int))⊕(Int×Int×(List Int))):=
 some (.inl (v27,v28,IntKind.wrap .i64 (v25+(1:Int)),v29))
def Rv (v17:Int) (v19:(List Int)) (r2:((List Int)×(List Int))) (r4:Int) (y2:Int) (v23:Int) (v24:Int) (v25:Int) (v26:(List Int)):Option ((Int×Int×Int×(List Int))⊕(Int×Int×(List Int))):=
 if decide (v25<(r2.2.length:Int))then
  need (Af v25 r2.2.length)<|
  need ((0:Int)<=(32:Int))<|
  need (Af (IntKind.wrap .i64 (v25+v17)) v26.length)<|
  need (Af (IntKind.wrap .i64 (v25+v17)) v26.length)<|
  if decide ((IntKind.wrap .i64 ((IntKind.wrap .i64 ((IntKind.wrap .i64 (List.getD v26 (IntKind.wrap .i64 (v25+v17)).toNat (0:Int))) -v23)) -(IntKind.wrap .i64 (IntKind.wrap .u32 (IntKind.wrap .u64 ((IntKind.wrap .u64 (r4*(IntKind.wrap .u64 (List.getD r2.2 v25.toNat (0:Int)))))+v24))))))<(0:Int))then
   Ny v17 v19 v25 (1:Int) (Int.fdiv (IntKind.wrap .u64 ((IntKind.wrap .u64 (r4*(IntKind.wrap .u64 (List.getD r2.2 v25.toNat (0:Int)))))+v24)) (2^(min (32:Int).toNat (IntKind.bits .u64)))) (List.set v26 (IntKind.wrap .i64 (v25+v17)).toNat (IntKind.wrap .u32 (IntKind.wrap .i64 ((IntKind.wrap .i64 ((IntKind.wrap .i64 (List.getD v26 (IntKind.wrap .i64 (v25+v17)).toNat (0:Int))) -v23)) -(IntKind.wrap .i64 (IntKind.wrap .u32 (IntKind.wrap .u64 ((IntKind.wrap .u64 (r4*(IntKind.wrap .u64 (List.getD r2.2 v25.toNat (0:Int)))))+v24)))))))) r2 r4 y2
  else
   Ny v17 v19 v25 (0:Int) (Int.fdiv (IntKind.wrap .u64 ((IntKind.wrap .u64 (r4*(IntKind.wrap .u64 (List.getD r2.2 v25.toNat (0:Int)))))+v24)) (2^(min (32:Int).toNat (IntKind.bits .u64)))) (List.set v26 (IntKind.wrap .i64 (v25+v17)).toNat (IntKind.wrap .u32 (IntKind.wrap .i64 ((IntKind.wrap .i64 ((IntKind.wrap .i64 (List.getD v26 (IntKind.wrap .i64 (v25+v17)).toNat (0:Int))) -v23)) -(IntKind.wrap .i64 (IntKind.wrap .u32 (IntKind.wrap .u64 ((IntKind.wrap .u64 (r4*(IntKind.wrap .u64 (List.getD r2.2 v25.toNat (0:Int)))))+v24)))))))) r2 r4 y2
 else
  some (.inr (v23,v24,v26))
def R8 (v17:Int) (v19:(List Int)) (r2:((List Int)×(List Int))) (r4:Int) (y2:Int) (v33:Int) (v34:Int) (v35:(List Int)):Option ((Int×Int×(List Int))⊕(Int×(List Int))):=
 if decide (v34<(r2.2.length:Int))then
  need (Af (IntKind.wrap .i64 (v34+v17)) v35.length)<|
  need (Af v34 r2.2.length)<|
  need (Af (IntKind.wrap .i64 (v34+v17)) v35.length)<|
  need ((0:Int)<=(32:Int))<|
  some (.inl (Int.fdiv (IntKind.wrap .u64 ((IntKind.wrap .u64 ((IntKind.wrap .u64 (List.getD v35 (IntKind.wrap .i64 (v34+v17)).toNat (0:Int)))+(IntKind.wrap .u64 (List.getD r2.2 v34.toNat (0:Int)))))+v33)) (2^(min (32:Int).toNat (IntKind.bits .u64))),IntKind.wrap .i64 (v34+(1:Int)),List.set v35 (IntKind.wrap .i64 (v34+v17)).toNat (IntKind.wrap .u32 (IntKind.wrap .u64 ((IntKind.wrap .u64 ((IntKind.wrap .u64 (List.getD v35 (IntKind.wrap .i64 (v34+v17)).toNat (0:Int)))+(IntKind.wrap .u64 (List.getD r2.2 v34.toNat (0:Int)))))+v33)))))
 else
  some (.inr (v33,v35))
def Oa (v17:Int) (v19:(List Int)) (v38:Int) (v39:(List Int)) (r2:((List Int)×(List Int))) (y2:Int):Option ((Int×(List Int)×(List Int))⊕((List Int)×(List Int))):=
 need (Af v17 v19.length)<|
 some (.inl (IntKind.wrap .i64 (v17-(1:Int)),v39,List.set v19 v17.toNat (IntKind.wrap .u32 v38)))
def J8 (r2:((List Int)×(List Int))) (y2:Int) (v17:Int) (v18:(List Int)) (v19:(List Int)):Option ((Int×(List Int)×(List Int))⊕((List Int)×(List Int))):=
 if decide ((0:Int)<=v17)then
  need (Af (IntKind.wrap .i64 (v17+(r2.2.length:Int))) v18.length)<|
  need ((0:Int)<=(32:Int))<|
  need (Af (IntKind.wrap .i64 ((IntKind.wrap .i64 (v17+(r2.2.length:Int))) -(1:Int))) v18.length)<|
  need (Af (IntKind.wrap .i64 ((r2.2.length:Int) -(1:Int))) r2.2.length)<|
  need ((IntKind.wrap .u64 (List.getD r2.2 (IntKind.wrap .i64 ((r2.2.length:Int) -(1:Int))).toNat (0:Int)))≠0)<|
  need (Af (IntKind.wrap .i64 ((r2.2.length:Int) -(1:Int))) r2.2.length)<|
  need ((IntKind.wrap .u64 (List.getD r2.2 (IntKind.wrap .i64 ((r2.2.length:Int) -(1:Int))).toNat (0:Int)))≠0)<|
  Option.bind (iter (λ v:(Int×Int)=>So v17 v18 v19 r2 y2 v.1 v.2) (IntKind.wrap .u64 (Int.tdiv (IntKind.wrap .u64 ((((BitVec.ofInt (IntKind.bits .u64) (IntKind.wrap .u64 ((IntKind.wrap .u64 (List.getD v18 (IntKind.wrap .i64 (v17+(r2.2.length:Int))).toNat (0:Int)))*2^(min (32:Int).toNat (IntKind.bits .u64))))|||BitVec.ofInt (IntKind.bits .u64) (IntKind.wrap .u64 (List.getD v18 (IntKind.wrap .i64 ((IntKind.wrap .i64 (v17+(r2.2.length:Int))) -(1:Int))).toNat (0:Int)))).toNat:Nat):Int))) (IntKind.wrap .u64 (List.getD r2.2 (IntKind.wrap .i64 ((r2.2.length:Int) -(1:Int))).toNat (0:Int)))),Int.tmod (IntKind.wrap .u64 ((((BitVec.ofInt (IntKind.bits .u64) (IntKind.wrap .u64 ((IntKind.wrap .u64 (List.getD v18 (IntKind.wrap .i64 (v17+(r2.2.length:Int))).toNat (0:Int)))*2^(min (32:Int).toNat (IntKind.bits .u64))))|||BitVec.ofInt (IntKind.bits .u64) (IntKind.wrap .u64 (List.getD v18 (IntKind.wrap .i64 ((IntKind.wrap .i64 (v17+(r2.2.length:Int))) -(1:Int))).toNat (0:Int)))).toNat:Nat):Int))) (IntKind.wrap .u64 (List.getD r2.2 (IntKind.wrap .i64 ((r2.2.length:Int) -(1:Int))).toNat (0:Int))))) λ r4=>
   Option.bind (iter (λ v:(Int×Int×Int×(List Int))=>Rv v17 v19 r2 r4 y2 v.1 v.2.1 v.2.2.1 v.2.2.2) ((0:Int),(0:Int),(0:Int),v18)) λ r5=>
    need (Af (IntKind.wrap .i64 (v17+(r2.2.length:Int))) r5.2.2.length)<|
    need (Af (IntKind.wrap .i64 (v17+(r2.2.length:Int))) r5.2.2.length)<|
    if decide ((IntKind.wrap .i64 ((IntKind.wrap .i64 ((IntKind.wrap .i64 (List.getD r5.2.2 (IntKind.wrap .i64 (v17+(r2.2.length:Int))).toNat (0:Int))) -r5.1)) -(IntKind.wrap .i64 r5.2.1)))<(0:Int))then
     Option.bind (iter (λ v:(Int×Int×(List Int))=>R8 v17 v19 r2 r4 y2 v.1 v.2.1 v.2.2) ((0:Int),(0:Int),List.set r5.2.2 (IntKind.wrap .i64 (v17+(r2.2.length:Int))).toNat (IntKind.wrap .u32 (IntKind.wrap .i64 ((IntKind.wrap .i64 ((IntKind.wrap .i64 (List.getD r5.2.2 (IntKind.wrap .i64 (v17+(r2.2.length:Int))).toNat (0:Int))) -r5.1)) -(IntKind.wrap .i64 r5.2.1)))))) λ r6=>
      need (Af (IntKind.wrap .i64 (v17+(r2.2.length:Int))) r6.2.length)<|
      need (Af (IntKind.wrap .i64 (v17+(r2.2.length:Int))) r6.2.length)<|
      Oa v17 v19 (IntKind.wrap .u64 (r4-(1:Int))) (List.set r6.2 (IntKind.wrap .i64 (v17+(r2.2.length:Int))).toNat (IntKind.wrap .u32 ((List.getD r6.2 (IntKind.wrap .i64 (v17+(r2.2.length:Int))).toNat (0:Int))+(IntKind.wrap .u32 r6.1)))) r2 y2
    else
     Oa v17 v19 r4 (List.set r5.2.2 (IntKind.wrap .i64 (v17+(r2.2.length:Int))).toNat (IntKind.wrap .u32 (IntKind.wrap .i64 ((IntKind.wrap .i64 ((IntKind.wrap .i64 (List.getD r5.2.2 (IntKind.wrap .i64 (v17+(r2.2.length:Int))).toNat (0:Int))) -r5.1)) -(IntKind.wrap .i64 r5.2.1))))) r2 y2
 else
  some (.inr (v18,v19))
def Ns (v42:Int) (v44:(List Int)) (r2:((List Int)×(List Int))) (r7:((List Int)×(List Int))) (y2:Int):Option ((Int×(List Int))⊕(List Int)):=
 some (.inl (IntKind.wrap .i64 (v42+(1:Int)),v44))
def Rr (r2:((List Int)×(List Int))) (r7:((List Int)×(List Int))) (y2:Int) (v42:Int) (v43:(List Int)):Option ((Int×(List Int))⊕(List Int)):=
 if decide (v42<(r2.2.length:Int))then
  need (Af v42 r7.1.length)<|
  need ((0:Int)<=(IntKind.wrap .u64 y2))<|
  need (Af v42 v43.length)<|
  if decide ((0:Int)<(IntKind.wrap .u64 y2))then
   need (Af v42 (List.set v43 v42.toNat (Int.fdiv (List.getD r7.1 v42.toNat (0:Int)) (2^(min (IntKind.wrap .u64 y2).toNat (IntKind.bits .u32))))).length)<|
   need (Af (IntKind.wrap .i64 (v42+(1:Int))) r7.1.length)<|
   need ((0:Int)<=(IntKind.wrap .u64 ((32:Int) -(IntKind.wrap .u64 y2))))<|
   need (Af v42 (List.set v43 v42.toNat (Int.fdiv (List.getD r7.1 v42.toNat (0:Int)) (2^(min (IntKind.wrap .u64 y2).toNat (IntKind.bits .u32))))).length)<|
   Ns v42 (List.set (List.set v43 v42.toNat (Int.fdiv (List.getD r7.1 v42.toNat (0:Int)) (2^(min (IntKind.wrap .u64 y2).toNat (IntKind.bits .u32))))) v42.toNat (IntKind.wrap .u32 ((((BitVec.ofInt (IntKind.bits .u32) (List.getD (List.set v43 v42.toNat (Int.fdiv (List.getD r7.1 v42.toNat (0:Int)) (2^(min (IntKind.wrap .u64 y2).toNat (IntKind.bits .u32))))) v42.toNat (0:Int))|||BitVec.ofInt (IntKind.bits .u32) (IntKind.wrap .u32 ((List.getD r7.1 (IntKind.wrap .i64 (v42+(1:Int))).toNat (0:Int))*2^(min (IntKind.wrap .u64 ((32:Int) -(IntKind.wrap .u64 y2))).toNat (IntKind.bits .u32))))).toNat:Nat):Int)))) r2 r7 y2
  else
   Ns v42 (List.set v43 v42.toNat (Int.fdiv (List.getD r7.1 v42.toNat (0:Int)) (2^(min (IntKind.wrap .u64 y2).toNat (IntKind.bits .u32))))) r2 r7 y2
 else
  some (.inr v43)
def Uj (a0:(List Int)) (a1:(List Int)):Option ((List Int)×(List Int)):=
 Option.bind (Pf a0 a1) λ y1=>
 if decide (y1<(0:Int))then
  need (a0.length*4<=At)<|
  some ([],a0)
 else
  if decide ((a1.length:Int)=(1:Int))then
   need (0<=(a0.length:Int))<|
   need ((a0.length:Int)<=(a0.length:Int))<|
   need ((a0.length:Int)*((4:Nat):Int)<=(At:Int))<|
   Option.bind (iter (λ v:(Int×Int×(List Int))=>Rn a0 a1 v.1 v.2.1 v.2.2) ((0:Int),IntKind.wrap .i64 ((a0.length:Int) -(1:Int)),List.replicate ((a0.length:Int)).toNat (0:Int))) λ r1=>
    some (r1.2,[IntKind.wrap .u32 r1.1])
  else
   need (Af (IntKind.wrap .i64 ((a1.length:Int) -(1:Int))) a1.length)<|
   Option.bind (Gd (List.getD a1 (IntKind.wrap .i64 ((a1.length:Int) -(1:Int))).toNat (0:Int))) λ y2=>
   need (0<=(IntKind.wrap .i64 ((a0.length:Int)+(1:Int))))<|
   need ((IntKind.wrap .i64 ((a0.length:Int)+(1:Int)))<=(IntKind.wrap .i64 ((a0.length:Int)+(1:Int))))<|
   need ((IntKind.wrap .i64 ((a0.length:Int)+(1:Int)))*((4:Nat):Int)<=(At:Int))<|
   need (0<=(a1.length:Int))<|
   need ((a1.length:Int)<=(a1.length:Int))<|
   need ((a1.length:Int)*((4:Nat):Int)<=(At:Int))<|
   Option.bind (iter (λ v:(Int×(List Int)×(List Int))=>Ss a0 a1 y2 v.1 v.2.1 v.2.2) ((0:Int),List.replicate (IntKind.wrap .i64 ((a0.length:Int)+(1:Int))).toNat (0:Int),List.replicate ((a1.length:Int)).toNat (0:Int))) λ r2=>
    Option.bind (iter (λ v:(Int×(List Int))=>Se a0 r2 y2 v.1 v.2) ((0:Int),r2.1)) λ r3=>
     need (0<=(IntKind.wrap .i64 ((IntKind.wrap .i64 ((a0.length:Int) -(r2.2.length:Int)))+(1:Int))))<|
     need ((IntKind.wrap .i64 ((IntKind.wrap .i64 ((a0.length:Int) -(r2.2.length:Int)))+(1:Int)))<=(IntKind.wrap .i64 ((IntKind.wrap .i64 ((a0.length:Int) -(r2.2.length:Int)))+(1:Int))))<|
     need ((IntKind.wrap .i64 ((IntKind.wrap .i64 ((a0.length:Int) -(r2.2.length:Int)))+(1:Int)))*((4:Nat):Int)<=(At:Int))<|
     Option.bind (iter (λ v:(Int×(List Int)×(List Int))=>J8 r2 y2 v.1 v.2.1 v.2.2) (IntKind.wrap .i64 ((a0.length:Int) -(r2.2.length:Int)),r3,List.replicate (IntKind.wrap .i64 ((IntKind.wrap .i64 ((a0.length:Int) -(r2.2.length:Int)))+(1:Int))).toNat (0:Int))) λ r7=>
      need (0<=(r2.2.length:Int))<|
      need ((r2.2.length:Int)<=(r2.2.length:Int))<|
      need ((r2.2.length:Int)*((4:Nat):Int)<=(At:Int))<|
      Option.bind (iter (λ v:(Int×(List Int))=>Rr r2 r7 y2 v.1 v.2) ((0:Int),List.replicate ((r2.2.length:Int)).toNat (0:Int))) λ r8=>
       some (r7.2,r8)
def Yb (a0:A4) (a1:A4):Option (A4×A4):=
 Option.bind (Ib a0) λ y1=>
 Option.bind (Ib a1) λ y2=>
 Option.bind (Uj y1.1 y2.1) λ y3=>
 Option.bind (Tn y3.1 (!(y1.2==y2.2))) λ y4=>
 Option.bind (Tn y3.2 y1.2) λ y5=>
 some (y4,y5)
def Ahf (a0:A4) (a1:A4):Option (A4×A4):=
 if List.isEmpty a0.m then
  if List.isEmpty a1.m then
   if !decide (a0.v=(-9223372036854775808:Int))then
    need (a1.v≠0)<|
    need (a1.v≠0)<|
    some ((⟨IntKind.wrap .i64 (Int.tdiv a0.v a1.v),[],false⟩:A4),(⟨Int.tmod a0.v a1.v,[],false⟩:A4))
   else
    Yb a0 a1
  else
   Yb a0 a1
 else
  Yb a0 a1
def Am0 (a0:A4):Option A4:=
 Option.bind (Rs a0) λ y1=>
 if decide (y1<(0:Int))then
  Option.bind (Yk a0) λ y2=>
  some y2
 else
  some a0
def Ayf (v7:Int) (v8:Int):Option ((Int×Int)⊕Int):=
 if !decide (v8=(0:Int))then
  need (v8≠0)<|
  some (.inl (v8,Int.tmod v7 v8))
 else
  some (.inr v7)
def Akh (v1:Int) (v2:(List Int)) (v3:Bool) (v4:Int) (v5:(List Int)) (v6:Bool):Option ((Int×(List Int)×Bool×Int×(List Int)×Bool)⊕((Int×(List Int)×Bool)⊕A4)):=
 Option.bind (Ahf (⟨v1,v2,v3⟩:A4) (⟨v4,v5,v6⟩:A4)) λ y4=>
 some (.inl (v4,v5,v6,y4.2.v,y4.2.m,y4.2.neg))
def Azv (v1:Int) (v2:(List Int)) (v3:Bool) (v4:Int) (v5:(List Int)) (v6:Bool):Option ((Int×(List Int)×Bool×Int×(List Int)×Bool)⊕((Int×(List Int)×Bool)⊕A4)):=
 Option.bind (Rs (⟨v4,v5,v6⟩:A4)) λ y3=>
 if !decide (y3=(0:Int))then
  if List.isEmpty v2 then
   if List.isEmpty v5 then
    Option.bind (iter (λ v:(Int×Int)=>Ayf v.1 v.2) (v1,v4)) λ r1=>
     some (.inr (.inr (⟨r1,[],false⟩:A4)))
   else
    Akh v1 v2 v3 v4 v5 v6
  else
   Akh v1 v2 v3 v4 v5 v6
 else
  some (.inr (.inl (v1,v2,v3)))
def A3z (a0:A4) (a1:A4):Option A4:=
 Option.bind (Am0 a0) λ y1=>
 Option.bind (Am0 a1) λ y2=>
 Option.bind (iter (λ v:(Int×(List Int)×Bool×Int×(List Int)×Bool)=>Azv v.1 v.2.1 v.2.2.1 v.2.2.2.1 v.2.2.2.2.1 v.2.2.2.2.2) (y1.v,y1.m,y1.neg,y2.v,y2.m,y2.neg)) λ r=>
 match r with
 | .inl r2=>
   some (⟨r2.1,r2.2.1,r2.2.2⟩:A4)
 | .inr r3=>
   some r3
def Ad1 (v7:Int) (v8:(List Int)) (v9:Bool) (v10:Int) (v11:(List Int)) (v12:Bool):Option B6:=
 some (⟨(⟨v7,v8,v9⟩:A4),(⟨v10,v11,v12⟩:A4)⟩:B6)
def Aei (v1:Int) (v2:(List Int)) (v3:Bool) (v4:Int) (v5:(List Int)) (v6:Bool) (y4:A4):Option B6:=
 Option.bind (Ahf (⟨v1,v2,v3⟩:A4) y4) λ y5=>
 Option.bind (Ahf (⟨v4,v5,v6⟩:A4) y4) λ y6=>
 Ad1 y5.1.v y5.1.m y5.1.neg y6.1.v y6.1.m y6.1.neg
def Aed (v1:Int) (v2:(List Int)) (v3:Bool) (v4:Int) (v5:(List Int)) (v6:Bool):Option B6:=
 Option.bind (A3z (⟨v1,v2,v3⟩:A4) (⟨v4,v5,v6⟩:A4)) λ y4=>
 if !List.isEmpty y4.m then
  Aei v1 v2 v3 v4 v5 v6 y4
 else
  if !decide (y4.v=(1:Int))then
   Aei v1 v2 v3 v4 v5 v6 y4
  else
   Ad1 v1 v2 v3 v4 v5 v6
def Od (a0:A4) (a1:A4):Option B6:=
 Option.bind (Rs a1) λ y1=>
 if decide (y1<(0:Int))then
  Option.bind (Yk a0) λ y2=>
  Option.bind (Yk a1) λ y3=>
  Aed y2.v y2.m y2.neg y3.v y3.m y3.neg
 else
  Aed a0.v a0.m a0.neg a1.v a1.m a1.neg
def Ad7 (a0:Int) (a1:Int):Option (Int×Int):=
 need ((0:Int)<=(32:Int))<|
 need ((0:Int)<=(32:Int))<|
 need ((0:Int)<=(32:Int))<|
 need ((0:Int)<=(32:Int))<|
 need ((0:Int)<=(32:Int))<|
 some (IntKind.wrap .u64 ((IntKind.wrap .u64 ((IntKind.wrap .u64 ((Int.fdiv a0 (2^(min (32:Int).toNat (IntKind.bits .u64))))*(Int.fdiv a1 (2^(min (32:Int).toNat (IntKind.bits .u64))))))+(Int.fdiv (IntKind.wrap .u64 ((IntKind.wrap .u64 ((Int.fdiv a0 (2^(min (32:Int).toNat (IntKind.bits .u64))))*(IntKind.wrap .u64 ((((BitVec.ofInt (IntKind.bits .u64) a1&&& BitVec.ofInt (IntKind.bits .u64) (4294967295:Int)).toNat:Nat):Int)))))+(Int.fdiv (IntKind.wrap .u64 ((IntKind.wrap .u64 ((((BitVec.ofInt (IntKind.bits .u64) a0&&& BitVec.ofInt (IntKind.bits .u64) (4294967295:Int)).toNat:Nat):Int)))*(IntKind.wrap .u64 ((((BitVec.ofInt (IntKind.bits .u64) a1&&& BitVec.ofInt (IntKind.bits .u64) (4294967295:Int)).toNat:Nat):Int))))) (2^(min (32:Int).toNat (IntKind.bits .u64)))))) (2^(min (32:Int).toNat (IntKind.bits .u64))))))+(Int.fdiv (IntKind.wrap .u64 ((IntKind.wrap .u64 ((((BitVec.ofInt (IntKind.bits .u64) (IntKind.wrap .u64 ((IntKind.wrap .u64 ((Int.fdiv a0 (2^(min (32:Int).toNat (IntKind.bits .u64))))*(IntKind.wrap .u64 ((((BitVec.ofInt (IntKind.bits .u64) a1&&& BitVec.ofInt (IntKind.bits .u64) (4294967295:Int)).toNat:Nat):Int)))))+(Int.fdiv (IntKind.wrap .u64 ((IntKind.wrap .u64 ((((BitVec.ofInt (IntKind.bits .u64) a0&&& BitVec.ofInt (IntKind.bits .u64) (4294967295:Int)).toNat:Nat):Int)))*(IntKind.wrap .u64 ((((BitVec.ofInt (IntKind.bits .u64) a1&&& BitVec.ofInt (IntKind.bits .u64) (4294967295:Int)).toNat:Nat):Int))))) (2^(min (32:Int).toNat (IntKind.bits .u64))))))&&& BitVec.ofInt (IntKind.bits .u64) (4294967295:Int)).toNat:Nat):Int)))+(IntKind.wrap .u64 ((IntKind.wrap .u64 ((((BitVec.ofInt (IntKind.bits .u64) a0&&& BitVec.ofInt (IntKind.bits .u64) (4294967295:Int)).toNat:Nat):Int)))*(Int.fdiv a1 (2^(min (32:Int).toNat (IntKind.bits .u64)))))))) (2^(min (32:Int).toNat (IntKind.bits .u64))))),IntKind.wrap .u64 (a0*a1))
def Ajt (v3:Int) (y2:((List Int)×Bool)) (y3:((List Int)×Bool)) (v5:Int) (v6:Int) (v7:(List Int)):Option ((Int×Int×(List Int))⊕(Int×(List Int))):=
 if decide (v6<(y3.1.length:Int))then
  need (Af (IntKind.wrap .i64 (v3+v6)) v7.length)<|
  need (Af v3 y2.1.length)<|
  need (Af v6 y3.1.length)<|
  need (Af (IntKind.wrap .i64 (v3+v6)) v7.length)<|
  need ((0:Int)<=(32:Int))<|
  some (.inl (Int.fdiv (IntKind.wrap .u64 ((IntKind.wrap .u64 ((IntKind.wrap .u64 (List.getD v7 (IntKind.wrap .i64 (v3+v6)).toNat (0:Int)))+(IntKind.wrap .u64 ((IntKind.wrap .u64 (List.getD y2.1 (v3).toNat (0:Int)))*(IntKind.wrap .u64 (List.getD y3.1 (v6).toNat (0:Int)))))))+v5)) (2^(min (32:Int).toNat (IntKind.bits .u64))),IntKind.wrap .i64 (v6+(1:Int)),List.set v7 (IntKind.wrap .i64 (v3+v6)).toNat (IntKind.wrap .u32 (IntKind.wrap .u64 ((IntKind.wrap .u64 ((IntKind.wrap .u64 (List.getD v7 (IntKind.wrap .i64 (v3+v6)).toNat (0:Int)))+(IntKind.wrap .u64 ((IntKind.wrap .u64 (List.getD y2.1 (v3).toNat (0:Int)))*(IntKind.wrap .u64 (List.getD y3.1 (v6).toNat (0:Int)))))))+v5)))))
 else
  some (.inr (v5,v7))
def Aj2 (y2:((List Int)×Bool)) (y3:((List Int)×Bool)) (v3:Int) (v4:(List Int)):Option ((Int×(List Int))⊕(List Int)):=
 if decide (v3<(y2.1.length:Int))then
  Option.bind (iter (λ v:(Int×Int×(List Int))=>Ajt v3 y2 y3 v.1 v.2.1 v.2.2) ((0:Int),(0:Int),v4)) λ r1=>
   need (Af (IntKind.wrap .i64 (v3+(y3.1.length:Int))) r1.2.length)<|
   some (.inl (IntKind.wrap .i64 (v3+(1:Int)),List.set r1.2 (IntKind.wrap .i64 (v3+(y3.1.length:Int))).toNat (IntKind.wrap .u32 r1.1)))
 else
  some (.inr v4)
def Um (a0:A4) (a1:A4):Option A4:=
 Option.bind (Ib a0) λ y2=>
 Option.bind (Ib a1) λ y3=>
 need (0<=(IntKind.wrap .i64 ((y2.1.length:Int)+(y3.1.length:Int))))<|
 need ((IntKind.wrap .i64 ((y2.1.length:Int)+(y3.1.length:Int)))<=(IntKind.wrap .i64 ((y2.1.length:Int)+(y3.1.length:Int))))<|
 need ((IntKind.wrap .i64 ((y2.1.length:Int)+(y3.1.length:Int)))*((4:Nat):Int)<=(At:Int))<|
 Option.bind (iter (λ v:(Int×(List Int))=>Aj2 y2 y3 v.1 v.2) ((0:Int),List.replicate (IntKind.wrap .i64 ((y2.1.length:Int)+(y3.1.length:Int))).toNat (0:Int))) λ r2=>
  Option.bind (Tn r2 (!(y2.2==y3.2))) λ y4=>
  some y4
def Aeb (a0:A4) (a1:A4) (v1:Int) (v2:Int):Option A4:=
 Option.bind (Ad7 v1 v2) λ y1=>
 if decide (y1.1=(0:Int))then
  if decide (y1.2<(9223372036854775808:Int))then
   if !((decide (a0.v<(0:Int)))==(decide (a1.v<(0:Int))))then
    some (⟨IntKind.wrap .i64 (0-(IntKind.wrap .i64 y1.2)),[],false⟩:A4)
   else
    some (⟨IntKind.wrap .i64 y1.2,[],false⟩:A4)
  else
   Um a0 a1
 else
  Um a0 a1
def Akg (a0:A4) (a1:A4) (v1:Int):Option A4:=
 if decide (a1.v<(0:Int))then
  Aeb a0 a1 v1 (IntKind.wrap .u64 (0-(IntKind.wrap .u64 a1.v)))
 else
  Aeb a0 a1 v1 (IntKind.wrap .u64 a1.v)
def W5 (a0:A4) (a1:A4):Option A4:=
 if List.isEmpty a0.m then
  if List.isEmpty a1.m then
   if decide (a0.v<(0:Int))then
    Akg a0 a1 (IntKind.wrap .u64 (0-(IntKind.wrap .u64 a0.v)))
   else
    Akg a0 a1 (IntKind.wrap .u64 a0.v)
  else
   Um a0 a1
 else
  Um a0 a1
def N5 (v1:(List Int)) (v2:(List Int)) (v4:Int) (v5:(List Int)) (v6:Int):Option ((Int×Int×(List Int))⊕(Int×(List Int))):=
 need ((v5.length+[IntKind.wrap .u32 v6].length)*4<=At)<|
 need ((0:Int)<=(32:Int))<|
 some (.inl (Int.fdiv v6 (2^(min (32:Int).toNat (IntKind.bits .u64))),IntKind.wrap .i64 (v4+(1:Int)),v5++[IntKind.wrap .u32 v6]))
def Yp (v1:(List Int)) (v2:(List Int)) (v3:Int) (v4:Int) (v5:(List Int)):Option ((Int×Int×(List Int))⊕(Int×(List Int))):=
 if decide (v4<(v1.length:Int))then
  need (Af v4 v1.length)<|
  if decide (v4<(v2.length:Int))then
   need (Af v4 v2.length)<|
   N5 v1 v2 v4 v5 (IntKind.wrap .u64 ((IntKind.wrap .u64 ((IntKind.wrap .u64 (List.getD v1 (v4).toNat (0:Int)))+v3))+(IntKind.wrap .u64 (List.getD v2 (v4).toNat (0:Int)))))
  else
   N5 v1 v2 v4 v5 (IntKind.wrap .u64 ((IntKind.wrap .u64 (List.getD v1 (v4).toNat (0:Int)))+v3))
 else
  some (.inr (v3,v5))
def N6 (v1:(List Int)) (v2:(List Int)):Option (List Int):=
 need (0<=(0:Int))<|
 need ((0:Int)<=(IntKind.wrap .i64 ((v1.length:Int)+(1:Int))))<|
 need ((IntKind.wrap .i64 ((v1.length:Int)+(1:Int)))*((4:Nat):Int)<=(At:Int))<|
 Option.bind (iter (λ v:(Int×Int×(List Int))=>Yp v1 v2 v.1 v.2.1 v.2.2) ((0:Int),(0:Int),[])) λ r1=>
  need ((r1.2.length+[IntKind.wrap .u32 r1.1].length)*4<=At)<|
  some (r1.2++[IntKind.wrap .u32 r1.1])
def Up (a0:(List Int)) (a1:(List Int)):Option (List Int):=
 if decide ((a0.length:Int)<(a1.length:Int))then
  N6 a1 a0
 else
  N6 a0 a1
def Nz (a0:(List Int)) (a1:(List Int)) (v2:Int) (v3:(List Int)) (v5:Int) (v6:Int):Option ((Int×Int×(List Int))⊕(List Int)):=
 need ((v3.length+[IntKind.wrap .u32 v6].length)*4<=At)<|
 some (.inl (v5,IntKind.wrap .i64 (v2+(1:Int)),v3++[IntKind.wrap .u32 v6]))
def No (a0:(List Int)) (a1:(List Int)) (v2:Int) (v3:(List Int)) (v4:Int):Option ((Int×Int×(List Int))⊕(List Int)):=
 if decide (v4<(0:Int))then
  Nz a0 a1 v2 v3 (1:Int) (IntKind.wrap .i64 (v4+(4294967296:Int)))
 else
  Nz a0 a1 v2 v3 (0:Int) v4
def Ys (a0:(List Int)) (a1:(List Int)) (v1:Int) (v2:Int) (v3:(List Int)):Option ((Int×Int×(List Int))⊕(List Int)):=
 if decide (v2<(a0.length:Int))then
  need (Af v2 a0.length)<|
  if decide (v2<(a1.length:Int))then
   need (Af v2 a1.length)<|
   No a0 a1 v2 v3 (IntKind.wrap .i64 ((IntKind.wrap .i64 ((IntKind.wrap .i64 (List.getD a0 (v2).toNat (0:Int))) -v1)) -(IntKind.wrap .i64 (List.getD a1 (v2).toNat (0:Int)))))
  else
   No a0 a1 v2 v3 (IntKind.wrap .i64 ((IntKind.wrap .i64 (List.getD a0 (v2).toNat (0:Int))) -v1))
 else
  some (.inr v3)
def Pu (a0:(List Int)) (a1:(List Int)):Option (List Int):=
 need (0<=(0:Int))<|
 need ((0:Int)<=(a0.length:Int))<|
 need ((a0.length:Int)*((4:Nat):Int)<=(At:Int))<|
 Option.bind (iter (λ v:(Int×Int×(List Int))=>Ys a0 a1 v.1 v.2.1 v.2.2) ((0:Int),(0:Int),[])) λ r1=>
  some r1
def X5 (a0:A4) (a1:A4):Option A4:=
 Option.bind (Ib a0) λ y1=>
 Option.bind (Ib a1) λ y2=>
 if(y1.2==y2.2)then
  Option.bind (Up y1.1 y2.1) λ y3=>
  Option.bind (Tn y3 y1.2) λ y4=>
  some y4
 else
  Option.bind (Pf y1.1 y2.1) λ y5=>
  if decide ((0:Int)<=y5)then
   Option.bind (Pu y1.1 y2.1) λ y6=>
   Option.bind (Tn y6 y1.2) λ y7=>
   some y7
  else
   Option.bind (Pu y2.1 y1.1) λ y8=>
   Option.bind (Tn y8 y2.2) λ y9=>
   some y9
def Alw (a0:A4) (a1:A4):Option A4:=
 if List.isEmpty a0.m then
  if List.isEmpty a1.m then
   if((decide (a0.v<(IntKind.wrap .i64 (a0.v+a1.v))))==(decide ((0:Int)<a1.v)))then
    some (⟨IntKind.wrap .i64 (a0.v+a1.v),[],false⟩:A4)
   else
    X5 a0 a1
  else
   X5 a0 a1
 else
  X5 a0 a1
abbrev Vc (v1:(List UInt8)) (v2:A4) (v3:A4):HT:=[.S 0 false,.q .str v1,.S 2 false,.k (.ptr 2 0),.S 3 false,.k (.ptr 3 0),.S 4 false,.v (.int .i64),.S 5 false,.v (.int .i64),.S 7 false,.v (.int .i64),.C 2,.q (.nm 13) v2,.C 3,.q (.nm 13) v3]
abbrev Lt (v1:(List UInt8)) (v2:A4) (v3:A4):HT:=[.S 0 false,.q .str v1,.S 2 false,.k (.ptr 2 0),.S 3 false,.k (.ptr 3 0),.S 4 false,.v (.int .i64),.S 5 false,.v (.int .i64),.S 7 false,.v (.int .i64),.S 22 false,.v (.int .i64),.S 23 false,.v (.int .i64),.C 2,.q (.nm 13) v2,.C 3,.q (.nm 13) v3]
abbrev Vp:HT:=[.S 2 false,.k (.ptr 2 0),.S 3 false,.k (.ptr 3 0),.C 2,.s 13,.C 3,.s 13]
abbrev Qn:HT:=[.S 0 false,.v .str,.S 2 false,.k (.ptr 2 0),.S 3 false,.k (.ptr 3 0),.C 2,.s 13,.C 3,.s 13]
def Ahr (v1:(List UInt8)) (v2:A4) (v3:A4):H (Vc v1 v2 v3)->Option ((H Qn)⊕(H Vp)):=λ (v9,v10,v11,_)=>
 Option.bind (Ajc v11) λ y3=>
 Option.bind (W5 v3 y3) λ y4=>
 Option.bind (Ajc v10) λ y5=>
 Option.bind (Alw y4 y5) λ y6=>
 need ((0:Int)<=v9)<|
 need (v9<=(v1.length:Int))<|
 need ((v1.length:Int)<=(v1.length:Int))<|
 some (.inl ((List.take ((v1.length:Int).toNat-v9.toNat) (List.drop v9.toNat v1)),v2,y6,()))
def Aii (v1:(List UInt8)) (v2:A4) (v3:A4):H (Lt v1 v2 v3)->Option ((H (Lt v1 v2 v3))⊕(H (Vc v1 v2 v3))):=λ (v4,v5,v6,v7,v8,_)=>
 if decide (v8<v7)then
 jp (Lt v1 v2 v3)<|some (.inl (v4,v5,IntKind.wrap .i64 (v6*(10:Int)),v7,IntKind.wrap .i64 (v8+(1:Int)),()))
 else
 jp (Vc v1 v2 v3)<|some (.inr (v4,v5,v6,()))
def Ahx:H Vp->Option A4:=λ (v12,v13,_)=>
 some v13
def Ag1:H Qn->Option ((H Qn)⊕(H Vp)):=λ (v1,v2,v3,_)=>
 if decide ((0:Int)<(v1.length:Int))then
 need ((0:Int)<=(0:Int))<|
 need ((0:Int)<=(if(9:Int)<(v1.length:Int)then(9:Int)else(v1.length:Int)))<|
 need ((if(9:Int)<(v1.length:Int)then(9:Int)else(v1.length:Int))<=(v1.length:Int))<|
 Option.bind (Apr (List.take ((if(9:Int)<(v1.length:Int)then(9:Int)else(v1.length:Int)).toNat-(0:Int).toNat) (List.drop (0:Int).toNat v1))) λ y2=>
 jp (Lt v1 v2 v3)<|Option.bind (iter (Aii v1 v2 v3) ((if(9:Int)<(v1.length:Int)then(9:Int)else(v1.length:Int)),y2,(1:Int),(if(9:Int)<(v1.length:Int)then(9:Int)else(v1.length:Int)),(0:Int),())) (Ahr v1 v2 v3)
 else
 some (.inr (v2,v3,()))
def Ul (a0:(List UInt8)):Option A4:=
 Option.bind (Ajc (0:Int)) λ y1=>
 Option.bind (iter Ag1 (a0,(⟨(0:Int),[],false⟩:A4),y1,())) Ahx
def Ya (a0:B6):Option Bool:=
 Option.bind (Rs a0.N) λ y1=>
 some (decide (y1=(0:Int)))
def Asl (a0:B6):Option B6:=
 Option.bind (Yk a0.N) λ y1=>
 some (⟨y1,a0.D⟩:B6)
def Ad2:Option (Int×Bool):=
 some ((0:Int),false)
def Alr (a0:A4) (a1:Int):Option (Int×Bool):=
 if !List.isEmpty a0.m then
  Ad2
 else
  if decide (a1<a0.v)then
   Ad2
  else
   if decide (a0.v<(IntKind.wrap .i64 (0-a1)))then
    Ad2
   else
    some (a0.v,true)
def Akk:Option (Bd×Bool):=
 some ((⟨(0:Int),(0:Int)⟩:Bd),false)
def Amp (a0:B6):Option (Bd×Bool):=
 Option.bind (Alr a0.N (1000000000000:Int)) λ y1=>
 Option.bind (Alr a0.D (1000000000000:Int)) λ y2=>
 if !y1.2 then
  Akk
 else
  if !y2.2 then
   Akk
  else
   some ((⟨y1.1,y2.1⟩:Bd),true)
def A83 (a0:B6):Option (Bd×Int):=
 Option.bind (Amp a0) λ y1=>
 if !y1.2 then
 some ((⟨(0:Int),(0:Int)⟩:Bd),(3:Int))
 else
 some (y1.1,(0:Int))
abbrev A4n:HT:=[.S 2 false,.k (.ptr 2 0),.C 2,.s 0]
abbrev Ahb (v4:Bd):HT:=[.S 2 false,.k (.ptr 2 0),.S 9 false,.k (.ptr 9 0),.C 2,.q (.nm 0) v4,.C 9,.s 14]
abbrev A5n:HT:=[.S 2 false,.k (.ptr 2 0),.S 5 false,.v .bool,.S 9 false,.k (.ptr 9 0),.C 2,.s 0,.C 9,.s 14]
abbrev A5j:HT:=[.S 2 false,.k (.ptr 2 0),.C 2,.s 0]
def Afr:H A4n->Option (Bd×Int):=λ (v1,_)=>
 some ((⟨(0:Int),(0:Int)⟩:Bd),(2:Int))
def Afs (v4:Bd):H (Ahb v4)->Option (Bd×Int):=λ (v6,_)=>
 Option.bind (A83 v6) λ y21=>
 some (y21.1,y21.2)
def Xp:H A5n->Option (Bd×Int):=λ (v3,v4,v5,_)=>
 if v3 then
 Option.bind (Ya v5) λ y19=>
 if y19 then
  some ((⟨(0:Int),(0:Int)⟩:Bd),(2:Int))
 else
  Option.bind (Asl v5) λ y20=>
  jp (Ahb v4)<|Afs v4 (y20,())
 else
 jp (Ahb v4)<|Afs v4 (v5,())
def Xn:H A5j->Option (Bd×Int):=λ (v2,_)=>
 some ((⟨(0:Int),(0:Int)⟩:Bd),(2:Int))
def Azk (a0:(List UInt8)):Option (Bd×Int):=
 Option.bind (Ql a0 ([45]:List UInt8)) λ y1=>
 Option.bind (Pv y1.1 ([47]:List UInt8)) λ y2=>
 Option.bind (Yf y1.1 (46:Int)) λ y3=>
 if y2.2.2 then
 Option.bind (Ht y2.1) λ y4=>
 if !y4 then
  Afr ((⟨(0:Int),(0:Int)⟩:Bd),())
 else
  Option.bind (Ht y2.2.1) λ y5=>
  if !y5 then
   Afr ((⟨(0:Int),(0:Int)⟩:Bd),())
  else
   if decide (y2.2.1=([48]:List UInt8))then
    Afr ((⟨(0:Int),(0:Int)⟩:Bd),())
   else
    Option.bind (Ul y2.1) λ y6=>
    Option.bind (Ul y2.2.1) λ y7=>
    Option.bind (Od y6 y7) λ y8=>
    Xp (y1.2,(⟨(0:Int),(0:Int)⟩:Bd),y8,())
 else
 if decide ((0:Int)<=y3)then
  need ((0:Int)<=(0:Int))<|
  need ((0:Int)<=y3)<|
  need (y3<=(y1.1.length:Int))<|
  need ((0:Int)<=(IntKind.wrap .i64 (y3+(1:Int))))<|
  need ((IntKind.wrap .i64 (y3+(1:Int)))<=(y1.1.length:Int))<|
  need ((y1.1.length:Int)<=(y1.1.length:Int))<|
  Option.bind (Ht (List.take (y3.toNat-(0:Int).toNat) (List.drop (0:Int).toNat y1.1))) λ y9=>
  if !y9 then
   Xn ((⟨(0:Int),(0:Int)⟩:Bd),())
  else
   if decide ((List.take ((y1.1.length:Int).toNat-(IntKind.wrap .i64 (y3+(1:Int))).toNat) (List.drop (IntKind.wrap .i64 (y3+(1:Int))).toNat y1.1))=([]:List UInt8))then
    Xn ((⟨(0:Int),(0:Int)⟩:Bd),())
   else
    if decide ((12:Int)<((List.take ((y1.1.length:Int).toNat-(IntKind.wrap .i64 (y3+(1:Int))).toNat) (List.drop (IntKind.wrap .i64 (y3+(1:Int))).toNat y1.1)).length:Int))then
     Xn ((⟨(0:Int),(0:Int)⟩:Bd),())
    else
     Option.bind (Pp (List.take ((y1.1.length:Int).toNat-(IntKind.wrap .i64 (y3+(1:Int))).toNat) (List.drop (IntKind.wrap .i64 (y3+(1:Int))).toNat y1.1))) λ y10=>
     if !y10 then
      Xn ((⟨(0:Int),(0:Int)⟩:Bd),())
     else
      need ((List.take (y3.toNat-(0:Int).toNat) (List.drop (0:Int).toNat y1.1)).length+(List.take ((y1.1.length:Int).toNat-(IntKind.wrap .i64 (y3+(1:Int))).toNat) (List.drop (IntKind.wrap .i64 (y3+(1:Int))).toNat y1.1)).length<=At)<|
      Option.bind (Ul ((List.take (y3.toNat-(0:Int).toNat) (List.drop (0:Int).toNat y1.1))++(List.take ((y1.1.length:Int).toNat-(IntKind.wrap .i64 (y3+(1:Int))).toNat) (List.drop (IntKind.wrap .i64 (y3+(1:Int))).toNat y1.1)))) λ y11=>
      Option.bind (Y8 ([48]:List UInt8) ((List.take ((y1.1.length:Int).toNat-(IntKind.wrap .i64 (y3+(1:Int))).toNat) (List.drop (IntKind.wrap .i64 (y3+(1:Int))).toNat y1.1)).length:Int)) λ y12=>
      need (([49]:List UInt8).length+y12.length<=At)<|
      Option.bind (Ul (([49]:List UInt8)++y12)) λ y13=>
      Option.bind (Od y11 y13) λ y14=>
      Xp (y1.2,(⟨(0:Int),(0:Int)⟩:Bd),y14,())
 else
  Option.bind (Ht y1.1) λ y15=>
  if !y15 then
   some ((⟨(0:Int),(0:Int)⟩:Bd),(2:Int))
  else
   Option.bind (Ul y1.1) λ y16=>
   Option.bind (Ajc (1:Int)) λ y17=>
   Option.bind (Od y16 y17) λ y18=>
   Xp (y1.2,(⟨(0:Int),(0:Int)⟩:Bd),y18,())
def A97 (a0:Bd):Option B6:=
 Option.bind (Ajc a0.N) λ y1=>
 Option.bind (Ajc a0.D) λ y2=>
 some (⟨y1,y2⟩:B6)
abbrev Att:HT:=[.S 2 false,.k (.ptr 2 0),.C 2,.s 14]
abbrev Zj (v3:(List UInt8)) (v4:Int) (v5:B6) (v6:Bd):HT:=[.S 2 false,.k (.ptr 2 0),.S 6 false,.q .str v3,.S 8 false,.k (.ptr 8 0),.S 9 false,.q (.int .i64) v4,.C 2,.q (.nm 14) v5,.C 8,.q (.nm 0) v6]
abbrev Aty:HT:=[.S 2 false,.k (.ptr 2 0),.S 5 false,.v .str,.S 6 false,.v .str,.S 8 false,.k (.ptr 8 0),.S 9 false,.v (.int .i64),.C 2,.s 14,.C 8,.s 0]
def Ac9:H Att->Option (B6×(List UInt8)×Int):=λ (v1,_)=>
 some ((⟨(⟨(0:Int),[],false⟩:A4),(⟨(0:Int),[],false⟩:A4)⟩:B6),([]:List UInt8),(2:Int))
def V8 (v3:(List UInt8)) (v4:Int) (v5:B6) (v6:Bd):H (Zj v3 v4 v5 v6)->Option (B6×(List UInt8)×Int):=λ _=>
 if !decide (v4=(0:Int))then
 some ((⟨(⟨(0:Int),[],false⟩:A4),(⟨(0:Int),[],false⟩:A4)⟩:B6),v3,v4)
 else
 Option.bind (A97 v6) λ y4=>
 some (y4,v3,(0:Int))
def Vo:H Aty->Option (B6×(List UInt8)×Int):=λ (v2,v3,v4,v5,v6,_)=>
 if !decide (v4=(0:Int))then
 need (Af (0:Int) v2.length)<|
 if decide (((List.getD v2 (0:Int).toNat 0).toNat:Int)=(45:Int))then
  some ((⟨(⟨(0:Int),[],false⟩:A4),(⟨(0:Int),[],false⟩:A4)⟩:B6),([]:List UInt8),(2:Int))
 else
  jp (Zj v3 v4 v5 v6)<|V8 v3 v4 v5 v6 ()
 else
 jp (Zj v3 v4 v5 v6)<|V8 v3 v4 v5 v6 ()
def Alk (a0:(List UInt8)):Option (B6×(List UInt8)×Int):=
 Option.bind (Pv a0 ([32]:List UInt8)) λ y1=>
 if !y1.2.2 then
 Option.bind (Aa4 (1:Int)) λ y2=>
 some (y2,a0,(0:Int))
 else
 Option.bind (Azk y1.1) λ y3=>
 if decide (y3.2=(2:Int))then
  Ac9 ((⟨(⟨(0:Int),[],false⟩:A4),(⟨(0:Int),[],false⟩:A4)⟩:B6),())
 else
  if decide (y3.2=(0:Int))then
   if decide (y3.1.N<(1:Int))then
    Ac9 ((⟨(⟨(0:Int),[],false⟩:A4),(⟨(0:Int),[],false⟩:A4)⟩:B6),())
   else
    Vo (y1.1,y1.2.1,y3.2,(⟨(⟨(0:Int),[],false⟩:A4),(⟨(0:Int),[],false⟩:A4)⟩:B6),y3.1,())
  else
   Vo (y1.1,y1.2.1,y3.2,(⟨(⟨(0:Int),[],false⟩:A4),(⟨(0:Int),[],false⟩:A4)⟩:B6),y3.1,())
def P4 (a0:Int):Option Bool:=
 if decide ((97:Int)<=a0)then
 if decide (a0<=(122:Int))then
  some true
 else
  if decide ((65:Int)<=a0)then
   some (decide (a0<=(90:Int)))
  else
   some false
 else
 if decide ((65:Int)<=a0)then
  some (decide (a0<=(90:Int)))
 else
  some false
abbrev Ap8:HT:=[]
abbrev Ve (a1:Int) (v1:(List (List UInt8))) (v2:Int) (v3:Int):HT:=[.S 1 false,.q (.int .i64) a1,.S 6 false,.k (.ar 75 0),.S 10 false,.k (.ptr 10 0),.S 13 false,.q (.sl .str) v1,.S 14 false,.q (.int .i64) v2,.S 15 false,.q (.int .i64) v3,.C 10,.s 15,.A 75 251 (.nm 15) 0 false]
abbrev Wp (a1:Int) (v1:(List (List UInt8))) (v2:Int) (v3:Int):HT:=[.S 1 false,.q (.int .i64) a1,.S 6 false,.k (.ar 75 0),.S 10 false,.k (.ptr 10 0),.S 11 false,.v .str,.S 13 false,.q (.sl .str) v1,.S 14 false,.q (.int .i64) v2,.S 15 false,.q (.int .i64) v3,.C 10,.s 15,.A 75 251 (.nm 15) 0 false]
abbrev Kz (a1:Int) (v1:(List (List UInt8))) (v2:Int) (v3:Int):HT:=[.S 1 false,.q (.int .i64) a1,.S 6 false,.k (.ar 75 0),.S 8 false,.q .str (List.getD v1 (v3).toNat ([]:(List UInt8))),.S 9 false,.v (.int .i64),.S 13 false,.q (.sl .str) v1,.S 14 false,.q (.int .i64) v2,.S 15 false,.q (.int .i64) v3,.A 75 251 (.nm 15) 0 false]
abbrev Im (a1:Int) (v1:(List (List UInt8))) (v2:Int) (v3:Int):HT:=[.S 1 false,.q (.int .i64) a1,.S 6 false,.k (.ar 75 0),.S 8 false,.q .str (List.getD v1 (v3).toNat ([]:(List UInt8))),.S 9 false,.v (.int .i64),.S 13 false,.q (.sl .str) v1,.S 14 false,.q (.int .i64) v2,.S 15 false,.q (.int .i64) v3,.A 75 251 (.nm 15) 0 false]
abbrev G0:HT:=[.S 6 false,.k (.ar 75 0),.A 75 251 (.nm 15) 0 false]
abbrev Ds (a1:Int):HT:=[.S 1 false,.q (.int .i64) a1,.S 6 false,.k (.ar 75 0),.S 13 false,.v (.sl .str),.S 14 false,.v (.int .i64),.S 15 false,.v (.int .i64),.A 75 251 (.nm 15) 0 false]
def N9 (a1:Int):H Ap8->Option ((H (Ds a1))⊕((H G0)⊕((List Bm)×Bool))):=λ _=>
 some (.inr (.inr ([],false)))
def Sk (a1:Int) (v1:(List (List UInt8))) (v2:Int) (v3:Int):H (Ve a1 v1 v2 v3)->Option ((H (Ds a1))⊕((H G0)⊕((List Bm)×Bool))):=λ (v12,v13,_)=>
 need ((v13.length+[v12].length)*24<=At)<|
 jp (Ds a1)<|some (.inl (v1,v2,IntKind.wrap .i64 (v3+(1:Int)),v13++[v12],()))
def Sy (a1:Int) (v1:(List (List UInt8))) (v2:Int) (v3:Int):H (Wp a1 v1 v2 v3)->Option ((H (Ds a1))⊕((H G0)⊕((List Bm)×Bool))):=λ (v9,v10,v11,_)=>
 if !decide ((v9.length:Int)=(1:Int))then
 N9 a1 ()
 else
 need (Af (0:Int) v9.length)<|
 if decide (((List.getD v9 (0:Int).toNat 0).toNat:Int)<(49:Int))then
  N9 a1 ()
 else
  need (Af (0:Int) v9.length)<|
  if decide ((57:Int)<((List.getD v9 (0:Int).toNat 0).toNat:Int))then
   N9 a1 ()
  else
   need (Af (0:Int) v9.length)<|
   jp (Ve a1 v1 v2 v3)<|Sk a1 v1 v2 v3 ((⟨v10.name,IntKind.wrap .i64 (v10.n*(IntKind.wrap .i64 (IntKind.wrap .u8 (((List.getD v9 (0:Int).toNat 0).toNat:Int) -(48:Int)))))⟩:Bm),v11,())
def Rj (a1:Int) (v1:(List (List UInt8))) (v2:Int) (v3:Int):H (Kz a1 v1 v2 v3)->Option ((H (Ds a1))⊕((H G0)⊕((List Bm)×Bool))):=λ (v7,v8,_)=>
 need ((0:Int)<=(0:Int))<|
 need ((0:Int)<=v7)<|
 need (v7<=((List.getD v1 (v3).toNat ([]:(List UInt8))).length:Int))<|
 need ((0:Int)<=v7)<|
 need (v7<=((List.getD v1 (v3).toNat ([]:(List UInt8))).length:Int))<|
 need (((List.getD v1 (v3).toNat ([]:(List UInt8))).length:Int)<=((List.getD v1 (v3).toNat ([]:(List UInt8))).length:Int))<|
 if decide (v7=(0:Int))then
 some (.inr (.inr ([],false)))
 else
 if !decide ((List.take (((List.getD v1 (v3).toNat ([]:(List UInt8))).length:Int).toNat-v7.toNat) (List.drop v7.toNat (List.getD v1 (v3).toNat ([]:(List UInt8)))))=([]:List UInt8))then
  need (Af (0:Int) (List.take (((List.getD v1 (v3).toNat ([]:(List UInt8))).length:Int).toNat-v7.toNat) (List.drop v7.toNat (List.getD v1 (v3).toNat ([]:(List UInt8))))).length)<|
  if decide (((List.getD (List.take (((List.getD v1 (v3).toNat ([]:(List UInt8))).length:Int).toNat-v7.toNat) (List.drop v7.toNat (List.getD v1 (v3).toNat ([]:(List UInt8))))) (0:Int).toNat 0).toNat:Int)=(45:Int))then
   need ((0:Int)<=(1:Int))<|
   need ((1:Int)<=((List.take (((List.getD v1 (v3).toNat ([]:(List UInt8))).length:Int).toNat-v7.toNat) (List.drop v7.toNat (List.getD v1 (v3).toNat ([]:(List UInt8))))).length:Int))<|
   need (((List.take (((List.getD v1 (v3).toNat ([]:(List UInt8))).length:Int).toNat-v7.toNat) (List.drop v7.toNat (List.getD v1 (v3).toNat ([]:(List UInt8))))).length:Int)<=((List.take (((List.getD v1 (v3).toNat ([]:(List UInt8))).length:Int).toNat-v7.toNat) (List.drop v7.toNat (List.getD v1 (v3).toNat ([]:(List UInt8))))).length:Int))<|
   jp (Wp a1 v1 v2 v3)<|Sy a1 v1 v2 v3 ((List.take (((List.take (((List.getD v1 (v3).toNat ([]:(List UInt8))).length:Int).toNat-v7.toNat) (List.drop v7.toNat (List.getD v1 (v3).toNat ([]:(List UInt8))))).length:Int).toNat-(1:Int).toNat) (List.drop (1:Int).toNat (List.take (((List.getD v1 (v3).toNat ([]:(List UInt8))).length:Int).toNat-v7.toNat) (List.drop v7.toNat (List.getD v1 (v3).toNat ([]:(List UInt8))))))),(⟨(List.take (v7.toNat-(0:Int).toNat) (List.drop (0:Int).toNat (List.getD v1 (v3).toNat ([]:(List UInt8))))),IntKind.wrap .i64 (0-a1)⟩:Bm),v8,())
  else
   jp (Wp a1 v1 v2 v3)<|Sy a1 v1 v2 v3 ((List.take (((List.getD v1 (v3).toNat ([]:(List UInt8))).length:Int).toNat-v7.toNat) (List.drop v7.toNat (List.getD v1 (v3).toNat ([]:(List UInt8))))),(⟨(List.take (v7.toNat-(0:Int).toNat) (List.drop (0:Int).toNat (List.getD v1 (v3).toNat ([]:(List UInt8))))),a1⟩:Bm),v8,())
 else
  jp (Ve a1 v1 v2 v3)<|Sk a1 v1 v2 v3 ((⟨(List.take (v7.toNat-(0:Int).toNat) (List.drop (0:Int).toNat (List.getD v1 (v3).toNat ([]:(List UInt8))))),a1⟩:Bm),v8,())
def Yo (a1:Int) (v1:(List (List UInt8))) (v2:Int) (v3:Int):H (Im a1 v1 v2 v3)->Option ((H (Im a1 v1 v2 v3))⊕(H (Kz a1 v1 v2 v3))):=λ (v5,v6,_)=>
 if decide (v5<((List.getD v1 (v3).toNat ([]:(List UInt8))).length:Int))then
 need (Af v5 (List.getD v1 (v3).toNat ([]:(List UInt8))).length)<|
 Option.bind (P4 ((List.getD (List.getD v1 (v3).toNat ([]:(List UInt8))) v5.toNat 0).toNat:Int)) λ y2=>
 if y2 then
  jp (Im a1 v1 v2 v3)<|some (.inl (IntKind.wrap .i64 (v5+(1:Int)),v6,()))
 else
  jp (Kz a1 v1 v2 v3)<|some (.inr (v5,v6,()))
 else
 jp (Kz a1 v1 v2 v3)<|some (.inr (v5,v6,()))
def H8:H G0->Option ((List Bm)×Bool):=λ (v14,_)=>
 some (v14,true)
def Y4 (a1:Int):H (Ds a1)->Option ((H (Ds a1))⊕((H G0)⊕((List Bm)×Bool))):=λ (v1,v2,v3,v4,_)=>
 if decide (v3<v2)then
 need (Af v3 v1.length)<|
 jp (Im a1 v1 v2 v3)<|Option.bind (iter (Yo a1 v1 v2 v3) ((0:Int),v4,())) (Rj a1 v1 v2 v3)
 else
 some (.inr (.inl (v4,())))
def Z2 (a0:(List UInt8)) (a1:Int):Option ((List Bm)×Bool):=
 Option.bind (Mr a0 ([46]:List UInt8)) λ y1=>
 jp (Ds a1)<|Option.bind (iter (Y4 a1) (y1,(y1.length:Int),(0:Int),([]:List Bm),())) (Sum.elim H8 (λ y=>some y))
def Bfv (a0:A7):Option Bu:=
 Option.bind (A97 a0.F) λ y1=>
 some (⟨a0.E,y1⟩:Bu)
def As1 (a0:Int) (a1:Int):Option B6:=
 Option.bind (Ajc a0) λ y1=>
 Option.bind (Ajc a1) λ y2=>
 Option.bind (Od y1 y2) λ y3=>
 some y3
def Am5 (a0:Int):Option (B6×Bool):=
 if decide (a0=(110:Int))then
 Option.bind (As1 (1:Int) (1000000000:Int)) λ y1=>
 some (y1,true)
 else
 if decide (a0=(117:Int))then
  Option.bind (As1 (1:Int) (1000000:Int)) λ y2=>
  some (y2,true)
 else
  if decide (a0=(109:Int))then
   Option.bind (As1 (1:Int) (1000:Int)) λ y3=>
   some (y3,true)
  else
   if decide (a0=(107:Int))then
    Option.bind (Aa4 (1000:Int)) λ y4=>
    some (y4,true)
   else
    if decide (a0=(77:Int))then
     Option.bind (Aa4 (1000000:Int)) λ y5=>
     some (y5,true)
    else
     if decide (a0=(71:Int))then
      Option.bind (Aa4 (1000000000:Int)) λ y6=>
      some (y6,true)
     else
      some ((⟨(⟨(0:Int),[],false⟩:A4),(⟨(0:Int),[],false⟩:A4)⟩:B6),false)
def Asg (a0:A4) (a1:A4):Option A4:=
 Option.bind (Yk a1) λ y1=>
 Option.bind (Alw a0 y1) λ y2=>
 some y2
def Ad8 (a0:A4) (a1:A4):Option Int:=
 Option.bind (Asg a0 a1) λ y1=>
 Option.bind (Rs y1) λ y2=>
 some y2
def Asf (a0:A4) (a1:A4):Option Int:=
 if List.isEmpty a0.m then
  if List.isEmpty a1.m then
   if decide (a0.v<a1.v)then
    some (-1:Int)
   else
    if decide (a1.v<a0.v)then
     some (1:Int)
    else
     some (0:Int)
  else
   Ad8 a0 a1
 else
  Ad8 a0 a1
def X3 (a0:B6):Option Bool:=
 Option.bind (Ajc (1:Int)) λ y1=>
 Option.bind (Asf a0.D y1) λ y2=>
 some (decide (y2=(0:Int)))
def Asj (a0:B6) (a1:B6):Option B6:=
 Option.bind (W5 a0.N a1.N) λ y4=>
 Option.bind (W5 a0.D a1.D) λ y5=>
 Option.bind (Od y4 y5) λ y6=>
 some y6
def Ado (a0:B6) (a1:B6):Option B6:=
 Option.bind (X3 a0) λ y1=>
 if y1 then
  Option.bind (X3 a1) λ y2=>
  if y2 then
   Option.bind (W5 a0.N a1.N) λ y3=>
   some (⟨y3,a0.D⟩:B6)
  else
   Asj a0 a1
 else
  Asj a0 a1
def Ajr:Option (List ((List UInt8)×A7)):=
 Option.bind (Br (1:Int) (1:Int) [(1:Int)]) λ y1=>
 Option.bind (Br (1:Int) (1:Int) [(0:Int),(1:Int)]) λ y2=>
 Option.bind (Br (1:Int) (1:Int) [(0:Int),(0:Int),(1:Int)]) λ y3=>
 Option.bind (Br (1:Int) (1:Int) [(0:Int),(0:Int),(0:Int),(1:Int)]) λ y4=>
 Option.bind (Br (1:Int) (1:Int) [(0:Int),(0:Int),(0:Int),(0:Int),(1:Int)]) λ y5=>
 Option.bind (Br (1:Int) (1:Int) [(0:Int),(0:Int),(0:Int),(0:Int),(0:Int),(1:Int)]) λ y6=>
 Option.bind (Br (1:Int) (1:Int) [(0:Int),(0:Int),(0:Int),(0:Int),(0:Int),(0:Int),(1:Int)]) λ y7=>
 Option.bind (Br (1:Int) (1000:Int) [(0:Int),(1:Int)]) λ y8=>
 Option.bind (Br (1:Int) (1:Int) [(0:Int),(0:Int),(-1:Int)]) λ y9=>
 Option.bind (Br (1:Int) (1:Int) [(1:Int),(1:Int),(-2:Int)]) λ y10=>
 Option.bind (Br (1:Int) (1:Int) [(-1:Int),(1:Int),(-2:Int)]) λ y11=>
 Option.bind (Br (1:Int) (1:Int) [(2:Int),(1:Int),(-2:Int)]) λ y12=>
 Option.bind (Br (1:Int) (1:Int) [(2:Int),(1:Int),(-3:Int)]) λ y13=>
 Option.bind (Br (1:Int) (1:Int) [(0:Int),(0:Int),(1:Int),(1:Int)]) λ y14=>
 Option.bind (Br (1:Int) (1:Int) [(2:Int),(1:Int),(-3:Int),(-1:Int)]) λ y15=>
 Option.bind (Br (1:Int) (1:Int) [(2:Int),(1:Int),(-3:Int),(-2:Int)]) λ y16=>
 Option.bind (Br (1:Int) (1:Int) [(-2:Int),(-1:Int),(3:Int),(2:Int)]) λ y17=>
 Option.bind (Br (1:Int) (1:Int) [(-2:Int),(-1:Int),(4:Int),(2:Int)]) λ y18=>
 Option.bind (Br (1:Int) (1:Int) [(2:Int),(1:Int),(-2:Int),(-1:Int)]) λ y19=>
 Option.bind (Br (1:Int) (1:Int) [(2:Int),(1:Int),(-2:Int),(-2:Int)]) λ y20=>
 Option.bind (Br (60:Int) (1:Int) [(0:Int),(0:Int),(1:Int)]) λ y21=>
 Option.bind (Br (3600:Int) (1:Int) [(0:Int),(0:Int),(1:Int)]) λ y22=>
 Option.bind (Br (1:Int) (1000:Int) [(3:Int)]) λ y23=>
 Option.bind (Br (100000:Int) (1:Int) [(-1:Int),(1:Int),(-2:Int)]) λ y24=>
 Option.bind (Br (1:Int) (1:Int) []) λ y25=>
 some (Hc kqS ([114,97,100]:List UInt8) y25 (Hc kqS ([98,97,114]:List UInt8) y24 (Hc kqS ([76]:List UInt8) y23 (Hc kqS ([104]:List UInt8) y22 (Hc kqS ([109,105,110]:List UInt8) y21 (Hc kqS ([72]:List UInt8) y20 (Hc kqS ([87,98]:List UInt8) y19 (Hc kqS ([70]:List UInt8) y18 (Hc kqS ([83]:List UInt8) y17 (Hc kqS ([79,104,109]:List UInt8) y16 (Hc kqS ([86]:List UInt8) y15 (Hc kqS ([67]:List UInt8) y14 (Hc kqS ([87]:List UInt8) y13 (Hc kqS ([74]:List UInt8) y12 (Hc kqS ([80,97]:List UInt8) y11 (Hc kqS ([78]:List UInt8) y10 (Hc kqS ([72,122]:List UInt8) y9 (Hc kqS ([103]:List UInt8) y8 (Hc kqS ([99,100]:List UInt8) y7 (Hc kqS ([109,111,108]:List UInt8) y6 (Hc kqS ([75]:List UInt8) y5 (Hc kqS ([65]:List UInt8) y4 (Hc kqS ([115]:List UInt8) y3 (Hc kqS ([107,103]:List UInt8) y2 (Hc kqS ([109]:List UInt8) y1 ([]:(List ((List UInt8)×A7))))))))))))))))))))))))))))
abbrev Ayh:HT:=[.S 2 false,.k (.ptr 2 0),.C 2,.s 16]
def Li:H Ayh->Option (Bu×Bool):=λ (v1,_)=>
 some ((⟨(⟨(0:Int),(0:Int),(0:Int),(0:Int),(0:Int),(0:Int),(0:Int)⟩:E5),(⟨(⟨(0:Int),[],false⟩:A4),(⟨(0:Int),[],false⟩:A4)⟩:B6)⟩:Bu),false)
def Ar8 (a0:(List UInt8)):Option (Bu×Bool):=
 Option.bind (Ajr) λ y1=>
 if Option.isSome (Kh kqS a0 y1)then
 Option.bind (Bfv (⟨((Option.getD (Kh kqS a0 y1) (Af5)).E),((Option.getD (Kh kqS a0 y1) (Af5)).F)⟩:A7)) λ y2=>
 some (y2,true)
 else
 if decide ((a0.length:Int)<(2:Int))then
  some ((⟨(⟨(0:Int),(0:Int),(0:Int),(0:Int),(0:Int),(0:Int),(0:Int)⟩:E5),(⟨(⟨(0:Int),[],false⟩:A4),(⟨(0:Int),[],false⟩:A4)⟩:B6)⟩:Bu),false)
 else
  need (Af (0:Int) a0.length)<|
  Option.bind (Am5 ((List.getD a0 (0:Int).toNat 0).toNat:Int)) λ y3=>
  need ((0:Int)<=(1:Int))<|
  need ((1:Int)<=(a0.length:Int))<|
  need ((a0.length:Int)<=(a0.length:Int))<|
  if !y3.2 then
   Li ((⟨(⟨(0:Int),(0:Int),(0:Int),(0:Int),(0:Int),(0:Int),(0:Int)⟩:E5),(⟨(⟨(0:Int),[],false⟩:A4),(⟨(0:Int),[],false⟩:A4)⟩:B6)⟩:Bu),())
  else
   if !(Option.isSome (Kh kqS (List.take ((a0.length:Int).toNat-(1:Int).toNat) (List.drop (1:Int).toNat a0)) y1))then
    Li ((⟨(⟨(0:Int),(0:Int),(0:Int),(0:Int),(0:Int),(0:Int),(0:Int)⟩:E5),(⟨(⟨(0:Int),[],false⟩:A4),(⟨(0:Int),[],false⟩:A4)⟩:B6)⟩:Bu),())
   else
    need ((0:Int)<=(1:Int))<|
    need ((1:Int)<=(a0.length:Int))<|
    need ((a0.length:Int)<=(a0.length:Int))<|
    if decide ((List.take ((a0.length:Int).toNat-(1:Int).toNat) (List.drop (1:Int).toNat a0))=([107,103]:List UInt8))then
     Li ((⟨(⟨(0:Int),(0:Int),(0:Int),(0:Int),(0:Int),(0:Int),(0:Int)⟩:E5),(⟨(⟨(0:Int),[],false⟩:A4),(⟨(0:Int),[],false⟩:A4)⟩:B6)⟩:Bu),())
    else
     need ((0:Int)<=(1:Int))<|
     need ((1:Int)<=(a0.length:Int))<|
     need ((a0.length:Int)<=(a0.length:Int))<|
     if decide ((List.take ((a0.length:Int).toNat-(1:Int).toNat) (List.drop (1:Int).toNat a0))=([109,105,110]:List UInt8))then
      Li ((⟨(⟨(0:Int),(0:Int),(0:Int),(0:Int),(0:Int),(0:Int),(0:Int)⟩:E5),(⟨(⟨(0:Int),[],false⟩:A4),(⟨(0:Int),[],false⟩:A4)⟩:B6)⟩:Bu),())
     else
      need ((0:Int)<=(1:Int))<|
      need ((1:Int)<=(a0.length:Int))<|
      need ((a0.length:Int)<=(a0.length:Int))<|
      if decide ((List.take ((a0.length:Int).toNat-(1:Int).toNat) (List.drop (1:Int).toNat a0))=([104]:List UInt8))then
       Li ((⟨(⟨(0:Int),(0:Int),(0:Int),(0:Int),(0:Int),(0:Int),(0:Int)⟩:E5),(⟨(⟨(0:Int),[],false⟩:A4),(⟨(0:Int),[],false⟩:A4)⟩:B6)⟩:Bu),())
      else
       need ((0:Int)<=(1:Int))<|
       need ((1:Int)<=(a0.length:Int))<|
       need ((a0.length:Int)<=(a0.length:Int))<|
       if decide ((List.take ((a0.length:Int).toNat-(1:Int).toNat) (List.drop (1:Int).toNat a0))=([114,97,100]:List UInt8))then
        Li ((⟨(⟨(0:Int),(0:Int),(0:Int),(0:Int),(0:Int),(0:Int),(0:Int)⟩:E5),(⟨(⟨(0:Int),[],false⟩:A4),(⟨(0:Int),[],false⟩:A4)⟩:B6)⟩:Bu),())
       else
        Option.bind (Bfv (⟨((Option.getD (Kh kqS (List.take ((a0.length:Int).toNat-(1:Int).toNat) (List.drop (1:Int).toNat a0)) y1) (Af5)).E),((Option.getD (Kh kqS (List.take ((a0.length:Int).toNat-(1:Int).toNat) (List.drop (1:Int).toNat a0)) y1) (Af5)).F)⟩:A7)) λ y4=>
        Option.bind (Ado y4.f y3.1) λ y5=>
        some ((⟨y4.e,y5⟩:Bu),true)
abbrev K8:=B6->Int->Option B6
abbrev Aib:HT:=[.S 4 false,.k (.ptr 4 0),.S 5 false,.k (.ptr 5 0),.C 4,.s 14,.C 5,.s 14]
abbrev Pa (a0:B6) (a1:Int):HT:=[.S 2 false,.k (.ptr 2 0),.S 4 false,.k (.ptr 4 0),.S 5 false,.k (.ptr 5 0),.S 17 false,.q (.int .i64) a1,.S 18 false,.v (.int .i64),.C 2,.q (.nm 14) a0,.C 4,.s 14,.C 5,.s 14]
def Ama (R:K8):H Aib->Option B6:=λ (v4,v5,_)=>
 some v5
def Alg (R:K8) (a0:B6) (a1:Int):H (Pa a0 a1)->Option ((H (Pa a0 a1))⊕(H Aib)):=λ (v1,v2,v3,_)=>
 if decide (v1<a1)then
 Option.bind (Ado v3 a0) λ y4=>
 jp (Pa a0 a1)<|some (.inl (IntKind.wrap .i64 (v1+(1:Int)),v2,y4,()))
 else
 some (.inr (v2,v3,()))
def Awy (R:K8) (a0:B6) (a1:Int):Option B6:=
 if decide (a1<(0:Int))then
 Option.bind (Od a0.D a0.N) λ y1=>
 Option.bind (R y1 (IntKind.wrap .i64 (0-a1))) λ y2=>
 some y2
 else
 Option.bind (Aa4 (1:Int)) λ y3=>
 jp (Pa a0 a1)<|Option.bind (iter (Alg R a0 a1) ((0:Int),(⟨(⟨(0:Int),[],false⟩:A4),(⟨(0:Int),[],false⟩:A4)⟩:B6),y3,())) (Ama R)
def Aem:Nat->K8
 |0=>λ _ _=>none
 |k+1=>Awy (Aem k)
def A8p:K8:=Aem 3
def Abv (a0:Bu) (a1:Bu) (a2:Int):Option Bu:=
 Option.bind (A8p a1.f a2) λ y1=>
 Option.bind (Ado a0.f y1) λ y2=>
 some (⟨(⟨IntKind.wrap .i64 (a0.e.e0+(IntKind.wrap .i64 (a2*a1.e.e0))),IntKind.wrap .i64 (a0.e.e1+(IntKind.wrap .i64 (a2*a1.e.e1))),IntKind.wrap .i64 (a0.e.e2+(IntKind.wrap .i64 (a2*a1.e.e2))),IntKind.wrap .i64 (a0.e.e3+(IntKind.wrap .i64 (a2*a1.e.e3))),IntKind.wrap .i64 (a0.e.e4+(IntKind.wrap .i64 (a2*a1.e.e4))),IntKind.wrap .i64 (a0.e.e5+(IntKind.wrap .i64 (a2*a1.e.e5))),IntKind.wrap .i64 (a0.e.e6+(IntKind.wrap .i64 (a2*a1.e.e6)))⟩:E5),y2⟩:Bu)
abbrev Rw (a0:Bu) (v2:A7) (v3:Bd):HT:=[.S 1 false,.k (.ptr 1 0),.S 2 false,.k (.ptr 2 0),.S 4 false,.k (.ptr 4 0),.S 5 false,.v .bool,.S 15 true,.q (.int .i64) a0.e.e0,.q (.int .i64) a0.e.e1,.q (.int .i64) a0.e.e2,.q (.int .i64) a0.e.e3,.q (.int .i64) a0.e.e4,.q (.int .i64) a0.e.e5,.q (.int .i64) a0.e.e6,.S 16 false,.k (.int .i64 (6:Int)),.C 1,.q (.nm 16) a0,.C 2,.q (.nm 12) v2,.C 4,.q (.nm 0) v3]
abbrev R5 (a0:Bu) (v2:A7) (v3:Bd):HT:=[.S 1 false,.k (.ptr 1 0),.S 2 false,.k (.ptr 2 0),.S 4 false,.k (.ptr 4 0),.S 5 false,.v .bool,.S 15 true,.q (.int .i64) a0.e.e0,.q (.int .i64) a0.e.e1,.q (.int .i64) a0.e.e2,.q (.int .i64) a0.e.e3,.q (.int .i64) a0.e.e4,.q (.int .i64) a0.e.e5,.q (.int .i64) a0.e.e6,.S 16 false,.k (.int .i64 (5:Int)),.C 1,.q (.nm 16) a0,.C 2,.q (.nm 12) v2,.C 4,.q (.nm 0) v3]
abbrev Ry (a0:Bu) (v2:A7) (v3:Bd):HT:=[.S 1 false,.k (.ptr 1 0),.S 2 false,.k (.ptr 2 0),.S 4 false,.k (.ptr 4 0),.S 5 false,.v .bool,.S 15 true,.q (.int .i64) a0.e.e0,.q (.int .i64) a0.e.e1,.q (.int .i64) a0.e.e2,.q (.int .i64) a0.e.e3,.q (.int .i64) a0.e.e4,.q (.int .i64) a0.e.e5,.q (.int .i64) a0.e.e6,.S 16 false,.k (.int .i64 (4:Int)),.C 1,.q (.nm 16) a0,.C 2,.q (.nm 12) v2,.C 4,.q (.nm 0) v3]
abbrev Rx (a0:Bu) (v2:A7) (v3:Bd):HT:=[.S 1 false,.k (.ptr 1 0),.S 2 false,.k (.ptr 2 0),.S 4 false,.k (.ptr 4 0),.S 5 false,.v .bool,.S 15 true,.q (.int .i64) a0.e.e0,.q (.int .i64) a0.e.e1,.q (.int .i64) a0.e.e2,.q (.int .i64) a0.e.e3,.q (.int .i64) a0.e.e4,.q (.int .i64) a0.e.e5,.q (.int .i64) a0.e.e6,.S 16 false,.k (.int .i64 (3:Int)),.C 1,.q (.nm 16) a0,.C 2,.q (.nm 12) v2,.C 4,.q (.nm 0) v3]
abbrev Sv (a0:Bu) (v2:A7) (v3:Bd):HT:=[.S 1 false,.k (.ptr 1 0),.S 2 false,.k (.ptr 2 0),.S 4 false,.k (.ptr 4 0),.S 5 false,.v .bool,.S 15 true,.q (.int .i64) a0.e.e0,.q (.int .i64) a0.e.e1,.q (.int .i64) a0.e.e2,.q (.int .i64) a0.e.e3,.q (.int .i64) a0.e.e4,.q (.int .i64) a0.e.e5,.q (.int .i64) a0.e.e6,.S 16 false,.k (.int .i64 (2:Int)),.C 1,.q (.nm 16) a0,.C 2,.q (.nm 12) v2,.C 4,.q (.nm 0) v3]
abbrev Rk (a0:Bu) (v2:A7) (v3:Bd):HT:=[.S 1 false,.k (.ptr 1 0),.S 2 false,.k (.ptr 2 0),.S 4 false,.k (.ptr 4 0),.S 5 false,.v .bool,.S 15 true,.q (.int .i64) a0.e.e0,.q (.int .i64) a0.e.e1,.q (.int .i64) a0.e.e2,.q (.int .i64) a0.e.e3,.q (.int .i64) a0.e.e4,.q (.int .i64) a0.e.e5,.q (.int .i64) a0.e.e6,.S 16 false,.k (.int .i64 (1:Int)),.C 1,.q (.nm 16) a0,.C 2,.q (.nm 12) v2,.C 4,.q (.nm 0) v3]
abbrev R6 (a0:Bu):HT:=[.S 1 false,.k (.ptr 1 0),.S 2 false,.k (.ptr 2 0),.S 4 false,.k (.ptr 4 0),.S 5 false,.v .bool,.S 15 true,.q (.int .i64) a0.e.e0,.q (.int .i64) a0.e.e1,.q (.int .i64) a0.e.e2,.q (.int .i64) a0.e.e3,.q (.int .i64) a0.e.e4,.q (.int .i64) a0.e.e5,.q (.int .i64) a0.e.e6,.S 16 false,.k (.int .i64 (0:Int)),.C 1,.q (.nm 16) a0,.C 2,.s 12,.C 4,.s 0]
def Va (a0:Bu) (v2:A7) (v3:Bd):H (Rw a0 v2 v3)->Option (A7×Int):=λ (v9,_)=>
 if !v9 then
 some ((⟨(⟨(0:Int),(0:Int),(0:Int),(0:Int),(0:Int),(0:Int),(0:Int)⟩:E5),(⟨(0:Int),(0:Int)⟩:Bd)⟩:A7),(3:Int))
 else
 some ((⟨a0.e,v3⟩:A7),(0:Int))
def W8 (a0:Bu) (v2:A7) (v3:Bd):H (R5 a0 v2 v3)->Option (A7×Int):=λ (v8,_)=>
 if v8 then
 if decide ((-9:Int)<=a0.e.e6)then
  jp (Rw a0 v2 v3)<|Va a0 v2 v3 (decide (a0.e.e6<=(9:Int)),())
 else
  jp (Rw a0 v2 v3)<|Va a0 v2 v3 (false,())
 else
 jp (Rw a0 v2 v3)<|Va a0 v2 v3 (false,())
def Wa (a0:Bu) (v2:A7) (v3:Bd):H (Ry a0 v2 v3)->Option (A7×Int):=λ (v7,_)=>
 if v7 then
 if decide ((-9:Int)<=a0.e.e5)then
  jp (R5 a0 v2 v3)<|W8 a0 v2 v3 (decide (a0.e.e5<=(9:Int)),())
 else
  jp (R5 a0 v2 v3)<|W8 a0 v2 v3 (false,())
 else
 jp (R5 a0 v2 v3)<|W8 a0 v2 v3 (false,())
def Wx (a0:Bu) (v2:A7) (v3:Bd):H (Rx a0 v2 v3)->Option (A7×Int):=λ (v6,_)=>
 if v6 then
 if decide ((-9:Int)<=a0.e.e4)then
  jp (Ry a0 v2 v3)<|Wa a0 v2 v3 (decide (a0.e.e4<=(9:Int)),())
 else
  jp (Ry a0 v2 v3)<|Wa a0 v2 v3 (false,())
 else
 jp (Ry a0 v2 v3)<|Wa a0 v2 v3 (false,())
def Vw (a0:Bu) (v2:A7) (v3:Bd):H (Sv a0 v2 v3)->Option (A7×Int):=λ (v5,_)=>
 if v5 then
 if decide ((-9:Int)<=a0.e.e3)then
  jp (Rx a0 v2 v3)<|Wx a0 v2 v3 (decide (a0.e.e3<=(9:Int)),())
 else
  jp (Rx a0 v2 v3)<|Wx a0 v2 v3 (false,())
 else
 jp (Rx a0 v2 v3)<|Wx a0 v2 v3 (false,())
def Vy (a0:Bu) (v2:A7) (v3:Bd):H (Rk a0 v2 v3)->Option (A7×Int):=λ (v4,_)=>
 if v4 then
 if decide ((-9:Int)<=a0.e.e2)then
  jp (Sv a0 v2 v3)<|Vw a0 v2 v3 (decide (a0.e.e2<=(9:Int)),())
 else
  jp (Sv a0 v2 v3)<|Vw a0 v2 v3 (false,())
 else
 jp (Sv a0 v2 v3)<|Vw a0 v2 v3 (false,())
def U4 (a0:Bu):H (R6 a0)->Option (A7×Int):=λ (v1,v2,v3,_)=>
 if v1 then
 if decide ((-9:Int)<=a0.e.e1)then
  jp (Rk a0 v2 v3)<|Vy a0 v2 v3 (decide (a0.e.e1<=(9:Int)),())
 else
  jp (Rk a0 v2 v3)<|Vy a0 v2 v3 (false,())
 else
 jp (Rk a0 v2 v3)<|Vy a0 v2 v3 (false,())
def Am2 (a0:Bu):Option (A7×Int):=
 Option.bind (Amp a0.f) λ y1=>
 if y1.2 then
 if decide ((-9:Int)<=a0.e.e0)then
  jp (R6 a0)<|U4 a0 (decide (a0.e.e0<=(9:Int)),(⟨(⟨(0:Int),(0:Int),(0:Int),(0:Int),(0:Int),(0:Int),(0:Int)⟩:E5),(⟨(0:Int),(0:Int)⟩:Bd)⟩:A7),y1.1,())
 else
  jp (R6 a0)<|U4 a0 (false,(⟨(⟨(0:Int),(0:Int),(0:Int),(0:Int),(0:Int),(0:Int),(0:Int)⟩:E5),(⟨(0:Int),(0:Int)⟩:Bd)⟩:A7),y1.1,())
 else
 jp (R6 a0)<|U4 a0 (false,(⟨(⟨(0:Int),(0:Int),(0:Int),(0:Int),(0:Int),(0:Int),(0:Int)⟩:E5),(⟨(0:Int),(0:Int)⟩:Bd)⟩:A7),y1.1,())
abbrev Ac5 (v1:Int) (v4:A7) (v7:(List Bm)) (v8:Int):HT:=[.S 2 false,.k (.ptr 2 0),.S 6 false,.q (.int .i64) v1,.S 15 false,.k (.ptr 15 0),.S 65 false,.k (.ar 44 0),.S 66 false,.q (.int .i64) (v7.length:Int),.S 67 false,.q (.int .i64) v8,.C 2,.q (.nm 12) v4,.C 15,.s 16,.A 44 251 (.nm 15) 0 false]
abbrev Qt (v1:Int) (v4:A7):HT:=[.S 2 false,.k (.ptr 2 0),.S 6 false,.q (.int .i64) v1,.S 15 false,.k (.ptr 15 0),.C 2,.q (.nm 12) v4,.C 15,.s 16]
abbrev Jq (v1:Int) (v4:A7) (v7:(List Bm)):HT:=[.S 2 false,.k (.ptr 2 0),.S 6 false,.q (.int .i64) v1,.S 15 false,.k (.ptr 15 0),.S 65 false,.k (.ar 44 0),.S 66 false,.q (.int .i64) (v7.length:Int),.S 67 false,.v (.int .i64),.C 2,.q (.nm 12) v4,.C 15,.s 16,.A 44 251 (.nm 15) 0 false]
abbrev Ac7 (v1:Int) (v4:A7) (v5:B6):HT:=[.S 2 false,.k (.ptr 2 0),.S 4 false,.k (.ptr 4 0),.S 6 false,.q (.int .i64) v1,.S 7 false,.k (.ar 44 0),.C 2,.q (.nm 12) v4,.C 4,.q (.nm 14) v5,.A 44 251 (.nm 15) 0 false]
abbrev Ayv:HT:=[.S 2 false,.k (.ptr 2 0),.S 4 false,.k (.ptr 4 0),.S 6 false,.v (.int .i64),.S 7 false,.k (.ar 44 0),.S 9 false,.v .str,.S 10 false,.v .bool,.C 2,.s 12,.C 4,.s 14,.A 44 251 (.nm 15) 0 false]
def Ah3 (v1:Int) (v4:A7) (v7:(List Bm)) (v8:Int):H (Ac5 v1 v4 v7 v8)->Option ((H (Jq v1 v4 v7))⊕((H (Qt v1 v4))⊕(A7×Int))):=λ (v11,v12,_)=>
 jp (Jq v1 v4 v7)<|some (.inl (IntKind.wrap .i64 (v8+(1:Int)),v11,v12,()))
def Ahm (v1:Int) (v4:A7):H (Qt v1 v4)->Option (A7×Int):=λ (v13,_)=>
 if !decide (v1=(0:Int))then
 some ((⟨(⟨(0:Int),(0:Int),(0:Int),(0:Int),(0:Int),(0:Int),(0:Int)⟩:E5),(⟨(0:Int),(0:Int)⟩:Bd)⟩:A7),v1)
 else
 Option.bind (Am2 v13) λ y7=>
 some (y7.1,y7.2)
def Aij (v1:Int) (v4:A7) (v7:(List Bm)):H (Jq v1 v4 v7)->Option ((H (Jq v1 v4 v7))⊕((H (Qt v1 v4))⊕(A7×Int))):=λ (v8,v9,v10,_)=>
 if decide (v8<(v7.length:Int))then
 need (Af v8 v10.length)<|
 Option.bind (Ar8 ((List.getD v10 v8.toNat (Ahu)).name)) λ y5=>
 if !y5.2 then
  some (.inr (.inr ((⟨(⟨(0:Int),(0:Int),(0:Int),(0:Int),(0:Int),(0:Int),(0:Int)⟩:E5),(⟨(0:Int),(0:Int)⟩:Bd)⟩:A7),(4:Int))))
 else
  if decide (v1=(0:Int))then
   Option.bind (Abv v9 y5.1 ((List.getD v10 v8.toNat (Ahu)).n)) λ y6=>
   jp (Ac5 v1 v4 v7 v8)<|Ah3 v1 v4 v7 v8 (y6,v10,())
  else
   jp (Ac5 v1 v4 v7 v8)<|Ah3 v1 v4 v7 v8 (v9,v10,())
 else
 jp (Qt v1 v4)<|some (.inr (.inl (v9,())))
def Z6 (v1:Int) (v4:A7) (v5:B6):H (Ac7 v1 v4 v5)->Option (A7×Int):=λ (v7,_)=>
 jp (Jq v1 v4 v7)<|Option.bind (iter (Aij v1 v4 v7) ((0:Int),(⟨(⟨(0:Int),(0:Int),(0:Int),(0:Int),(0:Int),(0:Int),(0:Int)⟩:E5),v5⟩:Bu),v7,())) (Sum.elim (Ahm v1 v4) (λ y=>some y))
def Z0:H Ayv->Option (A7×Int):=λ (v1,v2,v3,v4,v5,v6,_)=>
 if v3 then
 Option.bind (Z2 v2 (-1:Int)) λ y4=>
 if !y4.2 then
  some ((⟨(⟨(0:Int),(0:Int),(0:Int),(0:Int),(0:Int),(0:Int),(0:Int)⟩:E5),(⟨(0:Int),(0:Int)⟩:Bd)⟩:A7),(2:Int))
 else
  need ((v6.length+y4.1.length)*24<=At)<|
  jp (Ac7 v1 v4 v5)<|Z6 v1 v4 v5 (v6++y4.1,())
 else
 jp (Ac7 v1 v4 v5)<|Z6 v1 v4 v5 (v6,())
def Aeh (a0:(List UInt8)):Option (A7×Int):=
 if decide ((600:Int)<(a0.length:Int))then
 some ((⟨(⟨(0:Int),(0:Int),(0:Int),(0:Int),(0:Int),(0:Int),(0:Int)⟩:E5),(⟨(0:Int),(0:Int)⟩:Bd)⟩:A7),(3:Int))
 else
 Option.bind (Alk a0) λ y1=>
 if decide (y1.2.2=(2:Int))then
  some ((⟨(⟨(0:Int),(0:Int),(0:Int),(0:Int),(0:Int),(0:Int),(0:Int)⟩:E5),(⟨(0:Int),(0:Int)⟩:Bd)⟩:A7),y1.2.2)
 else
  Option.bind (Pv y1.2.1 ([47]:List UInt8)) λ y2=>
  if !decide (y2.1=([49]:List UInt8))then
   Option.bind (Z2 y2.1 (1:Int)) λ y3=>
   if !y3.2 then
    some ((⟨(⟨(0:Int),(0:Int),(0:Int),(0:Int),(0:Int),(0:Int),(0:Int)⟩:E5),(⟨(0:Int),(0:Int)⟩:Bd)⟩:A7),(2:Int))
   else
    Z0 (y1.2.2,y2.2.1,y2.2.2,(⟨(⟨(0:Int),(0:Int),(0:Int),(0:Int),(0:Int),(0:Int),(0:Int)⟩:E5),(⟨(0:Int),(0:Int)⟩:Bd)⟩:A7),y1.1,y3.1,())
  else
   Z0 (y1.2.2,y2.2.1,y2.2.2,(⟨(⟨(0:Int),(0:Int),(0:Int),(0:Int),(0:Int),(0:Int),(0:Int)⟩:E5),(⟨(0:Int),(0:Int)⟩:Bd)⟩:A7),y1.1,([]:List Bm),())
abbrev Aqq:HT:=[]
abbrev Vf (a0:Ax):HT:=[.S 1 false,.k (.ptr 1 0),.S 3 false,.q .bool (decide (a0.Type_=([82,101,97,108]:List UInt8))),.C 1,.q (.nm 4) (B1 a0)]
abbrev W9 (a0:Ax):HT:=[.S 1 false,.k (.ptr 1 0),.S 3 false,.q .bool (decide (a0.Type_=([82,101,97,108]:List UInt8))),.C 1,.q (.nm 4) (B1 a0)]
def B8:H Aqq->Option Bool:=λ _=>
 some false
def Sb (a0:Ax):H (Vf a0)->Option Bool:=λ _=>
 if decide (a0.Type_=([82,101,97,108]:List UInt8))then
 if !a0.Replace then
  some (decide ((a0.Mods.length:Int)=(0:Int)))
 else
  some false
 else
 if !a0.Flow then
  if decide (a0.Unit=([]:List UInt8))then
   if decide (a0.Var=(0:Int))then
    Option.bind (H7 (Ap a0.Value)) λ y6=>
    some y6
   else
    some false
  else
   some false
 else
  some false
def R9 (a0:Ax):H (W9 a0)->Option Bool:=λ _=>
 if !decide (a0.Unit=([]:List UInt8))then
 Option.bind (Aeh a0.Unit) λ y5=>
 if !decide (y5.2=(0:Int))then
  some false
 else
  jp (Vf a0)<|Sb a0 ()
 else
 jp (Vf a0)<|Sb a0 ()
def Us (a0:Ax):Option Bool:=
 Option.bind (E2 a0.Name) λ y1=>
 if !y1 then
 B8 ()
 else
 if !(decide (a0.Type_=([82,101,97,108]:List UInt8)))then
  Option.bind (Hz a0.Type_) λ y2=>
  if !y2 then
   B8 ()
  else
   if decide (a0.Var<(0:Int))then
    B8 ()
   else
    if decide ((2:Int)<a0.Var)then
     B8 ()
    else
     if decide (a0.Size<(0:Int))then
      B8 ()
     else
      if decide ((8:Int)<a0.Size)then
       B8 ()
      else
       if decide (a0.Scope<(0:Int))then
        B8 ()
       else
        if decide ((2:Int)<a0.Scope)then
         B8 ()
        else
         Option.bind (Gj a0.Mods) λ y3=>
         if !y3 then
          B8 ()
         else
          jp (W9 a0)<|R9 a0 ()
 else
  if decide (a0.Var<(0:Int))then
   B8 ()
  else
   if decide ((2:Int)<a0.Var)then
    B8 ()
   else
    if decide (a0.Size<(0:Int))then
     B8 ()
    else
     if decide ((8:Int)<a0.Size)then
      B8 ()
     else
      if decide (a0.Scope<(0:Int))then
       B8 ()
      else
       if decide ((2:Int)<a0.Scope)then
        B8 ()
       else
        Option.bind (Gj a0.Mods) λ y4=>
        if !y4 then
         B8 ()
        else
         jp (W9 a0)<|R9 a0 ()
abbrev Gq (v1:(List (List UInt8))) (v2:Int) (v3:Int):HT:=[.S 4 false,.v .str,.S 10 false,.q (.sl .str) v1,.S 11 false,.q (.int .i64) v2,.S 12 false,.q (.int .i64) v3]
abbrev Ov:HT:=[]
abbrev Ks:HT:=[.S 10 false,.v (.sl .str),.S 11 false,.v (.int .i64),.S 12 false,.v (.int .i64)]
def H6 (v1:(List (List UInt8))) (v2:Int) (v3:Int):H (Gq v1 v2 v3)->Option ((H Ks)⊕((H Ov)⊕Bool)):=λ (v4,_)=>
 Option.bind (E2 v4) λ y2=>
 if !y2 then
 some (.inr (.inr false))
 else
 some (.inl (v1,v2,IntKind.wrap .i64 (v3+(1:Int)),()))
def Y7:H Ov->Option Bool:=λ _=>
 some true
def Zo:H Ks->Option ((H Ks)⊕((H Ov)⊕Bool)):=λ (v1,v2,v3,_)=>
 if decide (v3<v2)then
 need (Af v3 v1.length)<|
 if decide ((3:Int)<((List.getD v1 (v3).toNat ([]:(List UInt8))).length:Int))then
  need (Af (IntKind.wrap .i64 (((List.getD v1 (v3).toNat ([]:(List UInt8))).length:Int) -(1:Int))) (List.getD v1 (v3).toNat ([]:(List UInt8))).length)<|
  if decide (((List.getD (List.getD v1 (v3).toNat ([]:(List UInt8))) (IntKind.wrap .i64 (((List.getD v1 (v3).toNat ([]:(List UInt8))).length:Int) -(1:Int))).toNat 0).toNat:Int)=(93:Int))then
   need (Af (IntKind.wrap .i64 (((List.getD v1 (v3).toNat ([]:(List UInt8))).length:Int) -(3:Int))) (List.getD v1 (v3).toNat ([]:(List UInt8))).length)<|
   if decide (((List.getD (List.getD v1 (v3).toNat ([]:(List UInt8))) (IntKind.wrap .i64 (((List.getD v1 (v3).toNat ([]:(List UInt8))).length:Int) -(3:Int))).toNat 0).toNat:Int)=(91:Int))then
    need (Af (IntKind.wrap .i64 (((List.getD v1 (v3).toNat ([]:(List UInt8))).length:Int) -(2:Int))) (List.getD v1 (v3).toNat ([]:(List UInt8))).length)<|
    if decide ((49:Int)<=((List.getD (List.getD v1 (v3).toNat ([]:(List UInt8))) (IntKind.wrap .i64 (((List.getD v1 (v3).toNat ([]:(List UInt8))).length:Int) -(2:Int))).toNat 0).toNat:Int))then
     need (Af (IntKind.wrap .i64 (((List.getD v1 (v3).toNat ([]:(List UInt8))).length:Int) -(2:Int))) (List.getD v1 (v3).toNat ([]:(List UInt8))).length)<|
     if decide (((List.getD (List.getD v1 (v3).toNat ([]:(List UInt8))) (IntKind.wrap .i64 (((List.getD v1 (v3).toNat ([]:(List UInt8))).length:Int) -(2:Int))).toNat 0).toNat:Int)<=(56:Int))then
      need ((0:Int)<=(0:Int))<|
      need ((0:Int)<=(IntKind.wrap .i64 (((List.getD v1 (v3).toNat ([]:(List UInt8))).length:Int) -(3:Int))))<|
      need ((IntKind.wrap .i64 (((List.getD v1 (v3).toNat ([]:(List UInt8))).length:Int) -(3:Int)))<=((List.getD v1 (v3).toNat ([]:(List UInt8))).length:Int))<|
      jp (Gq v1 v2 v3)<|H6 v1 v2 v3 ((List.take ((IntKind.wrap .i64 (((List.getD v1 (v3).toNat ([]:(List UInt8))).length:Int) -(3:Int))).toNat-(0:Int).toNat) (List.drop (0:Int).toNat (List.getD v1 (v3).toNat ([]:(List UInt8))))),())
     else
      jp (Gq v1 v2 v3)<|H6 v1 v2 v3 (List.getD v1 (v3).toNat ([]:(List UInt8)),())
    else
     jp (Gq v1 v2 v3)<|H6 v1 v2 v3 (List.getD v1 (v3).toNat ([]:(List UInt8)),())
   else
    jp (Gq v1 v2 v3)<|H6 v1 v2 v3 (List.getD v1 (v3).toNat ([]:(List UInt8)),())
  else
   jp (Gq v1 v2 v3)<|H6 v1 v2 v3 (List.getD v1 (v3).toNat ([]:(List UInt8)),())
 else
  jp (Gq v1 v2 v3)<|H6 v1 v2 v3 (List.getD v1 (v3).toNat ([]:(List UInt8)),())
 else
 some (.inr (.inl ()))
def Lm (a0:(List UInt8)):Option Bool:=
 if decide ((60:Int)<(a0.length:Int))then
 some false
 else
 Option.bind (Mr a0 ([46]:List UInt8)) λ y1=>
 Option.bind (iter Zo (y1,(y1.length:Int),(0:Int),())) (Sum.elim Y7 (λ y=>some y))
abbrev Abl:HT:=[]
abbrev Abj:HT:=[]
abbrev Abc:HT:=[]
abbrev Gy (a0:Aa) (v4:Int):HT:=[.S 80 false,.q (.sl (.nm 8)) a0.Whens,.S 81 false,.q (.int .i64) (a0.Whens.length:Int),.S 82 false,.q (.int .i64) v4]
abbrev Dr (a0:Aa) (v4:Int):HT:=[.S 80 false,.q (.sl (.nm 8)) a0.Whens,.S 81 false,.q (.int .i64) (a0.Whens.length:Int),.S 82 false,.q (.int .i64) v4,.S 87 false,.q (.sl (.nm 7)) ((List.getD a0.Whens (v4).toNat (Bz)).Sets),.S 88 false,.v (.int .i64),.S 89 false,.v (.int .i64)]
abbrev Gs:HT:=[]
abbrev C2 (a0:Aa):HT:=[.S 80 false,.q (.sl (.nm 8)) a0.Whens,.S 81 false,.q (.int .i64) (a0.Whens.length:Int),.S 82 false,.v (.int .i64)]
abbrev Ff (a0:Aa):HT:=[.S 1 false,.k (.ptr 1 0),.C 1,.q (.nm 9) a0]
abbrev Dm (a0:Aa):HT:=[.S 1 false,.k (.ptr 1 0),.S 57 false,.q (.sl (.nm 6)) a0.Links,.S 58 false,.q (.int .i64) (a0.Links.length:Int),.S 59 false,.v (.int .i64),.C 1,.q (.nm 9) a0]
abbrev Hj (a0:Aa):HT:=[.S 1 false,.k (.ptr 1 0),.C 1,.q (.nm 9) a0]
abbrev D5 (a0:Aa):HT:=[.S 1 false,.k (.ptr 1 0),.S 46 false,.q (.sl (.nm 4)) a0.Comps,.S 47 false,.q (.int .i64) (a0.Comps.length:Int),.S 48 false,.v (.int .i64),.C 1,.q (.nm 9) a0]
abbrev Fg (a0:Aa):HT:=[.S 1 false,.k (.ptr 1 0),.C 1,.q (.nm 9) a0]
abbrev Dl (a0:Aa):HT:=[.S 1 false,.k (.ptr 1 0),.S 28 false,.q (.sl (.nm 3)) a0.Bases,.S 29 false,.q (.int .i64) (a0.Bases.length:Int),.S 30 false,.v (.int .i64),.C 1,.q (.nm 9) a0]
def Iv:H Abl->Option Bool:=λ _=>
 some false
def L3 (a0:Aa):H Abj->Option ((H (Dl a0))⊕((H (Fg a0))⊕Bool)):=λ _=>
 some (.inr (.inr false))
def Is (a0:Aa):H Abc->Option ((H (Dm a0))⊕((H (Ff a0))⊕Bool)):=λ _=>
 some (.inr (.inr false))
def Kj (a0:Aa) (v4:Int):H (Gy a0 v4)->Option ((H (C2 a0))⊕((H Gs)⊕Bool)):=λ _=>
 jp (C2 a0)<|some (.inl (IntKind.wrap .i64 (v4+(1:Int)),()))
def Km (a0:Aa) (v4:Int):H (Dr a0 v4)->Option ((H (Dr a0 v4))⊕((H (Gy a0 v4))⊕Bool)):=λ (v5,v6,_)=>
 if decide (v6<v5)then
 need (Af v6 ((List.getD a0.Whens (v4).toNat (Bz)).Sets).length)<|
 Option.bind (Lm ((List.getD ((List.getD a0.Whens (v4).toNat (Bz)).Sets) (v6).toNat (Ab8)).Name)) λ y7=>
 if !y7 then
  some (.inr (.inr false))
 else
  jp (Dr a0 v4)<|some (.inl (v5,IntKind.wrap .i64 (v6+(1:Int)),()))
 else
 jp (Gy a0 v4)<|some (.inr (.inl ()))
def Kl:H Gs->Option Bool:=λ _=>
 some true
def Kq (a0:Aa):H (C2 a0)->Option ((H (C2 a0))⊕((H Gs)⊕Bool)):=λ (v4,_)=>
 if decide (v4<(a0.Whens.length:Int))then
 need (Af v4 a0.Whens.length)<|
 jp (Dr a0 v4)<|Option.bind (iter (Km a0 v4) ((((List.getD a0.Whens (v4).toNat (Bz)).Sets).length:Int),(0:Int),())) (Sum.elim (Kj a0 v4) (λ y=>some (.inr (.inr y))))
 else
 some (.inr (.inl ()))
def Ms (a0:Aa):H (Ff a0)->Option Bool:=λ _=>
 jp (C2 a0)<|Option.bind (iter (Kq a0) ((0:Int),())) (Sum.elim Kl (λ y=>some y))
def L5 (a0:Aa):H (Dm a0)->Option ((H (Dm a0))⊕((H (Ff a0))⊕Bool)):=λ (v3,_)=>
 if decide (v3<(a0.Links.length:Int))then
 need (Af v3 a0.Links.length)<|
 Option.bind (Lm ((List.getD a0.Links (v3).toNat (Azo)).A)) λ y5=>
 if !y5 then
  Is a0 ()
 else
  Option.bind (Lm ((List.getD a0.Links (v3).toNat (Azo)).B)) λ y6=>
  if !y6 then
   Is a0 ()
  else
   if !decide (((List.getD a0.Links (v3).toNat (Azo)).In)=([]:List UInt8))then
    Is a0 ()
   else
    jp (Dm a0)<|some (.inl (IntKind.wrap .i64 (v3+(1:Int)),()))
 else
 jp (Ff a0)<|some (.inr (.inl ()))
def Mf (a0:Aa):H (Hj a0)->Option Bool:=λ _=>
 jp (Dm a0)<|Option.bind (iter (L5 a0) ((0:Int),())) (Sum.elim (Ms a0) (λ y=>some y))
def Mu (a0:Aa):H (D5 a0)->Option ((H (D5 a0))⊕((H (Hj a0))⊕Bool)):=λ (v2,_)=>
 if decide (v2<(a0.Comps.length:Int))then
 need (Af v2 a0.Comps.length)<|
 Option.bind (Us (B1 (List.getD a0.Comps (v2).toNat (An)))) λ y4=>
 if !y4 then
  some (.inr (.inr false))
 else
  jp (D5 a0)<|some (.inl (IntKind.wrap .i64 (v2+(1:Int)),()))
 else
 jp (Hj a0)<|some (.inr (.inl ()))
def Mc (a0:Aa):H (Fg a0)->Option Bool:=λ _=>
 jp (D5 a0)<|Option.bind (iter (Mu a0) ((0:Int),())) (Sum.elim (Mf a0) (λ y=>some y))
def L8 (a0:Aa):H (Dl a0)->Option ((H (Dl a0))⊕((H (Fg a0))⊕Bool)):=λ (v1,_)=>
 if decide (v1<(a0.Bases.length:Int))then
 need (Af v1 a0.Bases.length)<|
 Option.bind (Hz ((List.getD a0.Bases (v1).toNat (Cl)).Name)) λ y2=>
 if !y2 then
  L3 a0 ()
 else
  Option.bind (Gj ((List.getD a0.Bases (v1).toNat (Cl)).Mods)) λ y3=>
  if !y3 then
   L3 a0 ()
  else
   jp (Dl a0)<|some (.inl (IntKind.wrap .i64 (v1+(1:Int)),()))
 else
 jp (Fg a0)<|some (.inr (.inl ()))
def Qk (a0:Aa):Option Bool:=
 Option.bind (Hz a0.Name) λ y1=>
 if !y1 then
 Iv ()
 else
 if decide (a0.Kind<(0:Int))then
  Iv ()
 else
  if decide ((2:Int)<a0.Kind)then
   Iv ()
  else
   jp (Dl a0)<|Option.bind (iter (L8 a0) ((0:Int),())) (Sum.elim (Mc a0) (λ y=>some y))
abbrev Nf (a0:(List Ak)) (v1:Int):HT:=[.S 0 false,.q (.sl (.nm 2)) a0,.S 6 false,.q (.int .i64) (a0.length:Int),.S 7 false,.q (.int .i64) v1]
abbrev Ha (a0:(List Ak)) (v1:Int):HT:=[.S 0 false,.q (.sl (.nm 2)) a0,.S 3 false,.q (.int .i64) v1,.S 6 false,.q (.int .i64) (a0.length:Int),.S 7 false,.q (.int .i64) v1,.S 10 false,.q (.int .i64) v1,.S 11 false,.v (.int .i64)]
abbrev Nh:HT:=[]
abbrev Fm (a0:(List Ak)):HT:=[.S 0 false,.q (.sl (.nm 2)) a0,.S 6 false,.q (.int .i64) (a0.length:Int),.S 7 false,.v (.int .i64)]
def Xc (a0:(List Ak)) (v1:Int):H (Nf a0 v1)->Option ((H (Fm a0))⊕((H Nh)⊕Bool)):=λ _=>
 jp (Fm a0)<|some (.inl (IntKind.wrap .i64 (v1+(1:Int)),()))
def Wd (a0:(List Ak)) (v1:Int):H (Ha a0 v1)->Option ((H (Ha a0 v1))⊕((H (Nf a0 v1))⊕Bool)):=λ (v2,_)=>
 if decide (v2<v1)then
 need (Af v1 a0.length)<|
 need (Af v2 a0.length)<|
 if decide (((List.getD a0 (v1).toNat (A3)).Path)=((List.getD a0 (v2).toNat (A3)).Path))then
  some (.inr (.inr true))
 else
  jp (Ha a0 v1)<|some (.inl (IntKind.wrap .i64 (v2+(1:Int)),()))
 else
 jp (Nf a0 v1)<|some (.inr (.inl ()))
def Wk:H Nh->Option Bool:=λ _=>
 some false
def V1 (a0:(List Ak)):H (Fm a0)->Option ((H (Fm a0))⊕((H Nh)⊕Bool)):=λ (v1,_)=>
 if decide (v1<(a0.length:Int))then
 jp (Ha a0 v1)<|Option.bind (iter (Wd a0 v1) ((0:Int),())) (Sum.elim (Xc a0 v1) (λ y=>some (.inr (.inr y))))
 else
 some (.inr (.inl ()))
def L9 (a0:(List Ak)):Option Bool:=
 jp (Fm a0)<|Option.bind (iter (V1 a0) ((0:Int),())) (Sum.elim Wk (λ y=>some y))
abbrev Ru (a0:Aa) (v1:Int):HT:=[.S 1 false,.k (.ptr 1 0),.S 3 false,.q (.int .i64) v1,.S 9 false,.q (.int .i64) (a0.Comps.length:Int),.S 10 false,.q (.int .i64) v1,.C 1,.q (.nm 9) a0]
abbrev Jv (a0:Aa) (v1:Int):HT:=[.S 1 false,.k (.ptr 1 0),.S 3 false,.q (.int .i64) v1,.S 9 false,.q (.int .i64) (a0.Comps.length:Int),.S 10 false,.q (.int .i64) v1,.S 13 false,.q (.int .i64) v1,.S 14 false,.v (.int .i64),.C 1,.q (.nm 9) a0]
abbrev Ze:HT:=[]
abbrev J5 (a0:Aa):HT:=[.S 40 false,.q (.sl (.nm 3)) a0.Bases,.S 41 false,.q (.int .i64) (a0.Bases.length:Int),.S 42 false,.v (.int .i64)]
abbrev Nr (a0:Aa):HT:=[.S 1 false,.k (.ptr 1 0),.C 1,.q (.nm 9) a0]
abbrev H3 (a0:Aa):HT:=[.S 1 false,.k (.ptr 1 0),.S 9 false,.q (.int .i64) (a0.Comps.length:Int),.S 10 false,.v (.int .i64),.C 1,.q (.nm 9) a0]
def Ac4 (a0:Aa) (v1:Int):H (Ru a0 v1)->Option ((H (H3 a0))⊕((H (Nr a0))⊕Int)):=λ _=>
 need (Af v1 a0.Comps.length)<|
 Option.bind (L9 ((List.getD a0.Comps (v1).toNat (An)).Mods)) λ y1=>
 if y1 then
 some (.inr (.inr (5:Int)))
 else
 jp (H3 a0)<|some (.inl (IntKind.wrap .i64 (v1+(1:Int)),()))
def Adv (a0:Aa) (v1:Int):H (Jv a0 v1)->Option ((H (Jv a0 v1))⊕((H (Ru a0 v1))⊕Int)):=λ (v2,_)=>
 if decide (v2<v1)then
 need (Af v1 a0.Comps.length)<|
 need (Af v2 a0.Comps.length)<|
 if decide (((List.getD a0.Comps (v1).toNat (An)).Name)=((List.getD a0.Comps (v2).toNat (An)).Name))then
  some (.inr (.inr (5:Int)))
 else
  jp (Jv a0 v1)<|some (.inl (IntKind.wrap .i64 (v2+(1:Int)),()))
 else
 jp (Ru a0 v1)<|some (.inr (.inl ()))
def Ace:H Ze->Option Int:=λ _=>
 some (0:Int)
def Adn (a0:Aa):H (J5 a0)->Option ((H (J5 a0))⊕((H Ze)⊕Int)):=λ (v3,_)=>
 if decide (v3<(a0.Bases.length:Int))then
 need (Af v3 a0.Bases.length)<|
 Option.bind (L9 ((List.getD a0.Bases (v3).toNat (Cl)).Mods)) λ y2=>
 if y2 then
  some (.inr (.inr (5:Int)))
 else
  jp (J5 a0)<|some (.inl (IntKind.wrap .i64 (v3+(1:Int)),()))
 else
 some (.inr (.inl ()))
def Acm (a0:Aa):H (Nr a0)->Option Int:=λ _=>
 jp (J5 a0)<|Option.bind (iter (Adn a0) ((0:Int),())) (Sum.elim Ace (λ y=>some y))
def Abu (a0:Aa):H (H3 a0)->Option ((H (H3 a0))⊕((H (Nr a0))⊕Int)):=λ (v1,_)=>
 if decide (v1<(a0.Comps.length:Int))then
 jp (Jv a0 v1)<|Option.bind (iter (Adv a0 v1) ((0:Int),())) (Sum.elim (Ac4 a0 v1) (λ y=>some (.inr (.inr y))))
 else
 jp (Nr a0)<|some (.inr (.inl ()))
def Alp (a0:Aa):Option Int:=
 jp (H3 a0)<|Option.bind (iter (Abu a0) ((0:Int),())) (Sum.elim (Acm a0) (λ y=>some y))
abbrev S6 (a0:(List Ak)) (v1:Int):HT:=[.S 1 false,.k (.ptr 1000001 0),.S 5 false,.q (.sl (.nm 2)) a0,.S 6 false,.q (.int .i64) (a0.length:Int),.S 7 false,.q (.int .i64) v1,.S 1000000 false,.k (.ptr 1000001 0),.C 1000001,.k (.ar 1000002 0),.A 1000002 181 (.nm 10) 0 false]
abbrev Fo (a0:(List Ak)):HT:=[.S 1 false,.k (.ptr 1000001 0),.S 5 false,.q (.sl (.nm 2)) a0,.S 6 false,.q (.int .i64) (a0.length:Int),.S 7 false,.v (.int .i64),.S 1000000 false,.k (.ptr 1000001 0),.C 1000001,.k (.ar 1000002 0),.A 1000002 181 (.nm 10) 0 false]
def Wr (a0:(List Ak)) (v1:Int):H (S6 a0 v1)->Option ((H (Fo a0))⊕(List A5)):=λ (v3,_)=>
 jp (Fo a0)<|some (.inl (IntKind.wrap .i64 (v1+(1:Int)),v3,()))
def U8 (a0:(List Ak)):H (Fo a0)->Option ((H (Fo a0))⊕(List A5)):=λ (v1,v2,_)=>
 if decide (v1<(a0.length:Int))then
 need (Af v1 a0.length)<|
 if decide (((List.getD a0 (v1).toNat (A3)).Type_)=([]:List UInt8))then
  need ((v2.length+[(⟨(Ap ((List.getD a0 (v1).toNat (A3)).Value)),false⟩:A5)].length)*72<=At)<|
  jp (S6 a0 v1)<|Wr a0 v1 (v2++[(⟨(Ap ((List.getD a0 (v1).toNat (A3)).Value)),false⟩:A5)],())
 else
  jp (S6 a0 v1)<|Wr a0 v1 (v2,())
 else
 some (.inr v2)
def Wn (a0:(List Ak)) (a1:(List A5)):Option (List A5):=
 jp (Fo a0)<|Option.bind (iter (U8 a0) ((0:Int),a1,())) (λ y=>some y)
abbrev Zk (a0:Aa) (v4:Int):HT:=[.S 1 false,.k (.ptr 1 0),.S 3 false,.k (.ptr 3 0),.S 4 false,.k (.clo 149 [.ptr 3 0]),.S 29 false,.q (.sl (.nm 4)) a0.Comps,.S 30 false,.q (.int .i64) (a0.Comps.length:Int),.S 31 false,.q (.int .i64) v4,.C 1,.q (.nm 9) a0,.C 3,.k (.ar 4000003 0),.A 4000003 181 (.nm 10) 0 false]
abbrev Yi (a0:Aa) (v4:Int):HT:=[.S 1 false,.k (.ptr 1 0),.S 3 false,.k (.ptr 3 0),.S 4 false,.k (.clo 149 [.ptr 3 0]),.S 8 false,.k (.ptr 8 0),.S 29 false,.q (.sl (.nm 4)) a0.Comps,.S 30 false,.q (.int .i64) (a0.Comps.length:Int),.S 31 false,.q (.int .i64) v4,.C 1,.q (.nm 9) a0,.C 3,.k (.ar 4000003 0),.C 8,.q (.nm 4) (B1 (List.getD a0.Comps (v4).toNat (An))),.A 4000003 181 (.nm 10) 0 false]
abbrev Ot (a0:Aa) (v12:Int):HT:=[.S 3 false,.k (.ptr 3 0),.S 78 false,.q (.sl (.nm 8)) a0.Whens,.S 79 false,.q (.int .i64) (a0.Whens.length:Int),.S 80 false,.q (.int .i64) v12,.C 3,.k (.ar 4000003 0),.A 4000003 181 (.nm 10) 0 false]
abbrev Ik (a0:Aa) (v12:Int):HT:=[.S 3 false,.k (.ptr 3 0),.S 78 false,.q (.sl (.nm 8)) a0.Whens,.S 79 false,.q (.int .i64) (a0.Whens.length:Int),.S 80 false,.q (.int .i64) v12,.S 91 false,.q (.sl (.nm 7)) ((List.getD a0.Whens (v12).toNat (Bz)).Sets),.S 92 false,.v (.int .i64),.S 93 false,.v (.int .i64),.C 3,.k (.ar 4000003 0),.A 4000003 181 (.nm 10) 0 false]
abbrev O9:HT:=[.S 3 false,.k (.ptr 3 0),.C 3,.k (.ar 4000003 0),.A 4000003 181 (.nm 10) 0 false]
abbrev H4 (a0:Aa):HT:=[.S 3 false,.k (.ptr 3 0),.S 78 false,.q (.sl (.nm 8)) a0.Whens,.S 79 false,.q (.int .i64) (a0.Whens.length:Int),.S 80 false,.v (.int .i64),.C 3,.k (.ar 4000003 0),.A 4000003 181 (.nm 10) 0 false]
abbrev R3 (a0:Aa):HT:=[.S 1 false,.k (.ptr 1 0),.S 3 false,.k (.ptr 3 0),.C 1,.q (.nm 9) a0,.C 3,.k (.ar 4000003 0),.A 4000003 181 (.nm 10) 0 false]
abbrev Jx (a0:Aa):HT:=[.S 1 false,.k (.ptr 1 0),.S 3 false,.k (.ptr 3 0),.S 61 false,.q (.sl (.nm 5)) a0.Eqs,.S 62 false,.q (.int .i64) (a0.Eqs.length:Int),.S 63 false,.v (.int .i64),.C 1,.q (.nm 9) a0,.C 3,.k (.ar 4000003 0),.A 4000003 181 (.nm 10) 0 false]
abbrev J7 (a0:Aa):HT:=[.S 1 false,.k (.ptr 1 0),.S 3 false,.k (.ptr 3 0),.C 1,.q (.nm 9) a0,.C 3,.k (.ar 4000003 0),.A 4000003 181 (.nm 10) 0 false]
abbrev Gh (a0:Aa):HT:=[.S 1 false,.k (.ptr 1 0),.S 3 false,.k (.ptr 3 0),.S 4 false,.k (.clo 149 [.ptr 3 0]),.S 29 false,.q (.sl (.nm 4)) a0.Comps,.S 30 false,.q (.int .i64) (a0.Comps.length:Int),.S 31 false,.v (.int .i64),.C 1,.q (.nm 9) a0,.C 3,.k (.ar 4000003 0),.A 4000003 181 (.nm 10) 0 false]
abbrev R4 (a0:Aa):HT:=[.S 1 false,.k (.ptr 1 0),.S 3 false,.k (.ptr 3 0),.S 4 false,.k (.clo 149 [.ptr 3 0]),.C 1,.q (.nm 9) a0,.C 3,.k (.ar 4000003 0),.A 4000003 181 (.nm 10) 0 false]
abbrev Jy (a0:Aa):HT:=[.S 1 false,.k (.ptr 1 0),.S 3 false,.k (.ptr 3 0),.S 4 false,.k (.clo 149 [.ptr 3 0]),.S 17 false,.q (.sl (.nm 3)) a0.Bases,.S 18 false,.q (.int .i64) (a0.Bases.length:Int),.S 19 false,.v (.int .i64),.C 1,.q (.nm 9) a0,.C 3,.k (.ar 4000003 0),.A 4000003 181 (.nm 10) 0 false]
def Adb (a0:Aa) (v4:Int):H (Zk a0 v4)->Option ((H (Gh a0))⊕(H (J7 a0))):=λ (v7,_)=>
 jp (Gh a0)<|some (.inl (IntKind.wrap .i64 (v4+(1:Int)),v7,()))
def Wm (a0:Aa) (v4:Int):H (Yi a0 v4)->Option ((H (Gh a0))⊕(H (J7 a0))):=λ (v6,_)=>
 Option.bind (H7 (Ap ((List.getD a0.Comps (v4).toNat (An)).Cond))) λ y4=>
 if !y4 then
 need ((v6.length+[(⟨(Ap ((List.getD a0.Comps (v4).toNat (An)).Cond)),true⟩:A5)].length)*72<=At)<|
 jp (Zk a0 v4)<|Adb a0 v4 (v6++[(⟨(Ap ((List.getD a0.Comps (v4).toNat (An)).Cond)),true⟩:A5)],())
 else
 jp (Zk a0 v4)<|Adb a0 v4 (v6,())
def Yv (a0:Aa) (v12:Int):H (Ot a0 v12)->Option ((H (H4 a0))⊕(H O9)):=λ (v17,_)=>
 jp (H4 a0)<|some (.inl (IntKind.wrap .i64 (v12+(1:Int)),v17,()))
def Y5 (a0:Aa) (v12:Int):H (Ik a0 v12)->Option ((H (Ik a0 v12))⊕(H (Ot a0 v12))):=λ (v14,v15,v16,_)=>
 if decide (v15<v14)then
 need (Af v15 ((List.getD a0.Whens (v12).toNat (Bz)).Sets).length)<|
 need ((v16.length+[(⟨(Ap ((List.getD ((List.getD a0.Whens (v12).toNat (Bz)).Sets) (v15).toNat (Ab8)).E)),false⟩:A5)].length)*72<=At)<|
 jp (Ik a0 v12)<|some (.inl (v14,IntKind.wrap .i64 (v15+(1:Int)),v16++[(⟨(Ap ((List.getD ((List.getD a0.Whens (v12).toNat (Bz)).Sets) (v15).toNat (Ab8)).E)),false⟩:A5)],()))
 else
 jp (Ot a0 v12)<|some (.inr (v16,()))
def Y6:H O9->Option (List A5):=λ (v18,_)=>
 some v18
def Ab4 (a0:Aa):H (H4 a0)->Option ((H (H4 a0))⊕(H O9)):=λ (v12,v13,_)=>
 if decide (v12<(a0.Whens.length:Int))then
 need (Af v12 a0.Whens.length)<|
 need ((v13.length+[(⟨(Ap ((List.getD a0.Whens (v12).toNat (Bz)).C)),true⟩:A5)].length)*72<=At)<|
 jp (Ik a0 v12)<|Option.bind (iter (Y5 a0 v12) ((((List.getD a0.Whens (v12).toNat (Bz)).Sets).length:Int),(0:Int),v13++[(⟨(Ap ((List.getD a0.Whens (v12).toNat (Bz)).C)),true⟩:A5)],())) (Yv a0 v12)
 else
 some (.inr (v13,()))
def Abr (a0:Aa):H (R3 a0)->Option (List A5):=λ (v11,_)=>
 jp (H4 a0)<|Option.bind (iter (Ab4 a0) ((0:Int),v11,())) Y6
def Abz (a0:Aa):H (Jx a0)->Option ((H (Jx a0))⊕(H (R3 a0))):=λ (v9,v10,_)=>
 if decide (v9<(a0.Eqs.length:Int))then
 need (Af v9 a0.Eqs.length)<|
 need ((v10.length+[(⟨(Ap ((List.getD a0.Eqs (v9).toNat (Aeq)).L)),false⟩:A5),(⟨(Ap ((List.getD a0.Eqs (v9).toNat (Aeq)).R)),false⟩:A5)].length)*72<=At)<|
 jp (Jx a0)<|some (.inl (IntKind.wrap .i64 (v9+(1:Int)),v10++[(⟨(Ap ((List.getD a0.Eqs (v9).toNat (Aeq)).L)),false⟩:A5),(⟨(Ap ((List.getD a0.Eqs (v9).toNat (Aeq)).R)),false⟩:A5)],()))
 else
 jp (R3 a0)<|some (.inr (v10,()))
def Vn (a0:Aa):H (J7 a0)->Option (List A5):=λ (v8,_)=>
 jp (Jx a0)<|Option.bind (iter (Abz a0) ((0:Int),v8,())) (Abr a0)
def Ab0 (a0:Aa):H (Gh a0)->Option ((H (Gh a0))⊕(H (J7 a0))):=λ (v4,v5,_)=>
 if decide (v4<(a0.Comps.length:Int))then
 need (Af v4 a0.Comps.length)<|
 Option.bind (Wn ((List.getD a0.Comps (v4).toNat (An)).Mods) v5) λ y2=>
 Option.bind (H7 (Ap ((List.getD a0.Comps (v4).toNat (An)).Value))) λ y3=>
 if !y3 then
  need ((y2.length+[(⟨(Ap ((List.getD a0.Comps (v4).toNat (An)).Value)),false⟩:A5)].length)*72<=At)<|
  jp (Yi a0 v4)<|Wm a0 v4 (y2++[(⟨(Ap ((List.getD a0.Comps (v4).toNat (An)).Value)),false⟩:A5)],())
 else
  jp (Yi a0 v4)<|Wm a0 v4 (y2,())
 else
 jp (J7 a0)<|some (.inr (v5,()))
def Ab3 (a0:Aa):H (R4 a0)->Option (List A5):=λ (v3,_)=>
 jp (Gh a0)<|Option.bind (iter (Ab0 a0) ((0:Int),v3,())) (Vn a0)
def Abp (a0:Aa):H (Jy a0)->Option ((H (Jy a0))⊕(H (R4 a0))):=λ (v1,v2,_)=>
 if decide (v1<(a0.Bases.length:Int))then
 need (Af v1 a0.Bases.length)<|
 Option.bind (Wn ((List.getD a0.Bases (v1).toNat (Cl)).Mods) v2) λ y1=>
 jp (Jy a0)<|some (.inl (IntKind.wrap .i64 (v1+(1:Int)),y1,()))
 else
 jp (R4 a0)<|some (.inr (v2,()))
def Alf (a0:Aa):Option (List A5):=
 jp (Jy a0)<|Option.bind (iter (Abp a0) ((0:Int),([]:List A5),())) (Ab3 a0)
abbrev Bh:=Am->Int->Int->Option (Bool×Int)
def Ai1 (R:Bh) (a0:Am) (a1:Int) (a2:Int):Option (Bool×Int×Int):=
 Option.bind (R (Ap a0) (IntKind.wrap .i64 (a1+(1:Int))) a2) λ y1=>
 some (y1.1,a1,y1.2)
abbrev Ek:HT:=[.S 1000000 false,.k (.ptr 1000001 0),.S 2000000 false,.k (.ptr 1000002 0),.S 3000000 false,.k (.ptr 1000003 0),.C 1000001,.v (.int .i64),.C 1000002,.k (.ptr 1000003 0),.C 1000003,.v (.int .i64)]
abbrev B9 (a0:(List Am)):HT:=[.S 0 false,.q (.sl (.nm 1)) a0,.S 1 false,.k (.clo 165 [.ptr 1000001 0,.ptr 1000002 0]),.S 7 false,.q (.int .i64) (a0.length:Int),.S 8 false,.v (.int .i64),.S 1000000 false,.k (.ptr 1000001 0),.S 2000000 false,.k (.ptr 1000002 0),.S 3000000 false,.k (.ptr 1000003 0),.C 1000001,.v (.int .i64),.C 1000002,.k (.ptr 1000003 0),.C 1000003,.v (.int .i64)]
def Ew (R:Bh):H Ek->Option (Int×Int×Int):=λ (v4,v5,_)=>
 some ((-1:Int),v4,v5)
def E0 (R:Bh) (a0:(List Am)):H (B9 a0)->Option ((H (B9 a0))⊕((H Ek)⊕(Int×Int×Int))):=λ (v1,v2,v3,_)=>
 if decide (v1<(a0.length:Int))then
 need (Af v1 a0.length)<|
 Option.bind (Ai1 R (Ap (List.getD a0 (v1).toNat (D4))) v2 v3) λ y1=>
 if y1.1 then
  some (.inr (.inr (v1,y1.2.1,y1.2.2)))
 else
  jp (B9 a0)<|some (.inl (IntKind.wrap .i64 (v1+(1:Int)),y1.2.1,y1.2.2,()))
 else
 some (.inr (.inl (v2,v3,())))
def Iw (R:Bh) (a0:(List Am)) (a1:Int) (a2:Int):Option (Int×Int×Int):=
 jp (B9 a0)<|Option.bind (iter (E0 R a0) ((0:Int),a1,a2,())) (Sum.elim (Ew R) (λ y=>some y))
def Hb (R:Bh) (a0:(List Am)) (a1:Int) (a2:Int):Option (Bool×Int×Int):=
 Option.bind (Iw R a0 a1 a2) λ y1=>
 some (decide ((0:Int)<=y1.1),y1.2.1,y1.2.2)
abbrev Tq (a2:Int):HT:=[.S 1000000 false,.k (.ptr 1000001 0),.C 1000001,.q (.int .i64) (IntKind.wrap .i64 (a2+(1:Int)))]
def Vz (R:Bh) (a2:Int):H (Tq a2)->Option (Bool×Int):=λ _=>
 some (true,IntKind.wrap .i64 (a2+(1:Int)))
def Al3 (R:Bh) (a0:Am) (a1:Int) (a2:Int):Option (Bool×Int):=
 if decide ((80:Int)<(IntKind.wrap .i64 (a2+(1:Int))))then
 jp (Tq a2)<|Vz R a2 ()
 else
 if decide ((12:Int)<a1)then
  jp (Tq a2)<|Vz R a2 ()
 else
  Option.bind (Hb R a0.Kids a1 (IntKind.wrap .i64 (a2+(1:Int)))) λ y1=>
  some (y1.1,y1.2.2)
def Nw:Nat->Bh
 |0=>λ _ _ _=>none
 |k+1=>Al3 (Nw k)
def Aia:Bh:=λ a0 a1 a2=>Nw (SizeOf.sizeOf a0+1) a0 a1 a2
abbrev A4b:HT:=[]
abbrev Aif (a0:Int):HT:=[.S 0 false,.q (.int .i64) a0]
abbrev Ag9 (a0:Int):HT:=[.S 0 false,.q (.int .i64) a0]
abbrev Ah6 (a0:Int):HT:=[.S 0 false,.q (.int .i64) a0]
def Aez:H A4b->Option Int:=λ _=>
 some (1:Int)
def Alv (a0:Int):H (Aif a0)->Option Int:=λ _=>
 if decide (a0=(19:Int))then
 some (3:Int)
 else
 some (-1:Int)
def Alh (a0:Int):H (Ag9 a0)->Option Int:=λ _=>
 if decide ((8:Int)<=a0)then
 if decide (a0<=(17:Int))then
  some (2:Int)
 else
  jp (Aif a0)<|Alv a0 ()
 else
 jp (Aif a0)<|Alv a0 ()
def Amc (a0:Int):H (Ah6 a0)->Option Int:=λ _=>
 if decide ((5:Int)<=a0)then
 if decide (a0<=(7:Int))then
  Aez ()
 else
  if decide (a0=(18:Int))then
   Aez ()
  else
   jp (Ag9 a0)<|Alh a0 ()
 else
 if decide (a0=(18:Int))then
  Aez ()
 else
  jp (Ag9 a0)<|Alh a0 ()
def Aj3 (a0:Int):Option Int:=
 if decide ((1:Int)<=a0)then
 if decide (a0<=(4:Int))then
  some (0:Int)
 else
  jp (Ah6 a0)<|Amc a0 ()
 else
 jp (Ah6 a0)<|Amc a0 ()
def Uf:Option Bool:=
 some false
def Am3 (v1:Int) (v2:Int):Option ((Int×Int)⊕Int):=
 if !decide (v2=(0:Int))then
  need (v2≠0)<|
  some (.inl (v2,Int.tmod v1 v2))
 else
  some (.inr v1)
def Zy (a0:Bd):Option Bool:=
 if decide (a0.D<(1:Int))then
  Uf
 else
  if decide ((1000000000000:Int)<a0.D)then
   Uf
  else
   if decide ((1000000000000:Int)<a0.N)then
    Uf
   else
    if decide (a0.N<(-1000000000000:Int))then
     Uf
    else
     Option.bind (iter (λ v:(Int×Int)=>Am3 v.1 v.2) (a0.N,a0.D)) λ r1=>
      if decide (r1=(1:Int))then
       some true
      else
       some (decide (r1=(-1:Int)))
def L4 (a0:Int):Option Bool:=
 if decide ((97:Int)<=a0)then
 if decide (a0<=(122:Int))then
  some true
 else
  if decide ((65:Int)<=a0)then
   some (decide (a0<=(90:Int)))
  else
   some false
 else
 if decide ((65:Int)<=a0)then
  some (decide (a0<=(90:Int)))
 else
  some false
def Xk (a0:(List UInt8)):Option Bool:=
 if decide (a0=([105,102]:List UInt8))then
 some true
 else
 if decide (a0=([116,104,101,110]:List UInt8))then
  some true
 else
  if decide (a0=([101,108,115,101]:List UInt8))then
   some true
  else
   if decide (a0=([111,114]:List UInt8))then
    some true
   else
    if decide (a0=([97,110,100]:List UInt8))then
     some true
    else
     if decide (a0=([110,111,116]:List UInt8))then
      some true
     else
      if decide (a0=([100,101,114]:List UInt8))then
       some true
      else
       if decide (a0=([112,114,101]:List UInt8))then
        some true
       else
        if decide (a0=([97,98,115]:List UInt8))then
         some true
        else
         if decide (a0=([109,105,110]:List UInt8))then
          some true
         else
          if decide (a0=([109,97,120]:List UInt8))then
           some true
          else
           some false
def Ur (a0:Int):Option Bool:=
 if decide ((48:Int)<=a0)then
 some (decide (a0<=(57:Int)))
 else
 some false
def Uo (a0:Int):Option Bool:=
 Option.bind (L4 a0) λ y1=>
 if y1 then
 some true
 else
 Option.bind (Ur a0) λ y2=>
 if y2 then
  some true
 else
  if decide (a0=(95:Int))then
   some true
  else
   if decide (a0=(46:Int))then
    some true
   else
    if decide (a0=(91:Int))then
     some true
    else
     some (decide (a0=(93:Int)))
abbrev Atk:HT:=[]
abbrev Zi:HT:=[]
abbrev J4 (a0:(List UInt8)):HT:=[.S 0 false,.q .str a0,.S 22 false,.q (.int .i64) (a0.length:Int),.S 23 false,.v (.int .i64)]
def Q2:H Atk->Option Bool:=λ _=>
 some false
def Ab5:H Zi->Option Bool:=λ _=>
 some true
def Ab6 (a0:(List UInt8)):H (J4 a0)->Option ((H (J4 a0))⊕((H Zi)⊕Bool)):=λ (v1,_)=>
 if decide (v1<(a0.length:Int))then
 need (Af v1 a0.length)<|
 Option.bind (Uo ((List.getD a0 v1.toNat 0).toNat:Int)) λ y3=>
 if !y3 then
  some (.inr (.inr false))
 else
  jp (J4 a0)<|some (.inl (IntKind.wrap .i64 (v1+(1:Int)),()))
 else
 some (.inr (.inl ()))
def Po (a0:(List UInt8)):Option Bool:=
 if decide (a0=([]:List UInt8))then
 Q2 ()
 else
 if decide ((60:Int)<(a0.length:Int))then
  Q2 ()
 else
  need (Af (0:Int) a0.length)<|
  Option.bind (L4 ((List.getD a0 (0:Int).toNat 0).toNat:Int)) λ y1=>
  if !y1 then
   Q2 ()
  else
   Option.bind (Xk a0) λ y2=>
   if y2 then
    Q2 ()
   else
    jp (J4 a0)<|Option.bind (iter (Ab6 a0) ((0:Int),())) (Sum.elim Ab5 (λ y=>some y))
def Xl (a0:Am):Option Bool:=
 Option.bind (Aj3 a0.Op) λ y1=>
 if !decide ((a0.Kids.length:Int)=y1)then
 some false
 else
 if decide (a0.Op=(1:Int))then
  if decide (a0.Name=([]:List UInt8))then
   Option.bind (Zy a0.N) λ y2=>
   some y2
  else
   some false
 else
  if decide (a0.Op=(2:Int))then
   Option.bind (Po a0.Name) λ y3=>
   if y3 then
    some (decide (a0.N.N=(0:Int))&&(decide (a0.N.D=(0:Int))&&true))
   else
    some false
  else
   if decide (a0.Op=(3:Int))then
    Option.bind (Po a0.Name) λ y4=>
    if y4 then
     some (decide (a0.N.N=(0:Int))&&(decide (a0.N.D=(0:Int))&&true))
    else
     some false
   else
    if decide (a0.Op=(4:Int))then
     Option.bind (Po a0.Name) λ y5=>
     if y5 then
      some (decide (a0.N.N=(0:Int))&&(decide (a0.N.D=(0:Int))&&true))
     else
      some false
    else
     if decide (a0.Op=(18:Int))then
      if decide (a0.Name=([]:List UInt8))then
       if decide (a0.N.D=(1:Int))then
        if decide ((-6:Int)<=a0.N.N)then
         some (decide (a0.N.N<=(6:Int)))
        else
         some false
       else
        some false
      else
       some false
     else
      if decide (a0.Name=([]:List UInt8))then
       some (decide (a0.N.N=(0:Int))&&(decide (a0.N.D=(0:Int))&&true))
      else
       some false
abbrev Dg:=Am->Option Bool
abbrev Oi:HT:=[]
abbrev E6 (a0:Am):HT:=[.S 1 false,.k (.clo 153 []),.S 12 false,.q (.sl (.nm 1)) a0.Kids,.S 13 false,.q (.int .i64) (a0.Kids.length:Int),.S 14 false,.v (.int .i64)]
def Qd (R:Dg):H Oi->Option Bool:=λ _=>
 some true
def Qq (R:Dg) (a0:Am):H (E6 a0)->Option ((H (E6 a0))⊕((H Oi)⊕Bool)):=λ (v1,_)=>
 if decide (v1<(a0.Kids.length:Int))then
 need (Af v1 a0.Kids.length)<|
 Option.bind (R (Ap (List.getD a0.Kids (v1).toNat (D4)))) λ y2=>
 if !y2 then
  some (.inr (.inr false))
 else
  jp (E6 a0)<|some (.inl (IntKind.wrap .i64 (v1+(1:Int)),()))
 else
 some (.inr (.inl ()))
def Aes (R:Dg) (a0:Am):Option Bool:=
 Option.bind (Xl (Ap a0)) λ y1=>
 if !y1 then
 some false
 else
 jp (E6 a0)<|Option.bind (iter (Qq R a0) ((0:Int),())) (Sum.elim (Qd R) (λ y=>some y))
def Iy:Nat->Dg
 |0=>λ _=>none
 |k+1=>Aes (Iy k)
def Zq:Dg:=λ a0=>Iy (SizeOf.sizeOf a0+1) a0
def Xx (a0:Int):Option Bool:=
 if decide (a0=(7:Int))then
 some true
 else
 if decide ((14:Int)<=a0)then
  some (decide (a0<=(17:Int)))
 else
  some false
def Nn (a0:Int) (a1:Int):Option Bool:=
 if decide (a0=(7:Int))then
 some true
 else
 if decide (a0=(16:Int))then
  some true
 else
  if decide (a0=(17:Int))then
   some true
  else
   if decide (a0=(19:Int))then
    some (decide (a1=(0:Int)))
   else
    some false
abbrev V4:HT:=[]
abbrev Io (a0:Am):HT:=[.S 1 false,.k (.ptr 1 0),.S 6 false,.q (.sl (.nm 1)) a0.Kids,.S 7 false,.q (.int .i64) (a0.Kids.length:Int),.S 8 false,.v (.int .i64),.C 1,.q (.nm 1) (Ap a0)]
def Yg:H V4->Option Bool:=λ _=>
 some true
def Yl (a0:Am):H (Io a0)->Option ((H (Io a0))⊕((H V4)⊕Bool)):=λ (v1,_)=>
 if decide (v1<(a0.Kids.length:Int))then
 need (Af v1 a0.Kids.length)<|
 Option.bind (Xx ((List.getD a0.Kids (v1).toNat (D4)).Op)) λ y1=>
 Option.bind (Nn a0.Op v1) λ y2=>
 if !(y1==y2)then
  some (.inr (.inr false))
 else
  jp (Io a0)<|some (.inl (IntKind.wrap .i64 (v1+(1:Int)),()))
 else
 some (.inr (.inl ()))
def Ahl (a0:Am):Option Bool:=
 jp (Io a0)<|Option.bind (iter (Yl a0) ((0:Int),())) (Sum.elim Yg (λ y=>some y))
abbrev De:=Am->Option Bool
abbrev Oj:HT:=[]
abbrev E8 (a0:Am):HT:=[.S 1 false,.k (.clo 154 []),.S 12 false,.q (.sl (.nm 1)) a0.Kids,.S 13 false,.q (.int .i64) (a0.Kids.length:Int),.S 14 false,.v (.int .i64)]
def Q3 (R:De):H Oj->Option Bool:=λ _=>
 some true
def Qx (R:De) (a0:Am):H (E8 a0)->Option ((H (E8 a0))⊕((H Oj)⊕Bool)):=λ (v1,_)=>
 if decide (v1<(a0.Kids.length:Int))then
 need (Af v1 a0.Kids.length)<|
 Option.bind (R (Ap (List.getD a0.Kids (v1).toNat (D4)))) λ y2=>
 if !y2 then
  some (.inr (.inr false))
 else
  jp (E8 a0)<|some (.inl (IntKind.wrap .i64 (v1+(1:Int)),()))
 else
 some (.inr (.inl ()))
def Age (R:De) (a0:Am):Option Bool:=
 Option.bind (Ahl (Ap a0)) λ y1=>
 if !y1 then
 some false
 else
 jp (E8 a0)<|Option.bind (iter (Qx R a0) ((0:Int),())) (Sum.elim (Q3 R) (λ y=>some y))
def Iz:Nat->De
 |0=>λ _=>none
 |k+1=>Age (Iz k)
def Zh:De:=λ a0=>Iz (SizeOf.sizeOf a0+1) a0
def Acu (a0:Am):Option Int:=
 Option.bind (Aia (Ap a0) (1:Int) (0:Int)) λ y1=>
 if y1.1 then
 some (3:Int)
 else
 Option.bind (Zq (Ap a0)) λ y2=>
 if !y2 then
  some (1:Int)
 else
  Option.bind (Zh (Ap a0)) λ y3=>
  if !y3 then
   some (6:Int)
  else
   some (0:Int)
abbrev Cv:=Am->Option Bool
abbrev Qj:HT:=[]
abbrev F8 (a0:Am):HT:=[.S 23 false,.q (.sl (.nm 1)) a0.Kids,.S 24 false,.q (.int .i64) (a0.Kids.length:Int),.S 25 false,.v (.int .i64)]
abbrev Qz (a0:Am):HT:=[.S 1 false,.k (.ptr 1 0),.C 1,.q (.nm 1) (Ap a0)]
abbrev Qm (a0:Am):HT:=[.S 1 false,.k (.ptr 1 0),.S 3 false,.v .str,.C 1,.q (.nm 1) (Ap a0)]
def Tp (R:Cv):H Qj->Option Bool:=λ _=>
 some false
def Tb (R:Cv) (a0:Am):H (F8 a0)->Option ((H (F8 a0))⊕((H Qj)⊕Bool)):=λ (v2,_)=>
 if decide (v2<(a0.Kids.length:Int))then
 need (Af v2 a0.Kids.length)<|
 Option.bind (R (Ap (List.getD a0.Kids (v2).toNat (D4)))) λ y3=>
 if y3 then
  some (.inr (.inr true))
 else
  jp (F8 a0)<|some (.inl (IntKind.wrap .i64 (v2+(1:Int)),()))
 else
 some (.inr (.inl ()))
def Na (R:Cv) (a0:Am):H (Qz a0)->Option Bool:=λ _=>
 jp (F8 a0)<|Option.bind (iter (Tb R a0) ((0:Int),())) (Sum.elim (Tp R) (λ y=>some y))
def Nd (R:Cv) (a0:Am):H (Qm a0)->Option Bool:=λ (v1,_)=>
 if !decide (v1=([116,105,109,101]:List UInt8))then
 Option.bind (Em v1) λ y2=>
 if y2 then
  some true
 else
  jp (Qz a0)<|Na R a0 ()
 else
 jp (Qz a0)<|Na R a0 ()
def Ajf (R:Cv) (a0:Am):Option Bool:=
 Option.bind (S4 a0.Name ([46,91]:List UInt8)) λ y1=>
 if decide ((0:Int)<=y1)then
 need ((0:Int)<=(0:Int))<|
 need ((0:Int)<=y1)<|
 need (y1<=(a0.Name.length:Int))<|
 jp (Qm a0)<|Nd R a0 ((List.take (y1.toNat-(0:Int).toNat) (List.drop (0:Int).toNat a0.Name)),())
 else
 jp (Qm a0)<|Nd R a0 (a0.Name,())
def Il:Nat->Cv
 |0=>λ _=>none
 |k+1=>Ajf (Il k)
def Alj:Cv:=λ a0=>Il (SizeOf.sizeOf a0+1) a0
def H9 (a0:Am):Option Bool:=
 if decide (a0.Op=(14:Int))then
 some true
 else
 if decide (a0.Op=(15:Int))then
  some true
 else
  if decide (a0.Op=(7:Int))then
   some true
  else
   if decide (a0.Op=(16:Int))then
    some true
   else
    if decide (a0.Op=(17:Int))then
     some true
    else
     some false
abbrev Q4:HT:=[]
abbrev Ge (v5:(List A5)):HT:=[.S 51 false,.q (.sl (.nm 10)) v5,.S 52 false,.q (.int .i64) (v5.length:Int),.S 53 false,.v (.int .i64)]
abbrev Le (v5:(List A5)):HT:=[.S 5 false,.q (.sl (.nm 10)) v5]
abbrev F7 (v5:(List A5)):HT:=[.S 5 false,.q (.sl (.nm 10)) v5,.S 41 false,.q (.sl (.nm 10)) v5,.S 42 false,.q (.int .i64) (v5.length:Int),.S 43 false,.v (.int .i64)]
abbrev Qy:HT:=[.S 5 false,.v (.sl (.nm 10))]
abbrev Kw:HT:=[.S 5 false,.v (.sl (.nm 10)),.S 28 false,.v (.sl (.nm 10)),.S 29 false,.v (.int .i64),.S 30 false,.v (.int .i64)]
def Tv:H Q4->Option Int:=λ _=>
 some (0:Int)
def S9 (v5:(List A5)):H (Ge v5)->Option ((H (Ge v5))⊕((H Q4)⊕Int)):=λ (v7,_)=>
 if decide (v7<(v5.length:Int))then
 need (Af v7 v5.length)<|
 Option.bind (H9 (Ap ((List.getD v5 (v7).toNat (T4)).e))) λ y7=>
 if !(y7==((List.getD v5 (v7).toNat (T4)).cond))then
  some (.inr (.inr (6:Int)))
 else
  jp (Ge v5)<|some (.inl (IntKind.wrap .i64 (v7+(1:Int)),()))
 else
 some (.inr (.inl ()))
def Tg (v5:(List A5)):H (Le v5)->Option Int:=λ _=>
 jp (Ge v5)<|Option.bind (iter (S9 v5) ((0:Int),())) (Sum.elim Tv (λ y=>some y))
def Tc (v5:(List A5)):H (F7 v5)->Option ((H (F7 v5))⊕((H (Le v5))⊕Int)):=λ (v6,_)=>
 if decide (v6<(v5.length:Int))then
 need (Af v6 v5.length)<|
 Option.bind (Alj (Ap ((List.getD v5 (v6).toNat (T4)).e))) λ y6=>
 if y6 then
  some (.inr (.inr (1:Int)))
 else
  jp (F7 v5)<|some (.inl (IntKind.wrap .i64 (v6+(1:Int)),()))
 else
 jp (Le v5)<|some (.inr (.inl ()))
def Ta:H Qy->Option Int:=λ (v5,_)=>
 jp (F7 v5)<|Option.bind (iter (Tc v5) ((0:Int),())) (Sum.elim (Tg v5) (λ y=>some y))
def Tt:H Kw->Option ((H Kw)⊕((H Qy)⊕Int)):=λ (v1,v2,v3,v4,_)=>
 if decide (v4<v3)then
 need (Af v4 v2.length)<|
 Option.bind (Acu (Ap ((List.getD v2 (v4).toNat (T4)).e))) λ y5=>
 if !decide (y5=(0:Int))then
  some (.inr (.inr y5))
 else
  some (.inl (v1,v2,v3,IntKind.wrap .i64 (v4+(1:Int)),()))
 else
 some (.inr (.inl (v1,())))
def Yr (a0:Aa):Option Int:=
 Option.bind (Ams a0) λ y1=>
 if !decide (y1=(0:Int))then
 some y1
 else
 Option.bind (Qk a0) λ y2=>
 if !y2 then
  some (1:Int)
 else
  Option.bind (Alp a0) λ y3=>
  if !decide (y3=(0:Int))then
   some y3
  else
   Option.bind (Alf a0) λ y4=>
   Option.bind (iter Tt (y4,y4,(y4.length:Int),(0:Int),())) (Sum.elim Ta (λ y=>some y))
abbrev Hi (a0:(List Aa)) (v2:Int):HT:=[.S 0 false,.q (.sl (.nm 9)) a0,.S 24 false,.q (.int .i64) (a0.length:Int),.S 25 false,.q (.int .i64) v2]
abbrev D7 (a0:(List Aa)) (v2:Int):HT:=[.S 0 false,.q (.sl (.nm 9)) a0,.S 6 false,.q (.int .i64) v2,.S 24 false,.q (.int .i64) (a0.length:Int),.S 25 false,.q (.int .i64) v2,.S 28 false,.q (.int .i64) v2,.S 29 false,.v (.int .i64)]
abbrev Hk:HT:=[]
abbrev Dk (a0:(List Aa)):HT:=[.S 0 false,.q (.sl (.nm 9)) a0,.S 24 false,.q (.int .i64) (a0.length:Int),.S 25 false,.v (.int .i64)]
abbrev Hm (a0:(List Aa)):HT:=[.S 0 false,.q (.sl (.nm 9)) a0]
abbrev D8 (a0:(List Aa)):HT:=[.S 0 false,.q (.sl (.nm 9)) a0,.S 11 false,.q (.sl (.nm 9)) a0,.S 12 false,.q (.int .i64) (a0.length:Int),.S 13 false,.v (.int .i64)]
def Md (a0:(List Aa)) (v2:Int):H (Hi a0 v2)->Option ((H (Dk a0))⊕((H Hk)⊕Int)):=λ _=>
 jp (Dk a0)<|some (.inl (IntKind.wrap .i64 (v2+(1:Int)),()))
def L6 (a0:(List Aa)) (v2:Int):H (D7 a0 v2)->Option ((H (D7 a0 v2))⊕((H (Hi a0 v2))⊕Int)):=λ (v3,_)=>
 if decide (v3<v2)then
 need (Af v2 a0.length)<|
 need (Af v3 a0.length)<|
 if decide (((List.getD a0 (v2).toNat (Ag)).Name)=((List.getD a0 (v3).toNat (Ag)).Name))then
  some (.inr (.inr (5:Int)))
 else
  jp (D7 a0 v2)<|some (.inl (IntKind.wrap .i64 (v3+(1:Int)),()))
 else
 jp (Hi a0 v2)<|some (.inr (.inl ()))
def Mn:H Hk->Option Int:=λ _=>
 some (0:Int)
def Lv (a0:(List Aa)):H (Dk a0)->Option ((H (Dk a0))⊕((H Hk)⊕Int)):=λ (v2,_)=>
 if decide (v2<(a0.length:Int))then
 jp (D7 a0 v2)<|Option.bind (iter (L6 a0 v2) ((0:Int),())) (Sum.elim (Md a0 v2) (λ y=>some (.inr (.inr y))))
 else
 some (.inr (.inl ()))
def Lx (a0:(List Aa)):H (Hm a0)->Option Int:=λ _=>
 jp (Dk a0)<|Option.bind (iter (Lv a0) ((0:Int),())) (Sum.elim Mn (λ y=>some y))
def Lq (a0:(List Aa)):H (D8 a0)->Option ((H (D8 a0))⊕((H (Hm a0))⊕Int)):=λ (v1,_)=>
 if decide (v1<(a0.length:Int))then
 need (Af v1 a0.length)<|
 Option.bind (Yr (List.getD a0 (v1).toNat (Ag))) λ y1=>
 if !decide (y1=(0:Int))then
  some (.inr (.inr y1))
 else
  jp (D8 a0)<|some (.inl (IntKind.wrap .i64 (v1+(1:Int)),()))
 else
 jp (Hm a0)<|some (.inr (.inl ()))
def P6 (a0:(List Aa)):Option Int:=
 if decide ((60:Int)<(a0.length:Int))then
 some (3:Int)
 else
 jp (D8 a0)<|Option.bind (iter (Lq a0) ((0:Int),())) (Sum.elim (Lx a0) (λ y=>some y))
abbrev Y9:HT:=[]
abbrev Kc (a0:(List Aa)) (a1:(List (List UInt8))):HT:=[.S 0 false,.q (.sl (.nm 9)) a0,.S 13 false,.q (.sl .str) a1,.S 14 false,.q (.int .i64) (a1.length:Int),.S 15 false,.v (.int .i64)]
def Adc:H Y9->Option Int:=λ _=>
 some (0:Int)
def Ac0 (a0:(List Aa)) (a1:(List (List UInt8))):H (Kc a0 a1)->Option ((H (Kc a0 a1))⊕((H Y9)⊕Int)):=λ (v1,_)=>
 if decide (v1<(a1.length:Int))then
 need (Af v1 a1.length)<|
 Option.bind (Gc a0 (List.getD a1 (v1).toNat ([]:(List UInt8)))) λ y2=>
 if decide (y2<(0:Int))then
  some (.inr (.inr (4:Int)))
 else
  jp (Kc a0 a1)<|some (.inl (IntKind.wrap .i64 (v1+(1:Int)),()))
 else
 some (.inr (.inl ()))
def Ae9 (a0:(List Aa)) (a1:(List (List UInt8))):Option Int:=
 Option.bind (P6 a0) λ y1=>
 if !decide (y1=(0:Int))then
 some y1
 else
 jp (Kc a0 a1)<|Option.bind (iter (Ac0 a0 a1) ((0:Int),())) (Sum.elim Adc (λ y=>some y))
abbrev D9:HT:=[]
abbrev B4 (a0:(List UInt8)) (a1:Int):HT:=[.S 0 false,.q .str a0,.S 1 false,.q (.int .u8) a1,.S 5 false,.v (.int .i64)]
def Ei:H D9->Option Int:=λ _=>
 some (-1:Int)
def Ej (a0:(List UInt8)) (a1:Int):H (B4 a0 a1)->Option ((H (B4 a0 a1))⊕((H D9)⊕Int)):=λ (v1,_)=>
 if decide ((0:Int)<=v1)then
 need (Af v1 a0.length)<|
 if decide (((List.getD a0 v1.toNat 0).toNat:Int)=a1)then
  some (.inr (.inr v1))
 else
  jp (B4 a0 a1)<|some (.inl (IntKind.wrap .i64 (v1-(1:Int)),()))
 else
 some (.inr (.inl ()))
def Ig (a0:(List UInt8)) (a1:Int):Option Int:=
 jp (B4 a0 a1)<|Option.bind (iter (Ej a0 a1) (IntKind.wrap .i64 ((a0.length:Int) -(1:Int)),())) (Sum.elim Ei (λ y=>some y))
def Je (a0:(List UInt8)) (a1:Int):Option Int:=
 Option.bind (Ig a0 a1) λ y1=>
 some y1
abbrev He (a0:(List Aa)) (a2:(List UInt8)):HT:=[.S 0 false,.q (.sl (.nm 9)) a0,.S 1 false,.v .str,.S 2 false,.q .str a2]
def U2 (a0:(List Aa)) (a2:(List UInt8)):H (He a0 a2)->Option ((H (He a0 a2))⊕Int):=λ (v1,_)=>
 need (v1.length+([46]:List UInt8).length<=At)<|
 need ((v1++([46]:List UInt8)).length+a2.length<=At)<|
 Option.bind (Gc a0 ((v1++([46]:List UInt8))++a2)) λ y1=>
 if decide ((0:Int)<=y1)then
 some (.inr y1)
 else
 Option.bind (Je v1 (46:Int)) λ y2=>
 if decide (y2<(0:Int))then
  Option.bind (Gc a0 a2) λ y3=>
  some (.inr y3)
 else
  need ((0:Int)<=(0:Int))<|
  need ((0:Int)<=y2)<|
  need (y2<=(v1.length:Int))<|
  jp (He a0 a2)<|some (.inl ((List.take (y2.toNat-(0:Int).toNat) (List.drop (0:Int).toNat v1)),()))
def D0 (a0:(List Aa)) (a1:(List UInt8)) (a2:(List UInt8)):Option Int:=
 jp (He a0 a2)<|Option.bind (iter (U2 a0 a2) (a1,())) (λ y=>some y)
abbrev G4:HT:=[]
abbrev Ct (a0:(List Int)) (a1:Int):HT:=[.S 0 false,.q (.sl (.int .i64)) a0,.S 1 false,.q (.int .i64) a1,.S 7 false,.q (.int .i64) (a0.length:Int),.S 8 false,.v (.int .i64)]
def H0:H G4->Option Int:=λ _=>
 some (-1:Int)
def Hw (a0:(List Int)) (a1:Int):H (Ct a0 a1)->Option ((H (Ct a0 a1))⊕((H G4)⊕Int)):=λ (v1,_)=>
 if decide (v1<(a0.length:Int))then
 need (Af v1 a0.length)<|
 if decide (a1=(List.getD a0 (v1).toNat (0:Int)))then
  some (.inr (.inr v1))
 else
  jp (Ct a0 a1)<|some (.inl (IntKind.wrap .i64 (v1+(1:Int)),()))
 else
 some (.inr (.inl ()))
def Ph (a0:(List Int)) (a1:Int):Option Int:=
 jp (Ct a0 a1)<|Option.bind (iter (Hw a0 a1) ((0:Int),())) (Sum.elim H0 (λ y=>some y))
def Et (a0:(List Int)) (a1:Int):Option Bool:=
 Option.bind (Ph a0 a1) λ y1=>
 some (decide ((0:Int)<=y1))
abbrev Gx:=(List Aa)->Ai->(List Int)->(List (Int×Bool))->(List Ai)->Option (Int×(List (Int×Bool))×(List Ai))
abbrev Ro (a1:Ai):HT:=[.S 3 false,.k (.mp 1000001),.S 4 false,.k (.ar 1000002 0),.S 6 false,.k (.ptr 6 0),.S 1000000 false,.k (.mp 1000001),.C 6,.q (.nm 18) a1,.M 1000001 (.int .i64) .bool,.A 1000002 84 (.nm 18) 0 false]
abbrev J3 (a0:(List Aa)) (a1:Ai):HT:=[.S 0 false,.q (.sl (.nm 9)) a0,.S 2 false,.v (.sl (.int .i64)),.S 3 false,.k (.mp 1000001),.S 4 false,.k (.ar 1000002 0),.S 6 false,.k (.ptr 6 0),.S 36 false,.q (.sl (.nm 3)) ((List.getD a0 (a1.class_).toNat (Ag)).Bases),.S 37 false,.v (.int .i64),.S 38 false,.v (.int .i64),.S 1000000 false,.k (.mp 1000001),.C 6,.q (.nm 18) a1,.M 1000001 (.int .i64) .bool,.A 1000002 84 (.nm 18) 0 false]
def Aby (R:Gx) (a1:Ai):H (Ro a1)->Option (Int×(List (Int×Bool))×(List Ai)):=λ (v6,v7,_)=>
 need ((v7.length+[a1].length)*24<=At)<|
 some ((0:Int),Hc kqI a1.class_ true v6,v7++[a1])
def Abq (R:Gx) (a0:(List Aa)) (a1:Ai):H (J3 a0 a1)->Option ((H (J3 a0 a1))⊕((H (Ro a1))⊕(Int×(List (Int×Bool))×(List Ai)))):=λ (v1,v2,v3,v4,v5,_)=>
 if decide (v3<v2)then
 need (Af v3 ((List.getD a0 (a1.class_).toNat (Ag)).Bases).length)<|
 need (Af a1.class_ a0.length)<|
 Option.bind (D0 a0 ((List.getD a0 (a1.class_).toNat (Ag)).Name) ((List.getD ((List.getD a0 (a1.class_).toNat (Ag)).Bases) (v3).toNat (Cl)).Name)) λ y3=>
 if decide (y3<(0:Int))then
  some (.inr (.inr ((4:Int),v4,([]:List Ai))))
 else
  Option.bind (R a0 (⟨y3,a1.class_,v3⟩:Ai) v1 v4 v5) λ y4=>
  if !decide (y4.1=(0:Int))then
   some (.inr (.inr (y4.1,y4.2.1,([]:List Ai))))
  else
   jp (J3 a0 a1)<|some (.inl (v1,v2,IntKind.wrap .i64 (v3+(1:Int)),y4.2.1,y4.2.2,()))
 else
 jp (Ro a1)<|some (.inr (.inl (v4,v5,())))
def Avu (R:Gx) (a0:(List Aa)) (a1:Ai) (a2:(List Int)) (a3:(List (Int×Bool))) (a4:(List Ai)):Option (Int×(List (Int×Bool))×(List Ai)):=
 Option.bind (Et a2 a1.class_) λ y1=>
 if y1 then
 some ((10:Int),a3,([]:List Ai))
 else
 if Option.getD (Kh kqI a1.class_ a3) false then
  some ((0:Int),a3,a4)
 else
  Option.bind (Dq a2) λ y2=>
  need ((y2.length+[a1.class_].length)*8<=At)<|
  need (Af a1.class_ a0.length)<|
  jp (J3 a0 a1)<|Option.bind (iter (Abq R a0 a1) (y2++[a1.class_],(((List.getD a0 (a1.class_).toNat (Ag)).Bases).length:Int),(0:Int),a3,a4,())) (Sum.elim (Aby R a1) (λ y=>some y))
def Uh:Nat->Gx
 |0=>λ _ _ _ _ _=>none
 |k+1=>Avu (Uh k)
def Asp:Gx:=λ a0 a1 a2 a3 a4=>Uh (List.length a0+2) a0 a1 a2 a3 a4
abbrev Si (a1:Ai):HT:=[.S 3 false,.k (.mp 1000001),.S 4 false,.k (.ar 270336 0),.S 6 false,.k (.ptr 6 0),.S 1000000 false,.k (.mp 1000001),.C 6,.q (.nm 18) a1,.A 270336 84 (.nm 18) 0 false,.M 1000001 (.int .i64) .bool]
abbrev J9 (a0:(List Aa)) (a1:Ai):HT:=[.S 0 false,.q (.sl (.nm 9)) a0,.S 2 false,.v (.sl (.int .i64)),.S 3 false,.k (.mp 1000001),.S 4 false,.k (.ar 270336 0),.S 6 false,.k (.ptr 6 0),.S 36 false,.q (.sl (.nm 3)) ((List.getD a0 (a1.class_).toNat (Ag)).Bases),.S 37 false,.v (.int .i64),.S 38 false,.v (.int .i64),.S 1000000 false,.k (.mp 1000001),.C 6,.q (.nm 18) a1,.A 270336 84 (.nm 18) 0 false,.M 1000001 (.int .i64) .bool]
def Adk (a1:Ai):H (Si a1)->Option (Int×(List (Int×Bool))×(List Ai)):=λ (v6,v7,_)=>
 need ((v6.length+[a1].length)*24<=At)<|
 some ((0:Int),Hc kqI a1.class_ true v7,v6++[a1])
def Aci (a0:(List Aa)) (a1:Ai):H (J9 a0 a1)->Option ((H (J9 a0 a1))⊕((H (Si a1))⊕(Int×(List (Int×Bool))×(List Ai)))):=λ (v1,v2,v3,v4,v5,_)=>
 if decide (v3<v2)then
 need (Af v3 ((List.getD a0 (a1.class_).toNat (Ag)).Bases).length)<|
 need (Af a1.class_ a0.length)<|
 Option.bind (D0 a0 ((List.getD a0 (a1.class_).toNat (Ag)).Name) ((List.getD ((List.getD a0 (a1.class_).toNat (Ag)).Bases) (v3).toNat (Cl)).Name)) λ y3=>
 if decide (y3<(0:Int))then
  some (.inr (.inr ((4:Int),v5,([]:List Ai))))
 else
  Option.bind (Asp a0 (⟨y3,a1.class_,v3⟩:Ai) v1 v5 v4) λ y4=>
  if !decide (y4.1=(0:Int))then
   some (.inr (.inr (y4.1,y4.2.1,([]:List Ai))))
  else
   jp (J9 a0 a1)<|some (.inl (v1,v2,IntKind.wrap .i64 (v3+(1:Int)),y4.2.2,y4.2.1,()))
 else
 jp (Si a1)<|some (.inr (.inl (v4,v5,())))
def Au4 (a0:(List Aa)) (a1:Ai) (a2:(List Int)) (a3:(List (Int×Bool))):Option (Int×(List (Int×Bool))×(List Ai)):=
 Option.bind (Et a2 a1.class_) λ y1=>
 if y1 then
 some ((10:Int),a3,([]:List Ai))
 else
 if Option.getD (Kh kqI a1.class_ a3) false then
  some ((0:Int),a3,([]:List Ai))
 else
  Option.bind (Dq a2) λ y2=>
  need ((y2.length+[a1.class_].length)*8<=At)<|
  need (Af a1.class_ a0.length)<|
  jp (J9 a0 a1)<|Option.bind (iter (Aci a0 a1) (y2++[a1.class_],(((List.getD a0 (a1.class_).toNat (Ag)).Bases).length:Int),(0:Int),([]:List Ai),a3,())) (Sum.elim (Adk a1) (λ y=>some y))
def U7 (a0:(List Aa)) (a1:Int):Option ((List Ai)×Int):=
 Option.bind (Au4 a0 (⟨a1,(-1:Int),(-1:Int)⟩:Ai) [] ([]:(List (Int×Bool)))) λ y1=>
 some (y1.2.2,y1.1)
def Alt (a0:Ak) (a1:Ak):Option (Bool×Ak):=
 some (decide (a0.Path=a1.Path),(Ea a1))
abbrev E9:HT:=[.S 1000000 false,.k (.ptr 1000001 0),.C 1000001,.s 2]
abbrev Cg (a0:(List Ak)):HT:=[.S 0 false,.q (.sl (.nm 2)) a0,.S 1 false,.k (.clo 86 [.ptr 1000001 0]),.S 7 false,.q (.int .i64) (a0.length:Int),.S 8 false,.v (.int .i64),.S 1000000 false,.k (.ptr 1000001 0),.C 1000001,.s 2]
def Fu:H E9->Option (Int×Ak):=λ (v3,_)=>
 some ((-1:Int),(Ea v3))
def F3 (a0:(List Ak)):H (Cg a0)->Option ((H (Cg a0))⊕((H E9)⊕(Int×Ak))):=λ (v1,v2,_)=>
 if decide (v1<(a0.length:Int))then
 need (Af v1 a0.length)<|
 Option.bind (Alt (Ea (List.getD a0 (v1).toNat (A3))) (Ea v2)) λ y1=>
 if y1.1 then
  some (.inr (.inr (v1,(Ea y1.2))))
 else
  jp (Cg a0)<|some (.inl (IntKind.wrap .i64 (v1+(1:Int)),(Ea y1.2),()))
 else
 some (.inr (.inl ((Ea v2),())))
def G7 (a0:(List Ak)) (a1:Ak):Option (Int×Ak):=
 jp (Cg a0)<|Option.bind (iter (F3 a0) ((0:Int),(Ea a1),())) (Sum.elim Fu (λ y=>some y))
abbrev Tj (a0:(List Ak)) (a1:(List Ak)) (v1:Int):HT:=[.S 0 false,.q (.sl (.nm 2)) a0,.S 5 false,.k (.ar 34 0),.S 6 false,.k (.mp 12),.S 8 false,.k (.ptr 8 0),.S 13 false,.q (.sl (.nm 2)) a1,.S 14 false,.q (.int .i64) (a1.length:Int),.S 15 false,.q (.int .i64) v1,.C 8,.s 2,.M 12 .str .bool,.A 34 75 (.nm 2) 0 false]
abbrev Tm (a0:(List Ak)) (v9:Int):HT:=[.S 5 false,.k (.ar 34 0),.S 6 false,.k (.mp 12),.S 36 false,.q (.sl (.nm 2)) a0,.S 37 false,.q (.int .i64) (a0.length:Int),.S 38 false,.q (.int .i64) v9,.M 12 .str .bool,.A 34 75 (.nm 2) 0 false]
abbrev M4:HT:=[.S 5 false,.k (.ar 34 0),.A 34 75 (.nm 2) 0 false]
abbrev Fr (a0:(List Ak)):HT:=[.S 5 false,.k (.ar 34 0),.S 6 false,.k (.mp 12),.S 36 false,.q (.sl (.nm 2)) a0,.S 37 false,.q (.int .i64) (a0.length:Int),.S 38 false,.v (.int .i64),.M 12 .str .bool,.A 34 75 (.nm 2) 0 false]
abbrev I4 (a0:(List Ak)):HT:=[.S 0 false,.q (.sl (.nm 2)) a0,.S 5 false,.k (.ar 34 0),.S 6 false,.k (.mp 12),.M 12 .str .bool,.A 34 75 (.nm 2) 0 false]
abbrev Fl (a0:(List Ak)) (a1:(List Ak)):HT:=[.S 0 false,.q (.sl (.nm 2)) a0,.S 5 false,.k (.ar 34 0),.S 6 false,.k (.mp 12),.S 13 false,.q (.sl (.nm 2)) a1,.S 14 false,.q (.int .i64) (a1.length:Int),.S 15 false,.v (.int .i64),.M 12 .str .bool,.A 34 75 (.nm 2) 0 false]
def Vg (a0:(List Ak)) (a1:(List Ak)) (v1:Int):H (Tj a0 a1 v1)->Option ((H (Fl a0 a1))⊕(H (I4 a0))):=λ (v4,v5,v6,_)=>
 need ((v6.length+[(Ea v4)].length)*96<=At)<|
 jp (Fl a0 a1)<|some (.inl (IntKind.wrap .i64 (v1+(1:Int)),v5,v6++[(Ea v4)],()))
def Vs (a0:(List Ak)) (v9:Int):H (Tm a0 v9)->Option ((H (Fr a0))⊕(H M4)):=λ (v12,v13,_)=>
 jp (Fr a0)<|some (.inl (IntKind.wrap .i64 (v9+(1:Int)),v12,v13,()))
def W6:H M4->Option (List Ak):=λ (v14,_)=>
 some v14
def U9 (a0:(List Ak)):H (Fr a0)->Option ((H (Fr a0))⊕(H M4)):=λ (v9,v10,v11,_)=>
 if decide (v9<(a0.length:Int))then
 need (Af v9 a0.length)<|
 if !(Option.getD (Kh kqS ((List.getD a0 (v9).toNat (A3)).Path) v10) false)then
  need ((v11.length+[(Ea (List.getD a0 (v9).toNat (A3)))].length)*96<=At)<|
  jp (Tm a0 v9)<|Vs a0 v9 (v10,v11++[(Ea (List.getD a0 (v9).toNat (A3)))],())
 else
  jp (Tm a0 v9)<|Vs a0 v9 (v10,v11,())
 else
 some (.inr (v11,()))
def Ww (a0:(List Ak)):H (I4 a0)->Option (List Ak):=λ (v7,v8,_)=>
 jp (Fr a0)<|Option.bind (iter (U9 a0) ((0:Int),v7,v8,())) W6
def W3 (a0:(List Ak)) (a1:(List Ak)):H (Fl a0 a1)->Option ((H (Fl a0 a1))⊕(H (I4 a0))):=λ (v1,v2,v3,_)=>
 if decide (v1<(a1.length:Int))then
 need (Af v1 a1.length)<|
 Option.bind (G7 a0 (Ea (List.getD a1 (v1).toNat (A3)))) λ y1=>
 if decide ((0:Int)<=y1.1)then
  need (Af y1.1 a0.length)<|
  jp (Tj a0 a1 v1)<|Vg a0 a1 v1 ((Ea (List.getD a0 (y1.1).toNat (A3))),Hc kqS ((List.getD a0 (y1.1).toNat (A3)).Path) true v2,v3,())
 else
  jp (Tj a0 a1 v1)<|Vg a0 a1 v1 ((Ea y1.2),v2,v3,())
 else
 jp (I4 a0)<|some (.inr (v2,v3,()))
def Xd (a0:(List Ak)) (a1:(List Ak)):Option (List Ak):=
 jp (Fl a0 a1)<|Option.bind (iter (W3 a0 a1) ((0:Int),([]:(List ((List UInt8)×Bool))),([]:List Ak),())) (Ww a0)
def Arg (a0:Am):Option Am:=
 some (⟨a0.Op,a0.Name,a0.N,[]⟩:Am)
abbrev Df:=Am->Option Am
abbrev Ji (a0:Am):HT:=[.S 4 false,.k (.ptr 4 0),.S 5 false,.k (.ptr 5 0),.C 4,.s 1,.C 5,.q (.int .i64) a0.Op,.q .str a0.Name,.q (.int .i64) a0.N.N,.q (.int .i64) a0.N.D,.k (.ar 4000504 0),.A 4000504 68 (.nm 1) 0 false]
abbrev Fb (a0:Am):HT:=[.S 1 false,.k (.clo 120 []),.S 4 false,.k (.ptr 4 0),.S 5 false,.k (.ptr 5 0),.S 18 false,.q (.sl (.nm 1)) a0.Kids,.S 19 false,.q (.int .i64) (a0.Kids.length:Int),.S 20 false,.v (.int .i64),.C 4,.s 1,.C 5,.q (.int .i64) a0.Op,.q .str a0.Name,.q (.int .i64) a0.N.N,.q (.int .i64) a0.N.D,.k (.ar 4000504 0),.A 4000504 68 (.nm 1) 0 false]
def P8 (R:Df) (a0:Am):H (Ji a0)->Option Am:=λ (v4,v5,_)=>
 some (⟨a0.Op,a0.Name,a0.N,v5⟩:Am)
def Qg (R:Df) (a0:Am):H (Fb a0)->Option ((H (Fb a0))⊕(H (Ji a0))):=λ (v1,v2,v3,_)=>
 if decide (v1<(a0.Kids.length:Int))then
 need (Af v1 a0.Kids.length)<|
 Option.bind (R (Ap (List.getD a0.Kids (v1).toNat (D4)))) λ y2=>
 need ((v3.length+[(Ap y2)].length)*64<=At)<|
 jp (Fb a0)<|some (.inl (IntKind.wrap .i64 (v1+(1:Int)),(Ap v2),v3++[(Ap y2)],()))
 else
 jp (Ji a0)<|some (.inr ((Ap v2),v3,()))
def Afl (R:Df) (a0:Am):Option Am:=
 if decide ((a0.Kids.length:Int)=(0:Int))then
 Option.bind (Arg (Ap a0)) λ y1=>
 some (Ap y1)
 else
 jp (Fb a0)<|Option.bind (iter (Qg R a0) ((0:Int),(⟨(0:Int),([]:List UInt8),(⟨(0:Int),(0:Int)⟩:Bd),[]⟩:Am),([]:List Am),())) (P8 R a0)
def I5:Nat->Df
 |0=>λ _=>none
 |k+1=>Afl (I5 k)
def Yx:Df:=λ a0=>I5 (SizeOf.sizeOf a0+1) a0
def Nm (a0:Am):Option Am:=
 Option.bind (Yx (Ap a0)) λ y1=>
 some (Ap y1)
abbrev Og:HT:=[.S 3 false,.k (.ar 7 0),.A 7 75 (.nm 2) 0 false]
abbrev E7 (a0:(List Ak)):HT:=[.S 3 false,.k (.ar 7 0),.S 12 false,.q (.int .i64) (a0.length:Int),.S 13 false,.v (.int .i64),.A 7 75 (.nm 2) 0 false]
def Qi:H Og->Option (List Ak):=λ (v3,_)=>
 some v3
def P7 (a0:(List Ak)):H (E7 a0)->Option ((H (E7 a0))⊕(H Og)):=λ (v1,v2,_)=>
 if decide (v1<(a0.length:Int))then
 need (Af v1 v2.length)<|
 Option.bind (Nm (Ap ((List.getD v2 v1.toNat (A3)).Value))) λ y1=>
 need (Af v1 v2.length)<|
 jp (E7 a0)<|some (.inl (IntKind.wrap .i64 (v1+(1:Int)),List.set v2 v1.toNat (⟨(List.getD v2 v1.toNat (A3)).Path,(List.getD v2 v1.toNat (A3)).Type_,(Ap y1)⟩:Ak),()))
 else
 some (.inr (v2,()))
def Xf (a0:(List Ak)):Option (List Ak):=
 need (0<=(a0.length:Int))<|
 need ((a0.length:Int)<=(a0.length:Int))<|
 need ((a0.length:Int)*((96:Nat):Int)<=(At:Int))<|
 need (a0.length=(List.replicate ((a0.length:Int)).toNat (⟨([]:List UInt8),([]:List UInt8),(⟨(0:Int),([]:List UInt8),(⟨(0:Int),(0:Int)⟩:Bd),[]⟩:Am)⟩:Ak)).length)<|
 jp (E7 a0)<|Option.bind (iter (P7 a0) ((0:Int),a0,())) Qi
abbrev Ahz:HT:=[.S 8 false,.k (.ar 13 0),.A 13 75 (.nm 2) 0 false]
abbrev Lj (a0:(List Aa)) (a1:(List UInt8)):HT:=[.S 0 false,.q (.sl (.nm 9)) a0,.S 1 false,.q .str a1,.S 8 false,.k (.ar 13 0),.S 14 false,.k (.ar 13 0),.S 15 false,.v (.int .i64),.S 16 false,.v (.int .i64),.A 13 75 (.nm 2) 0 false]
def Aly:H Ahz->Option ((List Ak)×Bool):=λ (v4,_)=>
 some (v4,true)
def Alb (a0:(List Aa)) (a1:(List UInt8)):H (Lj a0 a1)->Option ((H (Lj a0 a1))⊕((H Ahz)⊕((List Ak)×Bool))):=λ (v1,v2,v3,_)=>
 if decide (v2<v1)then
 need (Af v2 v3.length)<|
 if decide (((List.getD v3 v2.toNat (A3)).Type_)=([]:List UInt8))then
  jp (Lj a0 a1)<|some (.inl (v1,IntKind.wrap .i64 (v2+(1:Int)),v3,()))
 else
  Option.bind (D0 a0 a1 ((List.getD v3 v2.toNat (A3)).Type_)) λ y2=>
  if decide (y2<(0:Int))then
   some (.inr (.inr ([],false)))
  else
   need (Af y2 a0.length)<|
   need (Af v2 v3.length)<|
   jp (Lj a0 a1)<|some (.inl (v1,IntKind.wrap .i64 (v2+(1:Int)),List.set v3 v2.toNat (⟨(List.getD v3 v2.toNat (A3)).Path,(List.getD a0 (y2).toNat (Ag)).Name,(Ap ((List.getD v3 v2.toNat (A3)).Value))⟩:Ak),()))
 else
 some (.inr (.inl (v3,())))
def Aj9 (a0:(List Aa)) (a1:(List UInt8)) (a2:(List Ak)):Option ((List Ak)×Bool):=
 Option.bind (Xf a2) λ y1=>
 jp (Lj a0 a1)<|Option.bind (iter (Alb a0 a1) ((y1.length:Int),(0:Int),y1,())) (Sum.elim Aly (λ y=>some y))
abbrev K0 (a1:(List Ak)) (v1:Int) (v3:Ax):HT:=[.S 2 false,.k (.ptr 2 0),.S 4 false,.k (.ptr 4 0),.S 5 false,.k (.ar 39 0),.S 11 false,.q (.sl (.nm 2)) a1,.S 12 false,.q (.int .i64) (a1.length:Int),.S 13 false,.q (.int .i64) v1,.C 2,.s 4,.C 4,.q (.nm 4) (B1 v3),.A 39 75 (.nm 2) 0 false]
abbrev Pb:HT:=[.S 2 false,.k (.ptr 2 0),.S 4 false,.k (.ptr 4 0),.S 5 false,.k (.ar 39 0),.C 2,.s 4,.C 4,.s 4,.A 39 75 (.nm 2) 0 false]
abbrev Gr (a1:(List Ak)):HT:=[.S 2 false,.k (.ptr 2 0),.S 4 false,.k (.ptr 4 0),.S 5 false,.k (.ar 39 0),.S 11 false,.q (.sl (.nm 2)) a1,.S 12 false,.q (.int .i64) (a1.length:Int),.S 13 false,.v (.int .i64),.C 2,.s 4,.C 4,.s 4,.A 39 75 (.nm 2) 0 false]
def Nt (a1:(List Ak)) (v1:Int) (v3:Ax):H (K0 a1 v1 v3)->Option ((H (Gr a1))⊕(H Pb)):=λ (v5,v6,_)=>
 jp (Gr a1)<|some (.inl (IntKind.wrap .i64 (v1+(1:Int)),(B1 v5),(B1 v3),v6,()))
def Yh:H Pb->Option Ax:=λ (v7,v8,v9,_)=>
 Option.bind (Xd v9 v7.Mods) λ y2=>
 some (⟨v7.Name,v7.Type_,v7.Var,v7.Flow,v7.Size,v7.Scope,v7.Replace,(Ap v7.Cond),(Ap v7.Value),v7.Unit,y2⟩:Ax)
def Za (a1:(List Ak)):H (Gr a1)->Option ((H (Gr a1))⊕(H Pb)):=λ (v1,v2,v3,v4,_)=>
 if decide (v1<(a1.length:Int))then
 need (Af v1 a1.length)<|
 Option.bind (Pv ((List.getD a1 (v1).toNat (A3)).Path) ([46]:List UInt8)) λ y1=>
 if !decide (y1.1=v2.Name)then
  jp (K0 a1 v1 v3)<|Nt a1 v1 v3 ((B1 v2),v4,())
 else
  if y1.2.2 then
   need ((v4.length+[(⟨y1.2.1,(List.getD a1 (v1).toNat (A3)).Type_,(Ap ((List.getD a1 (v1).toNat (A3)).Value))⟩:Ak)].length)*96<=At)<|
   jp (K0 a1 v1 v3)<|Nt a1 v1 v3 ((B1 v2),v4++[(⟨y1.2.1,(List.getD a1 (v1).toNat (A3)).Type_,(Ap ((List.getD a1 (v1).toNat (A3)).Value))⟩:Ak)],())
  else
   if !decide (((List.getD a1 (v1).toNat (A3)).Type_)=([]:List UInt8))then
    jp (K0 a1 v1 v3)<|Nt a1 v1 v3 ((⟨v2.Name,(List.getD a1 (v1).toNat (A3)).Type_,v2.Var,v2.Flow,v2.Size,v2.Scope,v2.Replace,(Ap v2.Cond),(Ap v2.Value),v2.Unit,v2.Mods⟩:Ax),v4,())
   else
    jp (K0 a1 v1 v3)<|Nt a1 v1 v3 ((⟨v2.Name,v2.Type_,v2.Var,v2.Flow,v2.Size,v2.Scope,v2.Replace,(Ap v2.Cond),(Ap ((List.getD a1 (v1).toNat (A3)).Value)),v2.Unit,v2.Mods⟩:Ax),v4,())
 else
 some (.inr ((B1 v2),(B1 v3),v4,()))
def Aic (a0:Ax) (a1:(List Ak)):Option Ax:=
 jp (Gr a1)<|Option.bind (iter (Za a1) ((0:Int),(B1 a0),(⟨([]:List UInt8),([]:List UInt8),(0:Int),false,(0:Int),(0:Int),false,(⟨(0:Int),([]:List UInt8),(⟨(0:Int),(0:Int)⟩:Bd),[]⟩:Am),(⟨(0:Int),([]:List UInt8),(⟨(0:Int),(0:Int)⟩:Bd),[]⟩:Am),([]:List UInt8),[]⟩:Ax),([]:List Ak),())) Yh
abbrev Aah (a0:(List Aa)) (a1:Int) (a2:(List Ak)) (v1:(List Ai)) (v2:(List Ai)) (v3:Int) (v4:Int):HT:=[.S 0 false,.q (.sl (.nm 9)) a0,.S 1 false,.q (.int .i64) a1,.S 2 false,.q (.sl (.nm 2)) a2,.S 6 false,.k (.ptr 6 0),.S 7 false,.k (.ptr 7 0),.S 9 false,.q (.sl (.nm 18)) v1,.S 10 false,.k (.mp 57),.S 58 false,.q (.sl (.nm 18)) v2,.S 59 false,.q (.int .i64) v3,.S 60 false,.q (.int .i64) v4,.C 6,.q .str ((List.getD a0 (a1).toNat (Ag)).Name),.q (.int .i64) ((List.getD a0 (a1).toNat (Ag)).Kind),.k (.sl (.nm 3) true []),.k (.sl (.nm 4) true []),.k (.sl (.nm 5) true []),.k (.sl (.nm 6) true []),.k (.sl (.nm 8) true []),.C 7,.k (.str ([]:List UInt8)),.k (.int .i64 (0:Int)),.k (.sl (.nm 3) true []),.k (.sl (.nm 4) true []),.k (.sl (.nm 5) true []),.k (.sl (.nm 6) true []),.k (.sl (.nm 8) true []),.M 57 .str .bool]
abbrev Pg (a0:(List Aa)) (a1:Int) (a2:(List Ak)) (v1:(List Ai)) (v2:(List Ai)) (v3:Int) (v4:Int):HT:=[.S 0 false,.q (.sl (.nm 9)) a0,.S 1 false,.q (.int .i64) a1,.S 2 false,.q (.sl (.nm 2)) a2,.S 6 false,.k (.ptr 6 0),.S 7 false,.k (.ptr 7 0),.S 9 false,.q (.sl (.nm 18)) v1,.S 10 false,.k (.mp 57),.S 58 false,.q (.sl (.nm 18)) v2,.S 59 false,.q (.int .i64) v3,.S 60 false,.q (.int .i64) v4,.S 69 false,.v (.sl (.nm 4)),.S 70 false,.v (.int .i64),.S 71 false,.v (.int .i64),.C 6,.q .str ((List.getD a0 (a1).toNat (Ag)).Name),.q (.int .i64) ((List.getD a0 (a1).toNat (Ag)).Kind),.k (.sl (.nm 3) true []),.k (.sl (.nm 4) true []),.k (.sl (.nm 5) true []),.k (.sl (.nm 6) true []),.k (.sl (.nm 8) true []),.C 7,.k (.str ([]:List UInt8)),.k (.int .i64 (0:Int)),.k (.sl (.nm 3) true []),.k (.sl (.nm 4) true []),.k (.sl (.nm 5) true []),.k (.sl (.nm 6) true []),.k (.sl (.nm 8) true []),.M 57 .str .bool]
abbrev Aih (a0:(List Aa)) (a1:Int) (v11:(List Ai)) (v15:Int) (v22:(List Ax)) (v23:Int) (v24:Int) (v25:Aa):HT:=[.S 0 false,.q (.sl (.nm 9)) a0,.S 6 false,.k (.ptr 6 0),.S 7 false,.k (.ptr 7 0),.S 15 false,.k (.mp 86),.S 21 false,.k (.ptr 21 0),.S 22 false,.k (.ptr 22 0),.S 24 false,.k (.ptr 24 0),.S 137 false,.q (.sl (.nm 18)) v11,.S 138 false,.q (.int .i64) (v11.length:Int),.S 139 false,.q (.int .i64) v15,.S 149 false,.q (.sl (.nm 4)) v22,.S 150 false,.q (.int .i64) v23,.S 151 false,.q (.int .i64) v24,.C 6,.q .str ((List.getD a0 (a1).toNat (Ag)).Name),.q (.int .i64) ((List.getD a0 (a1).toNat (Ag)).Kind),.k (.sl (.nm 3) true []),.k (.ar 4000603 0),.k (.ar 4000604 0),.k (.ar 4000605 0),.k (.ar 4000606 0),.C 7,.q .str ((List.getD a0 (a1).toNat (Ag)).Name),.q (.int .i64) ((List.getD a0 (a1).toNat (Ag)).Kind),.k (.sl (.nm 3) true []),.k (.ar 4000703 0),.k (.sl (.nm 5) true []),.k (.sl (.nm 6) true []),.k (.sl (.nm 8) true []),.C 21,.q (.nm 18) (List.getD v11 (v15).toNat (Be)),.C 22,.q (.nm 9) v25,.C 24,.s 4,.M 86 (.int .i64) (.sl (.nm 2)),.A 4000603 70 (.nm 4) 0 false,.A 4000604 100 (.nm 5) 0 false,.A 4000605 123 (.nm 6) 0 false,.A 4000606 126 (.nm 8) 0 false,.A 4000703 70 (.nm 4) 0 false]
abbrev Wh (a0:(List Aa)) (a1:Int) (v11:(List Ai)) (v15:Int) (v39:Aa) (v59:Int):HT:=[.S 0 false,.q (.sl (.nm 9)) a0,.S 6 false,.k (.ptr 6 0),.S 7 false,.k (.ptr 7 0),.S 15 false,.k (.mp 86),.S 32 false,.k (.ptr 32 0),.S 137 false,.q (.sl (.nm 18)) v11,.S 138 false,.q (.int .i64) (v11.length:Int),.S 139 false,.q (.int .i64) v15,.S 244 false,.q (.sl (.nm 8)) v39.Whens,.S 245 false,.q (.int .i64) (v39.Whens.length:Int),.S 246 false,.q (.int .i64) v59,.C 6,.q .str ((List.getD a0 (a1).toNat (Ag)).Name),.q (.int .i64) ((List.getD a0 (a1).toNat (Ag)).Kind),.k (.sl (.nm 3) true []),.k (.ar 4000603 0),.k (.ar 4000604 0),.k (.ar 4000605 0),.k (.ar 4000606 0),.C 7,.q .str ((List.getD a0 (a1).toNat (Ag)).Name),.q (.int .i64) ((List.getD a0 (a1).toNat (Ag)).Kind),.k (.sl (.nm 3) true []),.k (.ar 4000703 0),.k (.sl (.nm 5) true []),.k (.sl (.nm 6) true []),.k (.sl (.nm 8) true []),.C 32,.v (.int .i64),.v .str,.v (.int .i64),.v (.int .i64),.v (.sl (.nm 1)),.k (.ar 4003205 0),.M 86 (.int .i64) (.sl (.nm 2)),.A 4000603 70 (.nm 4) 0 false,.A 4000604 100 (.nm 5) 0 false,.A 4000605 123 (.nm 6) 0 false,.A 4000606 126 (.nm 8) 0 false,.A 4000703 70 (.nm 4) 0 false,.A 4003205 128 (.nm 7) 0 false]
abbrev Lw (a0:(List Aa)) (a1:Int) (v11:(List Ai)) (v15:Int) (v39:Aa) (v59:Int):HT:=[.S 0 false,.q (.sl (.nm 9)) a0,.S 6 false,.k (.ptr 6 0),.S 7 false,.k (.ptr 7 0),.S 15 false,.k (.mp 86),.S 32 false,.k (.ptr 32 0),.S 137 false,.q (.sl (.nm 18)) v11,.S 138 false,.q (.int .i64) (v11.length:Int),.S 139 false,.q (.int .i64) v15,.S 244 false,.q (.sl (.nm 8)) v39.Whens,.S 245 false,.q (.int .i64) (v39.Whens.length:Int),.S 246 false,.q (.int .i64) v59,.S 255 false,.q (.sl (.nm 7)) ((List.getD v39.Whens (v59).toNat (Bz)).Sets),.S 256 false,.v (.int .i64),.S 257 false,.v (.int .i64),.C 6,.q .str ((List.getD a0 (a1).toNat (Ag)).Name),.q (.int .i64) ((List.getD a0 (a1).toNat (Ag)).Kind),.k (.sl (.nm 3) true []),.k (.ar 4000603 0),.k (.ar 4000604 0),.k (.ar 4000605 0),.k (.ar 4000606 0),.C 7,.q .str ((List.getD a0 (a1).toNat (Ag)).Name),.q (.int .i64) ((List.getD a0 (a1).toNat (Ag)).Kind),.k (.sl (.nm 3) true []),.k (.ar 4000703 0),.k (.sl (.nm 5) true []),.k (.sl (.nm 6) true []),.k (.sl (.nm 8) true []),.C 32,.v (.int .i64),.v .str,.v (.int .i64),.v (.int .i64),.v (.sl (.nm 1)),.k (.ar 4003205 0),.M 86 (.int .i64) (.sl (.nm 2)),.A 4000603 70 (.nm 4) 0 false,.A 4000604 100 (.nm 5) 0 false,.A 4000605 123 (.nm 6) 0 false,.A 4000606 126 (.nm 8) 0 false,.A 4000703 70 (.nm 4) 0 false,.A 4003205 128 (.nm 7) 0 false]
abbrev Q0 (a0:(List Aa)) (a1:Int) (v11:(List Ai)) (v15:Int):HT:=[.S 0 false,.q (.sl (.nm 9)) a0,.S 6 false,.k (.ptr 6 0),.S 7 false,.k (.ptr 7 0),.S 15 false,.k (.mp 86),.S 137 false,.q (.sl (.nm 18)) v11,.S 138 false,.q (.int .i64) (v11.length:Int),.S 139 false,.q (.int .i64) v15,.C 6,.q .str ((List.getD a0 (a1).toNat (Ag)).Name),.q (.int .i64) ((List.getD a0 (a1).toNat (Ag)).Kind),.k (.sl (.nm 3) true []),.k (.ar 4000603 0),.k (.ar 4000604 0),.k (.ar 4000605 0),.k (.ar 4000606 0),.C 7,.q .str ((List.getD a0 (a1).toNat (Ag)).Name),.q (.int .i64) ((List.getD a0 (a1).toNat (Ag)).Kind),.k (.sl (.nm 3) true []),.k (.ar 4000703 0),.k (.sl (.nm 5) true []),.k (.sl (.nm 6) true []),.k (.sl (.nm 8) true []),.M 86 (.int .i64) (.sl (.nm 2)),.A 4000603 70 (.nm 4) 0 false,.A 4000604 100 (.nm 5) 0 false,.A 4000605 123 (.nm 6) 0 false,.A 4000606 126 (.nm 8) 0 false,.A 4000703 70 (.nm 4) 0 false]
abbrev Jj (a0:(List Aa)) (a1:Int) (v11:(List Ai)) (v15:Int) (v39:Aa):HT:=[.S 0 false,.q (.sl (.nm 9)) a0,.S 6 false,.k (.ptr 6 0),.S 7 false,.k (.ptr 7 0),.S 15 false,.k (.mp 86),.S 137 false,.q (.sl (.nm 18)) v11,.S 138 false,.q (.int .i64) (v11.length:Int),.S 139 false,.q (.int .i64) v15,.S 244 false,.q (.sl (.nm 8)) v39.Whens,.S 245 false,.q (.int .i64) (v39.Whens.length:Int),.S 246 false,.v (.int .i64),.C 6,.q .str ((List.getD a0 (a1).toNat (Ag)).Name),.q (.int .i64) ((List.getD a0 (a1).toNat (Ag)).Kind),.k (.sl (.nm 3) true []),.k (.ar 4000603 0),.k (.ar 4000604 0),.k (.ar 4000605 0),.k (.ar 4000606 0),.C 7,.q .str ((List.getD a0 (a1).toNat (Ag)).Name),.q (.int .i64) ((List.getD a0 (a1).toNat (Ag)).Kind),.k (.sl (.nm 3) true []),.k (.ar 4000703 0),.k (.sl (.nm 5) true []),.k (.sl (.nm 6) true []),.k (.sl (.nm 8) true []),.M 86 (.int .i64) (.sl (.nm 2)),.A 4000603 70 (.nm 4) 0 false,.A 4000604 100 (.nm 5) 0 false,.A 4000605 123 (.nm 6) 0 false,.A 4000606 126 (.nm 8) 0 false,.A 4000703 70 (.nm 4) 0 false]
abbrev V0 (a0:(List Aa)) (a1:Int) (v11:(List Ai)) (v15:Int) (v39:Aa):HT:=[.S 0 false,.q (.sl (.nm 9)) a0,.S 6 false,.k (.ptr 6 0),.S 7 false,.k (.ptr 7 0),.S 15 false,.k (.mp 86),.S 22 false,.k (.ptr 22 0),.S 137 false,.q (.sl (.nm 18)) v11,.S 138 false,.q (.int .i64) (v11.length:Int),.S 139 false,.q (.int .i64) v15,.C 6,.q .str ((List.getD a0 (a1).toNat (Ag)).Name),.q (.int .i64) ((List.getD a0 (a1).toNat (Ag)).Kind),.k (.sl (.nm 3) true []),.k (.ar 4000603 0),.k (.ar 4000604 0),.k (.ar 4000605 0),.k (.ar 4000606 0),.C 7,.q .str ((List.getD a0 (a1).toNat (Ag)).Name),.q (.int .i64) ((List.getD a0 (a1).toNat (Ag)).Kind),.k (.sl (.nm 3) true []),.k (.ar 4000703 0),.k (.sl (.nm 5) true []),.k (.sl (.nm 6) true []),.k (.sl (.nm 8) true []),.C 22,.q (.nm 9) v39,.M 86 (.int .i64) (.sl (.nm 2)),.A 4000603 70 (.nm 4) 0 false,.A 4000604 100 (.nm 5) 0 false,.A 4000605 123 (.nm 6) 0 false,.A 4000606 126 (.nm 8) 0 false,.A 4000703 70 (.nm 4) 0 false]
abbrev Ls (a0:(List Aa)) (a1:Int) (v11:(List Ai)) (v15:Int) (v39:Aa):HT:=[.S 0 false,.q (.sl (.nm 9)) a0,.S 6 false,.k (.ptr 6 0),.S 7 false,.k (.ptr 7 0),.S 15 false,.k (.mp 86),.S 22 false,.k (.ptr 22 0),.S 137 false,.q (.sl (.nm 18)) v11,.S 138 false,.q (.int .i64) (v11.length:Int),.S 139 false,.q (.int .i64) v15,.S 216 false,.q (.sl (.nm 5)) v39.Eqs,.S 217 false,.q (.int .i64) (v39.Eqs.length:Int),.S 218 false,.v (.int .i64),.C 6,.q .str ((List.getD a0 (a1).toNat (Ag)).Name),.q (.int .i64) ((List.getD a0 (a1).toNat (Ag)).Kind),.k (.sl (.nm 3) true []),.k (.ar 4000603 0),.k (.ar 4000604 0),.k (.ar 4000605 0),.k (.ar 4000606 0),.C 7,.q .str ((List.getD a0 (a1).toNat (Ag)).Name),.q (.int .i64) ((List.getD a0 (a1).toNat (Ag)).Kind),.k (.sl (.nm 3) true []),.k (.ar 4000703 0),.k (.sl (.nm 5) true []),.k (.sl (.nm 6) true []),.k (.sl (.nm 8) true []),.C 22,.q (.nm 9) v39,.M 86 (.int .i64) (.sl (.nm 2)),.A 4000603 70 (.nm 4) 0 false,.A 4000604 100 (.nm 5) 0 false,.A 4000605 123 (.nm 6) 0 false,.A 4000606 126 (.nm 8) 0 false,.A 4000703 70 (.nm 4) 0 false]
abbrev Mj (a0:(List Aa)) (a1:Int) (v11:(List Ai)) (v15:Int):HT:=[.S 0 false,.q (.sl (.nm 9)) a0,.S 6 false,.k (.ptr 6 0),.S 7 false,.k (.ptr 7 0),.S 15 false,.k (.mp 86),.S 22 false,.k (.ptr 22 0),.S 137 false,.q (.sl (.nm 18)) v11,.S 138 false,.q (.int .i64) (v11.length:Int),.S 139 false,.q (.int .i64) v15,.C 6,.q .str ((List.getD a0 (a1).toNat (Ag)).Name),.q (.int .i64) ((List.getD a0 (a1).toNat (Ag)).Kind),.k (.sl (.nm 3) true []),.k (.ar 4000603 0),.k (.ar 4000604 0),.k (.ar 4000605 0),.k (.ar 4000606 0),.C 7,.q .str ((List.getD a0 (a1).toNat (Ag)).Name),.q (.int .i64) ((List.getD a0 (a1).toNat (Ag)).Kind),.k (.sl (.nm 3) true []),.k (.ar 4000703 0),.k (.sl (.nm 5) true []),.k (.sl (.nm 6) true []),.k (.sl (.nm 8) true []),.C 22,.s 9,.M 86 (.int .i64) (.sl (.nm 2)),.A 4000603 70 (.nm 4) 0 false,.A 4000604 100 (.nm 5) 0 false,.A 4000605 123 (.nm 6) 0 false,.A 4000606 126 (.nm 8) 0 false,.A 4000703 70 (.nm 4) 0 false]
abbrev Ll (a0:(List Aa)) (a1:Int) (v11:(List Ai)) (v15:Int):HT:=[.S 0 false,.q (.sl (.nm 9)) a0,.S 6 false,.k (.ptr 6 0),.S 7 false,.k (.ptr 7 0),.S 15 false,.k (.mp 86),.S 21 false,.k (.ptr 21 0),.S 22 false,.k (.ptr 22 0),.S 137 false,.q (.sl (.nm 18)) v11,.S 138 false,.q (.int .i64) (v11.length:Int),.S 139 false,.q (.int .i64) v15,.S 149 false,.v (.sl (.nm 4)),.S 150 false,.v (.int .i64),.S 151 false,.v (.int .i64),.C 6,.q .str ((List.getD a0 (a1).toNat (Ag)).Name),.q (.int .i64) ((List.getD a0 (a1).toNat (Ag)).Kind),.k (.sl (.nm 3) true []),.k (.ar 4000603 0),.k (.ar 4000604 0),.k (.ar 4000605 0),.k (.ar 4000606 0),.C 7,.q .str ((List.getD a0 (a1).toNat (Ag)).Name),.q (.int .i64) ((List.getD a0 (a1).toNat (Ag)).Kind),.k (.sl (.nm 3) true []),.k (.ar 4000703 0),.k (.sl (.nm 5) true []),.k (.sl (.nm 6) true []),.k (.sl (.nm 8) true []),.C 21,.q (.nm 18) (List.getD v11 (v15).toNat (Be)),.C 22,.s 9,.M 86 (.int .i64) (.sl (.nm 2)),.A 4000603 70 (.nm 4) 0 false,.A 4000604 100 (.nm 5) 0 false,.A 4000605 123 (.nm 6) 0 false,.A 4000606 126 (.nm 8) 0 false,.A 4000703 70 (.nm 4) 0 false]
abbrev Gp (a0:(List Aa)) (a1:Int):HT:=[.S 6 false,.k (.ptr 6 0),.S 7 false,.k (.ptr 7 0),.C 6,.q .str ((List.getD a0 (a1).toNat (Ag)).Name),.q (.int .i64) ((List.getD a0 (a1).toNat (Ag)).Kind),.k (.sl (.nm 3) true []),.k (.ar 4000603 0),.k (.ar 4000604 0),.k (.ar 4000605 0),.k (.ar 4000606 0),.C 7,.q .str ((List.getD a0 (a1).toNat (Ag)).Name),.q (.int .i64) ((List.getD a0 (a1).toNat (Ag)).Kind),.k (.sl (.nm 3) true []),.k (.ar 4000703 0),.k (.sl (.nm 5) true []),.k (.sl (.nm 6) true []),.k (.sl (.nm 8) true []),.A 4000603 70 (.nm 4) 0 false,.A 4000604 100 (.nm 5) 0 false,.A 4000605 123 (.nm 6) 0 false,.A 4000606 126 (.nm 8) 0 false,.A 4000703 70 (.nm 4) 0 false]
abbrev Fq (a0:(List Aa)) (a1:Int) (v11:(List Ai)):HT:=[.S 0 false,.q (.sl (.nm 9)) a0,.S 6 false,.k (.ptr 6 0),.S 7 false,.k (.ptr 7 0),.S 15 false,.k (.mp 86),.S 137 false,.q (.sl (.nm 18)) v11,.S 138 false,.q (.int .i64) (v11.length:Int),.S 139 false,.v (.int .i64),.C 6,.q .str ((List.getD a0 (a1).toNat (Ag)).Name),.q (.int .i64) ((List.getD a0 (a1).toNat (Ag)).Kind),.k (.sl (.nm 3) true []),.k (.ar 4000603 0),.k (.ar 4000604 0),.k (.ar 4000605 0),.k (.ar 4000606 0),.C 7,.q .str ((List.getD a0 (a1).toNat (Ag)).Name),.q (.int .i64) ((List.getD a0 (a1).toNat (Ag)).Kind),.k (.sl (.nm 3) true []),.k (.ar 4000703 0),.k (.sl (.nm 5) true []),.k (.sl (.nm 6) true []),.k (.sl (.nm 8) true []),.M 86 (.int .i64) (.sl (.nm 2)),.A 4000603 70 (.nm 4) 0 false,.A 4000604 100 (.nm 5) 0 false,.A 4000605 123 (.nm 6) 0 false,.A 4000606 126 (.nm 8) 0 false,.A 4000703 70 (.nm 4) 0 false]
abbrev Z1 (a0:(List Aa)) (a1:Int) (v11:(List Ai)):HT:=[.S 0 false,.q (.sl (.nm 9)) a0,.S 6 false,.k (.ptr 6 0),.S 7 false,.k (.ptr 7 0),.S 9 false,.q (.sl (.nm 18)) v11,.S 15 false,.k (.mp 86),.C 6,.q .str ((List.getD a0 (a1).toNat (Ag)).Name),.q (.int .i64) ((List.getD a0 (a1).toNat (Ag)).Kind),.k (.sl (.nm 3) true []),.k (.sl (.nm 4) true []),.k (.sl (.nm 5) true []),.k (.sl (.nm 6) true []),.k (.sl (.nm 8) true []),.C 7,.k (.str ([]:List UInt8)),.k (.int .i64 (0:Int)),.k (.sl (.nm 3) true []),.k (.sl (.nm 4) true []),.k (.sl (.nm 5) true []),.k (.sl (.nm 6) true []),.k (.sl (.nm 8) true []),.M 86 (.int .i64) (.sl (.nm 2))]
abbrev O0 (a0:(List Aa)) (a1:Int) (v11:(List Ai)):HT:=[.S 0 false,.q (.sl (.nm 9)) a0,.S 6 false,.k (.ptr 6 0),.S 7 false,.k (.ptr 7 0),.S 9 false,.q (.sl (.nm 18)) v11,.S 15 false,.k (.mp 86),.S 16 false,.v (.int .i64),.C 6,.q .str ((List.getD a0 (a1).toNat (Ag)).Name),.q (.int .i64) ((List.getD a0 (a1).toNat (Ag)).Kind),.k (.sl (.nm 3) true []),.k (.sl (.nm 4) true []),.k (.sl (.nm 5) true []),.k (.sl (.nm 6) true []),.k (.sl (.nm 8) true []),.C 7,.k (.str ([]:List UInt8)),.k (.int .i64 (0:Int)),.k (.sl (.nm 3) true []),.k (.sl (.nm 4) true []),.k (.sl (.nm 5) true []),.k (.sl (.nm 6) true []),.k (.sl (.nm 8) true []),.M 86 (.int .i64) (.sl (.nm 2))]
abbrev Uv (a0:(List Aa)) (a1:Int) (a2:(List Ak)):HT:=[.S 0 false,.q (.sl (.nm 9)) a0,.S 1 false,.q (.int .i64) a1,.S 2 false,.q (.sl (.nm 2)) a2,.S 6 false,.k (.ptr 6 0),.S 7 false,.k (.ptr 7 0),.S 9 false,.v (.sl (.nm 18)),.C 6,.q .str ((List.getD a0 (a1).toNat (Ag)).Name),.q (.int .i64) ((List.getD a0 (a1).toNat (Ag)).Kind),.k (.sl (.nm 3) true []),.k (.sl (.nm 4) true []),.k (.sl (.nm 5) true []),.k (.sl (.nm 6) true []),.k (.sl (.nm 8) true []),.C 7,.k (.str ([]:List UInt8)),.k (.int .i64 (0:Int)),.k (.sl (.nm 3) true []),.k (.sl (.nm 4) true []),.k (.sl (.nm 5) true []),.k (.sl (.nm 6) true []),.k (.sl (.nm 8) true [])]
abbrev Ln (a0:(List Aa)) (a1:Int) (a2:(List Ak)):HT:=[.S 0 false,.q (.sl (.nm 9)) a0,.S 1 false,.q (.int .i64) a1,.S 2 false,.q (.sl (.nm 2)) a2,.S 6 false,.k (.ptr 6 0),.S 7 false,.k (.ptr 7 0),.S 9 false,.v (.sl (.nm 18)),.S 10 false,.k (.mp 57),.S 58 false,.v (.sl (.nm 18)),.S 59 false,.v (.int .i64),.S 60 false,.v (.int .i64),.C 6,.q .str ((List.getD a0 (a1).toNat (Ag)).Name),.q (.int .i64) ((List.getD a0 (a1).toNat (Ag)).Kind),.k (.sl (.nm 3) true []),.k (.sl (.nm 4) true []),.k (.sl (.nm 5) true []),.k (.sl (.nm 6) true []),.k (.sl (.nm 8) true []),.C 7,.k (.str ([]:List UInt8)),.k (.int .i64 (0:Int)),.k (.sl (.nm 3) true []),.k (.sl (.nm 4) true []),.k (.sl (.nm 5) true []),.k (.sl (.nm 6) true []),.k (.sl (.nm 8) true []),.M 57 .str .bool]
def Am8 (a0:(List Aa)) (a1:Int) (a2:(List Ak)) (v1:(List Ai)) (v2:(List Ai)) (v3:Int) (v4:Int):H (Aah a0 a1 a2 v1 v2 v3 v4)->Option ((H (Ln a0 a1 a2))⊕((H (Uv a0 a1 a2))⊕(Aa×Aa×Int))):=λ (v10,_)=>
 jp (Ln a0 a1 a2)<|some (.inl (v1,v2,v3,IntKind.wrap .i64 (v4+(1:Int)),v10,()))
def Al9 (a0:(List Aa)) (a1:Int) (a2:(List Ak)) (v1:(List Ai)) (v2:(List Ai)) (v3:Int) (v4:Int):H (Pg a0 a1 a2 v1 v2 v3 v4)->Option ((H (Pg a0 a1 a2 v1 v2 v3 v4))⊕((H (Aah a0 a1 a2 v1 v2 v3 v4))⊕(Aa×Aa×Int))):=λ (v6,v7,v8,v9,_)=>
 if decide (v8<v7)then
 need (Af v8 v6.length)<|
 if Option.getD (Kh kqS ((List.getD v6 (v8).toNat (An)).Name) v9) false then
  some (.inr (.inr ((⟨([]:List UInt8),(0:Int),[],[],[],[],[]⟩:Aa),(⟨([]:List UInt8),(0:Int),[],[],[],[],[]⟩:Aa),(5:Int))))
 else
  jp (Pg a0 a1 a2 v1 v2 v3 v4)<|some (.inl (v6,v7,IntKind.wrap .i64 (v8+(1:Int)),Hc kqS ((List.getD v6 (v8).toNat (An)).Name) true v9,()))
 else
 jp (Aah a0 a1 a2 v1 v2 v3 v4)<|some (.inr (.inl (v9,())))
def Afj (a0:(List Aa)) (a1:Int) (v11:(List Ai)) (v15:Int) (v22:(List Ax)) (v23:Int) (v24:Int) (v25:Aa):H (Aih a0 a1 v11 v15 v22 v23 v24 v25)->Option ((H (Ll a0 a1 v11 v15))⊕((H (Mj a0 a1 v11 v15))⊕(Aa×Aa×Int))):=λ (v32,v33,v34,v35,v36,v37,v38,_)=>
 Option.bind (Aj9 a0 v25.Name v32.Mods) λ y5=>
 if !y5.2 then
 some (.inr (.inr ((⟨([]:List UInt8),(0:Int),[],[],[],[],[]⟩:Aa),(⟨([]:List UInt8),(0:Int),[],[],[],[],[]⟩:Aa),(4:Int))))
 else
 Option.bind (Nm (Ap v32.Cond)) λ y6=>
 Option.bind (Nm (Ap v32.Value)) λ y7=>
 need ((v38.length+[(⟨v32.Name,v32.Type_,v32.Var,v32.Flow,v32.Size,v32.Scope,v32.Replace,(Ap y6),(Ap y7),v32.Unit,y5.1⟩:Ax)].length)*240<=At)<|
 Option.bind (Aic (⟨v32.Name,v32.Type_,v32.Var,v32.Flow,v32.Size,v32.Scope,v32.Replace,(Ap y6),(Ap y7),v32.Unit,y5.1⟩:Ax) (Option.getD (Kh kqI ((List.getD v11 (v15).toNat (Be)).class_) v33) ([]:List Ak))) λ y8=>
 need ((v34.length+[(B1 y8)].length)*240<=At)<|
 jp (Ll a0 a1 v11 v15)<|some (.inl (v22,v23,IntKind.wrap .i64 (v24+(1:Int)),v25,v33,v34++[(B1 y8)],v35,v36,v37,v38++[(⟨v32.Name,v32.Type_,v32.Var,v32.Flow,v32.Size,v32.Scope,v32.Replace,(Ap y6),(Ap y7),v32.Unit,y5.1⟩:Ax)],()))
def Aid (a0:(List Aa)) (a1:Int) (v11:(List Ai)) (v15:Int) (v39:Aa) (v59:Int):H (Wh a0 a1 v11 v15 v39 v59)->Option ((H (Jj a0 a1 v11 v15 v39))⊕(H (Q0 a0 a1 v11 v15))):=λ (v80,v81,v82,v83,v84,v85,v86,v87,v88,v89,v90,v91,_)=>
 need ((v89.length+[(⟨(⟨v80,v81,(⟨v82,v83⟩:Bd),v84⟩:Am),v91⟩:G5)].length)*88<=At)<|
 jp (Jj a0 a1 v11 v15 v39)<|some (.inl (IntKind.wrap .i64 (v59+(1:Int)),v85,v86,v87,v88,v89++[(⟨(⟨v80,v81,(⟨v82,v83⟩:Bd),v84⟩:Am),v91⟩:G5)],v90,()))
def Ail (a0:(List Aa)) (a1:Int) (v11:(List Ai)) (v15:Int) (v39:Aa) (v59:Int):H (Lw a0 a1 v11 v15 v39 v59)->Option ((H (Lw a0 a1 v11 v15 v39 v59))⊕(H (Wh a0 a1 v11 v15 v39 v59))):=λ (v66,v67,v68,v69,v70,v71,v72,v73,v74,v75,v76,v77,v78,v79,_)=>
 if decide (v67<v66)then
 need (Af v67 ((List.getD v39.Whens (v59).toNat (Bz)).Sets).length)<|
 Option.bind (Nm (Ap ((List.getD ((List.getD v39.Whens (v59).toNat (Bz)).Sets) (v67).toNat (Ab8)).E))) λ y12=>
 need ((v79.length+[(⟨(List.getD ((List.getD v39.Whens (v59).toNat (Bz)).Sets) (v67).toNat (Ab8)).Name,(Ap y12)⟩:Aan)].length)*80<=At)<|
 jp (Lw a0 a1 v11 v15 v39 v59)<|some (.inl (v66,IntKind.wrap .i64 (v67+(1:Int)),v68,v69,v70,v71,v72,v73,v74,v75,v76,v77,v78,v79++[(⟨(List.getD ((List.getD v39.Whens (v59).toNat (Bz)).Sets) (v67).toNat (Ab8)).Name,(Ap y12)⟩:Aan)],()))
 else
 jp (Wh a0 a1 v11 v15 v39 v59)<|some (.inr (v68,v69,v70,v71,v72,v73,v74,v75,v76,v77,v78,v79,()))
def O6 (a0:(List Aa)) (a1:Int) (v11:(List Ai)) (v15:Int):H (Q0 a0 a1 v11 v15)->Option ((H (Fq a0 a1 v11))⊕((H (Gp a0 a1))⊕(Aa×Aa×Int))):=λ (v92,v93,v94,v95,v96,v97,_)=>
 jp (Fq a0 a1 v11)<|some (.inl (IntKind.wrap .i64 (v15+(1:Int)),v92,v93,v94,v95,v96,v97,()))
def Zt (a0:(List Aa)) (a1:Int) (v11:(List Ai)) (v15:Int) (v39:Aa):H (Jj a0 a1 v11 v15 v39)->Option ((H (Jj a0 a1 v11 v15 v39))⊕(H (Q0 a0 a1 v11 v15))):=λ (v59,v60,v61,v62,v63,v64,v65,_)=>
 if decide (v59<(v39.Whens.length:Int))then
 need (Af v59 v39.Whens.length)<|
 Option.bind (Nm (Ap ((List.getD v39.Whens (v59).toNat (Bz)).C))) λ y11=>
 jp (Lw a0 a1 v11 v15 v39 v59)<|Option.bind (iter (Ail a0 a1 v11 v15 v39 v59) ((((List.getD v39.Whens (v59).toNat (Bz)).Sets).length:Int),(0:Int),y11.Op,y11.Name,y11.N.N,y11.N.D,y11.Kids,v60,v61,v62,v63,v64,v65,([]:List Aan),())) (Aid a0 a1 v11 v15 v39 v59)
 else
 jp (Q0 a0 a1 v11 v15)<|some (.inr (v60,v61,v62,v63,v64,v65,()))
def Ah2 (a0:(List Aa)) (a1:Int) (v11:(List Ai)) (v15:Int) (v39:Aa):H (V0 a0 a1 v11 v15 v39)->Option ((H (Fq a0 a1 v11))⊕((H (Gp a0 a1))⊕(Aa×Aa×Int))):=λ (v53,v54,v55,v56,v57,v58,_)=>
 need ((v56.length+v39.Links.length)*48<=At)<|
 jp (Jj a0 a1 v11 v15 v39)<|Option.bind (iter (Zt a0 a1 v11 v15 v39) ((0:Int),v53,v54,v55,v56++v39.Links,v57,v58,())) (O6 a0 a1 v11 v15)
def Ag8 (a0:(List Aa)) (a1:Int) (v11:(List Ai)) (v15:Int) (v39:Aa):H (Ls a0 a1 v11 v15 v39)->Option ((H (Ls a0 a1 v11 v15 v39))⊕(H (V0 a0 a1 v11 v15 v39))):=λ (v46,v47,v48,v49,v50,v51,v52,_)=>
 if decide (v46<(v39.Eqs.length:Int))then
 need (Af v46 v39.Eqs.length)<|
 Option.bind (Nm (Ap ((List.getD v39.Eqs (v46).toNat (Aeq)).L))) λ y9=>
 Option.bind (Nm (Ap ((List.getD v39.Eqs (v46).toNat (Aeq)).R))) λ y10=>
 need ((v49.length+[(⟨(List.getD v39.Eqs (v46).toNat (Aeq)).Init,(Ap y9),(Ap y10)⟩:Wo)].length)*136<=At)<|
 jp (Ls a0 a1 v11 v15 v39)<|some (.inl (IntKind.wrap .i64 (v46+(1:Int)),v47,v48,v49++[(⟨(List.getD v39.Eqs (v46).toNat (Aeq)).Init,(Ap y9),(Ap y10)⟩:Wo)],v50,v51,v52,()))
 else
 jp (V0 a0 a1 v11 v15 v39)<|some (.inr (v47,v48,v49,v50,v51,v52,()))
def Zv (a0:(List Aa)) (a1:Int) (v11:(List Ai)) (v15:Int):H (Mj a0 a1 v11 v15)->Option ((H (Fq a0 a1 v11))⊕((H (Gp a0 a1))⊕(Aa×Aa×Int))):=λ (v39,v40,v41,v42,v43,v44,v45,_)=>
 jp (Ls a0 a1 v11 v15 v39)<|Option.bind (iter (Ag8 a0 a1 v11 v15 v39) ((0:Int),v40,v41,v42,v43,v44,v45,())) (Ah2 a0 a1 v11 v15 v39)
def Ae6 (a0:(List Aa)) (a1:Int) (v11:(List Ai)) (v15:Int):H (Ll a0 a1 v11 v15)->Option ((H (Ll a0 a1 v11 v15))⊕((H (Mj a0 a1 v11 v15))⊕(Aa×Aa×Int))):=λ (v22,v23,v24,v25,v26,v27,v28,v29,v30,v31,_)=>
 if decide (v24<v23)then
 need (Af v24 v22.length)<|
 if !decide (((List.getD v22 (v24).toNat (An)).Type_)=([82,101,97,108]:List UInt8))then
  Option.bind (D0 a0 v25.Name ((List.getD v22 (v24).toNat (An)).Type_)) λ y4=>
  if decide (y4<(0:Int))then
   some (.inr (.inr ((⟨([]:List UInt8),(0:Int),[],[],[],[],[]⟩:Aa),(⟨([]:List UInt8),(0:Int),[],[],[],[],[]⟩:Aa),(4:Int))))
  else
   need (Af y4 a0.length)<|
   jp (Aih a0 a1 v11 v15 v22 v23 v24 v25)<|Afj a0 a1 v11 v15 v22 v23 v24 v25 ((⟨(List.getD v22 (v24).toNat (An)).Name,(List.getD a0 (y4).toNat (Ag)).Name,(List.getD v22 (v24).toNat (An)).Var,(List.getD v22 (v24).toNat (An)).Flow,(List.getD v22 (v24).toNat (An)).Size,(List.getD v22 (v24).toNat (An)).Scope,(List.getD v22 (v24).toNat (An)).Replace,(Ap ((List.getD v22 (v24).toNat (An)).Cond)),(Ap ((List.getD v22 (v24).toNat (An)).Value)),(List.getD v22 (v24).toNat (An)).Unit,(List.getD v22 (v24).toNat (An)).Mods⟩:Ax),v26,v27,v28,v29,v30,v31,())
 else
  jp (Aih a0 a1 v11 v15 v22 v23 v24 v25)<|Afj a0 a1 v11 v15 v22 v23 v24 v25 ((B1 (List.getD v22 (v24).toNat (An))),v26,v27,v28,v29,v30,v31,())
 else
 jp (Mj a0 a1 v11 v15)<|some (.inr (.inl (v25,v26,v27,v28,v29,v30,v31,())))
def Ahc (a0:(List Aa)) (a1:Int):H (Gp a0 a1)->Option (Aa×Aa×Int):=λ (v98,v99,v100,v101,v102,_)=>
 some ((⟨(List.getD a0 (a1).toNat (Ag)).Name,(List.getD a0 (a1).toNat (Ag)).Kind,[],v98,v99,v100,v101⟩:Aa),(⟨(List.getD a0 (a1).toNat (Ag)).Name,(List.getD a0 (a1).toNat (Ag)).Kind,[],v102,[],[],[]⟩:Aa),(0:Int))
def Amg (a0:(List Aa)) (a1:Int) (v11:(List Ai)):H (Fq a0 a1 v11)->Option ((H (Fq a0 a1 v11))⊕((H (Gp a0 a1))⊕(Aa×Aa×Int))):=λ (v15,v16,v17,v18,v19,v20,v21,_)=>
 if decide (v15<(v11.length:Int))then
 need (Af v15 v11.length)<|
 need (Af ((List.getD v11 (v15).toNat (Be)).class_) a0.length)<|
 jp (Ll a0 a1 v11 v15)<|Option.bind (iter (Ae6 a0 a1 v11 v15) ((List.getD a0 ((List.getD v11 (v15).toNat (Be)).class_).toNat (Ag)).Comps,(((List.getD a0 ((List.getD v11 (v15).toNat (Be)).class_).toNat (Ag)).Comps).length:Int),(0:Int),(List.getD a0 ((List.getD v11 (v15).toNat (Be)).class_).toNat (Ag)),v16,v17,v18,v19,v20,v21,())) (Sum.elim (Zv a0 a1 v11 v15) (λ y=>some (.inr (.inr y))))
 else
 jp (Gp a0 a1)<|some (.inr (.inl (v17,v18,v19,v20,v21,())))
def Amu (a0:(List Aa)) (a1:Int) (v11:(List Ai)):H (Z1 a0 a1 v11)->Option (Aa×Aa×Int):=λ (v14,_)=>
 jp (Fq a0 a1 v11)<|Option.bind (iter (Amg a0 a1 v11) ((0:Int),v14,([]:List Ax),([]:List Wo),([]:List Mi),([]:List G5),([]:List Ax),())) (Sum.elim (Ahc a0 a1) (λ y=>some y))
def Ale (a0:(List Aa)) (a1:Int) (v11:(List Ai)):H (O0 a0 a1 v11)->Option ((H (O0 a0 a1 v11))⊕((H (Z1 a0 a1 v11))⊕(Aa×Aa×Int))):=λ (v12,v13,_)=>
 if decide ((0:Int)<=v12)then
 need (Af v12 v11.length)<|
 need (Af ((List.getD v11 (v12).toNat (Be)).by_) a0.length)<|
 need (Af ((List.getD v11 (v12).toNat (Be)).by_) a0.length)<|
 need (Af ((List.getD v11 (v12).toNat (Be)).base) ((List.getD a0 ((List.getD v11 (v12).toNat (Be)).by_).toNat (Ag)).Bases).length)<|
 Option.bind (Aj9 a0 ((List.getD a0 ((List.getD v11 (v12).toNat (Be)).by_).toNat (Ag)).Name) ((List.getD ((List.getD a0 ((List.getD v11 (v12).toNat (Be)).by_).toNat (Ag)).Bases) ((List.getD v11 (v12).toNat (Be)).base).toNat (Cl)).Mods)) λ y2=>
 if !y2.2 then
  some (.inr (.inr ((⟨([]:List UInt8),(0:Int),[],[],[],[],[]⟩:Aa),(⟨([]:List UInt8),(0:Int),[],[],[],[],[]⟩:Aa),(4:Int))))
 else
  Option.bind (Xd (Option.getD (Kh kqI ((List.getD v11 (v12).toNat (Be)).by_) v13) ([]:List Ak)) y2.1) λ y3=>
  jp (O0 a0 a1 v11)<|some (.inl (IntKind.wrap .i64 (v12-(1:Int)),Hc kqI ((List.getD v11 (v12).toNat (Be)).class_) y3 v13,()))
 else
 jp (Z1 a0 a1 v11)<|some (.inr (.inl (v13,())))
def Al1 (a0:(List Aa)) (a1:Int) (a2:(List Ak)):H (Uv a0 a1 a2)->Option (Aa×Aa×Int):=λ (v11,_)=>
 jp (O0 a0 a1 v11)<|Option.bind (iter (Ale a0 a1 v11) (IntKind.wrap .i64 ((v11.length:Int) -(2:Int)),Hc kqI a1 a2 ([]:(List (Int×(List Ak)))),())) (Sum.elim (Amu a0 a1 v11) (λ y=>some y))
def Am9 (a0:(List Aa)) (a1:Int) (a2:(List Ak)):H (Ln a0 a1 a2)->Option ((H (Ln a0 a1 a2))⊕((H (Uv a0 a1 a2))⊕(Aa×Aa×Int))):=λ (v1,v2,v3,v4,v5,_)=>
 if decide (v4<v3)then
 need (Af v4 v2.length)<|
 need (Af ((List.getD v2 (v4).toNat (Be)).class_) a0.length)<|
 jp (Pg a0 a1 a2 v1 v2 v3 v4)<|Option.bind (iter (Al9 a0 a1 a2 v1 v2 v3 v4) ((List.getD a0 ((List.getD v2 (v4).toNat (Be)).class_).toNat (Ag)).Comps,(((List.getD a0 ((List.getD v2 (v4).toNat (Be)).class_).toNat (Ag)).Comps).length:Int),(0:Int),v5,())) (Sum.elim (Am8 a0 a1 a2 v1 v2 v3 v4) (λ y=>some (.inr (.inr y))))
 else
 jp (Uv a0 a1 a2)<|some (.inr (.inl (v1,())))
def Aku (a0:(List Aa)) (a1:Int) (a2:(List Ak)):Option (Aa×Aa×Int):=
 Option.bind (U7 a0 a1) λ y1=>
 if !decide (y1.2=(0:Int))then
 some ((⟨([]:List UInt8),(0:Int),[],[],[],[],[]⟩:Aa),(⟨([]:List UInt8),(0:Int),[],[],[],[],[]⟩:Aa),y1.2)
 else
 need (Af a1 a0.length)<|
 need (Af a1 a0.length)<|
 jp (Ln a0 a1 a2)<|Option.bind (iter (Am9 a0 a1 a2) (y1.1,y1.1,(y1.1.length:Int),(0:Int),([]:(List ((List UInt8)×Bool))),())) (Sum.elim (Al1 a0 a1 a2) (λ y=>some y))
abbrev An1:HT:=[]
abbrev I8 (a0:(List Aa)) (v1:(List Ai)) (v2:Int) (v3:Int):HT:=[.S 0 false,.q (.sl (.nm 9)) a0,.S 6 false,.k (.ar 82 0),.S 24 false,.q (.sl (.nm 18)) v1,.S 25 false,.q (.int .i64) v2,.S 26 false,.q (.int .i64) v3,.A 82 118 (.nm 17) 0 false]
abbrev Fn (a0:(List Aa)) (v1:(List Ai)) (v2:Int) (v3:Int):HT:=[.S 0 false,.q (.sl (.nm 9)) a0,.S 6 false,.k (.ar 82 0),.S 10 false,.k (.ptr 10 0),.S 24 false,.q (.sl (.nm 18)) v1,.S 25 false,.q (.int .i64) v2,.S 26 false,.q (.int .i64) v3,.S 35 false,.v (.sl (.nm 3)),.S 36 false,.v (.int .i64),.S 37 false,.v (.int .i64),.C 10,.q (.nm 18) (List.getD v1 (v3).toNat (Be)),.A 82 118 (.nm 17) 0 false]
abbrev Nb:HT:=[.S 6 false,.k (.ar 82 0),.A 82 118 (.nm 17) 0 false]
abbrev Fk (a0:(List Aa)):HT:=[.S 0 false,.q (.sl (.nm 9)) a0,.S 6 false,.k (.ar 82 0),.S 24 false,.v (.sl (.nm 18)),.S 25 false,.v (.int .i64),.S 26 false,.v (.int .i64),.A 82 118 (.nm 17) 0 false]
def Vk (a0:(List Aa)) (v1:(List Ai)) (v2:Int) (v3:Int):H An1->Option ((H (Fn a0 v1 v2 v3))⊕((H (I8 a0 v1 v2 v3))⊕((List Cb)×Int))):=λ _=>
 some (.inr (.inr ([],(4:Int))))
def Wi (a0:(List Aa)) (v1:(List Ai)) (v2:Int) (v3:Int):H (I8 a0 v1 v2 v3)->Option ((H (Fk a0))⊕((H Nb)⊕((List Cb)×Int))):=λ (v9,_)=>
 jp (Fk a0)<|some (.inl (v1,v2,IntKind.wrap .i64 (v3+(1:Int)),v9,()))
def W0 (a0:(List Aa)) (v1:(List Ai)) (v2:Int) (v3:Int):H (Fn a0 v1 v2 v3)->Option ((H (Fn a0 v1 v2 v3))⊕((H (I8 a0 v1 v2 v3))⊕((List Cb)×Int))):=λ (v5,v6,v7,v8,_)=>
 if decide (v7<v6)then
 need (Af v7 v5.length)<|
 need (Af ((List.getD v1 (v3).toNat (Be)).class_) a0.length)<|
 Option.bind (Aj9 a0 ((List.getD a0 ((List.getD v1 (v3).toNat (Be)).class_).toNat (Ag)).Name) ((List.getD v5 (v7).toNat (Cl)).Mods)) λ y2=>
 need (Af ((List.getD v1 (v3).toNat (Be)).class_) a0.length)<|
 Option.bind (D0 a0 ((List.getD a0 ((List.getD v1 (v3).toNat (Be)).class_).toNat (Ag)).Name) ((List.getD v5 (v7).toNat (Cl)).Name)) λ y3=>
 Option.bind (Aku a0 y3 []) λ y4=>
 if !y2.2 then
  Vk a0 v1 v2 v3 ()
 else
  if !decide (y4.2.2=(0:Int))then
   Vk a0 v1 v2 v3 ()
  else
   need ((v8.length+[(⟨y4.2.1.Comps,y2.1⟩:Cb)].length)*48<=At)<|
   jp (Fn a0 v1 v2 v3)<|some (.inl (v5,v6,IntKind.wrap .i64 (v7+(1:Int)),v8++[(⟨y4.2.1.Comps,y2.1⟩:Cb)],()))
 else
 jp (I8 a0 v1 v2 v3)<|some (.inr (.inl (v8,())))
def Vl:H Nb->Option ((List Cb)×Int):=λ (v10,_)=>
 some (v10,(0:Int))
def Wg (a0:(List Aa)):H (Fk a0)->Option ((H (Fk a0))⊕((H Nb)⊕((List Cb)×Int))):=λ (v1,v2,v3,v4,_)=>
 if decide (v3<v2)then
 need (Af v3 v1.length)<|
 need (Af ((List.getD v1 (v3).toNat (Be)).class_) a0.length)<|
 jp (Fn a0 v1 v2 v3)<|Option.bind (iter (W0 a0 v1 v2 v3) ((List.getD a0 ((List.getD v1 (v3).toNat (Be)).class_).toNat (Ag)).Bases,(((List.getD a0 ((List.getD v1 (v3).toNat (Be)).class_).toNat (Ag)).Bases).length:Int),(0:Int),v4,())) (Sum.elim (Wi a0 v1 v2 v3) (λ y=>some (.inr (.inr y))))
 else
 some (.inr (.inl (v4,())))
def Xb (a0:(List Aa)) (a1:Int):Option ((List Cb)×Int):=
 Option.bind (U7 a0 a1) λ y1=>
 jp (Fk a0)<|Option.bind (iter (Wg a0) (y1.1,(y1.1.length:Int),(0:Int),([]:List Cb),())) (Sum.elim Vl (λ y=>some y))
def Aex (a0:Ax) (a1:(List UInt8)):Option (Bool×(List UInt8)):=
 some (decide (a0.Name=a1),a1)
abbrev E3:HT:=[.S 1000000 false,.k (.ptr 1000001 0),.C 1000001,.v .str]
abbrev Ch (a0:(List Ax)):HT:=[.S 0 false,.q (.sl (.nm 4)) a0,.S 1 false,.k (.clo 94 [.ptr 1000001 0]),.S 7 false,.q (.int .i64) (a0.length:Int),.S 8 false,.v (.int .i64),.S 1000000 false,.k (.ptr 1000001 0),.C 1000001,.v .str]
def Fy:H E3->Option (Int×(List UInt8)):=λ (v3,_)=>
 some ((-1:Int),v3)
def F5 (a0:(List Ax)):H (Ch a0)->Option ((H (Ch a0))⊕((H E3)⊕(Int×(List UInt8)))):=λ (v1,v2,_)=>
 if decide (v1<(a0.length:Int))then
 need (Af v1 a0.length)<|
 Option.bind (Aex (B1 (List.getD a0 (v1).toNat (An))) v2) λ y1=>
 if y1.1 then
  some (.inr (.inr (v1,y1.2)))
 else
  jp (Ch a0)<|some (.inl (IntKind.wrap .i64 (v1+(1:Int)),y1.2,()))
 else
 some (.inr (.inl (v2,())))
def G8 (a0:(List Ax)) (a1:(List UInt8)):Option (Int×(List UInt8)):=
 jp (Ch a0)<|Option.bind (iter (F5 a0) ((0:Int),a1,())) (Sum.elim Fy (λ y=>some y))
abbrev A0:=(List Aa)->Int->Int->(List (D6×Bool))->Option (Bool×Int×(List (D6×Bool)))
def Aja (R:A0) (a0:(List Aa)) (a1:(List UInt8)) (a2:(List UInt8)):Option Bool:=
 Option.bind (Gc a0 a1) λ y1=>
 Option.bind (Gc a0 a2) λ y2=>
 Option.bind (R a0 y1 y2 ([]:(List (D6×Bool)))) λ y3=>
 if y3.1 then
 some (decide (y3.2.1=(0:Int)))
 else
 some false
abbrev Anp:HT:=[]
abbrev Da (a0:(List Aa)) (a1:(List Ax)) (a2:(List Ak)) (a3:Int) (v1:Int):HT:=[.S 0 false,.q (.sl (.nm 9)) a0,.S 1 false,.q (.sl (.nm 4)) a1,.S 3 false,.q (.int .i64) a3,.S 17 false,.q (.sl (.nm 2)) a2,.S 18 false,.q (.int .i64) (a2.length:Int),.S 19 false,.q (.int .i64) v1]
abbrev Aob:HT:=[]
abbrev Hd:HT:=[]
abbrev Db (a0:(List Aa)) (a1:(List Ax)) (a2:(List Ak)) (a3:Int):HT:=[.S 0 false,.q (.sl (.nm 9)) a0,.S 1 false,.q (.sl (.nm 4)) a1,.S 3 false,.q (.int .i64) a3,.S 17 false,.q (.sl (.nm 2)) a2,.S 18 false,.q (.int .i64) (a2.length:Int),.S 19 false,.v (.int .i64)]
def Ow (R:A0) (a0:(List Aa)) (a1:(List Ax)) (a2:(List Ak)) (a3:Int):H Anp->Option ((H (Db a0 a1 a2 a3))⊕((H Hd)⊕Bool)):=λ _=>
 some (.inr (.inr true))
def Du (R:A0) (a0:(List Aa)) (a1:(List Ax)) (a2:(List Ak)) (a3:Int) (v1:Int):H (Da a0 a1 a2 a3 v1)->Option ((H (Db a0 a1 a2 a3))⊕((H Hd)⊕Bool)):=λ _=>
 jp (Db a0 a1 a2 a3)<|some (.inl (IntKind.wrap .i64 (v1+(1:Int)),()))
def Wv (R:A0) (a0:(List Aa)) (a1:(List Ax)) (a2:(List Ak)) (a3:Int):H Aob->Option ((H (Db a0 a1 a2 a3))⊕((H Hd)⊕Bool)):=λ _=>
 some (.inr (.inr true))
def Xh (R:A0):H Hd->Option Bool:=λ _=>
 some false
def Vi (R:A0) (a0:(List Aa)) (a1:(List Ax)) (a2:(List Ak)) (a3:Int):H (Db a0 a1 a2 a3)->Option ((H (Db a0 a1 a2 a3))⊕((H Hd)⊕Bool)):=λ (v1,_)=>
 if decide (v1<(a2.length:Int))then
 need (Af v1 a2.length)<|
 Option.bind (Pv ((List.getD a2 (v1).toNat (A3)).Path) ([46]:List UInt8)) λ y1=>
 Option.bind (G8 a1 y1.1) λ y2=>
 if decide (y2.1<(0:Int))then
  if decide (a3=(4:Int))then
   some (.inr (.inr true))
  else
   jp (Db a0 a1 a2 a3)<|some (.inl (IntKind.wrap .i64 (v1+(1:Int)),()))
 else
  need (Af y2.1 a1.length)<|
  if decide (a3=(6:Int))then
   if y1.2.2 then
    if decide (((List.getD a1 (y2.1).toNat (An)).Type_)=([82,101,97,108]:List UInt8))then
     Ow R a0 a1 a2 a3 ()
    else
     if !y1.2.2 then
      if !((decide (((List.getD a2 (v1).toNat (A3)).Type_)=([]:List UInt8)))==(decide (((List.getD a1 (y2.1).toNat (An)).Type_)=([82,101,97,108]:List UInt8))))then
       Ow R a0 a1 a2 a3 ()
      else
       jp (Da a0 a1 a2 a3 v1)<|Du R a0 a1 a2 a3 v1 ()
     else
      jp (Da a0 a1 a2 a3 v1)<|Du R a0 a1 a2 a3 v1 ()
   else
    if !y1.2.2 then
     if !((decide (((List.getD a2 (v1).toNat (A3)).Type_)=([]:List UInt8)))==(decide (((List.getD a1 (y2.1).toNat (An)).Type_)=([82,101,97,108]:List UInt8))))then
      Ow R a0 a1 a2 a3 ()
     else
      jp (Da a0 a1 a2 a3 v1)<|Du R a0 a1 a2 a3 v1 ()
    else
     jp (Da a0 a1 a2 a3 v1)<|Du R a0 a1 a2 a3 v1 ()
  else
   if decide (a3=(7:Int))then
    if !y1.2.2 then
     if !decide (((List.getD a2 (v1).toNat (A3)).Type_)=([]:List UInt8))then
      if !((List.getD a1 (y2.1).toNat (An)).Replace)then
       Wv R a0 a1 a2 a3 ()
      else
       if !(decide (((List.getD a1 (y2.1).toNat (An)).Type_)=([82,101,97,108]:List UInt8)))then
        Option.bind (Aja R a0 ((List.getD a2 (v1).toNat (A3)).Type_) ((List.getD a1 (y2.1).toNat (An)).Type_)) λ y3=>
        if !y3 then
         Wv R a0 a1 a2 a3 ()
        else
         jp (Da a0 a1 a2 a3 v1)<|Du R a0 a1 a2 a3 v1 ()
       else
        jp (Da a0 a1 a2 a3 v1)<|Du R a0 a1 a2 a3 v1 ()
     else
      jp (Da a0 a1 a2 a3 v1)<|Du R a0 a1 a2 a3 v1 ()
    else
     jp (Da a0 a1 a2 a3 v1)<|Du R a0 a1 a2 a3 v1 ()
   else
    jp (Da a0 a1 a2 a3 v1)<|Du R a0 a1 a2 a3 v1 ()
 else
 some (.inr (.inl ()))
def Wt (R:A0) (a0:(List Aa)) (a1:(List Ax)) (a2:(List Ak)) (a3:Int):Option Bool:=
 jp (Db a0 a1 a2 a3)<|Option.bind (iter (Vi R a0 a1 a2 a3) ((0:Int),())) (Sum.elim (Xh R) (λ y=>some y))
abbrev Yn:HT:=[.S 4 false,.k (.ptr 4 0),.S 6 false,.k (.ptr 6 0),.C 4,.s 9,.C 6,.s 9]
abbrev Ke (a0:(List Aa)):HT:=[.S 0 false,.q (.sl (.nm 9)) a0,.S 4 false,.k (.ptr 4 0),.S 6 false,.k (.ptr 6 0),.S 33 false,.v (.sl (.nm 17)),.S 34 false,.v (.int .i64),.S 35 false,.v (.int .i64),.C 4,.s 9,.C 6,.s 9]
def Acg (R:A0):H Yn->Option (Aa×Int):=λ (v6,v7,_)=>
 some (v7,(0:Int))
def Ab9 (R:A0) (a0:(List Aa)):H (Ke a0)->Option ((H (Ke a0))⊕((H Yn)⊕(Aa×Int))):=λ (v1,v2,v3,v4,v5,_)=>
 if decide (v3<v2)then
 need (Af v3 v1.length)<|
 Option.bind (Wt R a0 ((List.getD v1 (v3).toNat (Kd)).comps) ((List.getD v1 (v3).toNat (Kd)).mods) (4:Int)) λ y3=>
 if y3 then
  some (.inr (.inr ((⟨([]:List UInt8),(0:Int),[],[],[],[],[]⟩:Aa),(4:Int))))
 else
  jp (Ke a0)<|some (.inl (v1,v2,IntKind.wrap .i64 (v3+(1:Int)),v4,v5,()))
 else
 some (.inr (.inl (v4,v5,())))
def Afm (R:A0) (a0:(List Aa)) (a1:Int):Option (Aa×Int):=
 Option.bind (Aku a0 a1 []) λ y1=>
 if !decide (y1.2.2=(0:Int))then
 some ((⟨([]:List UInt8),(0:Int),[],[],[],[],[]⟩:Aa),y1.2.2)
 else
 Option.bind (Xb a0 a1) λ y2=>
 if !decide (y2.2=(0:Int))then
  some ((⟨([]:List UInt8),(0:Int),[],[],[],[],[]⟩:Aa),y2.2)
 else
  jp (Ke a0)<|Option.bind (iter (Ab9 R a0) (y2.1,(y2.1.length:Int),(0:Int),(⟨([]:List UInt8),(0:Int),[],[],[],[],[]⟩:Aa),y1.1,())) (Sum.elim (Acg R) (λ y=>some y))
def Aqj (a0:Ax) (a1:Ax):Option (Bool×Ax):=
 some (decide (a0.Name=a1.Name),(B1 a1))
abbrev Fe:HT:=[.S 1000000 false,.k (.ptr 1000001 0),.C 1000001,.s 4]
abbrev Ce (a0:(List Ax)):HT:=[.S 0 false,.q (.sl (.nm 4)) a0,.S 1 false,.k (.clo 69 [.ptr 1000001 0]),.S 7 false,.q (.int .i64) (a0.length:Int),.S 8 false,.v (.int .i64),.S 1000000 false,.k (.ptr 1000001 0),.C 1000001,.s 4]
def Ft:H Fe->Option (Int×Ax):=λ (v3,_)=>
 some ((-1:Int),(B1 v3))
def F0 (a0:(List Ax)):H (Ce a0)->Option ((H (Ce a0))⊕((H Fe)⊕(Int×Ax))):=λ (v1,v2,_)=>
 if decide (v1<(a0.length:Int))then
 need (Af v1 a0.length)<|
 Option.bind (Aqj (B1 (List.getD a0 (v1).toNat (An))) (B1 v2)) λ y1=>
 if y1.1 then
  some (.inr (.inr (v1,(B1 y1.2))))
 else
  jp (Ce a0)<|some (.inl (IntKind.wrap .i64 (v1+(1:Int)),(B1 y1.2),()))
 else
 some (.inr (.inl ((B1 v2),())))
def G6 (a0:(List Ax)) (a1:Ax):Option (Int×Ax):=
 jp (Ce a0)<|Option.bind (iter (F0 a0) ((0:Int),(B1 a1),())) (Sum.elim Ft (λ y=>some y))
abbrev Aoa:HT:=[.S 1000000 false,.k (.mp 1000001),.M 1000001 (.nm 19) .bool]
abbrev Aoc:HT:=[.S 18 false,.v (.int .i64),.S 1000000 false,.k (.mp 1000001),.M 1000001 (.nm 19) .bool]
abbrev Ix:HT:=[.S 1000000 false,.k (.mp 1000001),.M 1000001 (.nm 19) .bool]
abbrev Dw (a0:(List Aa)):HT:=[.S 0 false,.q (.sl (.nm 9)) a0,.S 3 false,.k (.mp 1000001),.S 10 false,.k (.ptr 10 0),.S 47 false,.v (.sl (.nm 4)),.S 48 false,.v (.int .i64),.S 49 false,.v (.int .i64),.S 1000000 false,.k (.mp 1000001),.C 10,.s 9,.M 1000001 (.nm 19) .bool]
def Ld (R:A0) (a0:(List Aa)):H Aoa->Option ((H (Dw a0))⊕((H Ix)⊕(Bool×Int×(List (D6×Bool))))):=λ (v6,_)=>
 some (.inr (.inr (false,(0:Int),v6)))
def Wc (R:A0) (a0:(List Aa)):H Aoc->Option ((H (Dw a0))⊕((H Ix)⊕(Bool×Int×(List (D6×Bool))))):=λ (v7,v8,_)=>
 some (.inr (.inr (false,v7,v8)))
def Vm (R:A0):H Ix->Option (Bool×Int×(List (D6×Bool))):=λ (v9,_)=>
 some (true,(0:Int),v9)
def Vv (R:A0) (a0:(List Aa)):H (Dw a0)->Option ((H (Dw a0))⊕((H Ix)⊕(Bool×Int×(List (D6×Bool))))):=λ (v1,v2,v3,v4,v5,_)=>
 if decide (v3<v2)then
 need (Af v3 v1.length)<|
 Option.bind (G6 v4.Comps (B1 (List.getD v1 (v3).toNat (An)))) λ y3=>
 if decide (y3.1<(0:Int))then
  some (.inr (.inr (false,(0:Int),v5)))
 else
  need (Af y3.1 v4.Comps.length)<|
  if !decide (((List.getD v4.Comps (y3.1).toNat (An)).Var)=y3.2.Var)then
   Ld R a0 (v5,())
  else
   if !(((List.getD v4.Comps (y3.1).toNat (An)).Flow)==y3.2.Flow)then
    Ld R a0 (v5,())
   else
    if !decide (((List.getD v4.Comps (y3.1).toNat (An)).Size)=y3.2.Size)then
     Ld R a0 (v5,())
    else
     if !((decide (((List.getD v4.Comps (y3.1).toNat (An)).Type_)=([82,101,97,108]:List UInt8)))==(decide (y3.2.Type_=([82,101,97,108]:List UInt8))))then
      Ld R a0 (v5,())
     else
      if decide (y3.2.Type_=([82,101,97,108]:List UInt8))then
       jp (Dw a0)<|some (.inl (v1,v2,IntKind.wrap .i64 (v3+(1:Int)),v4,v5,()))
      else
       Option.bind (Gc a0 ((List.getD v4.Comps (y3.1).toNat (An)).Type_)) λ y4=>
       Option.bind (Gc a0 y3.2.Type_) λ y5=>
       Option.bind (R a0 y4 y5 v5) λ y6=>
       if !decide (y6.2.1=(0:Int))then
        Wc R a0 (y6.2.1,y6.2.2,())
       else
        if !y6.1 then
         Wc R a0 (y6.2.1,y6.2.2,())
        else
         jp (Dw a0)<|some (.inl (v1,v2,IntKind.wrap .i64 (v3+(1:Int)),v4,y6.2.2,()))
 else
 some (.inr (.inl (v5,())))
def Ali (R:A0) (a0:(List Aa)) (a1:Int) (a2:Int) (a3:(List (D6×Bool))):Option (Bool×Int×(List (D6×Bool))):=
 if Option.getD (Kh (kqA Amw) (⟨a1,a2⟩:D6) a3) false then
 some (true,(0:Int),a3)
 else
 Option.bind (Afm R a0 a1) λ y1=>
 if !decide (y1.2=(0:Int))then
  some (false,y1.2,Hc (kqA Amw) (⟨a1,a2⟩:D6) true a3)
 else
  Option.bind (Afm R a0 a2) λ y2=>
  if !decide (y2.2=(0:Int))then
   some (false,y2.2,Hc (kqA Amw) (⟨a1,a2⟩:D6) true a3)
  else
   jp (Dw a0)<|Option.bind (iter (Vv R a0) (y2.1.Comps,(y2.1.Comps.length:Int),(0:Int),y1.1,Hc (kqA Amw) (⟨a1,a2⟩:D6) true a3,())) (Sum.elim (Vm R) (λ y=>some y))
def Nv:Nat->A0
 |0=>λ _ _ _ _=>none
 |k+1=>Ali (Nv k)
def Pe:A0:=λ a0 a1 a2 a3=>Nv (List.length a0*List.length a0+2) a0 a1 a2 a3
abbrev Xg (a0:(List Aa)) (v1:Int) (v2:Int) (v3:Aa) (v4:Aa):HT:=[.S 0 false,.q (.sl (.nm 9)) a0,.S 6 false,.k (.ptr 6 0),.S 9 false,.k (.ptr 9 0),.S 12 false,.k (.ar 48 0),.S 51 false,.k (.ar 51 0),.S 52 false,.q (.int .i64) v1,.S 53 false,.q (.int .i64) v2,.C 6,.q (.nm 9) v3,.C 9,.q (.nm 9) v4,.A 48 118 (.nm 17) 0 false,.A 51 30 (.int .i64) 0 false]
abbrev Ly (a0:(List Aa)) (v1:Int) (v2:Int) (v3:Aa) (v4:Aa) (v5:(List Cb)) (v6:(List Int)):HT:=[.S 0 false,.q (.sl (.nm 9)) a0,.S 6 false,.k (.ptr 6 0),.S 9 false,.k (.ptr 9 0),.S 12 false,.k (.ar 48 0),.S 14 false,.q (.int .i64) (List.getD v6 v2.toNat (0:Int)),.S 51 false,.k (.ar 51 0),.S 52 false,.q (.int .i64) v1,.S 53 false,.q (.int .i64) v2,.S 57 false,.k (.ar 48 0),.S 58 false,.q (.int .i64) (v5.length:Int),.S 59 false,.v (.int .i64),.C 6,.q (.nm 9) v3,.C 9,.q (.nm 9) v4,.A 48 118 (.nm 17) 0 false,.A 51 30 (.int .i64) 0 false]
abbrev Qp (v12:Aa):HT:=[.S 6 false,.k (.ptr 6 0),.C 6,.q (.nm 9) v12]
abbrev U5 (v12:Aa) (v13:Aa):HT:=[.S 6 false,.k (.ptr 6 0),.S 9 false,.k (.ptr 9 0),.C 6,.q (.nm 9) v12,.C 9,.q (.nm 9) v13]
abbrev Mq (v12:Aa) (v13:Aa):HT:=[.S 6 false,.k (.ptr 6 0),.S 9 false,.k (.ptr 9 0),.S 98 false,.q (.sl (.nm 4)) v13.Comps,.S 99 false,.q (.int .i64) (v13.Comps.length:Int),.S 100 false,.v (.int .i64),.C 6,.q (.nm 9) v12,.C 9,.q (.nm 9) v13]
abbrev Xe:HT:=[.S 6 false,.k (.ptr 6 0),.S 9 false,.k (.ptr 9 0),.C 6,.s 9,.C 9,.s 9]
abbrev Jd (a0:(List Aa)):HT:=[.S 0 false,.q (.sl (.nm 9)) a0,.S 6 false,.k (.ptr 6 0),.S 9 false,.k (.ptr 9 0),.S 12 false,.k (.ar 48 0),.S 51 false,.k (.ar 51 0),.S 52 false,.v (.int .i64),.S 53 false,.v (.int .i64),.C 6,.s 9,.C 9,.s 9,.A 48 118 (.nm 17) 0 false,.A 51 30 (.int .i64) 0 false]
def Ag3 (a0:(List Aa)) (v1:Int) (v2:Int) (v3:Aa) (v4:Aa):H (Xg a0 v1 v2 v3 v4)->Option ((H (Jd a0))⊕((H Xe)⊕(Aa×Int))):=λ (v10,v11,_)=>
 jp (Jd a0)<|some (.inl (v1,IntKind.wrap .i64 (v2+(1:Int)),v3,v4,v10,v11,()))
def Ag0 (a0:(List Aa)) (v1:Int) (v2:Int) (v3:Aa) (v4:Aa) (v5:(List Cb)) (v6:(List Int)):H (Ly a0 v1 v2 v3 v4 v5 v6)->Option ((H (Ly a0 v1 v2 v3 v4 v5 v6))⊕((H (Xg a0 v1 v2 v3 v4))⊕(Aa×Int))):=λ (v7,v8,v9,_)=>
 if decide (v7<(v5.length:Int))then
 need (Af v7 v8.length)<|
 Option.bind (Wt Pe a0 ((List.getD v8 v7.toNat (Kd)).comps) ((List.getD v8 v7.toNat (Kd)).mods) (List.getD v6 v2.toNat (0:Int))) λ y4=>
 if y4 then
  some (.inr (.inr ((⟨([]:List UInt8),(0:Int),[],[],[],[],[]⟩:Aa),List.getD v6 v2.toNat (0:Int))))
 else
  jp (Ly a0 v1 v2 v3 v4 v5 v6)<|some (.inl (IntKind.wrap .i64 (v7+(1:Int)),v8,v9,()))
 else
 jp (Xg a0 v1 v2 v3 v4)<|some (.inr (.inl (v8,v9,())))
def Uq (v12:Aa):H (Qp v12)->Option (Aa×Int):=λ _=>
 some ((⟨([]:List UInt8),(0:Int),[],[],[],[],[]⟩:Aa),(3:Int))
def Ag6 (v12:Aa) (v13:Aa):H (U5 v12 v13)->Option (Aa×Int):=λ _=>
 some (v13,(0:Int))
def Ag2 (v12:Aa) (v13:Aa):H (Mq v12 v13)->Option ((H (Mq v12 v13))⊕((H (U5 v12 v13))⊕(Aa×Int))):=λ (v14,_)=>
 if decide (v14<(v13.Comps.length:Int))then
 need (Af v14 v13.Comps.length)<|
 if decide ((8:Int)<(((List.getD v13.Comps (v14).toNat (An)).Mods).length:Int))then
  some (.inr (.inr ((⟨([]:List UInt8),(0:Int),[],[],[],[],[]⟩:Aa),(3:Int))))
 else
  jp (Mq v12 v13)<|some (.inl (IntKind.wrap .i64 (v14+(1:Int)),()))
 else
 jp (U5 v12 v13)<|some (.inr (.inl ()))
def Ahg:H Xe->Option (Aa×Int):=λ (v12,v13,_)=>
 if decide ((40:Int)<(v13.Comps.length:Int))then
 jp (Qp v12)<|Uq v12 ()
 else
 if decide ((40:Int)<(v13.Eqs.length:Int))then
  jp (Qp v12)<|Uq v12 ()
 else
  if decide ((40:Int)<(v13.Links.length:Int))then
   jp (Qp v12)<|Uq v12 ()
  else
   if decide ((40:Int)<(v13.Whens.length:Int))then
    jp (Qp v12)<|Uq v12 ()
   else
    jp (Mq v12 v13)<|Option.bind (iter (Ag2 v12 v13) ((0:Int),())) (Sum.elim (Ag6 v12 v13) (λ y=>some y))
def Ahh (a0:(List Aa)):H (Jd a0)->Option ((H (Jd a0))⊕((H Xe)⊕(Aa×Int))):=λ (v1,v2,v3,v4,v5,v6,_)=>
 if decide (v2<v1)then
 need (Af v2 v6.length)<|
 jp (Ly a0 v1 v2 v3 v4 v5 v6)<|Option.bind (iter (Ag0 a0 v1 v2 v3 v4 v5 v6) ((0:Int),v5,v6,())) (Sum.elim (Ag3 a0 v1 v2 v3 v4) (λ y=>some (.inr (.inr y))))
 else
 some (.inr (.inl (v3,v4,())))
def Aso (a0:(List Aa)) (a1:(List UInt8)) (a2:(List Ak)):Option (Aa×Int):=
 Option.bind (Gc a0 a1) λ y1=>
 Option.bind (Aku a0 y1 a2) λ y2=>
 if !decide (y2.2.2=(0:Int))then
 some ((⟨([]:List UInt8),(0:Int),[],[],[],[],[]⟩:Aa),y2.2.2)
 else
 Option.bind (Xb a0 y1) λ y3=>
 if !decide (y3.2=(0:Int))then
  some ((⟨([]:List UInt8),(0:Int),[],[],[],[],[]⟩:Aa),y3.2)
 else
  need (([(⟨y2.2.1.Comps,a2⟩:Cb)].length+y3.1.length)*48<=At)<|
  jp (Jd a0)<|Option.bind (iter (Ahh a0) (([(4:Int),(6:Int),(7:Int)].length:Int),(0:Int),(⟨([]:List UInt8),(0:Int),[],[],[],[],[]⟩:Aa),y2.1,[(⟨y2.2.1.Comps,a2⟩:Cb)]++y3.1,[(4:Int),(6:Int),(7:Int)],())) (Sum.elim Ahg (λ y=>some y))
def Afc (a0:(List Aa)) (a1:(List UInt8)):Option (Aa×Int):=
 Option.bind (Ae9 a0 [a1]) λ y1=>
 if !decide (y1=(0:Int))then
 some ((⟨([]:List UInt8),(0:Int),[],[],[],[],[]⟩:Aa),y1)
 else
 Option.bind (Aso a0 a1 []) λ y2=>
 some (y2.1,y2.2)
def Gf:Option Bool:=some true
def A2j (a0:(List Aa)) (a1:(List UInt8)) (a2:(List UInt8)):Option (Bool×Int):=
 Option.bind (Ae9 a0 [a1,a2]) λ y1=>
 if !decide (y1=(0:Int))then
 some (false,y1)
 else
 Option.bind (Gc a0 a1) λ y2=>
 Option.bind (Gc a0 a2) λ y3=>
 Option.bind (Pe a0 y2 y3 ([]:(List (D6×Bool)))) λ y4=>
 some (y4.1,y4.2.1)
abbrev Jm:HT:=[]
abbrev Dv (a0:(List Aa)) (a1:(List UInt8)):HT:=[.S 0 false,.q (.sl (.nm 9)) a0,.S 1 false,.q .str a1,.S 5 false,.v (.int .i64)]
def Ko:H Jm->Option Int:=λ _=>
 some (-1:Int)
def Kn (a0:(List Aa)) (a1:(List UInt8)):H (Dv a0 a1)->Option ((H (Dv a0 a1))⊕((H Jm)⊕Int)):=λ (v1,_)=>
 if decide (v1<(a0.length:Int))then
 need (Af v1 a0.length)<|
 if decide (((List.getD a0 (v1).toNat (Ag)).Name)=a1)then
  some (.inr (.inr v1))
 else
  jp (Dv a0 a1)<|some (.inl (IntKind.wrap .i64 (v1+(1:Int)),()))
 else
 some (.inr (.inl ()))
def Of (a0:(List Aa)) (a1:(List UInt8)):Option Int:=
 jp (Dv a0 a1)<|Option.bind (iter (Kn a0 a1) ((0:Int),())) (Sum.elim Ko (λ y=>some y))
abbrev Q7:HT:=[]
abbrev D1:HT:=[]
abbrev Ca (a0:Aa) (a1:Aa):HT:=[.S 2 false,.k (.ptr 2 0),.S 3 false,.k (.ptr 3 0),.S 15 false,.q (.int .i64) (a0.Comps.length:Int),.S 16 false,.v (.int .i64),.C 2,.q (.nm 9) a0,.C 3,.q (.nm 9) a1]
def Gk (a0:Aa) (a1:Aa):H Q7->Option ((H (Ca a0 a1))⊕((H D1)⊕Bool)):=λ _=>
 some (.inr (.inr false))
def Gl:H D1->Option Bool:=λ _=>
 some true
def Gn (a0:Aa) (a1:Aa):H (Ca a0 a1)->Option ((H (Ca a0 a1))⊕((H D1)⊕Bool)):=λ (v1,_)=>
 if decide (v1<(a0.Comps.length:Int))then
 need (Af v1 a0.Comps.length)<|
 need (Af v1 a1.Comps.length)<|
 if !decide (((List.getD a0.Comps (v1).toNat (An)).Name)=((List.getD a1.Comps (v1).toNat (An)).Name))then
  Gk a0 a1 ()
 else
  need (Af v1 a0.Comps.length)<|
  need (Af v1 a1.Comps.length)<|
  if !((decide (((List.getD a0.Comps (v1).toNat (An)).Type_)=([82,101,97,108]:List UInt8)))==(decide (((List.getD a1.Comps (v1).toNat (An)).Type_)=([82,101,97,108]:List UInt8))))then
   Gk a0 a1 ()
  else
   jp (Ca a0 a1)<|some (.inl (IntKind.wrap .i64 (v1+(1:Int)),()))
 else
 some (.inr (.inl ()))
def Hu (a0:Aa) (a1:Aa):Option Bool:=
 if !decide ((a0.Comps.length:Int)=(a1.Comps.length:Int))then
 some false
 else
 jp (Ca a0 a1)<|Option.bind (iter (Gn a0 a1) ((0:Int),())) (Sum.elim Gl (λ y=>some y))
abbrev Rb:HT:=[]
abbrev F4 (a0:(List Aa)) (a1:(List UInt8)):HT:=[.S 0 false,.q (.sl (.nm 9)) a0,.S 1 false,.q .str a1]
def Gi:H Rb->Option Bool:=λ _=>
 some false
def Ed (a0:(List Aa)) (a1:(List UInt8)):H (F4 a0 a1)->Option Bool:=λ _=>
 Option.bind (A2j a0 a1 a1) λ y6=>
 if !decide (y6.2=(0:Int))then
 Option.bind (Gf) λ y7=>
 some y7
 else
 if y6.1 then
  Option.bind (Gf) λ y8=>
  some y8
 else
  some false
def Mw (a0:(List Aa)) (a1:(List UInt8)):Option Bool:=
 Option.bind (Afc a0 a1) λ y1=>
 if !decide (y1.2=(0:Int))then
 Option.bind (Gf) λ y2=>
 some y2
 else
 Option.bind (Of a0 a1) λ y3=>
 need (a0.length*144<=At)<|
 need (Af y3 a0.length)<|
 Option.bind (Afc (List.set a0 y3.toNat y1.1) a1) λ y4=>
 if decide ((0:Int)<(y1.1.Bases.length:Int))then
  Gi ()
 else
  if decide (y4.2=(0:Int))then
   Option.bind (Hu y1.1 y4.1) λ y5=>
   if !y5 then
    Gi ()
   else
    jp (F4 a0 a1)<|Ed a0 a1 ()
  else
   jp (F4 a0 a1)<|Ed a0 a1 ()
end
end Go.Ab
