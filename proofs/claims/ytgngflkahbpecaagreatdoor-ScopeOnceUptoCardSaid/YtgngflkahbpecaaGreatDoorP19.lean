/- The tables of the types. DERIVED: THE SHELF's CONTRACTS AT THIS DUMP, IN PLAIN WORDS (tools/lay-plain.mjs out of 'TryzShelf.lean', which tools/lay-shelf.mjs wrote): THE SAME DECLARATIONS UNDER THE SAME NAMES: 'import', 'namespace', 'open', 'def', 'theorem' AND NOTHING ELSE: no command of the shelf's: FOR A HAND-IN. Each laying: the table of numbers ('.._ren') and one theorem, a field a fact of the dump's own or the kernel's comparison; each contract: ONE APPLICATION. Conditions: none beyond those that each theorem names. -/
import Derived.Test.YtgngflkahbpecaaGreatDoorP18
import Derived.Test.YtgngflkahbpecaaGreatDoorP12
import Derived.Test.YtgngflkahbpecaaGreatDoorP11
import Derived.Test.YtgngflkahbpecaaGreatDoorP17
import Derived.Test.YtgngflkahbpecaaGreatDoorProg
import Derived.Shelf.Strconv.Atoi
import Derived.Shelf.LaysM
import Derived.Shelf.Strings.Search1
import Derived.Shelf.Strings.Search2
import Derived.Shelf.Strings.Search3
import Derived.Shelf.Strings.Count
import Derived.Shelf.Strings.IndexAny
import Derived.Shelf.Strings.IndexAnyAll
import Derived.Shelf.Strings.Repeat
import Derived.Shelf.Strings.SplitCore
import Derived.Ground.Names2Prog
import Derived.Shelf.Slices.Clone
set_option linter.unusedSimpArgs false
namespace Go.Ab
open Go
set_option linter.unusedVariables false
def Aw0 (z:Bd):List AV:=[.int .i64 z.N]++([.int .i64 z.D])
def Yd (z:Bd):List (Av yeE):=[.int .i64 z.N]++([.int .i64 z.D])
def As3:Prs yeE Bd:=Add (Eo (Aam .i64) (Aam .i64)) λ x=>⟨x.1,x.2⟩
theorem Afe:Prs.Spec As3 Yd:=C5 (A1 (Cu _) ((Cu _))) _ _ λ _=>rfl
mutual
def Gb:Am->List AV
 |⟨Op,Name,N,Kids⟩=>[.int .i64 Op]++([.str Name]++(Aw0 N++([.sl 5 false (Ami Kids)])))
def Ami:List Am->List AV
 |[]=>[]
 |k::r=>AV.ag (Gb k)::Ami r
end
theorem Auf:∀l:List Am,Ami l=List.map (λ z=>AV.ag (Gb z)) l
 |[]=>rfl
 |k::r=>by rw[Ami,Auf r];rfl
theorem Hy (z:Am):Gb z=[.int .i64 z.Op]++([.str z.Name]++(Aw0 z.N++([.sl 5 false (List.map (λ z=>AV.ag (Gb z)) z.Kids)]))):=by cases z;rw[Gb,Auf]
def Gt (z:Am):List (Av yeE):=[.int .i64 z.Op]++([.str z.Name]++(Yd z.N++([.sl (.nm 1) false z.Kids])))
def Kg:Prs yeE Am:=Add (Eo (Aam .i64) (Eo (Awd) (Eo (As3) (pSl (.nm 1) false)))) λ x=>⟨x.1,x.2.1,x.2.2.1,x.2.2.2⟩
theorem Ep:Prs.Spec Kg Gt:=C5 (A1 (Cu _) (A1 Ic (A1 Afe ((Ng _ _))))) _ _ λ _=>rfl
def Aka (z:Ak):List AV:=[.str z.Path]++([.str z.Type_]++(Gb z.Value))
def A9m (z:Ak):List (Av yeE):=[.str z.Path]++([.str z.Type_]++(Gt z.Value))
def Bkb:Prs yeE Ak:=Add (Eo (Awd) (Eo (Awd) (Kg))) λ x=>⟨x.1,x.2.1,x.2.2⟩
theorem Bd6:Prs.Spec Bkb A9m:=C5 (A1 Ic (A1 Ic (Ep))) _ _ λ _=>rfl
def Bir (z:Qv):List AV:=[.str z.Name]++([.sl 7 false (List.map (λ z=>AV.ag (Aka z)) z.Mods)])
def A50 (z:Qv):List (Av yeE):=[.str z.Name]++([.sl (.nm 2) false z.Mods])
def Bdi:Prs yeE Qv:=Add (Eo (Awd) (pSl (.nm 2) false)) λ x=>⟨x.1,x.2⟩
theorem A6z:Prs.Spec Bdi A50:=C5 (A1 Ic ((Ng _ _))) _ _ λ _=>rfl
def Akz (z:Ax):List AV:=[.str z.Name]++([.str z.Type_]++([.int .i64 z.Var]++([.bool z.Flow]++([.int .i64 z.Size]++([.int .i64 z.Scope]++([.bool z.Replace]++(Gb z.Cond++(Gb z.Value++([.str z.Unit]++([.sl 7 false (List.map (λ z=>AV.ag (Aka z)) z.Mods)]))))))))))
def A4t (z:Ax):List (Av yeE):=[.str z.Name]++([.str z.Type_]++([.int .i64 z.Var]++([.bool z.Flow]++([.int .i64 z.Size]++([.int .i64 z.Scope]++([.bool z.Replace]++(Gt z.Cond++(Gt z.Value++([.str z.Unit]++([.sl (.nm 2) false z.Mods]))))))))))
def Bd2:Prs yeE Ax:=Add (Eo (Awd) (Eo (Awd) (Eo (Aam .i64) (Eo (Bcv) (Eo (Aam .i64) (Eo (Aam .i64) (Eo (Bcv) (Eo (Kg) (Eo (Kg) (Eo (Awd) (pSl (.nm 2) false))))))))))) λ x=>⟨x.1,x.2.1,x.2.2.1,x.2.2.2.1,x.2.2.2.2.1,x.2.2.2.2.2.1,x.2.2.2.2.2.2.1,x.2.2.2.2.2.2.2.1,x.2.2.2.2.2.2.2.2.1,x.2.2.2.2.2.2.2.2.2.1,x.2.2.2.2.2.2.2.2.2.2⟩
theorem A68:Prs.Spec Bd2 A4t:=C5 (A1 Ic (A1 Ic (A1 (Cu _) (A1 Ae8 (A1 (Cu _) (A1 (Cu _) (A1 Ae8 (A1 Ep (A1 Ep (A1 Ic ((Ng _ _)))))))))))) _ _ λ _=>rfl
def A8v (z:Wo):List AV:=[.bool z.Init]++(Gb z.L++(Gb z.R))
def Bj8 (z:Wo):List (Av yeE):=[.bool z.Init]++(Gt z.L++(Gt z.R))
def Bsb:Prs yeE Wo:=Add (Eo (Bcv) (Eo (Kg) (Kg))) λ x=>⟨x.1,x.2.1,x.2.2⟩
theorem Bgf:Prs.Spec Bsb Bj8:=C5 (A1 Ae8 (A1 Ep (Ep))) _ _ λ _=>rfl
def Bjm (z:Mi):List AV:=[.str z.A]++([.str z.B]++([.str z.In]))
def A4p (z:Mi):List (Av yeE):=[.str z.A]++([.str z.B]++([.str z.In]))
def Bc7:Prs yeE Mi:=Add (Eo (Awd) (Eo (Awd) (Awd))) λ x=>⟨x.1,x.2.1,x.2.2⟩
theorem A7r:Prs.Spec Bc7 A4p:=C5 (A1 Ic (A1 Ic (Ic))) _ _ λ _=>rfl
def Aw2 (z:Aan):List AV:=[.str z.Name]++(Gb z.E)
def Bb3 (z:Aan):List (Av yeE):=[.str z.Name]++(Gt z.E)
def Bip:Prs yeE Aan:=Add (Eo (Awd) (Kg)) λ x=>⟨x.1,x.2⟩
theorem Ba1:Prs.Spec Bip Bb3:=C5 (A1 Ic (Ep)) _ _ λ _=>rfl
def Ar6 (z:G5):List AV:=Gb z.C++([.sl 6 false (List.map (λ z=>AV.ag (Aw2 z)) z.Sets)])
def A37 (z:G5):List (Av yeE):=Gt z.C++([.sl (.nm 7) false z.Sets])
def Be7:Prs yeE G5:=Add (Eo (Kg) (pSl (.nm 7) false)) λ x=>⟨x.1,x.2⟩
theorem A58:Prs.Spec Be7 A37:=C5 (A1 Ep ((Ng _ _))) _ _ λ _=>rfl
def Bs0 (z:Aa):List AV:=[.str z.Name]++([.int .i64 z.Kind]++([.sl 2 false (List.map (λ z=>AV.ag (Bir z)) z.Bases)]++([.sl 19 false (List.map (λ z=>AV.ag (Akz z)) z.Comps)]++([.sl 11 false (List.map (λ z=>AV.ag (A8v z)) z.Eqs)]++([.sl 3 false (List.map (λ z=>AV.ag (Bjm z)) z.Links)]++([.sl 6 false (List.map (λ z=>AV.ag (Ar6 z)) z.Whens)]))))))
def Ay5 (z:Aa):List (Av yeE):=[.str z.Name]++([.int .i64 z.Kind]++([.sl (.nm 3) false z.Bases]++([.sl (.nm 4) false z.Comps]++([.sl (.nm 5) false z.Eqs]++([.sl (.nm 6) false z.Links]++([.sl (.nm 8) false z.Whens]))))))
def A4j:Prs yeE Aa:=Add (Eo (Awd) (Eo (Aam .i64) (Eo (pSl (.nm 3) false) (Eo (pSl (.nm 4) false) (Eo (pSl (.nm 5) false) (Eo (pSl (.nm 6) false) (pSl (.nm 8) false))))))) λ x=>⟨x.1,x.2.1,x.2.2.1,x.2.2.2.1,x.2.2.2.2.1,x.2.2.2.2.2.1,x.2.2.2.2.2.2⟩
theorem A3k:Prs.Spec A4j Ay5:=C5 (A1 Ic (A1 (Cu _) (A1 (Ng _ _) (A1 (Ng _ _) (A1 (Ng _ _) (A1 (Ng _ _) ((Ng _ _)))))))) _ _ λ _=>rfl
def Ar3 (z:A5):List AV:=Gb z.e++([.bool z.cond])
def Aun (z:A5):List (Av yeE):=Gt z.e++([.bool z.cond])
def Aw8:Prs yeE A5:=Add (Eo (Kg) (Bcv)) λ x=>⟨x.1,x.2⟩
theorem A0e:Prs.Spec Aw8 Aun:=C5 (A1 Ep (Ae8)) _ _ λ _=>rfl
def Bbe (z:E5):List AV:=[.int .i64 z.e0]++([.int .i64 z.e1]++([.int .i64 z.e2]++([.int .i64 z.e3]++([.int .i64 z.e4]++([.int .i64 z.e5]++([.int .i64 z.e6]))))))
def Amm (z:E5):List (Av yeE):=[.int .i64 z.e0]++([.int .i64 z.e1]++([.int .i64 z.e2]++([.int .i64 z.e3]++([.int .i64 z.e4]++([.int .i64 z.e5]++([.int .i64 z.e6]))))))
def Asu:Prs yeE E5:=Add (Eo (Aam .i64) (Eo (Aam .i64) (Eo (Aam .i64) (Eo (Aam .i64) (Eo (Aam .i64) (Eo (Aam .i64) (Aam .i64))))))) λ x=>⟨x.1,x.2.1,x.2.2.1,x.2.2.2.1,x.2.2.2.2.1,x.2.2.2.2.2.1,x.2.2.2.2.2.2⟩
theorem Agl:Prs.Spec Asu Amm:=C5 (A1 (Cu _) (A1 (Cu _) (A1 (Cu _) (A1 (Cu _) (A1 (Cu _) (A1 (Cu _) ((Cu _)))))))) _ _ λ _=>rfl
def By6 (z:A7):List AV:=Bbe z.E++(Aw0 z.F)
def A5s (z:A7):List (Av yeE):=Amm z.E++(Yd z.F)
def Bfm:Prs yeE A7:=Add (Eo (Asu) (As3)) λ x=>⟨x.1,x.2⟩
theorem A6a:Prs.Spec Bfm A5s:=C5 (A1 Agl (Afe)) _ _ λ _=>rfl
def Btn (z:A4):List AV:=[.int .i64 z.v]++([.sl 1 true (List.map (λ n=>AV.int .u32 n) z.m)]++([.bool z.neg]))
def Bw (z:A4):List (Av yeE):=[.int .i64 z.v]++([.sl (.int .u32) true z.m]++([.bool z.neg]))
def A8x:Prs yeE A4:=Add (Eo (Aam .i64) (Eo (pSl (.int .u32) true) (Bcv))) λ x=>⟨x.1,x.2.1,x.2.2⟩
theorem Al5:Prs.Spec A8x Bw:=C5 (A1 (Cu _) (A1 (Ng _ _) (Ae8))) _ _ λ _=>rfl
def B0w (z:B6):List AV:=Btn z.N++(Btn z.D)
def Pw (z:B6):List (Av yeE):=Bw z.N++(Bw z.D)
def Bmd:Prs yeE B6:=Add (Eo (A8x) (A8x)) λ x=>⟨x.1,x.2⟩
theorem Ayr:Prs.Spec Bmd Pw:=C5 (A1 Al5 (Al5)) _ _ λ _=>rfl
def Bmb (z:Bm):List AV:=[.str z.name]++([.int .i64 z.n])
def Ard (z:Bm):List (Av yeE):=[.str z.name]++([.int .i64 z.n])
def Atm:Prs yeE Bm:=Add (Eo (Awd) (Aam .i64)) λ x=>⟨x.1,x.2⟩
theorem Avg:Prs.Spec Atm Ard:=C5 (A1 Ic ((Cu _))) _ _ λ _=>rfl
def Bzt (z:Bu):List AV:=Bbe z.e++(B0w z.f)
def A4o (z:Bu):List (Av yeE):=Amm z.e++(Pw z.f)
def A9h:Prs yeE Bu:=Add (Eo (Asu) (Bmd)) λ x=>⟨x.1,x.2⟩
theorem A6x:Prs.Spec A9h A4o:=C5 (A1 Agl (Ayr)) _ _ λ _=>rfl
def Br2 (z:Cb):List AV:=[.sl 19 false (List.map (λ z=>AV.ag (Akz z)) z.comps)]++([.sl 7 false (List.map (λ z=>AV.ag (Aka z)) z.mods)])
def Aub (z:Cb):List (Av yeE):=[.sl (.nm 4) false z.comps]++([.sl (.nm 2) false z.mods])
def Ayk:Prs yeE Cb:=Add (Eo (pSl (.nm 4) false) (pSl (.nm 2) false)) λ x=>⟨x.1,x.2⟩
theorem Aye:Prs.Spec Ayk Aub:=C5 (A1 (Ng _ _) ((Ng _ _))) _ _ λ _=>rfl
def Bpn (z:Ai):List AV:=[.int .i64 z.class_]++([.int .i64 z.by_]++([.int .i64 z.base]))
def Aui (z:Ai):List (Av yeE):=[.int .i64 z.class_]++([.int .i64 z.by_]++([.int .i64 z.base]))
def Azi:Prs yeE Ai:=Add (Eo (Aam .i64) (Eo (Aam .i64) (Aam .i64))) λ x=>⟨x.1,x.2.1,x.2.2⟩
theorem Ax1:Prs.Spec Azi Aui:=C5 (A1 (Cu _) (A1 (Cu _) ((Cu _)))) _ _ λ _=>rfl
def B1o (z:D6):List AV:=[.int .i64 z.e0]++([.int .i64 z.e1])
def Bfe (z:D6):List (Av yeE):=[.int .i64 z.e0]++([.int .i64 z.e1])
def Bja:Prs yeE D6:=Add (Eo (Aam .i64) (Aam .i64)) λ x=>⟨x.1,x.2⟩
theorem A9x:Prs.Spec Bja Bfe:=C5 (A1 (Cu _) ((Cu _))) _ _ λ _=>rfl
def Bq (z:Bp):List AV:=[.int .u8 z.lo]++([.int .u8 z.hi])
def Bj (z:Bp):List (Av yeE):=[.int .u8 z.lo]++([.int .u8 z.hi])
def Bn:Prs yeE Bp:=Add (Eo (Aam .u8) (Aam .u8)) λ x=>⟨x.1,x.2⟩
theorem Bb:Prs.Spec Bn Bj:=C5 (A1 (Cu _) ((Cu _))) _ _ λ _=>rfl
def B1b (z:Ba0):List AV:=Bq z.e0++(Bq z.e1++(Bq z.e2++(Bq z.e3++(Bq z.e4++(Bq z.e5++(Bq z.e6++(Bq z.e7++(Bq z.e8++(Bq z.e9++(Bq z.e10++(Bq z.e11++(Bq z.e12++(Bq z.e13++(Bq z.e14++(Bq z.e15)))))))))))))))
def Bdu (z:Ba0):List (Av yeE):=Bj z.e0++(Bj z.e1++(Bj z.e2++(Bj z.e3++(Bj z.e4++(Bj z.e5++(Bj z.e6++(Bj z.e7++(Bj z.e8++(Bj z.e9++(Bj z.e10++(Bj z.e11++(Bj z.e12++(Bj z.e13++(Bj z.e14++(Bj z.e15)))))))))))))))
def Bjv:Prs yeE Ba0:=Add (Eo (Bn) (Eo (Bn) (Eo (Bn) (Eo (Bn) (Eo (Bn) (Eo (Bn) (Eo (Bn) (Eo (Bn) (Eo (Bn) (Eo (Bn) (Eo (Bn) (Eo (Bn) (Eo (Bn) (Eo (Bn) (Eo (Bn) (Bn)))))))))))))))) λ x=>⟨x.1,x.2.1,x.2.2.1,x.2.2.2.1,x.2.2.2.2.1,x.2.2.2.2.2.1,x.2.2.2.2.2.2.1,x.2.2.2.2.2.2.2.1,x.2.2.2.2.2.2.2.2.1,x.2.2.2.2.2.2.2.2.2.1,x.2.2.2.2.2.2.2.2.2.2.1,x.2.2.2.2.2.2.2.2.2.2.2.1,x.2.2.2.2.2.2.2.2.2.2.2.2.1,x.2.2.2.2.2.2.2.2.2.2.2.2.2.1,x.2.2.2.2.2.2.2.2.2.2.2.2.2.2.1,x.2.2.2.2.2.2.2.2.2.2.2.2.2.2.2⟩
theorem Bfc:Prs.Spec Bjv Bdu:=C5 (A1 Bb (A1 Bb (A1 Bb (A1 Bb (A1 Bb (A1 Bb (A1 Bb (A1 Bb (A1 Bb (A1 Bb (A1 Bb (A1 Bb (A1 Bb (A1 Bb (A1 Bb (Bb)))))))))))))))) _ _ λ _=>rfl
@[reducible] def yeT:Tab where
 E:=yeE
 sz:=λ n=>match n with
  |0=>2
  |1=>5
  |2=>7
  |3=>2
  |4=>19
  |5=>11
  |6=>3
  |7=>6
  |8=>6
  |9=>7
  |10=>6
  |11=>7
  |12=>9
  |13=>3
  |14=>6
  |15=>2
  |16=>13
  |17=>2
  |18=>3
  |19=>2
  |20=>2
  |21=>32
  |_=>0
 df:=λ n=>match n with
  |0=>Bn3
  |1=>D4
  |2=>A3
  |3=>Cl
  |4=>An
  |5=>Aeq
  |6=>Azo
  |7=>Ab8
  |8=>Bz
  |9=>Ag
  |10=>T4
  |11=>Blj
  |12=>Af5
  |13=>B35
  |14=>B8y
  |15=>Ahu
  |16=>B39
  |17=>Kd
  |18=>Be
  |19=>B6e
  |20=>Bt
  |21=>B57
  |_+22=>()
 toL:=λ n=>match n with
  |0=>Yd
  |1=>Gt
  |2=>A9m
  |3=>A50
  |4=>A4t
  |5=>Bj8
  |6=>A4p
  |7=>Bb3
  |8=>A37
  |9=>Ay5
  |10=>Aun
  |11=>Amm
  |12=>A5s
  |13=>Bw
  |14=>Pw
  |15=>Ard
  |16=>A4o
  |17=>Aub
  |18=>Aui
  |19=>Bfe
  |20=>Bj
  |21=>Bdu
  |_+22=>λ _=>[]
 ofL:=λ n=>match n with
  |0=>Abt As3
  |1=>Abt Kg
  |2=>Abt Bkb
  |3=>Abt Bdi
  |4=>Abt Bd2
  |5=>Abt Bsb
  |6=>Abt Bc7
  |7=>Abt Bip
  |8=>Abt Be7
  |9=>Abt A4j
  |10=>Abt Aw8
  |11=>Abt Asu
  |12=>Abt Bfm
  |13=>Abt A8x
  |14=>Abt Bmd
  |15=>Abt Atm
  |16=>Abt A9h
  |17=>Abt Ayk
  |18=>Abt Azi
  |19=>Abt Bja
  |20=>Abt Bn
  |21=>Abt Bjv
  |_+22=>λ _=>none
 av:=λ n=>match n with
  |0=>Aw0
  |1=>Gb
  |2=>Aka
  |3=>Bir
  |4=>Akz
  |5=>A8v
  |6=>Bjm
  |7=>Aw2
  |8=>Ar6
  |9=>Bs0
  |10=>Ar3
  |11=>Bbe
  |12=>By6
  |13=>Btn
  |14=>B0w
  |15=>Bmb
  |16=>Bzt
  |17=>Br2
  |18=>Bpn
  |19=>B1o
  |20=>Bq
  |21=>B1b
  |_+22=>λ _=>[]
 kx:=λ n=>match n with
  |19=>some (.i64,Amw)
  |_=>none
theorem Ait:Tab.Ok yeT where
 av:=λ n=>match n with
  |0=>λ _=>rfl
  |1=>λ z=>by show _=(Gb z).map some;rw[Hy];rfl
  |2=>λ z=>by show _=(Aka z).map some;unfold Aka;rw[Hy z.Value];rfl
  |3=>λ _=>rfl
  |4=>λ z=>by show _=(Akz z).map some;unfold Akz;rw[Hy z.Cond,Hy z.Value];rfl
  |5=>λ z=>by show _=(A8v z).map some;unfold A8v;rw[Hy z.L,Hy z.R];rfl
  |6=>λ _=>rfl
  |7=>λ z=>by show _=(Aw2 z).map some;unfold Aw2;rw[Hy z.E];rfl
  |8=>λ z=>by show _=(Ar6 z).map some;unfold Ar6;rw[Hy z.C];rfl
  |9=>λ _=>rfl
  |10=>λ z=>by show _=(Ar3 z).map some;unfold Ar3;rw[Hy z.e];rfl
  |11=>λ _=>rfl
  |12=>λ _=>rfl
  |13=>λ _=>rfl
  |14=>λ _=>rfl
  |15=>λ _=>rfl
  |16=>λ _=>rfl
  |17=>λ _=>rfl
  |18=>λ _=>rfl
  |19=>λ _=>rfl
  |20=>λ _=>rfl
  |21=>λ _=>rfl
  |_+22=>λ _=>rfl
 len:=λ n=>match n with
  |0=>λ _=>rfl
  |1=>λ _=>rfl
  |2=>λ _=>rfl
  |3=>λ _=>rfl
  |4=>λ _=>rfl
  |5=>λ _=>rfl
  |6=>λ _=>rfl
  |7=>λ _=>rfl
  |8=>λ _=>rfl
  |9=>λ _=>rfl
  |10=>λ _=>rfl
  |11=>λ _=>rfl
  |12=>λ _=>rfl
  |13=>λ _=>rfl
  |14=>λ _=>rfl
  |15=>λ _=>rfl
  |16=>λ _=>rfl
  |17=>λ _=>rfl
  |18=>λ _=>rfl
  |19=>λ _=>rfl
  |20=>λ _=>rfl
  |21=>λ _=>rfl
  |_+22=>λ _=>rfl
 ofL:=λ n=>match n with
  |0=>λ ls x h=>D2 Afe h
  |1=>λ ls x h=>D2 Ep h
  |2=>λ ls x h=>D2 Bd6 h
  |3=>λ ls x h=>D2 A6z h
  |4=>λ ls x h=>D2 A68 h
  |5=>λ ls x h=>D2 Bgf h
  |6=>λ ls x h=>D2 A7r h
  |7=>λ ls x h=>D2 Ba1 h
  |8=>λ ls x h=>D2 A58 h
  |9=>λ ls x h=>D2 A3k h
  |10=>λ ls x h=>D2 A0e h
  |11=>λ ls x h=>D2 Agl h
  |12=>λ ls x h=>D2 A6a h
  |13=>λ ls x h=>D2 Al5 h
  |14=>λ ls x h=>D2 Ayr h
  |15=>λ ls x h=>D2 Avg h
  |16=>λ ls x h=>D2 A6x h
  |17=>λ ls x h=>D2 Aye h
  |18=>λ ls x h=>D2 Ax1 h
  |19=>λ ls x h=>D2 A9x h
  |20=>λ ls x h=>D2 Bb h
  |21=>λ ls x h=>D2 Bfc h
  |_+22=>λ ls x h=>by cases h
 kx:=λ n=>match n with
  |0=>λ _ _ h _=>by cases h
  |1=>λ _ _ h _=>by cases h
  |2=>λ _ _ h _=>by cases h
  |3=>λ _ _ h _=>by cases h
  |4=>λ _ _ h _=>by cases h
  |5=>λ _ _ h _=>by cases h
  |6=>λ _ _ h _=>by cases h
  |7=>λ _ _ h _=>by cases h
  |8=>λ _ _ h _=>by cases h
  |9=>λ _ _ h _=>by cases h
  |10=>λ _ _ h _=>by cases h
  |11=>λ _ _ h _=>by cases h
  |12=>λ _ _ h _=>by cases h
  |13=>λ _ _ h _=>by cases h
  |14=>λ _ _ h _=>by cases h
  |15=>λ _ _ h _=>by cases h
  |16=>λ _ _ h _=>by cases h
  |17=>λ _ _ h _=>by cases h
  |18=>λ _ _ h _=>by cases h
  |19=>λ _ _ h _=>by cases h;rfl
  |20=>λ _ _ h _=>by cases h
  |21=>λ _ _ h _=>by cases h
  |_+22=>λ _ _ h _=>by cases h
def Bu6:List (TypeId×TI yeE):=[
 (2,⟨.int .i64,1,8,[.int .i64 (0:Int)],(.int .i64)⟩),
 (3,⟨.int .i64,1,8,[.int .i64 (0:Int)],(.int .i64)⟩),
 (4,⟨.bool,1,1,[.bool false],.bool⟩),
 (5,⟨.int .u8,1,1,[.int .u8 (0:Int)],(.int .u8)⟩),
 (9,⟨.str,1,16,[.str ([]:List UInt8)],.str⟩),
 (21,⟨.int .i32,1,4,[.int .i32 (0:Int)],(.int .i32)⟩),
 (22,⟨.slice 29,1,24,[.sl (.nm 9) true []],(.sl (.nm 9))⟩),
 (23,⟨.slice 62,1,24,[.sl (.nm 3) true []],(.sl (.nm 3))⟩),
 (24,⟨.slice 70,1,24,[.sl (.nm 4) true []],(.sl (.nm 4))⟩),
 (25,⟨.slice 100,1,24,[.sl (.nm 5) true []],(.sl (.nm 5))⟩),
 (26,⟨.slice 123,1,24,[.sl (.nm 6) true []],(.sl (.nm 6))⟩),
 (27,⟨.slice 126,1,24,[.sl (.nm 8) true []],(.sl (.nm 8))⟩),
 (29,⟨.struct [(0,9),(1,3),(2,23),(3,24),(4,25),(5,26),(6,27)],7,144,[.str ([]:List UInt8),.int .i64 (0:Int),.sl (.nm 3) true [],.sl (.nm 4) true [],.sl (.nm 5) true [],.sl (.nm 6) true [],.sl (.nm 8) true []],(.nm 9)⟩),
 (30,⟨.int .i64,1,8,[.int .i64 (0:Int)],(.int .i64)⟩),
 (42,⟨.slice 9,1,24,[.sl .str true []],(.sl .str)⟩),
 (54,⟨.slice 75,1,24,[.sl (.nm 2) true []],(.sl (.nm 2))⟩),
 (62,⟨.struct [(0,9),(1,54)],2,40,[.str ([]:List UInt8),.sl (.nm 2) true []],(.nm 3)⟩),
 (65,⟨.struct [(0,3),(1,3)],2,16,[.int .i64 (0:Int),.int .i64 (0:Int)],(.nm 0)⟩),
 (66,⟨.slice 68,1,24,[.sl (.nm 1) true []],(.sl (.nm 1))⟩),
 (68,⟨.struct [(0,3),(1,9),(2,65),(4,66)],5,64,[.int .i64 (0:Int),.str ([]:List UInt8),.int .i64 (0:Int),.int .i64 (0:Int),.sl (.nm 1) true []],(.nm 1)⟩),
 (70,⟨.struct [(0,9),(1,9),(2,3),(3,4),(4,3),(5,3),(6,4),(7,68),(12,68),(17,9),(18,54)],19,240,[.str ([]:List UInt8),.str ([]:List UInt8),.int .i64 (0:Int),.bool false,.int .i64 (0:Int),.int .i64 (0:Int),.bool false,.int .i64 (0:Int),.str ([]:List UInt8),.int .i64 (0:Int),.int .i64 (0:Int),.sl (.nm 1) true [],.int .i64 (0:Int),.str ([]:List UInt8),.int .i64 (0:Int),.int .i64 (0:Int),.sl (.nm 1) true [],.str ([]:List UInt8),.sl (.nm 2) true []],(.nm 4)⟩),
 (75,⟨.struct [(0,9),(1,9),(2,68)],7,96,[.str ([]:List UInt8),.str ([]:List UInt8),.int .i64 (0:Int),.str ([]:List UInt8),.int .i64 (0:Int),.int .i64 (0:Int),.sl (.nm 1) true []],(.nm 2)⟩),
 (77,⟨.map 129 4,1,8,[.nmp],.bool⟩),
 (80,⟨.slice 84,1,24,[.sl (.nm 18) true []],(.sl (.nm 18))⟩),
 (84,⟨.struct [(0,3),(1,3),(2,3)],3,24,[.int .i64 (0:Int),.int .i64 (0:Int),.int .i64 (0:Int)],(.nm 18)⟩),
 (88,⟨.slice 3,1,24,[.sl (.int .i64) true []],(.sl (.int .i64))⟩),
 (100,⟨.struct [(0,4),(1,68),(6,68)],11,136,[.bool false,.int .i64 (0:Int),.str ([]:List UInt8),.int .i64 (0:Int),.int .i64 (0:Int),.sl (.nm 1) true [],.int .i64 (0:Int),.str ([]:List UInt8),.int .i64 (0:Int),.int .i64 (0:Int),.sl (.nm 1) true []],(.nm 5)⟩),
 (114,⟨.slice 118,1,24,[.sl (.nm 17) true []],(.sl (.nm 17))⟩),
 (118,⟨.struct [(0,24),(1,54)],2,48,[.sl (.nm 4) true [],.sl (.nm 2) true []],(.nm 17)⟩),
 (119,⟨.slice 30,1,24,[.sl (.int .i64) true []],(.sl (.int .i64))⟩),
 (123,⟨.struct [(0,9),(1,9),(2,9)],3,48,[.str ([]:List UInt8),.str ([]:List UInt8),.str ([]:List UInt8)],(.nm 6)⟩),
 (124,⟨.slice 128,1,24,[.sl (.nm 7) true []],(.sl (.nm 7))⟩),
 (126,⟨.struct [(0,68),(5,124)],6,88,[.int .i64 (0:Int),.str ([]:List UInt8),.int .i64 (0:Int),.int .i64 (0:Int),.sl (.nm 1) true [],.sl (.nm 7) true []],(.nm 8)⟩),
 (128,⟨.struct [(0,9),(1,68)],6,80,[.str ([]:List UInt8),.int .i64 (0:Int),.str ([]:List UInt8),.int .i64 (0:Int),.int .i64 (0:Int),.sl (.nm 1) true []],(.nm 7)⟩),
 (129,⟨.array 2 3,2,16,[.int .i64 (0:Int),.int .i64 (0:Int)],(.nm 19)⟩),
 (140,⟨.map 3 4,1,8,[.nmp],.bool⟩),
 (151,⟨.map 9 4,1,8,[.nmp],.bool⟩),
 (156,⟨.map 3 54,1,8,[.nmp],.bool⟩),
 (178,⟨.slice 181,1,24,[.sl (.nm 10) true []],(.sl (.nm 10))⟩),
 (181,⟨.struct [(0,68),(5,4)],6,72,[.int .i64 (0:Int),.str ([]:List UInt8),.int .i64 (0:Int),.int .i64 (0:Int),.sl (.nm 1) true [],.bool false],(.nm 10)⟩),
 (194,⟨.ptr 3,1,8,[.nptr],.bool⟩),
 (196,⟨.array 7 3,7,56,[.int .i64 (0:Int),.int .i64 (0:Int),.int .i64 (0:Int),.int .i64 (0:Int),.int .i64 (0:Int),.int .i64 (0:Int),.int .i64 (0:Int)],(.nm 11)⟩),
 (198,⟨.struct [(0,196),(7,65)],9,72,[.int .i64 (0:Int),.int .i64 (0:Int),.int .i64 (0:Int),.int .i64 (0:Int),.int .i64 (0:Int),.int .i64 (0:Int),.int .i64 (0:Int),.int .i64 (0:Int),.int .i64 (0:Int)],(.nm 12)⟩),
 (211,⟨.int .u64,1,8,[.int .u64 (0:Int)],(.int .u64)⟩),
 (212,⟨.slice 259,1,24,[.sl (.int .u32) true []],(.sl (.int .u32))⟩),
 (238,⟨.array 16 237,32,32,[.int .u8 (0:Int),.int .u8 (0:Int),.int .u8 (0:Int),.int .u8 (0:Int),.int .u8 (0:Int),.int .u8 (0:Int),.int .u8 (0:Int),.int .u8 (0:Int),.int .u8 (0:Int),.int .u8 (0:Int),.int .u8 (0:Int),.int .u8 (0:Int),.int .u8 (0:Int),.int .u8 (0:Int),.int .u8 (0:Int),.int .u8 (0:Int),.int .u8 (0:Int),.int .u8 (0:Int),.int .u8 (0:Int),.int .u8 (0:Int),.int .u8 (0:Int),.int .u8 (0:Int),.int .u8 (0:Int),.int .u8 (0:Int),.int .u8 (0:Int),.int .u8 (0:Int),.int .u8 (0:Int),.int .u8 (0:Int),.int .u8 (0:Int),.int .u8 (0:Int),.int .u8 (0:Int),.int .u8 (0:Int)],(.nm 21)⟩),
 (240,⟨.struct [(0,2),(1,212),(2,4)],3,40,[.int .i64 (0:Int),.sl (.int .u32) true [],.bool false],(.nm 13)⟩),
 (242,⟨.struct [(0,240),(3,240)],6,80,[.int .i64 (0:Int),.sl (.int .u32) true [],.bool false,.int .i64 (0:Int),.sl (.int .u32) true [],.bool false],(.nm 14)⟩),
 (245,⟨.slice 251,1,24,[.sl (.nm 15) true []],(.sl (.nm 15))⟩),
 (249,⟨.struct [(0,196),(7,242)],13,136,[.int .i64 (0:Int),.int .i64 (0:Int),.int .i64 (0:Int),.int .i64 (0:Int),.int .i64 (0:Int),.int .i64 (0:Int),.int .i64 (0:Int),.int .i64 (0:Int),.sl (.int .u32) true [],.bool false,.int .i64 (0:Int),.sl (.int .u32) true [],.bool false],(.nm 16)⟩),
 (251,⟨.struct [(0,9),(1,3)],2,24,[.str ([]:List UInt8),.int .i64 (0:Int)],(.nm 15)⟩),
 (259,⟨.int .u32,1,4,[.int .u32 (0:Int)],(.int .u32)⟩),
 (277,⟨.map 9 198,1,8,[.nmp],.bool⟩),
 (286,⟨.int .u64,1,8,[.int .u64 (0:Int)],(.int .u64)⟩)]
def Bhi:TypeId->Option (TI yeE):=λ t=>Ae t Bu6
def Cau:Nat->Nat->Option (List Nat):=λ f r=>match Ae f [
 (20,[(9,[0,9,30,31,32])]),
 (22,[(4,[0,1,5])]),
 (32,[(5,[0,13,14,15])]),
 (33,[(10,[0,6,9,12,51,52,53,79,80,81,82,85,86,87,88,91,92,93,94]),(13,[0,6,9,12,14,51,52,53,57,58,59,79,80,81,82,85,86,87,88,91,92,93,94]),(22,[6,9,98,99,100])]),
 (43,[(1,[0,1,2])]),
 (56,[(4,[0,5,6,13,14,15]),(13,[5,6,36,37,38])]),
 (57,[(4,[3,12,13])]),
 (62,[(4,[0,11,12,13])]),
 (63,[(7,[0,1,2,6,7,9,10,58,59,60]),(10,[0,1,2,6,7,9,10,58,59,60,69,70,71]),(19,[0,6,7,9,15,16]),(28,[0,6,7,15,137,138,139]),(32,[0,6,7,15,21,22,137,138,139,149,150,151]),(47,[0,6,7,15,22,137,138,139,216,217,218]),(53,[0,6,7,15,137,138,139,244,245,246]),(57,[0,6,7,15,32,137,138,139,244,245,246,255,256,257])]),
 (64,[(4,[0,6,24,25,26,73,74]),(7,[0,6,10,24,25,26,35,36,37,73,74])]),
 (65,[(2,[0,1,3,17,18,19,49,52,53,54,55,56,57,58,59,60,67,68,69,72,73,74,75,76,77,78,79,80,81,82,83,84,85,86,87])]),
 (68,[(2,[0,1,7,8])]),
 (70,[(2,[0,1,7,8])]),
 (75,[(7,[0,2,3,4,6,36,37,38])]),
 (84,[(4,[0,23,24,33,34,35,36,37,40,41,42,43])]),
 (85,[(2,[0,1,7,8])]),
 (90,[(11,[5,28,29,30]),(18,[5,41,42,43]),(24,[51,52,53])]),
 (91,[(3,[0,1,8,14,15,16])]),
 (92,[(3,[2,4,5,11,12,13])]),
 (119,[(6,[1,4,5,18,19,20])]),
 (122,[(4,[1,38,39,40]),(10,[1,50,51,52]),(16,[62,63,64])]),
 (123,[(4,[1,28,29,30,39,40,41,42,68,69,70,71,74,75,76]),(10,[1,46,47,48,68,69,70,71,74,75,76]),(16,[1,57,58,59,68,69,70,71,74,75,76]),(22,[80,81,82]),(25,[80,81,82,87,88,89])]),
 (124,[(2,[1,9,10]),(14,[40,41,42])]),
 (125,[(4,[1,3,4,17,18,19]),(9,[1,3,4,29,30,31]),(18,[1,3,61,62,63]),(23,[3,78,79,80]),(27,[3,78,79,80,91,92,93])]),
 (127,[(8,[23,24,25])]),
 (145,[(2,[5,6,7,16,17,18,19,20,21,22,23,24,27,28,29,30,31,32,33])]),
 (147,[(4,[10,11,12,21,22,23,24,25,28,29,30,31,32,35,36,37,38,39,42,43,44,45,46])]),
 (149,[(1,[1,5,6,7])]),
 (152,[(4,[1,12,13,14])]),
 (154,[(2,[1,6,7,8])]),
 (155,[(12,[0,6,8]),(18,[1,45])]),
 (156,[(15,[0,1,5,6,7,8,9,10,85,86,87,88,89,90,91,92,103,104,105,106,122,123,124,125,126,129,130,131])]),
 (161,[(2,[6,7,8])]),
 (168,[(4,[0,22,23])]),
 (173,[(2,[0,2,4])]),
 (178,[(11,[0,1,5,6,7,8,10,69,70,71,72,73,74,75,76])]),
 (196,[(11,[0,1,2,3,9,10])]),
 (197,[(2,[0,1,7,8])]),
 (204,[(3,[0,4,5])]),
 (236,[(6,[0,1,6,7])]),
 (237,[(6,[0,1,5])])]with
 |some l=>Ae r l
 |none=>none
def Aue:TypeId->Bool:=λ t=>Sa t [65]
theorem Btw:Bqm yeT Bhi Aue Go.Proofs.Tryz.prog where
 tab:=Ait
 types:=Bsv Bu6 rfl (by kernel_rfl)
 eqs:=B2k (V:=Az3 yeT Bhi Aue []) (Bsv Bu6 rfl (by kernel_rfl)) rfl (by kernel_rfl)
 mixed:=by kernel_rfl
abbrev ST:=Ab.St yeE
abbrev MT:=Ue yeT Bhi Aue Go.Proofs.Tryz.prog
abbrev EV:=Cap yeT Bhi Aue
abbrev GO (V:Env):=Bs V Go.Proofs.Tryz.prog
abbrev EX:=B9n yeT Bhi Aue
abbrev MX:=Agj yeT Go.Proofs.Tryz.prog
theorem GF {fs:List (FuncId×FS yeE)} {xs:List (FuncId×List Nat×FX yeE)} {ps:List (FuncId×FL yeE)} (h:Al8 yeT Bhi Aue Go.Proofs.Tryz.prog fs) (hx:Aza yeT Go.Proofs.Tryz.prog xs) (hp:Axr yeT Go.Proofs.Tryz.prog ps):Bs (EX fs xs ps) Go.Proofs.Tryz.prog:=B9j Btw h hx hp
theorem GB {fs:List (FuncId×FS yeE)} {ws:List (FuncId×FW yeE)} {t0:Bool} (h:Al8 yeT Bhi Aue Go.Proofs.Tryz.prog fs) (hw:Apu yeT Bhi Aue Go.Proofs.Tryz.prog ws):Bs (EV fs ws t0) Go.Proofs.Tryz.prog:=B4t Btw h hw
end Go.Ab
namespace Go.Proofs
open Go.Shelf
def Tryz.lays172_ren:Go.Shelf.Ren:=⟨fun|172=>278|244=>296|245=>297|247=>306|279=>307|280=>308|281=>309|282=>310|287=>313|316=>314|171=>316|205=>315|321=>317|322=>318|243=>319|246=>320|283=>321|284=>322|285=>323|286=>324|129=>326|317=>325|318=>327|319=>328|320=>329|337=>330|338=>331|n=>n,fun|9=>9|3=>3|75=>319|76=>320|4=>4|5=>5|167=>343|37=>326|0=>0|85=>344|2=>2|168=>346|53=>286|175=>352|46=>211|210=>355|127=>342|145=>361|143=>359|21=>21|171=>363|173=>366|212=>369|51=>259|20=>20|213=>370|232=>372|233=>373|80=>330|n=>n,fun|15=>3|16=>4|17=>5|18=>6|19=>7|n=>n⟩
theorem Tryz.lays172:Go.Proofs.Lays.n172 Tryz.prog Tryz.lays172_ren:={
 mixed:=by kernel_rfl
 f129:=Tryz.func326.trans (congrArg some (by kernel_rfl))
 f171:=Tryz.func316.trans (congrArg some (by kernel_rfl))
 f172:=Tryz.func278.trans (congrArg some (by kernel_rfl))
 f205:=Tryz.func315.trans (congrArg some (by kernel_rfl))
 f243:=Tryz.func319.trans (congrArg some (by kernel_rfl))
 f244:=Tryz.func296.trans (congrArg some (by kernel_rfl))
 f245:=Tryz.func297.trans (congrArg some (by kernel_rfl))
 f246:=Tryz.func320.trans (congrArg some (by kernel_rfl))
 f247:=Tryz.func306.trans (congrArg some (by kernel_rfl))
 f279:=Tryz.func307.trans (congrArg some (by kernel_rfl))
 f280:=Tryz.func308.trans (congrArg some (by kernel_rfl))
 f281:=Tryz.func309.trans (congrArg some (by kernel_rfl))
 f282:=Tryz.func310.trans (congrArg some (by kernel_rfl))
 f283:=Tryz.func321.trans (congrArg some (by kernel_rfl))
 f284:=Tryz.func322.trans (congrArg some (by kernel_rfl))
 f285:=Tryz.func323.trans (congrArg some (by kernel_rfl))
 f286:=Tryz.func324.trans (congrArg some (by kernel_rfl))
 f287:=Tryz.func313.trans (congrArg some (by kernel_rfl))
 f316:=Tryz.func314.trans (congrArg some (by kernel_rfl))
 f317:=Tryz.func325.trans (congrArg some (by kernel_rfl))
 f318:=Tryz.func327.trans (congrArg some (by kernel_rfl))
 f319:=Tryz.func328.trans (congrArg some (by kernel_rfl))
 f320:=Tryz.func329.trans (congrArg some (by kernel_rfl))
 f321:=Tryz.func317.trans (congrArg some (by kernel_rfl))
 f322:=Tryz.func318.trans (congrArg some (by kernel_rfl))
 f337:=Tryz.func330.trans (congrArg some (by kernel_rfl))
 f338:=Tryz.func331.trans (congrArg some (by kernel_rfl))
 t0:=Tryz.underlying0
 a0:=Tryz.isAgg0
 z0:=Tryz.sizeOf0
 v0:=Tryz.zeroValue0
 t2:=Tryz.underlying2
 a2:=Tryz.isAgg2
 z2:=Tryz.sizeOf2
 v2:=Tryz.zeroValue2
 t3:=Tryz.underlying3
 a3:=Tryz.isAgg3
 z3:=Tryz.sizeOf3
 v3:=Tryz.zeroValue3
 t4:=Tryz.underlying4
 a4:=Tryz.isAgg4
 z4:=Tryz.sizeOf4
 v4:=Tryz.zeroValue4
 t5:=Tryz.underlying5
 a5:=Tryz.isAgg5
 z5:=Tryz.sizeOf5
 v5:=Tryz.zeroValue5
 t9:=Tryz.underlying9
 a9:=Tryz.isAgg9
 z9:=Tryz.sizeOf9
 v9:=Tryz.zeroValue9
 t20:=Tryz.underlying20
 a20:=Tryz.isAgg20
 z20:=Tryz.sizeOf20
 v20:=Tryz.zeroValue20
 t21:=Tryz.underlying21
 a21:=Tryz.isAgg21
 z21:=Tryz.sizeOf21
 v21:=Tryz.zeroValue21
 t37:=Tryz.underlying326
 a37:=Tryz.isAgg326
 z37:=Tryz.sizeOf326
 v37:=Tryz.zeroValue326
 t46:=Tryz.underlying211
 a46:=Tryz.isAgg211
 z46:=Tryz.sizeOf211
 v46:=Tryz.zeroValue211
 t51:=Tryz.underlying259
 a51:=Tryz.isAgg259
 z51:=Tryz.sizeOf259
 v51:=Tryz.zeroValue259
 t53:=Tryz.underlying286
 a53:=Tryz.isAgg286
 z53:=Tryz.sizeOf286
 v53:=Tryz.zeroValue286
 t75:=Tryz.underlying319
 a75:=Tryz.isAgg319
 z75:=Tryz.sizeOf319
 v75:=Tryz.zeroValue319
 t76:=Tryz.underlying320
 a76:=Tryz.isAgg320
 z76:=Tryz.sizeOf320
 v76:=Tryz.zeroValue320
 t85:=Tryz.underlying344
 a85:=Tryz.isAgg344
 z85:=Tryz.sizeOf344
 v85:=Tryz.zeroValue344
 t127:=Tryz.underlying342
 a127:=Tryz.isAgg342
 z127:=Tryz.sizeOf342
 v127:=Tryz.zeroValue342
 t143:=Tryz.underlying359
 a143:=Tryz.isAgg359
 z143:=Tryz.sizeOf359
 v143:=Tryz.zeroValue359
 t145:=Tryz.underlying361
 a145:=Tryz.isAgg361
 z145:=Tryz.sizeOf361
 v145:=Tryz.zeroValue361
 t167:=Tryz.underlying343
 a167:=Tryz.isAgg343
 z167:=Tryz.sizeOf343
 v167:=Tryz.zeroValue343
 t168:=Tryz.underlying346
 a168:=Tryz.isAgg346
 z168:=Tryz.sizeOf346
 v168:=Tryz.zeroValue346
 t171:=Tryz.underlying363
 a171:=Tryz.isAgg363
 z171:=Tryz.sizeOf363
 v171:=Tryz.zeroValue363
 t173:=Tryz.underlying366
 a173:=Tryz.isAgg366
 z173:=Tryz.sizeOf366
 v173:=Tryz.zeroValue366
 t175:=Tryz.underlying352
 a175:=Tryz.isAgg352
 z175:=Tryz.sizeOf352
 v175:=Tryz.zeroValue352
 t210:=Tryz.underlying355
 a210:=Tryz.isAgg355
 z210:=Tryz.sizeOf355
 v210:=Tryz.zeroValue355
 t212:=Tryz.underlying369
 a212:=Tryz.isAgg369
 z212:=Tryz.sizeOf369
 v212:=Tryz.zeroValue369
 t213:=Tryz.underlying370
 a213:=Tryz.isAgg370
 z213:=Tryz.sizeOf370
 t232:=Tryz.underlying372
 a232:=Tryz.isAgg372
 z232:=Tryz.sizeOf372
 v232:=Tryz.zeroValue372
 t233:=Tryz.underlying373
 a233:=Tryz.isAgg373
 z233:=Tryz.sizeOf373
 v233:=Tryz.zeroValue373
 g15:=by kernel_rfl
 g16:=by kernel_rfl
 g17:=by kernel_rfl
 g18:=by kernel_rfl
 g19:=by kernel_rfl}
open Go.RowKit in
theorem Tryz.strconv_Atoi (s:ByteArray) (n:Int) (hl:s.size<=18) (h:Lib.atoi s.data.toList=some n) (w:World):
 Calls Tryz.prog 278 #[.string s] w λ e w'=>e= .returned (.tuple #[.int .i64 n,.nilIface])/\∃t,w'=Lib.bytesWorld w 5 t:=Any.strconv_Atoi Tryz.lays172 s n hl h w
def Tryz.lays217_ren:Go.Shelf.Ren:=⟨fun|217=>175|266=>203|n=>n,fun|9=>9|5=>5|3=>3|n=>n,fun|n=>n⟩
theorem Tryz.lays217:Go.Proofs.Lays.n217 Tryz.prog Tryz.lays217_ren:={
 mixed:=by kernel_rfl
 f217:=Tryz.func175.trans (congrArg some (by kernel_rfl))
 f266:=Tryz.func203.trans (congrArg some (by kernel_rfl))
 t3:=Tryz.underlying3
 a3:=Tryz.isAgg3
 z3:=Tryz.sizeOf3
 v3:=Tryz.zeroValue3
 t5:=Tryz.underlying5
 a5:=Tryz.isAgg5
 z5:=Tryz.sizeOf5
 v5:=Tryz.zeroValue5
 t9:=Tryz.underlying9
 a9:=Tryz.isAgg9
 z9:=Tryz.sizeOf9
 v9:=Tryz.zeroValue9}
open Go.RowKit Go.Lib in
theorem Tryz.stringslite_IndexByte (s:ByteArray) (c:Int) (w:World):
 Calls Tryz.prog 175 #[.string s,.int .u8 c] w λ e w'=>e= .returned (.int .i64 (Lib.indexByte s.data.toList c.toNat.toUInt8))/\w'=w:=Any.stringslite_IndexByte Tryz.lays217 s c w
def Tryz.lays219_ren:Go.Shelf.Ren:=⟨fun|219=>156|217=>175|225=>176|224=>177|267=>178|266=>203|314=>204|n=>n,fun|9=>9|3=>3|4=>4|5=>5|46=>211|146=>260|51=>259|n=>n,fun|1=>0|n=>n⟩
theorem Tryz.lays219:Go.Proofs.Lays.n219 Tryz.prog Tryz.lays219_ren:={
 mixed:=by kernel_rfl
 f217:=Tryz.func175.trans (congrArg some (by kernel_rfl))
 f219:=Tryz.func156.trans (congrArg some (by kernel_rfl))
 f224:=Tryz.func177.trans (congrArg some (by kernel_rfl))
 f225:=Tryz.func176.trans (congrArg some (by kernel_rfl))
 f266:=Tryz.func203.trans (congrArg some (by kernel_rfl))
 f267:=Tryz.func178.trans (congrArg some (by kernel_rfl))
 f314:=Tryz.func204.trans (congrArg some (by kernel_rfl))
 t3:=Tryz.underlying3
 a3:=Tryz.isAgg3
 z3:=Tryz.sizeOf3
 v3:=Tryz.zeroValue3
 t4:=Tryz.underlying4
 a4:=Tryz.isAgg4
 z4:=Tryz.sizeOf4
 v4:=Tryz.zeroValue4
 t5:=Tryz.underlying5
 a5:=Tryz.isAgg5
 z5:=Tryz.sizeOf5
 v5:=Tryz.zeroValue5
 t9:=Tryz.underlying9
 a9:=Tryz.isAgg9
 z9:=Tryz.sizeOf9
 v9:=Tryz.zeroValue9
 t46:=Tryz.underlying211
 a46:=Tryz.isAgg211
 z46:=Tryz.sizeOf211
 v46:=Tryz.zeroValue211
 t51:=Tryz.underlying259
 a51:=Tryz.isAgg259
 z51:=Tryz.sizeOf259
 v51:=Tryz.zeroValue259
 t146:=Tryz.underlying260
 a146:=Tryz.isAgg260
 z146:=Tryz.sizeOf260
 v146:=Tryz.zeroValue260
 g1:=by kernel_rfl}
open Go.RowKit Go.Lib in
theorem Tryz.stringslite_Index_one (s:ByteArray) (c:UInt8) (w:World):
 Calls Tryz.prog 156 #[.string s,.string ⟨#[c]⟩] w λ e w'=>e= .returned (.int .i64 (Lib.indexByte s.data.toList c))/\w'=w:=Any.stringslite_Index_one Tryz.lays219 s c w
def Tryz.lays143_ren:Go.Shelf.Ren:=⟨fun|143=>143|219=>156|217=>175|225=>176|224=>177|267=>178|266=>203|314=>204|n=>n,fun|9=>9|3=>3|4=>4|5=>5|46=>211|146=>260|51=>259|n=>n,fun|1=>0|n=>n⟩
theorem Tryz.lays143:Go.Proofs.Lays.n143 Tryz.prog Tryz.lays143_ren:={
 mixed:=by kernel_rfl
 f143:=Tryz.func143.trans (congrArg some (by kernel_rfl))
 f217:=Tryz.func175.trans (congrArg some (by kernel_rfl))
 f219:=Tryz.func156.trans (congrArg some (by kernel_rfl))
 f224:=Tryz.func177.trans (congrArg some (by kernel_rfl))
 f225:=Tryz.func176.trans (congrArg some (by kernel_rfl))
 f266:=Tryz.func203.trans (congrArg some (by kernel_rfl))
 f267:=Tryz.func178.trans (congrArg some (by kernel_rfl))
 f314:=Tryz.func204.trans (congrArg some (by kernel_rfl))
 t3:=Tryz.underlying3
 a3:=Tryz.isAgg3
 z3:=Tryz.sizeOf3
 v3:=Tryz.zeroValue3
 t4:=Tryz.underlying4
 a4:=Tryz.isAgg4
 z4:=Tryz.sizeOf4
 v4:=Tryz.zeroValue4
 t5:=Tryz.underlying5
 a5:=Tryz.isAgg5
 z5:=Tryz.sizeOf5
 v5:=Tryz.zeroValue5
 t9:=Tryz.underlying9
 a9:=Tryz.isAgg9
 z9:=Tryz.sizeOf9
 v9:=Tryz.zeroValue9
 t46:=Tryz.underlying211
 a46:=Tryz.isAgg211
 z46:=Tryz.sizeOf211
 v46:=Tryz.zeroValue211
 t51:=Tryz.underlying259
 a51:=Tryz.isAgg259
 z51:=Tryz.sizeOf259
 v51:=Tryz.zeroValue259
 t146:=Tryz.underlying260
 a146:=Tryz.isAgg260
 z146:=Tryz.sizeOf260
 v146:=Tryz.zeroValue260
 g1:=by kernel_rfl}
open Go.RowKit Go.Lib in
theorem Tryz.strings_Index_one (s:ByteArray) (c:UInt8) (w:World):
 Calls Tryz.prog 143 #[.string s,.string ⟨#[c]⟩] w λ e w'=>e= .returned (.int .i64 (Lib.indexByte s.data.toList c))/\w'=w:=Any.strings_Index_one Tryz.lays143 s c w
def Tryz.lays138_ren:Go.Shelf.Ren:=⟨fun|138=>237|195=>264|218=>265|143=>143|219=>156|217=>175|225=>176|224=>177|267=>178|266=>203|314=>204|n=>n,fun|9=>9|3=>3|4=>4|5=>5|0=>0|46=>211|146=>260|51=>259|n=>n,fun|1=>0|n=>n⟩
theorem Tryz.lays138:Go.Proofs.Lays.n138 Tryz.prog Tryz.lays138_ren:={
 mixed:=by kernel_rfl
 f138:=Tryz.func237.trans (congrArg some (by kernel_rfl))
 f143:=Tryz.func143.trans (congrArg some (by kernel_rfl))
 f195:=Tryz.func264.trans (congrArg some (by kernel_rfl))
 f217:=Tryz.func175.trans (congrArg some (by kernel_rfl))
 f218:=Tryz.func265.trans (congrArg some (by kernel_rfl))
 f219:=Tryz.func156.trans (congrArg some (by kernel_rfl))
 f224:=Tryz.func177.trans (congrArg some (by kernel_rfl))
 f225:=Tryz.func176.trans (congrArg some (by kernel_rfl))
 f266:=Tryz.func203.trans (congrArg some (by kernel_rfl))
 f267:=Tryz.func178.trans (congrArg some (by kernel_rfl))
 f314:=Tryz.func204.trans (congrArg some (by kernel_rfl))
 t0:=Tryz.underlying0
 a0:=Tryz.isAgg0
 z0:=Tryz.sizeOf0
 v0:=Tryz.zeroValue0
 t3:=Tryz.underlying3
 a3:=Tryz.isAgg3
 z3:=Tryz.sizeOf3
 v3:=Tryz.zeroValue3
 t4:=Tryz.underlying4
 a4:=Tryz.isAgg4
 z4:=Tryz.sizeOf4
 v4:=Tryz.zeroValue4
 t5:=Tryz.underlying5
 a5:=Tryz.isAgg5
 z5:=Tryz.sizeOf5
 v5:=Tryz.zeroValue5
 t9:=Tryz.underlying9
 a9:=Tryz.isAgg9
 z9:=Tryz.sizeOf9
 v9:=Tryz.zeroValue9
 t46:=Tryz.underlying211
 a46:=Tryz.isAgg211
 z46:=Tryz.sizeOf211
 v46:=Tryz.zeroValue211
 t51:=Tryz.underlying259
 a51:=Tryz.isAgg259
 z51:=Tryz.sizeOf259
 v51:=Tryz.zeroValue259
 t146:=Tryz.underlying260
 a146:=Tryz.isAgg260
 z146:=Tryz.sizeOf260
 v146:=Tryz.zeroValue260
 g1:=by kernel_rfl}
open Go.RowKit Go.Lib in
theorem Tryz.strings_Count_one (s:ByteArray) (c:UInt8) (w:World):
 Calls Tryz.prog 237 #[.string s,.string ⟨#[c]⟩] w λ e w'=>e= .returned (.int .i64 (Lib.countByte s.data.toList c))/\w'=w:=Any.strings_Count_one Tryz.lays138 s c w
def Tryz.lays221_ren:Go.Shelf.Ren:=⟨fun|221=>196|268=>236|138=>237|143=>143|195=>264|197=>142|218=>265|219=>156|260=>160|217=>175|225=>176|224=>177|267=>178|266=>203|314=>204|n=>n,fun|9=>9|3=>3|31=>42|4=>4|0=>0|105=>189|21=>21|5=>5|46=>211|119=>235|139=>238|138=>237|146=>260|51=>259|n=>n,fun|1=>0|3=>1|4=>2|n=>n⟩
theorem Tryz.lays221:Go.Proofs.Lays.n221 Tryz.prog Tryz.lays221_ren:={
 mixed:=by kernel_rfl
 f138:=Tryz.func237.trans (congrArg some (by kernel_rfl))
 f143:=Tryz.func143.trans (congrArg some (by kernel_rfl))
 f195:=Tryz.func264.trans (congrArg some (by kernel_rfl))
 f197:=Tryz.func142.trans (congrArg some (by kernel_rfl))
 f217:=Tryz.func175.trans (congrArg some (by kernel_rfl))
 f218:=Tryz.func265.trans (congrArg some (by kernel_rfl))
 f219:=Tryz.func156.trans (congrArg some (by kernel_rfl))
 f221:=Tryz.func196.trans (congrArg some (by kernel_rfl))
 f224:=Tryz.func177.trans (congrArg some (by kernel_rfl))
 f225:=Tryz.func176.trans (congrArg some (by kernel_rfl))
 f260:=Tryz.func160.trans (congrArg some (by kernel_rfl))
 f266:=Tryz.func203.trans (congrArg some (by kernel_rfl))
 f267:=Tryz.func178.trans (congrArg some (by kernel_rfl))
 f268:=Tryz.func236.trans (congrArg some (by kernel_rfl))
 f314:=Tryz.func204.trans (congrArg some (by kernel_rfl))
 t0:=Tryz.underlying0
 a0:=Tryz.isAgg0
 z0:=Tryz.sizeOf0
 v0:=Tryz.zeroValue0
 t3:=Tryz.underlying3
 a3:=Tryz.isAgg3
 z3:=Tryz.sizeOf3
 v3:=Tryz.zeroValue3
 t4:=Tryz.underlying4
 a4:=Tryz.isAgg4
 z4:=Tryz.sizeOf4
 v4:=Tryz.zeroValue4
 t5:=Tryz.underlying5
 a5:=Tryz.isAgg5
 z5:=Tryz.sizeOf5
 v5:=Tryz.zeroValue5
 t9:=Tryz.underlying9
 a9:=Tryz.isAgg9
 z9:=Tryz.sizeOf9
 v9:=Tryz.zeroValue9
 t21:=Tryz.underlying21
 a21:=Tryz.isAgg21
 z21:=Tryz.sizeOf21
 v21:=Tryz.zeroValue21
 t31:=Tryz.underlying42
 a31:=Tryz.isAgg42
 z31:=Tryz.sizeOf42
 v31:=Tryz.zeroValue42
 t46:=Tryz.underlying211
 a46:=Tryz.isAgg211
 z46:=Tryz.sizeOf211
 v46:=Tryz.zeroValue211
 t51:=Tryz.underlying259
 a51:=Tryz.isAgg259
 z51:=Tryz.sizeOf259
 v51:=Tryz.zeroValue259
 t105:=Tryz.underlying189
 a105:=Tryz.isAgg189
 z105:=Tryz.sizeOf189
 v105:=Tryz.zeroValue189
 t119:=Tryz.underlying235
 a119:=Tryz.isAgg235
 z119:=Tryz.sizeOf235
 t138:=Tryz.underlying237
 a138:=Tryz.isAgg237
 z138:=Tryz.sizeOf237
 v138:=Tryz.zeroValue237
 t139:=Tryz.underlying238
 a139:=Tryz.isAgg238
 z139:=Tryz.sizeOf238
 v139:=Tryz.zeroValue238
 t146:=Tryz.underlying260
 a146:=Tryz.isAgg260
 z146:=Tryz.sizeOf260
 v146:=Tryz.zeroValue260
 g1:=by kernel_rfl
 g3:=by kernel_rfl
 g4:=by kernel_rfl}
def Tryz.lays153_ren:Go.Shelf.Ren:=⟨fun|153=>155|152=>171|226=>172|227=>173|228=>174|137=>201|119=>202|224=>177|225=>176|217=>175|266=>203|n=>n,fun|9=>9|3=>3|4=>4|5=>5|21=>21|117=>209|116=>208|0=>0|46=>211|124=>258|n=>n,fun|n=>n⟩
theorem Tryz.lays153:Go.Proofs.Lays.n153 Tryz.prog Tryz.lays153_ren:={
 mixed:=by kernel_rfl
 f119:=Tryz.func202.trans (congrArg some (by kernel_rfl))
 f137:=Tryz.func201.trans (congrArg some (by kernel_rfl))
 f152:=Tryz.func171.trans (congrArg some (by kernel_rfl))
 f153:=Tryz.func155.trans (congrArg some (by kernel_rfl))
 f217:=Tryz.func175.trans (congrArg some (by kernel_rfl))
 f224:=Tryz.func177.trans (congrArg some (by kernel_rfl))
 f225:=Tryz.func176.trans (congrArg some (by kernel_rfl))
 f226:=Tryz.func172.trans (congrArg some (by kernel_rfl))
 f227:=Tryz.func173.trans (congrArg some (by kernel_rfl))
 f228:=Tryz.func174.trans (congrArg some (by kernel_rfl))
 f266:=Tryz.func203.trans (congrArg some (by kernel_rfl))
 t0:=Tryz.underlying0
 a0:=Tryz.isAgg0
 z0:=Tryz.sizeOf0
 v0:=Tryz.zeroValue0
 t3:=Tryz.underlying3
 a3:=Tryz.isAgg3
 z3:=Tryz.sizeOf3
 v3:=Tryz.zeroValue3
 t4:=Tryz.underlying4
 a4:=Tryz.isAgg4
 z4:=Tryz.sizeOf4
 v4:=Tryz.zeroValue4
 t5:=Tryz.underlying5
 a5:=Tryz.isAgg5
 z5:=Tryz.sizeOf5
 v5:=Tryz.zeroValue5
 t9:=Tryz.underlying9
 a9:=Tryz.isAgg9
 z9:=Tryz.sizeOf9
 v9:=Tryz.zeroValue9
 t21:=Tryz.underlying21
 a21:=Tryz.isAgg21
 z21:=Tryz.sizeOf21
 v21:=Tryz.zeroValue21
 t46:=Tryz.underlying211
 a46:=Tryz.isAgg211
 z46:=Tryz.sizeOf211
 v46:=Tryz.zeroValue211
 t116:=Tryz.underlying208
 a116:=Tryz.isAgg208
 z116:=Tryz.sizeOf208
 t117:=Tryz.underlying209
 a117:=Tryz.isAgg209
 z117:=Tryz.sizeOf209
 v117:=Tryz.zeroValue209
 t124:=Tryz.underlying258
 a124:=Tryz.isAgg258
 z124:=Tryz.sizeOf258
 v124:=Tryz.zeroValue258}
open Go.RowKit Go.Lib in
theorem Tryz.strings_IndexAny_short (s chars:ByteArray) (w:World) (h2:2<=chars.size) (h8:s.size<=8) (hascii:∀(j:Nat) b,s.data.toList[j]?=some b->b.toNat<128):
 Calls Tryz.prog 155 #[.string s,.string chars] w λ e w'=>e= .returned (.int .i64 (Lib.indexAny s.data.toList chars.data.toList))/\∃pos,w'=w.iter s pos:=Any.strings_IndexAny_short Tryz.lays153 s chars w h2 h8 hascii
open Go.RowKit Go.Lib in
theorem Tryz.strings_IndexAny_laid (s chars:ByteArray) (w:World) (hs:s.size<4294967281) (hcs:chars.size<4294967281) (has:∀(j:Nat) b,s.data.toList[j]?=some b->b.toNat<128) (hac:∀(j:Nat) b,chars.data.toList[j]?=some b->b.toNat<128):
 Calls Tryz.prog 155 #[.string s,.string chars] w λ e w'=>e= .returned (.int .i64 (Lib.indexAny s.data.toList chars.data.toList))/\Below w.heap.size w w':=Any.strings_IndexAny_laid Tryz.lays153 (by kernel_rfl) s chars w hs hcs has hac
def Tryz.lays105_ren:Go.Shelf.Ren:=⟨fun|105=>255|212=>280|99=>281|165=>282|166=>283|170=>284|169=>285|263=>301|264=>287|206=>293|240=>302|241=>303|276=>311|277=>312|n=>n,fun|9=>9|3=>3|4=>4|20=>20|0=>0|46=>211|109=>322|5=>5|72=>328|76=>320|51=>259|146=>260|53=>286|148=>332|70=>325|37=>326|75=>319|127=>342|164=>349|80=>330|n=>n,fun|n=>n⟩
theorem Tryz.lays105:Go.Proofs.Lays.n105 Tryz.prog Tryz.lays105_ren:={
 mixed:=by kernel_rfl
 f99:=Tryz.func281.trans (congrArg some (by kernel_rfl))
 f105:=Tryz.func255.trans (congrArg some (by kernel_rfl))
 f165:=Tryz.func282.trans (congrArg some (by kernel_rfl))
 f166:=Tryz.func283.trans (congrArg some (by kernel_rfl))
 f169:=Tryz.func285.trans (congrArg some (by kernel_rfl))
 f170:=Tryz.func284.trans (congrArg some (by kernel_rfl))
 f206:=Tryz.func293.trans (congrArg some (by kernel_rfl))
 f212:=Tryz.func280.trans (congrArg some (by kernel_rfl))
 f240:=Tryz.func302.trans (congrArg some (by kernel_rfl))
 f241:=Tryz.func303.trans (congrArg some (by kernel_rfl))
 f263:=Tryz.func301.trans (congrArg some (by kernel_rfl))
 f264:=Tryz.func287.trans (congrArg some (by kernel_rfl))
 f276:=Tryz.func311.trans (congrArg some (by kernel_rfl))
 f277:=Tryz.func312.trans (congrArg some (by kernel_rfl))
 t0:=Tryz.underlying0
 a0:=Tryz.isAgg0
 z0:=Tryz.sizeOf0
 v0:=Tryz.zeroValue0
 t3:=Tryz.underlying3
 a3:=Tryz.isAgg3
 z3:=Tryz.sizeOf3
 v3:=Tryz.zeroValue3
 t4:=Tryz.underlying4
 a4:=Tryz.isAgg4
 z4:=Tryz.sizeOf4
 v4:=Tryz.zeroValue4
 t5:=Tryz.underlying5
 a5:=Tryz.isAgg5
 z5:=Tryz.sizeOf5
 v5:=Tryz.zeroValue5
 t9:=Tryz.underlying9
 a9:=Tryz.isAgg9
 z9:=Tryz.sizeOf9
 v9:=Tryz.zeroValue9
 t20:=Tryz.underlying20
 a20:=Tryz.isAgg20
 z20:=Tryz.sizeOf20
 v20:=Tryz.zeroValue20
 t37:=Tryz.underlying326
 a37:=Tryz.isAgg326
 z37:=Tryz.sizeOf326
 v37:=Tryz.zeroValue326
 t46:=Tryz.underlying211
 a46:=Tryz.isAgg211
 z46:=Tryz.sizeOf211
 v46:=Tryz.zeroValue211
 t51:=Tryz.underlying259
 a51:=Tryz.isAgg259
 z51:=Tryz.sizeOf259
 v51:=Tryz.zeroValue259
 t53:=Tryz.underlying286
 a53:=Tryz.isAgg286
 z53:=Tryz.sizeOf286
 v53:=Tryz.zeroValue286
 t70:=Tryz.underlying325
 a70:=Tryz.isAgg325
 z70:=Tryz.sizeOf325
 v70:=Tryz.zeroValue325
 t72:=Tryz.underlying328
 a72:=Tryz.isAgg328
 z72:=Tryz.sizeOf328
 v72:=Tryz.zeroValue328
 t75:=Tryz.underlying319
 a75:=Tryz.isAgg319
 z75:=Tryz.sizeOf319
 v75:=Tryz.zeroValue319
 t76:=Tryz.underlying320
 a76:=Tryz.isAgg320
 z76:=Tryz.sizeOf320
 v76:=Tryz.zeroValue320
 t109:=Tryz.underlying322
 a109:=Tryz.isAgg322
 z109:=Tryz.sizeOf322
 v109:=Tryz.zeroValue322
 t127:=Tryz.underlying342
 a127:=Tryz.isAgg342
 z127:=Tryz.sizeOf342
 v127:=Tryz.zeroValue342
 t146:=Tryz.underlying260
 a146:=Tryz.isAgg260
 z146:=Tryz.sizeOf260
 v146:=Tryz.zeroValue260
 t148:=Tryz.underlying332
 a148:=Tryz.isAgg332
 z148:=Tryz.sizeOf332
 v148:=Tryz.zeroValue332
 t164:=Tryz.underlying349
 a164:=Tryz.isAgg349
 z164:=Tryz.sizeOf349
 v164:=Tryz.zeroValue349}
theorem Tryz.Builder_Extra_105:Builder.Extra Tryz.prog Tryz.lays105_ren:={
 sizeBuilder:=by kernel_rfl
 liesBuilder:=by kernel_rfl
 t5:=Tryz.underlying5
 a5:=Tryz.isAgg5
 z5:=Tryz.sizeOf5
 v5:=Tryz.zeroValue5
 infoByte:=by kernel_rfl
 cellsByte:=by kernel_rfl
 sizeByte:=by kernel_rfl
 neB5:=by decide}
open Go.RowKit Go.Lib in
theorem Tryz.strings_Repeat (s:ByteArray) (c:Nat) (w:World) (hc:c<=9223372036854775807) (hlen:s.size*c<=140737488355328):
 Calls Tryz.prog 255 #[.string s,.int .i64 c] w λ e w'=>e= .returned (.string ⟨(Lib.repeatL s.data.toList c).toArray⟩)/\Below w.heap.size w w':=Any.strings_Repeat Tryz.lays105 Tryz.Builder_Extra_105 s c w hc hlen
def Tryz.laysNm215_ren:Go.Shelf.Ren:=⟨fun|15=>108|n=>n,fun|22=>88|3=>3|4=>4|n=>n,fun|n=>n⟩
theorem Tryz.laysNm215:Go.Proofs.Lays2.n15 Tryz.prog Tryz.laysNm215_ren:={
 mixed:=by kernel_rfl
 f15:=Tryz.func108.trans (congrArg some (by kernel_rfl))
 t3:=Tryz.underlying3
 a3:=Tryz.isAgg3
 z3:=Tryz.sizeOf3
 v3:=Tryz.zeroValue3
 t4:=Tryz.underlying4
 a4:=Tryz.isAgg4
 z4:=Tryz.sizeOf4
 v4:=Tryz.zeroValue4
 t22:=Tryz.underlying88
 a22:=Tryz.isAgg88
 z22:=Tryz.sizeOf88
 v22:=Tryz.zeroValue88
 i3:=by kernel_rfl}
open Go.RowKit Go.Lib in
theorem Tryz.slices_Clone_int (b off n c:Nat) (zs:List Int) (w:World) (hz:n<=zs.length) (hbig:n*8<=140737488355328) (hc:∀j,j<zs.length->w.cell? ⟨b,off+j,none⟩=some (.int .i64 (zs.getD j 0))):
 Calls Tryz.prog 108 #[.slice (some ⟨b,off,none⟩) n c] w λ e w'=>∃v',e= .returned v'/\w'.ownsRow w.heap.size 3 1 v' n ((zs.take n).map (Value.int .i64))/\v'≠ .slice none 0 0/\Below w.heap.size w w':=Any.slices_Clone_int Tryz.laysNm215 b off n c zs w hz hbig hc
open Go.RowKit Go.Lib in
theorem Tryz.slices_Clone_int_nil (n c:Nat) (w:World):
 Calls Tryz.prog 108 #[.slice none n c] w λ e w'=>e= .returned (.slice none 0 0)/\w'=w:=Any.slices_Clone_int_nil Tryz.laysNm215 n c w
open Go.RowKit Go.Lib in
theorem Tryz.slices_Clone_int_zero (a:Addr) (c:Nat) (w:World):
 Calls Tryz.prog 108 #[.slice (some a) 0 c] w λ e w'=>∃v',e= .returned v'/\w'.ownsRow w.heap.size 3 1 v' 0 []/\v'≠ .slice none 0 0/\Below w.heap.size w w':=Any.slices_Clone_int_zero Tryz.laysNm215 a c w
end Go.Proofs
