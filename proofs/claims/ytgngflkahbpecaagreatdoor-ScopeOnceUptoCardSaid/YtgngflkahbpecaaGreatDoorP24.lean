/- The functions compute what the plain functions tell. Conditions: none beyond those that each theorem names. -/
import Derived.Test.YtgngflkahbpecaaGreatDoorP23
set_option linter.unusedSimpArgs false
namespace Go.Ab
open Go Go.Proofs
set_option linter.unusedVariables false
section
variable {P:Program} {C:Ctx} {F:FT}
noncomputable abbrev Jg:Env:=EV [] [] false
noncomputable def Bin:=c0 Tryz.f289
noncomputable def Aek:FS yeE:=f1 [(.sl (.int .u32)),.bool] (.nm 13) λ x=>Tn x.1 x.2.1
noncomputable def A2w:=ct [0,1] Bin
noncomputable def Bjs:=ct [0,2,4] A2w
noncomputable def A3n:=ct [0,3,0,0,1] Bjs
noncomputable def Bi6:=ct [0,2,4] A3n
noncomputable def Bzg:=ct [0,2,4] Bi6
abbrev Ax5 (C:Ctx) (F:FT) (y:A4):Prop:=En Jg C F Tryz.f289 Aek (y,())
def Bqo (a1:Bool) (r1:(List Int)):ST:=⟨55,[os 0 (.int .u32) r1,ol 1 (.bool a1),op 4],[bc 4 [.int .i64 (0:Int),.sl (.int .u32) true [],.bool false]]⟩
def Bpx (a1:Bool) (r1:(List Int)) (r2:Int):ST:=⟨55,[os 0 (.int .u32) r1,ol 1 (.bool a1),op 4,ol 5 (.int .u64 r2)],[bc 4 [.int .i64 (0:Int),.sl (.int .u32) true [],.bool false]]⟩
def Bd4 (a1:Bool) (v:List Int):ST:=⟨55,[os 0 (.int .u32) v,ol 1 (.bool a1),op 4],[bc 4 [.int .i64 (0:Int),.sl (.int .u32) true [],.bool false]]⟩
def Bbx (a1:Bool) (r1:(List Int)) (v:Int×Int):ST:=⟨55,[os 0 (.int .u32) r1,ol 1 (.bool a1),op 4,ol 5 (.int .u64 v.1),oi 6 v.2],[bc 4 [.int .i64 (0:Int),.sl (.int .u32) true [],.bool false]]⟩
def Bvu (a1:Bool) (r1:(List Int)):ST:=⟨55,[os 0 (.int .u32) r1,ol 1 (.bool a1),op 4],[bc 4 [.int .i64 (0:Int),.sl (.int .u32) true [],.bool false]]⟩
def Bov (a0:(List Int)) (a1:Bool):ST:=⟨55,[os 0 (.int .u32) a0,ol 1 (.bool a1)],[]⟩
theorem Bof (G:Bs Jg P) {y a1} (E:Ax5 C F y) (v:List Int) o (h:Ar9 a1 v=some o) (L:LP Jg P C F A2w (Bd4 a1) (GX Jg P C F Bjs (Bqo a1)) o):Bv Jg P C F A2w (Bd4 a1 v):=by
 unfold Ar9 at h
 rcases Aj h with⟨b1,h⟩|⟨b1,h⟩
 ·obtain⟨c1,h⟩:=A8 h
  rcases Aj h with⟨b2,h⟩|⟨b2,h⟩
  ·obtain⟨c2,c3,c4,h⟩:=ns3 h
   exact sg G [ru [3,11],bt,r0,en] (ar 5 b1<|q1 c1<|ar 3 b1<|e4 b2 c2 c3 c4) (L.1 _ (si h))
  ·exact sg G [ru [3,11],bf,au] (ar 5 b1<|q1 c1<|ar 3 b1<|e1 b2) (L.2 _ (si h))
 ·exact sg G [rf [3,11],bf,au] (ar 8 b1<|e1 rF) (L.2 _ (si h))
theorem Bqu (G:Bs Jg P) {y a1 r1} (E:Ax5 C F y) (v:Int×Int) o (h:Aky a1 r1 v.1 v.2=some o) (L:LP Jg P C F A3n (Bbx a1 r1) (GX Jg P C F Bi6 (Bpx a1 r1)) o):Bv Jg P C F A3n (Bbx a1 r1 v):=by
 unfold Aky at h
 rcases Aj h with⟨b4,h⟩|⟨b4,h⟩
 ·obtain⟨c5,c6,h⟩:=ns2 h
  exact sg G [r0,bt,r0,r0,en] (e3 b4 c5 c6) (L.1 _ (si h))
 ·exact sg G [r0,bf,au] (e1 b4) (L.2 _ (si h))
theorem A5e (G:Bs Jg P) {y a1 r1} (E:Ax5 C F y) (h:Ael a1 r1=some y):Bv Jg P C F Bzg (Bvu a1 r1):=by
 unfold Ael at h
 obtain⟨c7,h⟩:=A8 h
 have e:=sj h;subst e
 exact se G E [r0,au,.weak [.ne (.cell 4) 1]] (e1 c7)
theorem Bx5 (G:Bs Jg P) {y a0 a1} (E:Ax5 C F y) (h:Tn a0 a1=some y):Bv Jg P C F Bin (Bov a0 a1):=by
 unfold Tn at h
 obtain⟨r1,hi,h⟩:=bind_some h
 refine sg G [r0,en] tt (lg (Bof G E) hi ?_)
 rcases Aj h with⟨b3,h⟩|⟨b3,h⟩
 ·obtain⟨r2,hi,h⟩:=bind_some h
  refine sg G [r0,bt,r0,r0,en] (e1 b3) (lg (Bqu G E) hi ?_)
  rcases Aj h with⟨b5,h⟩|⟨b5,h⟩
  ·rcases Aj h with⟨b6,h⟩|⟨b6,h⟩
   ·have e:=sj h;subst e
    exact se G E [r0,bt,r0,bt,r0,au] (e2 b5 b6)
   ·have e:=sj h;subst e
    exact se G E [r0,bt,r0,bf,r0,au] (e2 b5 b6)
  ·exact sg G [r0,bf,au] (e1 b5) (A5e G E h)
 ·exact sg G [r0,bf,au] (e1 b3) (A5e G E h)
theorem Ady:MT 289 Aek:=show E1 Jg _ _ _ from mt (fn:=Tryz.f289) (S:=λ x=>Bov x.1 x.2.1) (GB trivial trivial) λ G _ _ _ _=>Bx5 G
noncomputable abbrev Ajw:Env:=EV [(288,Ut),(289,Aek)] [] false
noncomputable def Bi4:=c0 Tryz.f275
noncomputable def Ad4:FS yeE:=f1 [(.nm 13)] (.nm 13) λ x=>Yk x.1
noncomputable def B0e:=ct [0,0,2,4] Bi4
abbrev Bph (C:Ctx) (F:FT) (y:A4):Prop:=En Ajw C F Tryz.f275 Ad4 (y,())
def Bs4 (a0:A4):ST:=⟨26,[op 1,op 2],[bc 1 (Bw a0),bc 2 [.int .i64 (0:Int),.sl (.int .u32) true [],.bool false]]⟩
def Bp3 (a0:A4):ST:=⟨26,[og 0 (Bw a0)],[]⟩
theorem A5i (G:Bs Ajw P) {y a0} (E:Bph C F y) (h:Ad5 a0=some y):Bv Ajw P C F B0e (Bs4 a0):=by
 unfold Ad5 at h
 obtain⟨y1,c1,h⟩:=bind_some h
 obtain⟨y2,c2,h⟩:=bind_some h
 have e:=sj h;subst e
 exact se G E [rc 1 (rt (.sl (.int .u32)) .bool y1),rc 3 (rs (.nm 13) y2),au] (e2 (cb c1) (ca c2))
theorem Byn (G:Bs Ajw P) {y a0} (E:Bph C F y) (h:Yk a0=some y):Bv Ajw P C F Bi4 (Bp3 a0):=by
 unfold Yk at h
 rcases Aj h with⟨b1,h⟩|⟨b1,h⟩
 ·rcases Aj h with⟨b2,h⟩|⟨b2,h⟩
  ·have e:=sj h;subst e
   exact se G E [r0,ru [3,7],bt,r0,au] (ar 4 b1<|e1 b2)
  ·exact sg G [r0,ru [3,7],bf,au] (ar 4 b1<|e1 b2) (A5i G E h)
 ·exact sg G [r0,rf [3,7],bf,au] (ar 4 b1<|e1 rF) (A5i G E h)
theorem Ac1:MT 275 Ad4:=show E1 Ajw _ _ _ from mt (fn:=Tryz.f275) (S:=λ x=>Bp3 x.1) (GB ⟨V3,Ady,trivial⟩ trivial) λ G _ _ _ _=>Byn G
noncomputable abbrev Pr:Env:=EV [] [] false
noncomputable def A5m:=c0 Tryz.f305
noncomputable def Arr:FS yeE:=f1 [(.int .u32)] (.int .i64) λ x=>Aef x.1
noncomputable def A5q:=ct [0,0,3,0,0,4] A5m
noncomputable def Boi:=ct [0,3,0,0,4] A5q
abbrev Au8 (C:Ctx) (F:FT) (y:Int):Prop:=En Pr C F Tryz.f305 Arr (y,())
def Bn5 (v3:Int) (v4:Int):ST:=⟨19,[ol 0 (.int .u32 v3),oi 2 v4],[]⟩
def Bmw (v1:Int) (v2:Int):ST:=⟨19,[ol 0 (.int .u32 v1),oi 2 v2],[]⟩
def Bcp (a0:Int):ST:=⟨19,[ol 0 (.int .u32 a0)],[]⟩
theorem At0 (G:Bs Pr P) {y v3 v4} (E:Au8 C F y) (h:Uk v3 v4=some y):Bv Pr P C F Boi (Bn5 v3 v4):=by
 unfold Uk at h
 obtain⟨c3,h⟩:=A8 h
 have e:=sj h;subst e
 exact se G E [r0,au] (e1 c3)
theorem At9 (G:Bs Pr P) {y v1 v2} (E:Au8 C F y) (h:Uw v1 v2=some y):Bv Pr P C F A5q (Bmw v1 v2):=by
 unfold Uw at h
 rcases Aj h with⟨b2,h⟩|⟨b2,h⟩
 ·obtain⟨c2,h⟩:=A8 h
  exact sg G [r0,bt,r0,r0,au] (e2 b2 c2) (At0 G E h)
 ·exact sg G [r0,bf,au] (e1 b2) (At0 G E h)
theorem Brn (G:Bs Pr P) {y a0} (E:Au8 C F y) (h:Aef a0=some y):Bv Pr P C F A5m (Bcp a0):=by
 unfold Aef at h
 rcases Aj h with⟨b1,h⟩|⟨b1,h⟩
 ·obtain⟨c1,h⟩:=A8 h
  exact sg G [r0,r0,bt,r0,r0,au] (e2 b1 c1) (At9 G E h)
 ·exact sg G [r0,r0,bf,au] (e1 b1) (At9 G E h)
theorem Bem:MT 305 Arr:=show E1 Pr _ _ _ from mt (fn:=Tryz.f305) (S:=λ x=>Bcp x.1) (GB trivial trivial) λ G _ _ _ _=>Brn G
noncomputable abbrev Ki:Env:=EV [(305,Arr)] [] false
noncomputable def Art:=c0 Tryz.f290
noncomputable def Ou:FS yeE:=f1 [(.int .u32)] (.int .i64) λ x=>Gd x.1
abbrev Atd (C:Ctx) (F:FT) (y:Int):Prop:=En Ki C F Tryz.f290 Ou (y,())
def Abf (a0:Int):ST:=⟨6,[ol 0 (.int .u32 a0)],[]⟩
theorem Aq2 (G:Bs Ki P) {y a0} (E:Atd C F y) (h:Gd a0=some y):Bv Ki P C F Art (Abf a0):=by
 unfold Gd at h
 obtain⟨y1,c1,h⟩:=bind_some h
 have e:=sj h;subst e
 exact se G E [r0,rc 1 (rs (.int .i64) y1),au] (e1 (ca c1))
theorem Akj:MT 290 Ou:=show E1 Ki _ _ _ from mt (fn:=Tryz.f290) (S:=λ x=>Abf x.1) (GB ⟨Bem,trivial⟩ trivial) λ G _ _ _ _=>Aq2 G
noncomputable abbrev Jn:Env:=EV [] [] false
noncomputable def Atx:=c0 Tryz.f299
noncomputable def Y0:FS yeE:=f1 [(.sl (.int .u32)),(.sl (.int .u32))] (.int .i64) λ x=>Pf x.1 x.2.1
noncomputable def Air:=ct [0,0,2,0,1] Atx
noncomputable def Bh4:=ct [0,2,4] Air
abbrev Aya (C:Ctx) (F:FT) (y:Int):Prop:=En Jn C F Tryz.f299 Y0 (y,())
def A64 (r1:Unit):ST:=⟨41,[],[]⟩
def Ao9 (a0:(List Int)) (a1:(List Int)) (v:Int):ST:=⟨41,[os 0 (.int .u32) a0,os 1 (.int .u32) a1,oi 5 v],[]⟩
def Ay8 (a0:(List Int)) (a1:(List Int)):ST:=⟨41,[os 0 (.int .u32) a0,os 1 (.int .u32) a1],[]⟩
theorem A7h (G:Bs Jn P) {y a0 a1} (E:Aya C F y) (v:Int) o (h:Zp a0 a1 v=some o) (L:LP Jn P C F Air (Ao9 a0 a1) (Sum.elim (GX Jn P C F Bh4 A64) (RX y)) o):Bv Jn P C F Air (Ao9 a0 a1 v):=by
 unfold Zp at h
 rcases Aj h with⟨b3,h⟩|⟨b3,h⟩
 ·obtain⟨c1,c2,h⟩:=ns2 h
  rcases Aj h with⟨b4,h⟩|⟨b4,h⟩
  ·obtain⟨c3,c4,h⟩:=ns2 h
   rcases Aj h with⟨b5,h⟩|⟨b5,h⟩
   ·have e:_=y:=L.2 _ (si h);subst e
    exact se G E [r0,bt,r0,bt,r0,bt,r0,au] (q6 b3 c1 c2 b4 c3 c4<|e1 b5)
   ·have e:_=y:=L.2 _ (si h);subst e
    exact se G E [r0,bt,r0,bt,r0,bf,r0,au] (q6 b3 c1 c2 b4 c3 c4<|e1 b5)
  ·exact sg G [r0,bt,r0,bf,r0,en] (e4 b3 c1 c2 b4) (L.1 _ (si h))
 ·exact sg G [r0,bf,au] (e1 b3) (L.2 _ (si h))
theorem Bgi (G:Bs Jn P) {y a0 a1} (E:Aya C F y) (h:Pf a0 a1=some y):Bv Jn P C F Atx (Ay8 a0 a1):=by
 unfold Pf at h
 rcases Aj h with⟨b1,h⟩|⟨b1,h⟩
 ·rcases Aj h with⟨b2,h⟩|⟨b2,h⟩
  ·have e:=sj h;subst e
   exact se G E [r0,r0,bt,r0,bt,r0,au] (e2 b1 b2)
  ·have e:=sj h;subst e
   exact se G E [r0,r0,bt,r0,bf,r0,au] (e2 b1 b2)
 ·obtain⟨r,hi,h⟩:=bind_some h
  refine sg G [r0,r0,bf,r0,en] (e1 b1) (lg (A7h G E) hi ?_)
  rcases r with r1|r2
  ·have e:=sj h;subst e
   exact se G E [r0,au] tt
  ·exact sj h
theorem Aks:MT 299 Y0:=show E1 Jn _ _ _ from mt (fn:=Tryz.f299) (S:=λ x=>Ay8 x.1 x.2.1) (GB trivial trivial) λ G _ _ _ _=>Bgi G
noncomputable abbrev Ao:Env:=EV [(290,Ou),(299,Y0)] [] false
noncomputable def Ai6:=c0 Tryz.f295
noncomputable def Aiq:FS yeE:=f2 [(.sl (.int .u32)),(.sl (.int .u32))] (.sl (.int .u32)) (.sl (.int .u32)) λ x=>Uj x.1 x.2.1
noncomputable def Aiw:=ct [0,0,2,0,3,0,0,0,1] Ai6
noncomputable def Bf4:=ct [0,2,4] Aiw
noncomputable def Rz:=ct [0,0,2,0,2,0,0,0,0,1] Ai6
noncomputable def Bg9:=ct [0,3,0,0,0,3,0,4] Rz
noncomputable def Ai7:=ct [0,2,4] Rz
noncomputable def N2:=ct [0,1] Ai7
noncomputable def At1:=ct [0,3,0,0,3,0,4] N2
noncomputable def Bgj:=ct [0,3,0,4] At1
noncomputable def Y1:=ct [0,2,4] N2
noncomputable def O5:=ct [0,0,0,1] Y1
noncomputable def Pd:=ct [0,3,0,0,1] O5
noncomputable def A9d:=ct [0,3,4] Pd
noncomputable def Afv:=ct [0,2,4] Pd
noncomputable def O7:=ct [0,0,1] Afv
noncomputable def Bex:=ct [0,3,0,0,0,0,0,0,0,3,0,4] O7
noncomputable def Agi:=ct [0,2,4] O7
noncomputable def Aer:=ct [0,0,0,3,0,0,0,1] Agi
noncomputable def Aqd:=ct [0,2,4] Aer
noncomputable def Bew:=ct [0,4] Aqd
noncomputable def Afn:=ct [0,2,4] O5
noncomputable def P3:=ct [0,0,1] Afn
noncomputable def A9c:=ct [0,3,0,0,0,3,0,4] P3
noncomputable def Aq8:=ct [0,2,4] P3
abbrev Cs (C:Ctx) (F:FT) (y:((List Int)×(List Int))):Prop:=En Ao C F Tryz.f295 Aiq (y.1,y.2,())
def A79 (r1:(Int×(List Int))):ST:=⟨392,[ol 6 (.ar 43 0),ol 7 (.int .u64 r1.1)],[ba 43 259 (.int .u32) r1.2]⟩
def Anc (a0:(List Int)) (y2:Int) (r2:((List Int)×(List Int))):ST:=⟨392,[os 0 (.int .u32) a0,ol 10 (.int .u64 (IntKind.wrap .u64 y2)),ol 11 (.ar 90 0),ol 12 (.ar 93 0)],[ba 90 259 (.int .u32) r2.1,ba 93 259 (.int .u32) r2.2]⟩
def Aa8 (a0:(List Int)) (r2:((List Int)×(List Int))) (y2:Int) (r3:(List Int)):ST:=⟨392,[os 0 (.int .u32) a0,ol 10 (.int .u64 (IntKind.wrap .u64 y2)),ol 11 (.ar 90 0),ol 12 (.ar 93 0)],[ba 90 259 (.int .u32) r3,ba 93 259 (.int .u32) r2.2]⟩
def Aon (v17:Int) (v18:(List Int)) (v19:(List Int)) (r2:((List Int)×(List Int))) (y2:Int) (r4:Int):ST:=⟨392,[ol 10 (.int .u64 (IntKind.wrap .u64 y2)),ol 11 (.ar 90 0),ol 12 (.ar 93 0),oi 15 (r2.2.length:Int),ol 16 (.ar 175 0),oi 17 v17,ol 19 (.int .u64 r4)],[ba 90 259 (.int .u32) v18,ba 93 259 (.int .u32) r2.2,ba 175 259 (.int .u32) v19]⟩
def Aoj (v17:Int) (v19:(List Int)) (r2:((List Int)×(List Int))) (r4:Int) (y2:Int) (r5:(Int×Int×(List Int))):ST:=⟨392,[ol 10 (.int .u64 (IntKind.wrap .u64 y2)),ol 11 (.ar 90 0),ol 12 (.ar 93 0),oi 15 (r2.2.length:Int),ol 16 (.ar 175 0),oi 17 v17,ol 19 (.int .u64 r4),oi 21 r5.1,ol 22 (.int .u64 r5.2.1)],[ba 90 259 (.int .u32) r5.2.2,ba 93 259 (.int .u32) r2.2,ba 175 259 (.int .u32) v19]⟩
def A7m (v17:Int) (v19:(List Int)) (r2:((List Int)×(List Int))) (r4:Int) (y2:Int) (r6:(Int×(List Int))):ST:=⟨392,[ol 10 (.int .u64 (IntKind.wrap .u64 y2)),ol 11 (.ar 90 0),ol 12 (.ar 93 0),oi 15 (r2.2.length:Int),ol 16 (.ar 175 0),oi 17 v17,ol 19 (.int .u64 (IntKind.wrap .u64 (r4-(1:Int)))),ol 27 (.int .u64 r6.1)],[ba 90 259 (.int .u32) r6.2,ba 93 259 (.int .u32) r2.2,ba 175 259 (.int .u32) v19]⟩
def An0 (r2:((List Int)×(List Int))) (y2:Int) (r7:((List Int)×(List Int))):ST:=⟨392,[ol 10 (.int .u64 (IntKind.wrap .u64 y2)),ol 11 (.ar 90 0),oi 15 (r2.2.length:Int),ol 16 (.ar 175 0)],[ba 90 259 (.int .u32) r7.1,ba 175 259 (.int .u32) r7.2]⟩
def Anl (r7:((List Int)×(List Int))) (r8:(List Int)):ST:=⟨392,[ol 16 (.ar 175 0),ol 30 (.ar 359 0)],[ba 175 259 (.int .u32) r7.2,ba 359 259 (.int .u32) r8]⟩
def Arj (a0:(List Int)) (a1:(List Int)) (v:Int×Int×(List Int)):ST:=⟨392,[os 0 (.int .u32) a0,os 1 (.int .u32) a1,ol 6 (.ar 43 0),ol 7 (.int .u64 v.1),oi 8 v.2.1],[ba 43 259 (.int .u32) v.2.2]⟩
def A9i (a0:(List Int)) (a1:(List Int)) (v6:Int) (v7:(List Int)) (v9:(List Int)) (y2:Int):ST:=⟨392,[os 0 (.int .u32) a0,os 1 (.int .u32) a1,ol 10 (.int .u64 (IntKind.wrap .u64 y2)),ol 11 (.ar 90 0),ol 12 (.ar 93 0),oi 95 (a1.length:Int),oi 96 v6],[ba 90 259 (.int .u32) v7,ba 93 259 (.int .u32) v9]⟩
def Afa (a0:(List Int)) (a1:(List Int)) (y2:Int) (v:Int×(List Int)×(List Int)):ST:=⟨392,[os 0 (.int .u32) a0,os 1 (.int .u32) a1,ol 10 (.int .u64 (IntKind.wrap .u64 y2)),ol 11 (.ar 90 0),ol 12 (.ar 93 0),oi 95 (a1.length:Int),oi 96 v.1],[ba 90 259 (.int .u32) v.2.1,ba 93 259 (.int .u32) v.2.2]⟩
def Bay (a0:(List Int)) (v12:Int) (v15:(List Int)) (r2:((List Int)×(List Int))) (y2:Int):ST:=⟨392,[os 0 (.int .u32) a0,ol 10 (.int .u64 (IntKind.wrap .u64 y2)),ol 11 (.ar 90 0),ol 12 (.ar 93 0),oi 130 (r2.1.length:Int),oi 131 v12],[ba 90 259 (.int .u32) v15,ba 93 259 (.int .u32) r2.2]⟩
def Bbp (a0:(List Int)) (v12:Int) (v14:(List Int)) (r2:((List Int)×(List Int))) (y2:Int):ST:=⟨392,[os 0 (.int .u32) a0,ol 10 (.int .u64 (IntKind.wrap .u64 y2)),ol 11 (.ar 90 0),ol 12 (.ar 93 0),oi 14 v12,oi 130 (r2.1.length:Int),oi 131 v12],[ba 90 259 (.int .u32) v14,ba 93 259 (.int .u32) r2.2]⟩
def Wq (a0:(List Int)) (r2:((List Int)×(List Int))) (y2:Int) (v:Int×(List Int)):ST:=⟨392,[os 0 (.int .u32) a0,ol 10 (.int .u64 (IntKind.wrap .u64 y2)),ol 11 (.ar 90 0),ol 12 (.ar 93 0),oi 130 (r2.1.length:Int),oi 131 v.1],[ba 90 259 (.int .u32) v.2,ba 93 259 (.int .u32) r2.2]⟩
def Bbv (v17:Int) (v18:(List Int)) (v19:(List Int)) (v20:Int) (v21:Int) (r2:((List Int)×(List Int))) (y2:Int):ST:=⟨392,[ol 10 (.int .u64 (IntKind.wrap .u64 y2)),ol 11 (.ar 90 0),ol 12 (.ar 93 0),oi 15 (r2.2.length:Int),ol 16 (.ar 175 0),oi 17 v17,ol 19 (.int .u64 v20),ol 20 (.int .u64 v21)],[ba 90 259 (.int .u32) v18,ba 93 259 (.int .u32) r2.2,ba 175 259 (.int .u32) v19]⟩
def Af3 (v17:Int) (v18:(List Int)) (v19:(List Int)) (r2:((List Int)×(List Int))) (y2:Int) (v:Int×Int):ST:=⟨392,[ol 10 (.int .u64 (IntKind.wrap .u64 y2)),ol 11 (.ar 90 0),ol 12 (.ar 93 0),oi 15 (r2.2.length:Int),ol 16 (.ar 175 0),oi 17 v17,ol 19 (.int .u64 v.1),ol 20 (.int .u64 v.2)],[ba 90 259 (.int .u32) v18,ba 93 259 (.int .u32) r2.2,ba 175 259 (.int .u32) v19]⟩
def Bbw (v17:Int) (v19:(List Int)) (v25:Int) (v27:Int) (v28:Int) (v29:(List Int)) (r2:((List Int)×(List Int))) (r4:Int) (y2:Int):ST:=⟨392,[ol 10 (.int .u64 (IntKind.wrap .u64 y2)),ol 11 (.ar 90 0),ol 12 (.ar 93 0),oi 15 (r2.2.length:Int),ol 16 (.ar 175 0),oi 17 v17,ol 19 (.int .u64 r4),oi 21 v27,ol 22 (.int .u64 v28),oi 253 (r2.2.length:Int),oi 254 v25],[ba 90 259 (.int .u32) v29,ba 93 259 (.int .u32) r2.2,ba 175 259 (.int .u32) v19]⟩
def Aew (v17:Int) (v19:(List Int)) (r2:((List Int)×(List Int))) (r4:Int) (y2:Int) (v:Int×Int×Int×(List Int)):ST:=⟨392,[ol 10 (.int .u64 (IntKind.wrap .u64 y2)),ol 11 (.ar 90 0),ol 12 (.ar 93 0),oi 15 (r2.2.length:Int),ol 16 (.ar 175 0),oi 17 v17,ol 19 (.int .u64 r4),oi 21 v.1,ol 22 (.int .u64 v.2.1),oi 253 (r2.2.length:Int),oi 254 v.2.2.1],[ba 90 259 (.int .u32) v.2.2.2,ba 93 259 (.int .u32) r2.2,ba 175 259 (.int .u32) v19]⟩
def Arl (v17:Int) (v19:(List Int)) (r2:((List Int)×(List Int))) (r4:Int) (y2:Int) (v:Int×Int×(List Int)):ST:=⟨392,[ol 10 (.int .u64 (IntKind.wrap .u64 y2)),ol 11 (.ar 90 0),ol 12 (.ar 93 0),oi 15 (r2.2.length:Int),ol 16 (.ar 175 0),oi 17 v17,ol 19 (.int .u64 (IntKind.wrap .u64 (r4-(1:Int)))),ol 27 (.int .u64 v.1),oi 314 (r2.2.length:Int),oi 315 v.2.1],[ba 90 259 (.int .u32) v.2.2,ba 93 259 (.int .u32) r2.2,ba 175 259 (.int .u32) v19]⟩
def Bch (v17:Int) (v19:(List Int)) (v38:Int) (v39:(List Int)) (r2:((List Int)×(List Int))) (y2:Int):ST:=⟨392,[ol 10 (.int .u64 (IntKind.wrap .u64 y2)),ol 11 (.ar 90 0),ol 12 (.ar 93 0),oi 15 (r2.2.length:Int),ol 16 (.ar 175 0),oi 17 v17,ol 19 (.int .u64 v38)],[ba 90 259 (.int .u32) v39,ba 93 259 (.int .u32) r2.2,ba 175 259 (.int .u32) v19]⟩
def Agf (r2:((List Int)×(List Int))) (y2:Int) (v:Int×(List Int)×(List Int)):ST:=⟨392,[ol 10 (.int .u64 (IntKind.wrap .u64 y2)),ol 11 (.ar 90 0),ol 12 (.ar 93 0),oi 15 (r2.2.length:Int),ol 16 (.ar 175 0),oi 17 v.1],[ba 90 259 (.int .u32) v.2.1,ba 93 259 (.int .u32) r2.2,ba 175 259 (.int .u32) v.2.2]⟩
def Bc2 (v42:Int) (v44:(List Int)) (r2:((List Int)×(List Int))) (r7:((List Int)×(List Int))) (y2:Int):ST:=⟨392,[ol 10 (.int .u64 (IntKind.wrap .u64 y2)),ol 11 (.ar 90 0),ol 16 (.ar 175 0),ol 30 (.ar 359 0),oi 360 (r2.2.length:Int),oi 361 v42],[ba 90 259 (.int .u32) r7.1,ba 175 259 (.int .u32) r7.2,ba 359 259 (.int .u32) v44]⟩
def Afk (r2:((List Int)×(List Int))) (r7:((List Int)×(List Int))) (y2:Int) (v:Int×(List Int)):ST:=⟨392,[ol 10 (.int .u64 (IntKind.wrap .u64 y2)),ol 11 (.ar 90 0),ol 16 (.ar 175 0),ol 30 (.ar 359 0),oi 360 (r2.2.length:Int),oi 361 v.1],[ba 90 259 (.int .u32) r7.1,ba 175 259 (.int .u32) r7.2,ba 359 259 (.int .u32) v.2]⟩
def Awu (a0:(List Int)) (a1:(List Int)):ST:=⟨392,[os 0 (.int .u32) a0,os 1 (.int .u32) a1],[]⟩
theorem A6f (G:Bs Ao P) {y a0 a1} (E:Cs C F y) (v:Int×Int×(List Int)) o (h:Rn a0 a1 v.1 v.2.1 v.2.2=some o) (L:LP Ao P C F Aiw (Arj a0 a1) (GX Ao P C F Bf4 A79) o):Bv Ao P C F Aiw (Arj a0 a1 v):=by
 unfold Rn at h
 rcases Aj h with⟨b3,h⟩|⟨b3,h⟩
 ·obtain⟨c6,c7,h⟩:=ns2 h
  obtain⟨c8,c9,c10,h⟩:=ns3 h
  obtain⟨c11,c12,h⟩:=ns2 h
  exact sg G [r0,bt,r0,r0,r0,r0,en] (q6 b3 c6 c7 c8 c9 c10<|e2 c11 c12) (L.1 _ (si h))
 ·exact sg G [r0,bf,au] (e1 b3) (L.2 _ (si h))
theorem Aa2 (G:Bs Ao P) {y o a0 a1 v6 v7 v9 y2} (E:Cs C F y) (h:Kb a0 a1 v6 v7 v9 y2=some o) (L:LP Ao P C F Rz (Afa a0 a1 y2) (GX Ao P C F Ai7 (Anc a0 y2)) o):Bv Ao P C F Bg9 (A9i a0 a1 v6 v7 v9 y2):=by
 unfold Kb at h
 exact sg G [r0,en] tt (L.1 _ (si h))
theorem A6n (G:Bs Ao P) {y a0 a1 y2} (E:Cs C F y) (v:Int×(List Int)×(List Int)) o (h:Ss a0 a1 y2 v.1 v.2.1 v.2.2=some o) (L:LP Ao P C F Rz (Afa a0 a1 y2) (GX Ao P C F Ai7 (Anc a0 y2)) o):Bv Ao P C F Rz (Afa a0 a1 y2 v):=by
 unfold Ss at h
 rcases Aj h with⟨b4,h⟩|⟨b4,h⟩
 ·obtain⟨c21,c22,c23,h⟩:=ns3 h
  rcases Aj h with⟨b5,h⟩|⟨b5,h⟩
  ·rcases Aj h with⟨b6,h⟩|⟨b6,h⟩
   ·obtain⟨c24,c25,c26,c27,h⟩:=ns4 h
    exact sg G [r0,bt,r0,r0,ru [2,5],bt,r0,au] (q4 b4 c21 c22 c23<|ar 3 b5<|e5 b6 c24 c25 c26 c27) (Aa2 G E h L)
   ·exact sg G [r0,bt,r0,r0,ru [2,5],bf,au] (q4 b4 c21 c22 c23<|ar 3 b5<|e1 b6) (Aa2 G E h L)
  ·exact sg G [r0,bt,r0,r0,rf [2,5],bf,au] (q4 b4 c21 c22 c23<|ar 3 b5<|e1 rF) (Aa2 G E h L)
 ·exact sg G [r0,bf,au] (e1 b4) (L.2 _ (si h))
theorem Aax (G:Bs Ao P) {y o a0 v12 v15 r2 y2} (E:Cs C F y) (h:H2 a0 v12 v15 r2 y2=some o) (L:LP Ao P C F N2 (Wq a0 r2 y2) (GX Ao P C F Y1 (Aa8 a0 r2 y2)) o):Bv Ao P C F Bgj (Bay a0 v12 v15 r2 y2):=by
 unfold H2 at h
 exact sg G [r0,en] tt (L.1 _ (si h))
theorem Anq (G:Bs Ao P) {y o a0 v12 v14 r2 y2} (E:Cs C F y) (h:Np a0 v12 v14 r2 y2=some o) (L:LP Ao P C F N2 (Wq a0 r2 y2) (GX Ao P C F Y1 (Aa8 a0 r2 y2)) o):Bv Ao P C F At1 (Bbp a0 v12 v14 r2 y2):=by
 unfold Np at h
 rcases Aj h with⟨b9,h⟩|⟨b9,h⟩
 ·rcases Aj h with⟨b10,h⟩|⟨b10,h⟩
  ·obtain⟨c31,c32,c33,c34,h⟩:=ns4 h
   exact sg G [ru [2,5],bt,r0,au] (ar 3 b9<|e5 b10 c31 c32 c33 c34) (Aax G E h L)
  ·exact sg G [ru [2,5],bf,au] (ar 3 b9<|e1 b10) (Aax G E h L)
 ·exact sg G [rf [2,5],bf,au] (ar 3 b9<|e1 rF) (Aax G E h L)
theorem A59 (G:Bs Ao P) {y a0 r2 y2} (E:Cs C F y) (v:Int×(List Int)) o (h:Se a0 r2 y2 v.1 v.2=some o) (L:LP Ao P C F N2 (Wq a0 r2 y2) (GX Ao P C F Y1 (Aa8 a0 r2 y2)) o):Bv Ao P C F N2 (Wq a0 r2 y2 v):=by
 unfold Se at h
 rcases Aj h with⟨b7,h⟩|⟨b7,h⟩
 ·rcases Aj h with⟨b8,h⟩|⟨b8,h⟩
  ·obtain⟨c28,c29,c30,h⟩:=ns3 h
   exact sg G [r0,bt,r0,r0,bt,r0,au] (e5 b7 b8 c28 c29 c30) (Anq G E h L)
  ·exact sg G [r0,bt,r0,r0,bf,au] (e2 b7 b8) (Anq G E h L)
 ·exact sg G [r0,bf,au] (e1 b7) (L.2 _ (si h))
theorem Anf (G:Bs Ao P) {y o v17 v18 v19 v20 v21 r2 y2} (E:Cs C F y) (h:N4 v17 v18 v19 v20 v21 r2 y2=some o) (L:LP Ao P C F Pd (Af3 v17 v18 v19 r2 y2) (GX Ao P C F Afv (Aon v17 v18 v19 r2 y2)) o):Bv Ao P C F A9d (Bbv v17 v18 v19 v20 v21 r2 y2):=by
 unfold N4 at h
 obtain⟨c48,h⟩:=A8 h
 rcases Aj h with⟨b14,h⟩|⟨b14,h⟩
 ·exact sg G [r0,r0,r0,bt,au] (e2 c48 b14) (L.2 _ (si h))
 ·exact sg G [r0,r0,r0,bf,en] (e2 c48 b14) (L.1 _ (si h))
theorem A72 (G:Bs Ao P) {y v17 v18 v19 r2 y2} (E:Cs C F y) (v:Int×Int) o (h:So v17 v18 v19 r2 y2 v.1 v.2=some o) (L:LP Ao P C F Pd (Af3 v17 v18 v19 r2 y2) (GX Ao P C F Afv (Aon v17 v18 v19 r2 y2)) o):Bv Ao P C F Pd (Af3 v17 v18 v19 r2 y2 v):=by
 unfold So at h
 rcases Aj h with⟨b12,h⟩|⟨b12,h⟩
 ·exact sg G [ru [2,23],bt,au] (ar 21 b12<|e1 rT) (Anf G E h L)
 ·obtain⟨c45,c46,c47,h⟩:=ns3 h
  rcases Aj h with⟨b13,h⟩|⟨b13,h⟩
  ·exact sg G [rf [2,23],bt,au] (ar 5 b12<|q1 c45<|ar 5 b12<|q1 c46<|ar 6 b12<|q1 c47<|ar 5 b12<|e1 b13) (Anf G E h L)
  ·exact sg G [rf [2,23],bf,au] (ar 5 b12<|q1 c45<|ar 5 b12<|q1 c46<|ar 6 b12<|q1 c47<|ar 5 b12<|e1 b13) (L.2 _ (si h))
theorem An2 (G:Bs Ao P) {y o v17 v19 v25 v27 v28 v29 r2 r4 y2} (E:Cs C F y) (h:Ny v17 v19 v25 v27 v28 v29 r2 r4 y2=some o) (L:LP Ao P C F O7 (Aew v17 v19 r2 r4 y2) (GX Ao P C F Agi (Aoj v17 v19 r2 r4 y2)) o):Bv Ao P C F Bex (Bbw v17 v19 v25 v27 v28 v29 r2 r4 y2):=by
 unfold Ny at h
 exact sg G [r0,en] tt (L.1 _ (si h))
theorem A7v (G:Bs Ao P) {y v17 v19 r2 r4 y2} (E:Cs C F y) (v:Int×Int×Int×(List Int)) o (h:Rv v17 v19 r2 r4 y2 v.1 v.2.1 v.2.2.1 v.2.2.2=some o) (L:LP Ao P C F O7 (Aew v17 v19 r2 r4 y2) (GX Ao P C F Agi (Aoj v17 v19 r2 r4 y2)) o):Bv Ao P C F O7 (Aew v17 v19 r2 r4 y2 v):=by
 unfold Rv at h
 rcases Aj h with⟨b15,h⟩|⟨b15,h⟩
 ·obtain⟨c49,h⟩:=A8 h
  obtain⟨c50,h⟩:=A8 h
  obtain⟨c51,h⟩:=A8 h
  obtain⟨c52,h⟩:=A8 h
  rcases Aj h with⟨b16,h⟩|⟨b16,h⟩
  ·exact sg G [r0,bt,r0,r0,r0,r0,r0,r0,r0,bt,r0,au] (e6 b15 c49 c50 c51 c52 b16) (An2 G E h L)
  ·exact sg G [r0,bt,r0,r0,r0,r0,r0,r0,r0,bf,au] (e6 b15 c49 c50 c51 c52 b16) (An2 G E h L)
 ·exact sg G [r0,bf,au] (e1 b15) (L.2 _ (si h))
theorem A7d (G:Bs Ao P) {y v17 v19 r2 r4 y2} (E:Cs C F y) (v:Int×Int×(List Int)) o (h:R8 v17 v19 r2 r4 y2 v.1 v.2.1 v.2.2=some o) (L:LP Ao P C F Aer (Arl v17 v19 r2 r4 y2) (GX Ao P C F Aqd (A7m v17 v19 r2 r4 y2)) o):Bv Ao P C F Aer (Arl v17 v19 r2 r4 y2 v):=by
 unfold R8 at h
 rcases Aj h with⟨b18,h⟩|⟨b18,h⟩
 ·obtain⟨c55,c56,h⟩:=ns2 h
  obtain⟨c57,h⟩:=A8 h
  obtain⟨c58,h⟩:=A8 h
  exact sg G [r0,bt,r0,r0,r0,r0,r0,en] (e5 b18 c55 c56 c57 c58) (L.1 _ (si h))
 ·exact sg G [r0,bf,au] (e1 b18) (L.2 _ (si h))
theorem An3 (G:Bs Ao P) {y o v17 v19 v38 v39 r2 y2} (E:Cs C F y) (h:Oa v17 v19 v38 v39 r2 y2=some o) (L:LP Ao P C F O5 (Agf r2 y2) (GX Ao P C F Afn (An0 r2 y2)) o):Bv Ao P C F Bew (Bch v17 v19 v38 v39 r2 y2):=by
 unfold Oa at h
 obtain⟨c61,h⟩:=A8 h
 exact sg G [r0,r0,en] (e1 c61) (L.1 _ (si h))
theorem A7g (G:Bs Ao P) {y r2 y2} (E:Cs C F y) (v:Int×(List Int)×(List Int)) o (h:J8 r2 y2 v.1 v.2.1 v.2.2=some o) (L:LP Ao P C F O5 (Agf r2 y2) (GX Ao P C F Afn (An0 r2 y2)) o):Bv Ao P C F O5 (Agf r2 y2 v):=by
 unfold J8 at h
 rcases Aj h with⟨b11,h⟩|⟨b11,h⟩
 ·obtain⟨c38,c39,c40,h⟩:=ns3 h
  obtain⟨c41,c42,c43,c44,h⟩:=ns4 h
  obtain⟨r4,hi,h⟩:=bind_some h
  refine sg G [r0,bt,r0,r0,en] (q6 b11 c38 c39 c40 c41 c42<|e2 c43 c44) (lg (A72 G E) hi ?_)
  obtain⟨r5,hi,h⟩:=bind_some h
  refine sg G [r0,r0,en] tt (lg (A7v G E) hi ?_)
  obtain⟨c53,h⟩:=A8 h
  obtain⟨c54,h⟩:=A8 h
  rcases Aj h with⟨b17,h⟩|⟨b17,h⟩
  ·obtain⟨r6,hi,h⟩:=bind_some h
   refine sg G [r0,r0,r0,bt,r0,r0,r0,en] (e3 c53 c54 b17) (lg (A7d G E) hi ?_)
   obtain⟨c59,c60,h⟩:=ns2 h
   exact sg G [r0,au] (e2 c59 c60) (An3 G E h L)
  ·exact sg G [r0,r0,r0,bf,au] (e3 c53 c54 b17) (An3 G E h L)
 ·exact sg G [r0,bf,au] (e1 b11) (L.2 _ (si h))
theorem Aoi (G:Bs Ao P) {y o v42 v44 r2 r7 y2} (E:Cs C F y) (h:Ns v42 v44 r2 r7 y2=some o) (L:LP Ao P C F P3 (Afk r2 r7 y2) (GX Ao P C F Aq8 (Anl r7)) o):Bv Ao P C F A9c (Bc2 v42 v44 r2 r7 y2):=by
 unfold Ns at h
 exact sg G [r0,en] tt (L.1 _ (si h))
theorem A6u (G:Bs Ao P) {y r2 r7 y2} (E:Cs C F y) (v:Int×(List Int)) o (h:Rr r2 r7 y2 v.1 v.2=some o) (L:LP Ao P C F P3 (Afk r2 r7 y2) (GX Ao P C F Aq8 (Anl r7)) o):Bv Ao P C F P3 (Afk r2 r7 y2 v):=by
 unfold Rr at h
 rcases Aj h with⟨b19,h⟩|⟨b19,h⟩
 ·obtain⟨c65,c66,c67,h⟩:=ns3 h
  rcases Aj h with⟨b20,h⟩|⟨b20,h⟩
  ·obtain⟨c68,c69,c70,c71,h⟩:=ns4 h
   exact sg G [r0,bt,r0,r0,r0,bt,r0,au] (q6 b19 c65 c66 c67 b20 c68<|e3 c69 c70 c71) (Aoi G E h L)
  ·exact sg G [r0,bt,r0,r0,r0,bf,au] (e5 b19 c65 c66 c67 b20) (Aoi G E h L)
 ·exact sg G [r0,bf,au] (e1 b19) (L.2 _ (si h))
theorem Bf1 (G:Bs Ao P) {y a0 a1} (E:Cs C F y) (h:Uj a0 a1=some y):Bv Ao P C F Ai6 (Awu a0 a1):=by
 unfold Uj at h
 obtain⟨y1,c1,h⟩:=bind_some h
 rcases Aj h with⟨b1,h⟩|⟨b1,h⟩
 ·obtain⟨c2,h⟩:=A8 h
  have e:=sj h;subst e
  exact se G E [r0,rc 2 (rs (.int .i64) y1),bt,r0,au,.weak [.fix (.slot 5)]] (e3 (ca c1) b1 c2)
 ·rcases Aj h with⟨b2,h⟩|⟨b2,h⟩
  ·obtain⟨c3,c4,c5,h⟩:=ns3 h
   obtain⟨r1,hi,h⟩:=bind_some h
   refine sg G [r0,rc 2 (rs (.int .i64) y1),bf,r0,bt,r0,r0,r0,en] (e6 (ca c1) b1 b2 c3 c4 c5) (lg (A6f G E) hi ?_)
   have e:=sj h;subst e
   exact se G E [r0,au,.weak [.fix (.slot 4)]] tt
  ·obtain⟨c13,h⟩:=A8 h
   obtain⟨y2,c14,h⟩:=bind_some h
   obtain⟨c15,c16,c17,h⟩:=ns3 h
   obtain⟨c18,c19,c20,h⟩:=ns3 h
   obtain⟨r2,hi,h⟩:=bind_some h
   refine sg G [r0,rc 2 (rs (.int .i64) y1),bf,r0,bf,rc 6 (rs (.int .i64) y2),r0,r0,r0,en] (q6 (ca c1) b1 b2 c13 (ca c14) c15<|e5 c16 c17 c18 c19 c20) (lg (A6n G E) hi ?_)
   obtain⟨r3,hi,h⟩:=bind_some h
   refine sg G [r0,en] tt (lg (A59 G E) hi ?_)
   obtain⟨c35,c36,c37,h⟩:=ns3 h
   obtain⟨r7,hi,h⟩:=bind_some h
   refine sg G [r0,r0,r0,en] (e3 c35 c36 c37) (lg (A7g G E) hi ?_)
   obtain⟨c62,c63,c64,h⟩:=ns3 h
   obtain⟨r8,hi,h⟩:=bind_some h
   refine sg G [r0,r0,en] (e3 c62 c63 c64) (lg (A6u G E) hi ?_)
   have e:=sj h;subst e
   exact se G E [r0,au,.weak [.fix (.slot 4),.fix (.slot 5)]] tt
theorem A2p:MT 295 Aiq:=show E1 Ao _ _ _ from mt (fn:=Tryz.f295) (S:=λ x=>Awu x.1 x.2.1) (GB ⟨Akj,Aks,trivial⟩ trivial) λ G _ _ _ _=>Bf1 G
noncomputable abbrev Akw:Env:=EV [(288,Ut),(289,Aek),(295,Aiq)] [] false
noncomputable def Bjz:=c0 Tryz.f277
noncomputable def Asi:FS yeE:=f2 [(.nm 13),(.nm 13)] (.nm 13) (.nm 13) λ x=>Ahf x.1 x.2.1
noncomputable def Byq:=ct [0,0,2,4] Bjz
abbrev Br9 (C:Ctx) (F:FT) (y:(A4×A4)):Prop:=En Akw C F Tryz.f277 Asi (y.1,y.2,())
def Bvk (a0:A4) (a1:A4):ST:=⟨61,[op 2,op 3,op 4,op 5],[bc 2 (Bw a0),bc 3 (Bw a1),bc 4 [.int .i64 (0:Int),.sl (.int .u32) true [],.bool false],bc 5 [.int .i64 (0:Int),.sl (.int .u32) true [],.bool false]]⟩
def Bry (a0:A4) (a1:A4):ST:=⟨61,[og 0 (Bw a0),og 1 (Bw a1)],[]⟩
theorem Aqc (G:Bs Akw P) {y a0 a1} (E:Br9 C F y) (h:Yb a0 a1=some y):Bv Akw P C F Byq (Bvk a0 a1):=by
 unfold Yb at h
 obtain⟨y1,c3,h⟩:=bind_some h
 obtain⟨y2,c4,h⟩:=bind_some h
 obtain⟨y3,c5,h⟩:=bind_some h
 obtain⟨y4,c6,h⟩:=bind_some h
 obtain⟨y5,c7,h⟩:=bind_some h
 have e:=sj h;subst e
 exact se G E [rc 1 (rt (.sl (.int .u32)) .bool y1),rc 1 (rt (.sl (.int .u32)) .bool y2),rc 2 (rt (.sl (.int .u32)) (.sl (.int .u32)) y3),.reg [(4,rs (.nm 13) y4),(7,rs (.nm 13) y5)],au] (e5 (cb c3) (cb c4) (cb c5) (ca c6) (ca c7))
theorem Byu (G:Bs Akw P) {y a0 a1} (E:Br9 C F y) (h:Ahf a0 a1=some y):Bv Akw P C F Bjz (Bry a0 a1):=by
 unfold Ahf at h
 rcases Aj h with⟨b1,h⟩|⟨b1,h⟩
 ·rcases Aj h with⟨b2,h⟩|⟨b2,h⟩
  ·rcases Aj h with⟨b3,h⟩|⟨b3,h⟩
   ·obtain⟨c1,c2,h⟩:=ns2 h
    have e:=sj h;subst e
    exact se G E [r0,ru [3,7,8,12],bt,r0,au] (ar 4 b1<|ar 4 b2<|e3 b3 c1 c2)
   ·exact sg G [r0,ru [3,7,8,12],bf,au] (ar 4 b1<|ar 4 b2<|e1 b3) (Aqc G E h)
  ·exact sg G [r0,rb [8,12] [3,7],bf,au] (ar 4 b1<|ar 4 b2<|e1 rF) (Aqc G E h)
 ·exact sg G [r0,rf [3,7,8,12],bf,au] (ar 4 b1<|ar 5 rF<|tt) (Aqc G E h)
theorem Awv:MT 277 Asi:=show E1 Akw _ _ _ from mt (fn:=Tryz.f277) (S:=λ x=>Bry x.1 x.2.1) (GB ⟨V3,Ady,A2p,trivial⟩ trivial) λ G _ _ _ _=>Byu G
noncomputable abbrev Ax4:Env:=EV [(274,T8),(275,Ad4)] [] false
noncomputable def Bze:=c0 Tryz.f294
noncomputable def A0o:FS yeE:=f1 [(.nm 13)] (.nm 13) λ x=>Am0 x.1
abbrev B2e (C:Ctx) (F:FT) (y:A4):Prop:=En Ax4 C F Tryz.f294 A0o (y,())
def Brq (a0:A4):ST:=⟨9,[og 0 (Bw a0)],[]⟩
theorem Bx4 (G:Bs Ax4 P) {y a0} (E:B2e C F y) (h:Am0 a0=some y):Bv Ax4 P C F Bze (Brq a0):=by
 unfold Am0 at h
 obtain⟨y1,c1,h⟩:=bind_some h
 rcases Aj h with⟨b1,h⟩|⟨b1,h⟩
 ·obtain⟨y2,c2,h⟩:=bind_some h
  have e:=sj h;subst e
  exact se G E [r0,rc 1 (rs (.int .i64) y1),bt,rc 1 (rs (.nm 13) y2),au] (e3 (ca c1) b1 (ca c2))
 ·have e:=sj h;subst e
  exact se G E [r0,rc 1 (rs (.int .i64) y1),bf,r0,au] (e2 (ca c1) b1)
theorem Bnp:MT 294 A0o:=show E1 Ax4 _ _ _ from mt (fn:=Tryz.f294) (S:=λ x=>Brq x.1) (GB ⟨Rl,Ac1,trivial⟩ trivial) λ G _ _ _ _=>Bx4 G
noncomputable abbrev Kk:Env:=EV [(274,T8),(277,Asi),(294,A0o)] [] false
noncomputable def Bsh:=c0 Tryz.f276
noncomputable def Bbn:FS yeE:=f1 [(.nm 13),(.nm 13)] (.nm 13) λ x=>A3z x.1 x.2.1
noncomputable def Ake:=ct [0,0,1] Bsh
noncomputable def A9w:=ct [0,3,0,3,0,1] Ake
noncomputable def B1i:=ct [0,2,4] A9w
noncomputable def B4m:=ct [0,3,0,2,4] Ake
noncomputable def Bqg:=ct [0,2,4] Ake
abbrev A8y (C:Ctx) (F:FT) (y:A4):Prop:=En Kk C F Tryz.f276 Bbn (y,())
def Btu (r1:Int):ST:=⟨45,[op 4,oi 5 r1],[bc 4 [.int .i64 (0:Int),.sl (.int .u32) true [],.bool false]]⟩
def A9t (r2:(Int×(List Int)×Bool)):ST:=⟨45,[op 2,op 4],[bc 2 [.int .i64 r2.1,.sl (.int .u32) true r2.2.1,.bool r2.2.2],bc 4 [.int .i64 (0:Int),.sl (.int .u32) true [],.bool false]]⟩
def Bkl (v:Int×Int):ST:=⟨45,[op 4,oi 5 v.1,oi 6 v.2],[bc 4 [.int .i64 (0:Int),.sl (.int .u32) true [],.bool false]]⟩
def Bys (v1:Int) (v2:(List Int)) (v3:Bool) (v4:Int) (v5:(List Int)) (v6:Bool):ST:=⟨45,[op 2,op 3,op 4],[bc 2 [.int .i64 v1,.sl (.int .u32) true v2,.bool v3],bc 3 [.int .i64 v4,.sl (.int .u32) true v5,.bool v6],bc 4 [.int .i64 (0:Int),.sl (.int .u32) true [],.bool false]]⟩
def A1x (v:Int×(List Int)×Bool×Int×(List Int)×Bool):ST:=⟨45,[op 2,op 3,op 4],[bc 2 [.int .i64 v.1,.sl (.int .u32) true v.2.1,.bool v.2.2.1],bc 3 [.int .i64 v.2.2.2.1,.sl (.int .u32) true v.2.2.2.2.1,.bool v.2.2.2.2.2],bc 4 [.int .i64 (0:Int),.sl (.int .u32) true [],.bool false]]⟩
def Bv9 (a0:A4) (a1:A4):ST:=⟨45,[og 0 (Bw a0),og 1 (Bw a1)],[]⟩
theorem Bu1 (G:Bs Kk P) {y} (E:A8y C F y) (v:Int×Int) o (h:Ayf v.1 v.2=some o) (L:LP Kk P C F A9w Bkl (GX Kk P C F B1i Btu) o):Bv Kk P C F A9w (Bkl v):=by
 unfold Ayf at h
 rcases Aj h with⟨b4,h⟩|⟨b4,h⟩
 ·obtain⟨c4,h⟩:=A8 h
  exact sg G [r0,bt,r0,en] (e2 b4 c4) (L.1 _ (si h))
 ·exact sg G [r0,bf,au] (e1 b4) (L.2 _ (si h))
theorem Bel (G:Bs Kk P) {y o v1 v2 v3 v4 v5 v6} (E:A8y C F y) (h:Akh v1 v2 v3 v4 v5 v6=some o) (L:LP Kk P C F Ake A1x (Sum.elim (GX Kk P C F Bqg A9t) (RX y)) o):Bv Kk P C F B4m (Bys v1 v2 v3 v4 v5 v6):=by
 unfold Akh at h
 obtain⟨y4,c5,h⟩:=bind_some h
 exact sg G [rc 2 (rt (.nm 13) (.nm 13) y4),r0,en] (e1 (cb c5)) (L.1 _ (si h))
theorem Buc (G:Bs Kk P) {y} (E:A8y C F y) (v:Int×(List Int)×Bool×Int×(List Int)×Bool) o (h:Azv v.1 v.2.1 v.2.2.1 v.2.2.2.1 v.2.2.2.2.1 v.2.2.2.2.2=some o) (L:LP Kk P C F Ake A1x (Sum.elim (GX Kk P C F Bqg A9t) (RX y)) o):Bv Kk P C F Ake (A1x v):=by
 unfold Azv at h
 obtain⟨y3,c3,h⟩:=bind_some h
 rcases Aj h with⟨b1,h⟩|⟨b1,h⟩
 ·rcases Aj h with⟨b2,h⟩|⟨b2,h⟩
  ·rcases Aj h with⟨b3,h⟩|⟨b3,h⟩
   ·obtain⟨r1,hi,h⟩:=bind_some h
    refine sg G [rc 1 (rs (.int .i64) y3),bt,ru [3,7],bt,r0,en] (q2 (ca c3) b1<|ar 4 b2<|e1 b3) (lg (Bu1 G E) hi ?_)
    have e:_=y:=L.2 _ (si h);subst e
    exact se G E [r0,au] tt
   ·exact sg G [rc 1 (rs (.int .i64) y3),bt,ru [3,7],bf,au] (q2 (ca c3) b1<|ar 4 b2<|e1 b3) (Bel G E h L)
  ·exact sg G [rc 1 (rs (.int .i64) y3),bt,rf [3,7],bf,au] (q2 (ca c3) b1<|ar 4 b2<|e1 rF) (Bel G E h L)
 ·exact sg G [rc 1 (rs (.int .i64) y3),bf,au] (e2 (ca c3) b1) (L.2 _ (si h))
theorem B3j (G:Bs Kk P) {y a0 a1} (E:A8y C F y) (h:A3z a0 a1=some y):Bv Kk P C F Bsh (Bv9 a0 a1):=by
 unfold A3z at h
 obtain⟨y1,c1,h⟩:=bind_some h
 obtain⟨y2,c2,h⟩:=bind_some h
 obtain⟨r,hi,h⟩:=bind_some h
 refine sg G [r0,.reg [(1,rs (.nm 13) y1),(3,rs (.nm 13) y2)],en] (e2 (ca c1) (ca c2)) (lg (Buc G E) hi ?_)
 rcases r with r2|r3
 ·have e:=sj h;subst e
  exact se G E [r0,au] tt
 ·exact sj h
theorem Brb:MT 276 Bbn:=show E1 Kk _ _ _ from mt (fn:=Tryz.f276) (S:=λ x=>Bv9 x.1 x.2.1) (GB ⟨Rl,Awv,Bnp,trivial⟩ trivial) λ G _ _ _ _=>B3j G
noncomputable abbrev S3:Env:=EV [(274,T8),(275,Ad4),(276,Bbn),(277,Asi)] [] false
noncomputable def Bim:=c0 Tryz.f252
noncomputable def Aeg:FS yeE:=f1 [(.nm 13),(.nm 13)] (.nm 14) λ x=>Od x.1 x.2.1
noncomputable def Biz:=ct [0,0,3,0,4] Bim
noncomputable def Bjw:=ct [0,0,3,4] Biz
noncomputable def B0k:=ct [0,0,4] Bjw
abbrev Ax8 (C:Ctx) (F:FT) (y:B6):Prop:=En S3 C F Tryz.f252 Aeg (y,())
def Bvq (v7:Int) (v8:(List Int)) (v9:Bool) (v10:Int) (v11:(List Int)) (v12:Bool):ST:=⟨39,[op 2,op 3,op 4],[bc 2 [.int .i64 v7,.sl (.int .u32) true v8,.bool v9],bc 3 [.int .i64 v10,.sl (.int .u32) true v11,.bool v12],bc 4 [.int .i64 (0:Int),.sl (.int .u32) true [],.bool false,.int .i64 (0:Int),.sl (.int .u32) true [],.bool false]]⟩
def Bt1 (v1:Int) (v2:(List Int)) (v3:Bool) (v4:Int) (v5:(List Int)) (v6:Bool) (y4:A4):ST:=⟨39,[op 2,op 3,op 4,op 5],[bc 2 [.int .i64 v1,.sl (.int .u32) true v2,.bool v3],bc 3 [.int .i64 v4,.sl (.int .u32) true v5,.bool v6],bc 4 [.int .i64 (0:Int),.sl (.int .u32) true [],.bool false,.int .i64 (0:Int),.sl (.int .u32) true [],.bool false],bc 5 (Bw y4)]⟩
def Buq (v1:Int) (v2:(List Int)) (v3:Bool) (v4:Int) (v5:(List Int)) (v6:Bool):ST:=⟨39,[op 2,op 3,op 4],[bc 2 [.int .i64 v1,.sl (.int .u32) true v2,.bool v3],bc 3 [.int .i64 v4,.sl (.int .u32) true v5,.bool v6],bc 4 [.int .i64 (0:Int),.sl (.int .u32) true [],.bool false,.int .i64 (0:Int),.sl (.int .u32) true [],.bool false]]⟩
def Bsu (a0:A4) (a1:A4):ST:=⟨39,[og 0 (Bw a0),og 1 (Bw a1)],[]⟩
theorem A46 (G:Bs S3 P) {y v7 v8 v9 v10 v11 v12} (E:Ax8 C F y) (h:Ad1 v7 v8 v9 v10 v11 v12=some y):Bv S3 P C F B0k (Bvq v7 v8 v9 v10 v11 v12):=by
 unfold Ad1 at h
 have e:=sj h;subst e
 exact se G E [r0,au] tt
theorem A5w (G:Bs S3 P) {y v1 v2 v3 v4 v5 v6 y4} (E:Ax8 C F y) (h:Aei v1 v2 v3 v4 v5 v6 y4=some y):Bv S3 P C F Bjw (Bt1 v1 v2 v3 v4 v5 v6 y4):=by
 unfold Aei at h
 obtain⟨y5,c5,h⟩:=bind_some h
 obtain⟨y6,c6,h⟩:=bind_some h
 exact sg G [rc 2 (rt (.nm 13) (.nm 13) y5),rc 2 (rt (.nm 13) (.nm 13) y6),au] (e2 (cb c5) (cb c6)) (A46 G E h)
theorem A4w (G:Bs S3 P) {y v1 v2 v3 v4 v5 v6} (E:Ax8 C F y) (h:Aed v1 v2 v3 v4 v5 v6=some y):Bv S3 P C F Biz (Buq v1 v2 v3 v4 v5 v6):=by
 unfold Aed at h
 obtain⟨y4,c4,h⟩:=bind_some h
 rcases Aj h with⟨b2,h⟩|⟨b2,h⟩
 ·exact sg G [rc 2 (rs (.nm 13) y4),ru [3,7],bt,au] (q1 (ca c4)<|ar 4 b2<|e1 rT) (A5w G E h)
 ·rcases Aj h with⟨b3,h⟩|⟨b3,h⟩
  ·exact sg G [rc 2 (rs (.nm 13) y4),rf [3,7],bt,au] (q1 (ca c4)<|ar 4 b2<|e1 b3) (A5w G E h)
  ·exact sg G [rc 2 (rs (.nm 13) y4),rf [3,7],bf,au] (q1 (ca c4)<|ar 4 b2<|e1 b3) (A46 G E h)
theorem B0m (G:Bs S3 P) {y a0 a1} (E:Ax8 C F y) (h:Od a0 a1=some y):Bv S3 P C F Bim (Bsu a0 a1):=by
 unfold Od at h
 obtain⟨y1,c1,h⟩:=bind_some h
 rcases Aj h with⟨b1,h⟩|⟨b1,h⟩
 ·obtain⟨y2,c2,h⟩:=bind_some h
  obtain⟨y3,c3,h⟩:=bind_some h
  exact sg G [r0,rc 1 (rs (.int .i64) y1),bt,.reg [(1,rs (.nm 13) y2),(3,rs (.nm 13) y3)],au] (e4 (ca c1) b1 (ca c2) (ca c3)) (A4w G E h)
 ·exact sg G [r0,rc 1 (rs (.int .i64) y1),bf,au] (e2 (ca c1) b1) (A4w G E h)
theorem Adr:MT 252 Aeg:=show E1 S3 _ _ _ from mt (fn:=Tryz.f252) (S:=λ x=>Bsu x.1 x.2.1) (GB ⟨Rl,Ac1,Brb,Awv,trivial⟩ trivial) λ G _ _ _ _=>B0m G
noncomputable abbrev Aml:Env:=EV [] [] false
noncomputable def Br0:=c0 Tryz.f287
noncomputable def Ap7:FS yeE:=f2 [(.int .u64),(.int .u64)] (.int .u64) (.int .u64) λ x=>Ad7 x.1 x.2.1
abbrev Bty (C:Ctx) (F:FT) (y:(Int×Int)):Prop:=En Aml C F Tryz.f287 Ap7 (y.1,y.2,())
def Bbf (a0:Int) (a1:Int):ST:=⟨51,[ol 0 (.int .u64 a0),ol 1 (.int .u64 a1)],[]⟩
theorem Bo2 (G:Bs Aml P) {y a0 a1} (E:Bty C F y) (h:Ad7 a0 a1=some y):Bv Aml P C F Br0 (Bbf a0 a1):=by
 unfold Ad7 at h
 obtain⟨c1,h⟩:=A8 h
 obtain⟨c2,h⟩:=A8 h
 obtain⟨c3,h⟩:=A8 h
 obtain⟨c4,h⟩:=A8 h
 obtain⟨c5,h⟩:=A8 h
 have e:=sj h;subst e
 exact se G E [r0,r0,r0,r0,r0,r0,r0,r0,r0,r0,r0,r0,au] (e5 c1 c2 c3 c4 c5)
theorem Bcu:MT 287 Ap7:=show E1 Aml _ _ _ from mt (fn:=Tryz.f287) (S:=λ x=>Bbf x.1 x.2.1) (GB trivial trivial) λ G _ _ _ _=>Bo2 G
noncomputable abbrev F6:Env:=EV [(287,Ap7),(288,Ut),(289,Aek)] [] false
noncomputable def Bjr:=c0 Tryz.f262
noncomputable def As2:FS yeE:=f1 [(.nm 13),(.nm 13)] (.nm 13) λ x=>W5 x.1 x.2.1
noncomputable def Bj3:=ct [0,0,3,0,0,3,0,4] Bjr
noncomputable def Bjp:=ct [0,3,0,4] Bj3
noncomputable def Bix:=ct [0,0,2,4] Bjp
noncomputable def Ass:=ct [0,0,0,0,1] Bix
noncomputable def A3x:=ct [0,3,0,0,0,1] Ass
noncomputable def Bx8:=ct [0,2,4] A3x
noncomputable def Bx1:=ct [0,2,4] Ass
abbrev Akt (C:Ctx) (F:FT) (y:A4):Prop:=En F6 C F Tryz.f262 As2 (y,())
def Bq1 (v3:Int) (y2:((List Int)×Bool)) (y3:((List Int)×Bool)) (r1:(Int×(List Int))):ST:=⟨139,[op 4,os 9 (.int .u32) y2.1,ol 10 (.bool y2.2),os 11 (.int .u32) y3.1,ol 12 (.bool y3.2),ol 13 (.ar 83 0),oi 14 v3,ol 15 (.int .u64 r1.1),oi 85 (y2.1.length:Int),oi 86 v3],[bc 4 [.int .i64 (0:Int),.sl (.int .u32) true [],.bool false],ba 83 259 (.int .u32) r1.2]⟩
def Bot (y2:((List Int)×Bool)) (y3:((List Int)×Bool)) (r2:(List Int)):ST:=⟨139,[op 4,ol 10 (.bool y2.2),ol 12 (.bool y3.2),ol 13 (.ar 83 0)],[bc 4 [.int .i64 (0:Int),.sl (.int .u32) true [],.bool false],ba 83 259 (.int .u32) r2]⟩
def Bfk (v3:Int) (y2:((List Int)×Bool)) (y3:((List Int)×Bool)) (v:Int×Int×(List Int)):ST:=⟨139,[op 4,os 9 (.int .u32) y2.1,ol 10 (.bool y2.2),os 11 (.int .u32) y3.1,ol 12 (.bool y3.2),ol 13 (.ar 83 0),oi 14 v3,ol 15 (.int .u64 v.1),oi 85 (y2.1.length:Int),oi 86 v3,oi 90 (y3.1.length:Int),oi 91 v.2.1],[bc 4 [.int .i64 (0:Int),.sl (.int .u32) true [],.bool false],ba 83 259 (.int .u32) v.2.2]⟩
def Bc5 (y2:((List Int)×Bool)) (y3:((List Int)×Bool)) (v:Int×(List Int)):ST:=⟨139,[op 4,os 9 (.int .u32) y2.1,ol 10 (.bool y2.2),os 11 (.int .u32) y3.1,ol 12 (.bool y3.2),ol 13 (.ar 83 0),oi 85 (y2.1.length:Int),oi 86 v.1],[bc 4 [.int .i64 (0:Int),.sl (.int .u32) true [],.bool false],ba 83 259 (.int .u32) v.2]⟩
def Buy (a0:A4) (a1:A4):ST:=⟨139,[op 2,op 3,op 4],[bc 2 (Bw a0),bc 3 (Bw a1),bc 4 [.int .i64 (0:Int),.sl (.int .u32) true [],.bool false]]⟩
def Bvw (a0:A4) (a1:A4) (v1:Int) (v2:Int):ST:=⟨139,[op 2,op 3,op 4,ol 5 (.int .u64 v1),ol 6 (.int .u64 v2)],[bc 2 (Bw a0),bc 3 (Bw a1),bc 4 [.int .i64 (0:Int),.sl (.int .u32) true [],.bool false]]⟩
def Buo (a0:A4) (a1:A4) (v1:Int):ST:=⟨139,[op 2,op 3,op 4,ol 5 (.int .u64 v1),ol 6 (.int .u64 (IntKind.wrap .u64 a1.v))],[bc 2 (Bw a0),bc 3 (Bw a1),bc 4 [.int .i64 (0:Int),.sl (.int .u32) true [],.bool false]]⟩
def Br6 (a0:A4) (a1:A4):ST:=⟨139,[og 0 (Bw a0),og 1 (Bw a1)],[]⟩
theorem Bso (G:Bs F6 P) {y v3 y2 y3} (E:Akt C F y) (v:Int×Int×(List Int)) o (h:Ajt v3 y2 y3 v.1 v.2.1 v.2.2=some o) (L:LP F6 P C F A3x (Bfk v3 y2 y3) (GX F6 P C F Bx8 (Bq1 v3 y2 y3)) o):Bv F6 P C F A3x (Bfk v3 y2 y3 v):=by
 unfold Ajt at h
 rcases Aj h with⟨b9,h⟩|⟨b9,h⟩
 ·obtain⟨c7,c8,c9,h⟩:=ns3 h
  obtain⟨c10,h⟩:=A8 h
  obtain⟨c11,h⟩:=A8 h
  exact sg G [r0,bt,r0,r0,r0,r0,r0,en] (e6 b9 c7 c8 c9 c10 c11) (L.1 _ (si h))
 ·exact sg G [r0,bf,au] (e1 b9) (L.2 _ (si h))
theorem Boy (G:Bs F6 P) {y y2 y3} (E:Akt C F y) (v:Int×(List Int)) o (h:Aj2 y2 y3 v.1 v.2=some o) (L:LP F6 P C F Ass (Bc5 y2 y3) (GX F6 P C F Bx1 (Bot y2 y3)) o):Bv F6 P C F Ass (Bc5 y2 y3 v):=by
 unfold Aj2 at h
 rcases Aj h with⟨b8,h⟩|⟨b8,h⟩
 ·obtain⟨r1,hi,h⟩:=bind_some h
  refine sg G [r0,bt,r0,r0,r0,en] (e1 b8) (lg (Bso G E) hi ?_)
  obtain⟨c12,h⟩:=A8 h
  exact sg G [r0,r0,en] (e1 c12) (L.1 _ (si h))
 ·exact sg G [r0,bf,au] (e1 b8) (L.2 _ (si h))
theorem Ahj (G:Bs F6 P) {y a0 a1} (E:Akt C F y) (h:Um a0 a1=some y):Bv F6 P C F Bix (Buy a0 a1):=by
 unfold Um at h
 obtain⟨y2,c2,h⟩:=bind_some h
 obtain⟨y3,c3,h⟩:=bind_some h
 obtain⟨c4,c5,c6,h⟩:=ns3 h
 obtain⟨r2,hi,h⟩:=bind_some h
 refine sg G [rc 1 (rt (.sl (.int .u32)) .bool y2),rc 1 (rt (.sl (.int .u32)) .bool y3),r0,r0,en] (e5 (cb c2) (cb c3) c4 c5 c6) (lg (Boy G E) hi ?_)
 obtain⟨y4,c13,h⟩:=bind_some h
 have e:=sj h;subst e
 exact se G E [rc 4 (rs (.nm 13) y4),au] (e1 (ca c13))
theorem A5r (G:Bs F6 P) {y a0 a1 v1 v2} (E:Akt C F y) (h:Aeb a0 a1 v1 v2=some y):Bv F6 P C F Bjp (Bvw a0 a1 v1 v2):=by
 unfold Aeb at h
 obtain⟨y1,c1,h⟩:=bind_some h
 rcases Aj h with⟨b5,h⟩|⟨b5,h⟩
 ·rcases Aj h with⟨b6,h⟩|⟨b6,h⟩
  ·rcases Aj h with⟨b7,h⟩|⟨b7,h⟩
   ·have e:=sj h;subst e
    exact se G E [rc 2 (rt (.int .u64) (.int .u64) y1),ru [2,5],bt,r0,bt,r0,au] (q1 (cb c1)<|ar 3 b5<|e2 b6 b7)
   ·have e:=sj h;subst e
    exact se G E [rc 2 (rt (.int .u64) (.int .u64) y1),ru [2,5],bt,r0,bf,r0,au] (q1 (cb c1)<|ar 3 b5<|e2 b6 b7)
  ·exact sg G [rc 2 (rt (.int .u64) (.int .u64) y1),ru [2,5],bf,au] (q1 (cb c1)<|ar 3 b5<|e1 b6) (Ahj G E h)
 ·exact sg G [rc 2 (rt (.int .u64) (.int .u64) y1),rf [2,5],bf,au] (q1 (cb c1)<|ar 3 b5<|e1 rF) (Ahj G E h)
theorem A4r (G:Bs F6 P) {y a0 a1 v1} (E:Akt C F y) (h:Akg a0 a1 v1=some y):Bv F6 P C F Bj3 (Buo a0 a1 v1):=by
 unfold Akg at h
 rcases Aj h with⟨b4,h⟩|⟨b4,h⟩
 ·exact sg G [r0,bt,r0,au] (e1 b4) (A5r G E h)
 ·exact sg G [r0,bf,au] (e1 b4) (A5r G E h)
theorem Bzz (G:Bs F6 P) {y a0 a1} (E:Akt C F y) (h:W5 a0 a1=some y):Bv F6 P C F Bjr (Br6 a0 a1):=by
 unfold W5 at h
 rcases Aj h with⟨b1,h⟩|⟨b1,h⟩
 ·rcases Aj h with⟨b2,h⟩|⟨b2,h⟩
  ·rcases Aj h with⟨b3,h⟩|⟨b3,h⟩
   ·exact sg G [r0,ru [3,7],bt,r0,r0,bt,r0,au] (ar 4 b1<|e2 b2 b3) (A4r G E h)
   ·exact sg G [r0,ru [3,7],bt,r0,r0,bf,au] (ar 4 b1<|e2 b2 b3) (A4r G E h)
  ·exact sg G [r0,ru [3,7],bf,au] (ar 4 b1<|e1 b2) (Ahj G E h)
 ·exact sg G [r0,rf [3,7],bf,au] (ar 4 b1<|e1 rF) (Ahj G E h)
theorem Aym:MT 262 As2:=show E1 F6 _ _ _ from mt (fn:=Tryz.f262) (S:=λ x=>Br6 x.1 x.2.1) (GB ⟨Bcu,V3,Ady,trivial⟩ trivial) λ G _ _ _ _=>Bzz G
end
end Go.Ab
