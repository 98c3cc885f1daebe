/- The functions compute what the plain functions tell. Conditions: none beyond those that each theorem names. -/
import Derived.Test.YtgngflkahbpecaaGreatDoorP23
namespace Go.Ab
open Go Go.Proofs
set_option linter.unusedVariables false
section
variable {P:Program} {C:Ctx} {F:FT}
noncomputable abbrev Jn:Env:=EV [] [] false
noncomputable def Bin:=c0 Tryz.f289
noncomputable def Ad5:FS yeE:=f1 [(.sl (.int .u32)),.bool] (.nm 13) λ x=>Ti x.1 x.2.1
noncomputable def A2p:=ct [0,1] Bin
noncomputable def Bit:=ct [0,2,4] A2p
noncomputable def A00:=ct [0,3,0,0,1] Bit
noncomputable def Biy:=ct [0,2,4] A00
noncomputable def Byw:=ct [0,2,4] Biy
abbrev Az0 (C:Ctx) (F:FT) (y:A4):Prop:=En Jn C F Tryz.f289 Ad5 (y,())
def Bos (a1:Bool) (r1:(List Int)):ST:=⟨55,[os 0 (.int .u32) r1,ol 1 (.bool a1),op 4],[bc 4 [.int .i64 (0:Int),.sl (.int .u32) true [],.bool false]]⟩
def Bsr (a1:Bool) (r1:(List Int)) (r2:Int):ST:=⟨55,[os 0 (.int .u32) r1,ol 1 (.bool a1),op 4,ol 5 (.int .u64 r2)],[bc 4 [.int .i64 (0:Int),.sl (.int .u32) true [],.bool false]]⟩
def Bcf (a1:Bool) (v:List Int):ST:=⟨55,[os 0 (.int .u32) v,ol 1 (.bool a1),op 4],[bc 4 [.int .i64 (0:Int),.sl (.int .u32) true [],.bool false]]⟩
def Bcm (a1:Bool) (r1:(List Int)) (v:Int×Int):ST:=⟨55,[os 0 (.int .u32) r1,ol 1 (.bool a1),op 4,ol 5 (.int .u64 v.1),oi 6 v.2],[bc 4 [.int .i64 (0:Int),.sl (.int .u32) true [],.bool false]]⟩
def Bvj (a1:Bool) (r1:(List Int)):ST:=⟨55,[os 0 (.int .u32) r1,ol 1 (.bool a1),op 4],[bc 4 [.int .i64 (0:Int),.sl (.int .u32) true [],.bool false]]⟩
def Bp2 (a0:(List Int)) (a1:Bool):ST:=⟨55,[os 0 (.int .u32) a0,ol 1 (.bool a1)],[]⟩
theorem Bo9 (G:Bs Jn P) {y a1} (E:Az0 C F y) (v:List Int) o (h:Asp a1 v=some o) (L:LP Jn P C F A2p (Bcf a1) (GX Jn P C F Bit (Bos a1)) o):Bv Jn P C F A2p (Bcf a1 v):=by
 unfold Asp at h
 rcases Aj h with⟨b1,h⟩|⟨b1,h⟩
 ·obtain⟨c1,h⟩:=A8 h
  rcases Aj h with⟨b2,h⟩|⟨b2,h⟩
  ·obtain⟨c2,c3,c4,h⟩:=ns3 h
   exact sg G [ru [3,11],bt,r0,en] (ar 5 b1<|q1 c1<|ar 3 b1<|e4 b2 c2 c3 c4) (L.1 _ (si h))
  ·exact sg G [ru [3,11],bf,au] (ar 5 b1<|q1 c1<|ar 3 b1<|e1 b2) (L.2 _ (si h))
 ·exact sg G [rf [3,11],bf,au] (ar 8 b1<|e1 rF) (L.2 _ (si h))
theorem Bpn (G:Bs Jn P) {y a1 r1} (E:Az0 C F y) (v:Int×Int) o (h:Ak3 a1 r1 v.1 v.2=some o) (L:LP Jn P C F A00 (Bcm a1 r1) (GX Jn P C F Biy (Bsr a1 r1)) o):Bv Jn P C F A00 (Bcm a1 r1 v):=by
 unfold Ak3 at h
 rcases Aj h with⟨b4,h⟩|⟨b4,h⟩
 ·obtain⟨c5,c6,h⟩:=ns2 h
  exact sg G [r0,bt,r0,r0,en] (e3 b4 c5 c6) (L.1 _ (si h))
 ·exact sg G [r0,bf,au] (e1 b4) (L.2 _ (si h))
theorem A5w (G:Bs Jn P) {y a1 r1} (E:Az0 C F y) (h:Aeg a1 r1=some y):Bv Jn P C F Byw (Bvj a1 r1):=by
 unfold Aeg at h
 obtain⟨c7,h⟩:=A8 h
 have e:=sj h;subst e
 exact se G E [r0,au,.weak [.ne (.cell 4) 1]] (e1 c7)
theorem B0d (G:Bs Jn P) {y a0 a1} (E:Az0 C F y) (h:Ti a0 a1=some y):Bv Jn P C F Bin (Bp2 a0 a1):=by
 unfold Ti at h
 obtain⟨r1,hi,h⟩:=bind_some h
 refine sg G [r0,en] tt (lg (Bo9 G E) hi ?_)
 rcases Aj h with⟨b3,h⟩|⟨b3,h⟩
 ·obtain⟨r2,hi,h⟩:=bind_some h
  refine sg G [r0,bt,r0,r0,en] (e1 b3) (lg (Bpn G E) hi ?_)
  rcases Aj h with⟨b5,h⟩|⟨b5,h⟩
  ·rcases Aj h with⟨b6,h⟩|⟨b6,h⟩
   ·have e:=sj h;subst e
    exact se G E [r0,bt,r0,bt,r0,au] (e2 b5 b6)
   ·have e:=sj h;subst e
    exact se G E [r0,bt,r0,bf,r0,au] (e2 b5 b6)
  ·exact sg G [r0,bf,au] (e1 b5) (A5w G E h)
 ·exact sg G [r0,bf,au] (e1 b3) (A5w G E h)
theorem Adp:MT 289 Ad5:=show E1 Jn _ _ _ from mt (fn:=Tryz.f289) (S:=λ x=>Bp2 x.1 x.2.1) (GB trivial trivial) λ G _ _ _ _=>B0d G
noncomputable abbrev Akn:Env:=EV [(288,Un),(289,Ad5)] [] false
noncomputable def Bjm:=c0 Tryz.f275
noncomputable def Ad1:FS yeE:=f1 [(.nm 13)] (.nm 13) λ x=>Zl x.1
noncomputable def By3:=ct [0,0,2,4] Bjm
abbrev Bqp (C:Ctx) (F:FT) (y:A4):Prop:=En Akn C F Tryz.f275 Ad1 (y,())
def Buy (a0:A4):ST:=⟨26,[op 1,op 2],[bc 1 (Bw a0),bc 2 [.int .i64 (0:Int),.sl (.int .u32) true [],.bool false]]⟩
def Bqc (a0:A4):ST:=⟨26,[og 0 (Bw a0)],[]⟩
theorem A5v (G:Bs Akn P) {y a0} (E:Bqp C F y) (h:Aea a0=some y):Bv Akn P C F By3 (Buy a0):=by
 unfold Aea at h
 obtain⟨y1,c1,h⟩:=bind_some h
 obtain⟨y2,c2,h⟩:=bind_some h
 have e:=sj h;subst e
 exact se G E [rc 1 (rt (.sl (.int .u32)) .bool y1),rc 3 (rs (.nm 13) y2),au] (e2 (cb c1) (ca c2))
theorem Bz1 (G:Bs Akn P) {y a0} (E:Bqp C F y) (h:Zl a0=some y):Bv Akn P C F Bjm (Bqc a0):=by
 unfold Zl at h
 rcases Aj h with⟨b1,h⟩|⟨b1,h⟩
 ·rcases Aj h with⟨b2,h⟩|⟨b2,h⟩
  ·have e:=sj h;subst e
   exact se G E [r0,ru [3,7],bt,r0,au] (ar 4 b1<|e1 b2)
  ·exact sg G [r0,ru [3,7],bf,au] (ar 4 b1<|e1 b2) (A5v G E h)
 ·exact sg G [r0,rf [3,7],bf,au] (ar 4 b1<|e1 rF) (A5v G E h)
theorem Ace:MT 275 Ad1:=show E1 Akn _ _ _ from mt (fn:=Tryz.f275) (S:=λ x=>Bqc x.1) (GB ⟨Wy,Adp,trivial⟩ trivial) λ G _ _ _ _=>Bz1 G
noncomputable abbrev Pk:Env:=EV [] [] false
noncomputable def A4q:=c0 Tryz.f305
noncomputable def Aq9:FS yeE:=f1 [(.int .u32)] (.int .i64) λ x=>Ad6 x.1
noncomputable def A48:=ct [0,0,3,0,0,4] A4q
noncomputable def Bq8:=ct [0,3,0,0,4] A48
abbrev Avo (C:Ctx) (F:FT) (y:Int):Prop:=En Pk C F Tryz.f305 Aq9 (y,())
def Blh (v3:Int) (v4:Int):ST:=⟨19,[ol 0 (.int .u32 v3),oi 2 v4],[]⟩
def Bng (v1:Int) (v2:Int):ST:=⟨19,[ol 0 (.int .u32 v1),oi 2 v2],[]⟩
def Bb7 (a0:Int):ST:=⟨19,[ol 0 (.int .u32 a0)],[]⟩
theorem Auf (G:Bs Pk P) {y v3 v4} (E:Avo C F y) (h:Ul v3 v4=some y):Bv Pk P C F Bq8 (Blh v3 v4):=by
 unfold Ul at h
 obtain⟨c3,h⟩:=A8 h
 have e:=sj h;subst e
 exact se G E [r0,au] (e1 c3)
theorem At0 (G:Bs Pk P) {y v1 v2} (E:Avo C F y) (h:Ui v1 v2=some y):Bv Pk P C F A48 (Bng v1 v2):=by
 unfold Ui at h
 rcases Aj h with⟨b2,h⟩|⟨b2,h⟩
 ·obtain⟨c2,h⟩:=A8 h
  exact sg G [r0,bt,r0,r0,au] (e2 b2 c2) (Auf G E h)
 ·exact sg G [r0,bf,au] (e1 b2) (Auf G E h)
theorem Bqb (G:Bs Pk P) {y a0} (E:Avo C F y) (h:Ad6 a0=some y):Bv Pk P C F A4q (Bb7 a0):=by
 unfold Ad6 at h
 rcases Aj h with⟨b1,h⟩|⟨b1,h⟩
 ·obtain⟨c1,h⟩:=A8 h
  exact sg G [r0,r0,bt,r0,r0,au] (e2 b1 c1) (At0 G E h)
 ·exact sg G [r0,r0,bf,au] (e1 b1) (At0 G E h)
theorem Beb:MT 305 Aq9:=show E1 Pk _ _ _ from mt (fn:=Tryz.f305) (S:=λ x=>Bb7 x.1) (GB trivial trivial) λ G _ _ _ _=>Bqb G
noncomputable abbrev Kq:Env:=EV [(305,Aq9)] [] false
noncomputable def Aqs:=c0 Tryz.f290
noncomputable def Pp:FS yeE:=f1 [(.int .u32)] (.int .i64) λ x=>Gb x.1
abbrev Ath (C:Ctx) (F:FT) (y:Int):Prop:=En Kq C F Tryz.f290 Pp (y,())
def Abb (a0:Int):ST:=⟨6,[ol 0 (.int .u32 a0)],[]⟩
theorem Apf (G:Bs Kq P) {y a0} (E:Ath C F y) (h:Gb a0=some y):Bv Kq P C F Aqs (Abb a0):=by
 unfold Gb at h
 obtain⟨y1,c1,h⟩:=bind_some h
 have e:=sj h;subst e
 exact se G E [r0,rc 1 (rs (.int .i64) y1),au] (e1 (ca c1))
theorem Akj:MT 290 Pp:=show E1 Kq _ _ _ from mt (fn:=Tryz.f290) (S:=λ x=>Abb x.1) (GB ⟨Beb,trivial⟩ trivial) λ G _ _ _ _=>Apf G
noncomputable abbrev I9:Env:=EV [] [] false
noncomputable def Att:=c0 Tryz.f299
noncomputable def Yn:FS yeE:=f1 [(.sl (.int .u32)),(.sl (.int .u32))] (.int .i64) λ x=>Pt x.1 x.2.1
noncomputable def Aiy:=ct [0,0,2,0,1] Att
noncomputable def Bhn:=ct [0,2,4] Aiy
abbrev Ayl (C:Ctx) (F:FT) (y:Int):Prop:=En I9 C F Tryz.f299 Yn (y,())
def A66 (r1:Unit):ST:=⟨41,[],[]⟩
def Aqw (a0:(List Int)) (a1:(List Int)) (v:Int):ST:=⟨41,[os 0 (.int .u32) a0,os 1 (.int .u32) a1,oi 5 v],[]⟩
def Aw9 (a0:(List Int)) (a1:(List Int)):ST:=⟨41,[os 0 (.int .u32) a0,os 1 (.int .u32) a1],[]⟩
theorem A70 (G:Bs I9 P) {y a0 a1} (E:Ayl C F y) (v:Int) o (h:Yi a0 a1 v=some o) (L:LP I9 P C F Aiy (Aqw a0 a1) (Sum.elim (GX I9 P C F Bhn A66) (RX y)) o):Bv I9 P C F Aiy (Aqw a0 a1 v):=by
 unfold Yi at h
 rcases Aj h with⟨b3,h⟩|⟨b3,h⟩
 ·obtain⟨c1,c2,h⟩:=ns2 h
  rcases Aj h with⟨b4,h⟩|⟨b4,h⟩
  ·obtain⟨c3,c4,h⟩:=ns2 h
   rcases Aj h with⟨b5,h⟩|⟨b5,h⟩
   ·have e:_=y:=L.2 _ (si h);subst e
    exact se G E [r0,bt,r0,bt,r0,bt,r0,au] (q6 b3 c1 c2 b4 c3 c4<|e1 b5)
   ·have e:_=y:=L.2 _ (si h);subst e
    exact se G E [r0,bt,r0,bt,r0,bf,r0,au] (q6 b3 c1 c2 b4 c3 c4<|e1 b5)
  ·exact sg G [r0,bt,r0,bf,r0,en] (e4 b3 c1 c2 b4) (L.1 _ (si h))
 ·exact sg G [r0,bf,au] (e1 b3) (L.2 _ (si h))
theorem Bhq (G:Bs I9 P) {y a0 a1} (E:Ayl C F y) (h:Pt a0 a1=some y):Bv I9 P C F Att (Aw9 a0 a1):=by
 unfold Pt at h
 rcases Aj h with⟨b1,h⟩|⟨b1,h⟩
 ·rcases Aj h with⟨b2,h⟩|⟨b2,h⟩
  ·have e:=sj h;subst e
   exact se G E [r0,r0,bt,r0,bt,r0,au] (e2 b1 b2)
  ·have e:=sj h;subst e
   exact se G E [r0,r0,bt,r0,bf,r0,au] (e2 b1 b2)
 ·obtain⟨r,hi,h⟩:=bind_some h
  refine sg G [r0,r0,bf,r0,en] (e1 b1) (lg (A70 G E) hi ?_)
  rcases r with r1|r2
  ·have e:=sj h;subst e
   exact se G E [r0,au] tt
  ·exact sj h
theorem Ajx:MT 299 Yn:=show E1 I9 _ _ _ from mt (fn:=Tryz.f299) (S:=λ x=>Aw9 x.1 x.2.1) (GB trivial trivial) λ G _ _ _ _=>Bhq G
noncomputable abbrev Ao:Env:=EV [(290,Pp),(299,Yn)] [] false
noncomputable def Ai9:=c0 Tryz.f295
noncomputable def Ais:FS yeE:=f2 [(.sl (.int .u32)),(.sl (.int .u32))] (.sl (.int .u32)) (.sl (.int .u32)) λ x=>Uw x.1 x.2.1
noncomputable def Aiz:=ct [0,0,2,0,3,0,0,0,1] Ai9
noncomputable def Bgn:=ct [0,2,4] Aiz
noncomputable def R3:=ct [0,0,2,0,2,0,0,0,0,1] Ai9
noncomputable def Bf8:=ct [0,3,0,0,0,3,0,4] R3
noncomputable def Air:=ct [0,2,4] R3
noncomputable def Ns:=ct [0,1] Air
noncomputable def Atw:=ct [0,3,0,0,3,0,4] Ns
noncomputable def Bh4:=ct [0,3,0,4] Atw
noncomputable def Zm:=ct [0,2,4] Ns
noncomputable def Pz:=ct [0,0,0,1] Zm
noncomputable def Ov:=ct [0,3,0,0,1] Pz
noncomputable def Bfq:=ct [0,3,4] Ov
noncomputable def Aez:=ct [0,2,4] Ov
noncomputable def Oz:=ct [0,0,1] Aez
noncomputable def A9q:=ct [0,3,0,0,0,0,0,0,0,3,0,4] Oz
noncomputable def Aen:=ct [0,2,4] Oz
noncomputable def Aet:=ct [0,0,0,3,0,0,0,1] Aen
noncomputable def Ars:=ct [0,2,4] Aet
noncomputable def Bds:=ct [0,4] Ars
noncomputable def Afo:=ct [0,2,4] Pz
noncomputable def Py:=ct [0,0,1] Afo
noncomputable def Bcj:=ct [0,3,0,0,0,3,0,4] Py
noncomputable def Ape:=ct [0,2,4] Py
abbrev Cs (C:Ctx) (F:FT) (y:((List Int)×(List Int))):Prop:=En Ao C F Tryz.f295 Ais (y.1,y.2,())
def A7i (r1:(Int×(List Int))):ST:=⟨392,[ol 6 (.ar 43 0),ol 7 (.int .u64 r1.1)],[ba 43 259 (.int .u32) r1.2]⟩
def An1 (a0:(List Int)) (y2:Int) (r2:((List Int)×(List Int))):ST:=⟨392,[os 0 (.int .u32) a0,ol 10 (.int .u64 (IntKind.wrap .u64 y2)),ol 11 (.ar 90 0),ol 12 (.ar 93 0)],[ba 90 259 (.int .u32) r2.1,ba 93 259 (.int .u32) r2.2]⟩
def Aao (a0:(List Int)) (r2:((List Int)×(List Int))) (y2:Int) (r3:(List Int)):ST:=⟨392,[os 0 (.int .u32) a0,ol 10 (.int .u64 (IntKind.wrap .u64 y2)),ol 11 (.ar 90 0),ol 12 (.ar 93 0)],[ba 90 259 (.int .u32) r3,ba 93 259 (.int .u32) r2.2]⟩
def Anh (v17:Int) (v18:(List Int)) (v19:(List Int)) (r2:((List Int)×(List Int))) (y2:Int) (r4:Int):ST:=⟨392,[ol 10 (.int .u64 (IntKind.wrap .u64 y2)),ol 11 (.ar 90 0),ol 12 (.ar 93 0),oi 15 (r2.2.length:Int),ol 16 (.ar 175 0),oi 17 v17,ol 19 (.int .u64 r4)],[ba 90 259 (.int .u32) v18,ba 93 259 (.int .u32) r2.2,ba 175 259 (.int .u32) v19]⟩
def Ant (v17:Int) (v19:(List Int)) (r2:((List Int)×(List Int))) (r4:Int) (y2:Int) (r5:(Int×Int×(List Int))):ST:=⟨392,[ol 10 (.int .u64 (IntKind.wrap .u64 y2)),ol 11 (.ar 90 0),ol 12 (.ar 93 0),oi 15 (r2.2.length:Int),ol 16 (.ar 175 0),oi 17 v17,ol 19 (.int .u64 r4),oi 21 r5.1,ol 22 (.int .u64 r5.2.1)],[ba 90 259 (.int .u32) r5.2.2,ba 93 259 (.int .u32) r2.2,ba 175 259 (.int .u32) v19]⟩
def A7z (v17:Int) (v19:(List Int)) (r2:((List Int)×(List Int))) (r4:Int) (y2:Int) (r6:(Int×(List Int))):ST:=⟨392,[ol 10 (.int .u64 (IntKind.wrap .u64 y2)),ol 11 (.ar 90 0),ol 12 (.ar 93 0),oi 15 (r2.2.length:Int),ol 16 (.ar 175 0),oi 17 v17,ol 19 (.int .u64 (IntKind.wrap .u64 (r4-(1:Int)))),ol 27 (.int .u64 r6.1)],[ba 90 259 (.int .u32) r6.2,ba 93 259 (.int .u32) r2.2,ba 175 259 (.int .u32) v19]⟩
def Anx (r2:((List Int)×(List Int))) (y2:Int) (r7:((List Int)×(List Int))):ST:=⟨392,[ol 10 (.int .u64 (IntKind.wrap .u64 y2)),ol 11 (.ar 90 0),oi 15 (r2.2.length:Int),ol 16 (.ar 175 0)],[ba 90 259 (.int .u32) r7.1,ba 175 259 (.int .u32) r7.2]⟩
def Anw (r7:((List Int)×(List Int))) (r8:(List Int)):ST:=⟨392,[ol 16 (.ar 175 0),ol 30 (.ar 359 0)],[ba 175 259 (.int .u32) r7.2,ba 359 259 (.int .u32) r8]⟩
def Apg (a0:(List Int)) (a1:(List Int)) (v:Int×Int×(List Int)):ST:=⟨392,[os 0 (.int .u32) a0,os 1 (.int .u32) a1,ol 6 (.ar 43 0),ol 7 (.int .u64 v.1),oi 8 v.2.1],[ba 43 259 (.int .u32) v.2.2]⟩
def Bch (a0:(List Int)) (a1:(List Int)) (v6:Int) (v7:(List Int)) (v9:(List Int)) (y2:Int):ST:=⟨392,[os 0 (.int .u32) a0,os 1 (.int .u32) a1,ol 10 (.int .u64 (IntKind.wrap .u64 y2)),ol 11 (.ar 90 0),ol 12 (.ar 93 0),oi 95 (a1.length:Int),oi 96 v6],[ba 90 259 (.int .u32) v7,ba 93 259 (.int .u32) v9]⟩
def Agc (a0:(List Int)) (a1:(List Int)) (y2:Int) (v:Int×(List Int)×(List Int)):ST:=⟨392,[os 0 (.int .u32) a0,os 1 (.int .u32) a1,ol 10 (.int .u64 (IntKind.wrap .u64 y2)),ol 11 (.ar 90 0),ol 12 (.ar 93 0),oi 95 (a1.length:Int),oi 96 v.1],[ba 90 259 (.int .u32) v.2.1,ba 93 259 (.int .u32) v.2.2]⟩
def Bcd (a0:(List Int)) (v12:Int) (v15:(List Int)) (r2:((List Int)×(List Int))) (y2:Int):ST:=⟨392,[os 0 (.int .u32) a0,ol 10 (.int .u64 (IntKind.wrap .u64 y2)),ol 11 (.ar 90 0),ol 12 (.ar 93 0),oi 130 (r2.1.length:Int),oi 131 v12],[ba 90 259 (.int .u32) v15,ba 93 259 (.int .u32) r2.2]⟩
def A9y (a0:(List Int)) (v12:Int) (v14:(List Int)) (r2:((List Int)×(List Int))) (y2:Int):ST:=⟨392,[os 0 (.int .u32) a0,ol 10 (.int .u64 (IntKind.wrap .u64 y2)),ol 11 (.ar 90 0),ol 12 (.ar 93 0),oi 14 v12,oi 130 (r2.1.length:Int),oi 131 v12],[ba 90 259 (.int .u32) v14,ba 93 259 (.int .u32) r2.2]⟩
def Xf (a0:(List Int)) (r2:((List Int)×(List Int))) (y2:Int) (v:Int×(List Int)):ST:=⟨392,[os 0 (.int .u32) a0,ol 10 (.int .u64 (IntKind.wrap .u64 y2)),ol 11 (.ar 90 0),ol 12 (.ar 93 0),oi 130 (r2.1.length:Int),oi 131 v.1],[ba 90 259 (.int .u32) v.2,ba 93 259 (.int .u32) r2.2]⟩
def Bdp (v17:Int) (v18:(List Int)) (v19:(List Int)) (v20:Int) (v21:Int) (r2:((List Int)×(List Int))) (y2:Int):ST:=⟨392,[ol 10 (.int .u64 (IntKind.wrap .u64 y2)),ol 11 (.ar 90 0),ol 12 (.ar 93 0),oi 15 (r2.2.length:Int),ol 16 (.ar 175 0),oi 17 v17,ol 19 (.int .u64 v20),ol 20 (.int .u64 v21)],[ba 90 259 (.int .u32) v18,ba 93 259 (.int .u32) r2.2,ba 175 259 (.int .u32) v19]⟩
def Agf (v17:Int) (v18:(List Int)) (v19:(List Int)) (r2:((List Int)×(List Int))) (y2:Int) (v:Int×Int):ST:=⟨392,[ol 10 (.int .u64 (IntKind.wrap .u64 y2)),ol 11 (.ar 90 0),ol 12 (.ar 93 0),oi 15 (r2.2.length:Int),ol 16 (.ar 175 0),oi 17 v17,ol 19 (.int .u64 v.1),ol 20 (.int .u64 v.2)],[ba 90 259 (.int .u32) v18,ba 93 259 (.int .u32) r2.2,ba 175 259 (.int .u32) v19]⟩
def Bek (v17:Int) (v19:(List Int)) (v25:Int) (v27:Int) (v28:Int) (v29:(List Int)) (r2:((List Int)×(List Int))) (r4:Int) (y2:Int):ST:=⟨392,[ol 10 (.int .u64 (IntKind.wrap .u64 y2)),ol 11 (.ar 90 0),ol 12 (.ar 93 0),oi 15 (r2.2.length:Int),ol 16 (.ar 175 0),oi 17 v17,ol 19 (.int .u64 r4),oi 21 v27,ol 22 (.int .u64 v28),oi 253 (r2.2.length:Int),oi 254 v25],[ba 90 259 (.int .u32) v29,ba 93 259 (.int .u32) r2.2,ba 175 259 (.int .u32) v19]⟩
def Agi (v17:Int) (v19:(List Int)) (r2:((List Int)×(List Int))) (r4:Int) (y2:Int) (v:Int×Int×Int×(List Int)):ST:=⟨392,[ol 10 (.int .u64 (IntKind.wrap .u64 y2)),ol 11 (.ar 90 0),ol 12 (.ar 93 0),oi 15 (r2.2.length:Int),ol 16 (.ar 175 0),oi 17 v17,ol 19 (.int .u64 r4),oi 21 v.1,ol 22 (.int .u64 v.2.1),oi 253 (r2.2.length:Int),oi 254 v.2.2.1],[ba 90 259 (.int .u32) v.2.2.2,ba 93 259 (.int .u32) r2.2,ba 175 259 (.int .u32) v19]⟩
def Apo (v17:Int) (v19:(List Int)) (r2:((List Int)×(List Int))) (r4:Int) (y2:Int) (v:Int×Int×(List Int)):ST:=⟨392,[ol 10 (.int .u64 (IntKind.wrap .u64 y2)),ol 11 (.ar 90 0),ol 12 (.ar 93 0),oi 15 (r2.2.length:Int),ol 16 (.ar 175 0),oi 17 v17,ol 19 (.int .u64 (IntKind.wrap .u64 (r4-(1:Int)))),ol 27 (.int .u64 v.1),oi 314 (r2.2.length:Int),oi 315 v.2.1],[ba 90 259 (.int .u32) v.2.2,ba 93 259 (.int .u32) r2.2,ba 175 259 (.int .u32) v19]⟩
def Bco (v17:Int) (v19:(List Int)) (v38:Int) (v39:(List Int)) (r2:((List Int)×(List Int))) (y2:Int):ST:=⟨392,[ol 10 (.int .u64 (IntKind.wrap .u64 y2)),ol 11 (.ar 90 0),ol 12 (.ar 93 0),oi 15 (r2.2.length:Int),ol 16 (.ar 175 0),oi 17 v17,ol 19 (.int .u64 v38)],[ba 90 259 (.int .u32) v39,ba 93 259 (.int .u32) r2.2,ba 175 259 (.int .u32) v19]⟩
def Aeq (r2:((List Int)×(List Int))) (y2:Int) (v:Int×(List Int)×(List Int)):ST:=⟨392,[ol 10 (.int .u64 (IntKind.wrap .u64 y2)),ol 11 (.ar 90 0),ol 12 (.ar 93 0),oi 15 (r2.2.length:Int),ol 16 (.ar 175 0),oi 17 v.1],[ba 90 259 (.int .u32) v.2.1,ba 93 259 (.int .u32) r2.2,ba 175 259 (.int .u32) v.2.2]⟩
def Baw (v42:Int) (v44:(List Int)) (r2:((List Int)×(List Int))) (r7:((List Int)×(List Int))) (y2:Int):ST:=⟨392,[ol 10 (.int .u64 (IntKind.wrap .u64 y2)),ol 11 (.ar 90 0),ol 16 (.ar 175 0),ol 30 (.ar 359 0),oi 360 (r2.2.length:Int),oi 361 v42],[ba 90 259 (.int .u32) r7.1,ba 175 259 (.int .u32) r7.2,ba 359 259 (.int .u32) v44]⟩
def Afr (r2:((List Int)×(List Int))) (r7:((List Int)×(List Int))) (y2:Int) (v:Int×(List Int)):ST:=⟨392,[ol 10 (.int .u64 (IntKind.wrap .u64 y2)),ol 11 (.ar 90 0),ol 16 (.ar 175 0),ol 30 (.ar 359 0),oi 360 (r2.2.length:Int),oi 361 v.1],[ba 90 259 (.int .u32) r7.1,ba 175 259 (.int .u32) r7.2,ba 359 259 (.int .u32) v.2]⟩
def Awx (a0:(List Int)) (a1:(List Int)):ST:=⟨392,[os 0 (.int .u32) a0,os 1 (.int .u32) a1],[]⟩
theorem A7b (G:Bs Ao P) {y a0 a1} (E:Cs C F y) (v:Int×Int×(List Int)) o (h:S3 a0 a1 v.1 v.2.1 v.2.2=some o) (L:LP Ao P C F Aiz (Apg a0 a1) (GX Ao P C F Bgn A7i) o):Bv Ao P C F Aiz (Apg a0 a1 v):=by
 unfold S3 at h
 rcases Aj h with⟨b3,h⟩|⟨b3,h⟩
 ·obtain⟨c6,c7,h⟩:=ns2 h
  obtain⟨c8,c9,c10,h⟩:=ns3 h
  obtain⟨c11,c12,h⟩:=ns2 h
  exact sg G [r0,bt,r0,r0,r0,r0,en] (q6 b3 c6 c7 c8 c9 c10<|e2 c11 c12) (L.1 _ (si h))
 ·exact sg G [r0,bf,au] (e1 b3) (L.2 _ (si h))
theorem Aa4 (G:Bs Ao P) {y o a0 a1 v6 v7 v9 y2} (E:Cs C F y) (h:J3 a0 a1 v6 v7 v9 y2=some o) (L:LP Ao P C F R3 (Agc a0 a1 y2) (GX Ao P C F Air (An1 a0 y2)) o):Bv Ao P C F Bf8 (Bch a0 a1 v6 v7 v9 y2):=by
 unfold J3 at h
 exact sg G [r0,en] tt (L.1 _ (si h))
theorem A59 (G:Bs Ao P) {y a0 a1 y2} (E:Cs C F y) (v:Int×(List Int)×(List Int)) o (h:Sj a0 a1 y2 v.1 v.2.1 v.2.2=some o) (L:LP Ao P C F R3 (Agc a0 a1 y2) (GX Ao P C F Air (An1 a0 y2)) o):Bv Ao P C F R3 (Agc a0 a1 y2 v):=by
 unfold Sj at h
 rcases Aj h with⟨b4,h⟩|⟨b4,h⟩
 ·obtain⟨c21,c22,c23,h⟩:=ns3 h
  rcases Aj h with⟨b5,h⟩|⟨b5,h⟩
  ·rcases Aj h with⟨b6,h⟩|⟨b6,h⟩
   ·obtain⟨c24,c25,c26,c27,h⟩:=ns4 h
    exact sg G [r0,bt,r0,r0,ru [2,5],bt,r0,au] (q4 b4 c21 c22 c23<|ar 3 b5<|e5 b6 c24 c25 c26 c27) (Aa4 G E h L)
   ·exact sg G [r0,bt,r0,r0,ru [2,5],bf,au] (q4 b4 c21 c22 c23<|ar 3 b5<|e1 b6) (Aa4 G E h L)
  ·exact sg G [r0,bt,r0,r0,rf [2,5],bf,au] (q4 b4 c21 c22 c23<|ar 3 b5<|e1 rF) (Aa4 G E h L)
 ·exact sg G [r0,bf,au] (e1 b4) (L.2 _ (si h))
theorem Aau (G:Bs Ao P) {y o a0 v12 v15 r2 y2} (E:Cs C F y) (h:H2 a0 v12 v15 r2 y2=some o) (L:LP Ao P C F Ns (Xf a0 r2 y2) (GX Ao P C F Zm (Aao a0 r2 y2)) o):Bv Ao P C F Bh4 (Bcd a0 v12 v15 r2 y2):=by
 unfold H2 at h
 exact sg G [r0,en] tt (L.1 _ (si h))
theorem Ano (G:Bs Ao P) {y o a0 v12 v14 r2 y2} (E:Cs C F y) (h:Nz a0 v12 v14 r2 y2=some o) (L:LP Ao P C F Ns (Xf a0 r2 y2) (GX Ao P C F Zm (Aao a0 r2 y2)) o):Bv Ao P C F Atw (A9y a0 v12 v14 r2 y2):=by
 unfold Nz at h
 rcases Aj h with⟨b9,h⟩|⟨b9,h⟩
 ·rcases Aj h with⟨b10,h⟩|⟨b10,h⟩
  ·obtain⟨c31,c32,c33,c34,h⟩:=ns4 h
   exact sg G [ru [2,5],bt,r0,au] (ar 3 b9<|e5 b10 c31 c32 c33 c34) (Aau G E h L)
  ·exact sg G [ru [2,5],bf,au] (ar 3 b9<|e1 b10) (Aau G E h L)
 ·exact sg G [rf [2,5],bf,au] (ar 3 b9<|e1 rF) (Aau G E h L)
theorem A6q (G:Bs Ao P) {y a0 r2 y2} (E:Cs C F y) (v:Int×(List Int)) o (h:Rm a0 r2 y2 v.1 v.2=some o) (L:LP Ao P C F Ns (Xf a0 r2 y2) (GX Ao P C F Zm (Aao a0 r2 y2)) o):Bv Ao P C F Ns (Xf a0 r2 y2 v):=by
 unfold Rm at h
 rcases Aj h with⟨b7,h⟩|⟨b7,h⟩
 ·rcases Aj h with⟨b8,h⟩|⟨b8,h⟩
  ·obtain⟨c28,c29,c30,h⟩:=ns3 h
   exact sg G [r0,bt,r0,r0,bt,r0,au] (e5 b7 b8 c28 c29 c30) (Ano G E h L)
  ·exact sg G [r0,bt,r0,r0,bf,au] (e2 b7 b8) (Ano G E h L)
 ·exact sg G [r0,bf,au] (e1 b7) (L.2 _ (si h))
theorem Ane (G:Bs Ao P) {y o v17 v18 v19 v20 v21 r2 y2} (E:Cs C F y) (h:Oc v17 v18 v19 v20 v21 r2 y2=some o) (L:LP Ao P C F Ov (Agf v17 v18 v19 r2 y2) (GX Ao P C F Aez (Anh v17 v18 v19 r2 y2)) o):Bv Ao P C F Bfq (Bdp v17 v18 v19 v20 v21 r2 y2):=by
 unfold Oc at h
 obtain⟨c48,h⟩:=A8 h
 rcases Aj h with⟨b14,h⟩|⟨b14,h⟩
 ·exact sg G [r0,r0,r0,bt,au] (e2 c48 b14) (L.2 _ (si h))
 ·exact sg G [r0,r0,r0,bf,en] (e2 c48 b14) (L.1 _ (si h))
theorem A60 (G:Bs Ao P) {y v17 v18 v19 r2 y2} (E:Cs C F y) (v:Int×Int) o (h:Sn v17 v18 v19 r2 y2 v.1 v.2=some o) (L:LP Ao P C F Ov (Agf v17 v18 v19 r2 y2) (GX Ao P C F Aez (Anh v17 v18 v19 r2 y2)) o):Bv Ao P C F Ov (Agf v17 v18 v19 r2 y2 v):=by
 unfold Sn at h
 rcases Aj h with⟨b12,h⟩|⟨b12,h⟩
 ·exact sg G [ru [2,23],bt,au] (ar 21 b12<|e1 rT) (Ane G E h L)
 ·obtain⟨c45,c46,c47,h⟩:=ns3 h
  rcases Aj h with⟨b13,h⟩|⟨b13,h⟩
  ·exact sg G [rf [2,23],bt,au] (ar 5 b12<|q1 c45<|ar 5 b12<|q1 c46<|ar 6 b12<|q1 c47<|ar 5 b12<|e1 b13) (Ane G E h L)
  ·exact sg G [rf [2,23],bf,au] (ar 5 b12<|q1 c45<|ar 5 b12<|q1 c46<|ar 6 b12<|q1 c47<|ar 5 b12<|e1 b13) (L.2 _ (si h))
theorem Ank (G:Bs Ao P) {y o v17 v19 v25 v27 v28 v29 r2 r4 y2} (E:Cs C F y) (h:Nq v17 v19 v25 v27 v28 v29 r2 r4 y2=some o) (L:LP Ao P C F Oz (Agi v17 v19 r2 r4 y2) (GX Ao P C F Aen (Ant v17 v19 r2 r4 y2)) o):Bv Ao P C F A9q (Bek v17 v19 v25 v27 v28 v29 r2 r4 y2):=by
 unfold Nq at h
 exact sg G [r0,en] tt (L.1 _ (si h))
theorem A6v (G:Bs Ao P) {y v17 v19 r2 r4 y2} (E:Cs C F y) (v:Int×Int×Int×(List Int)) o (h:Rl v17 v19 r2 r4 y2 v.1 v.2.1 v.2.2.1 v.2.2.2=some o) (L:LP Ao P C F Oz (Agi v17 v19 r2 r4 y2) (GX Ao P C F Aen (Ant v17 v19 r2 r4 y2)) o):Bv Ao P C F Oz (Agi v17 v19 r2 r4 y2 v):=by
 unfold Rl at h
 rcases Aj h with⟨b15,h⟩|⟨b15,h⟩
 ·obtain⟨c49,h⟩:=A8 h
  obtain⟨c50,h⟩:=A8 h
  obtain⟨c51,h⟩:=A8 h
  obtain⟨c52,h⟩:=A8 h
  rcases Aj h with⟨b16,h⟩|⟨b16,h⟩
  ·exact sg G [r0,bt,r0,r0,r0,r0,r0,r0,r0,bt,r0,au] (e6 b15 c49 c50 c51 c52 b16) (Ank G E h L)
  ·exact sg G [r0,bt,r0,r0,r0,r0,r0,r0,r0,bf,au] (e6 b15 c49 c50 c51 c52 b16) (Ank G E h L)
 ·exact sg G [r0,bf,au] (e1 b15) (L.2 _ (si h))
theorem A6d (G:Bs Ao P) {y v17 v19 r2 r4 y2} (E:Cs C F y) (v:Int×Int×(List Int)) o (h:Su v17 v19 r2 r4 y2 v.1 v.2.1 v.2.2=some o) (L:LP Ao P C F Aet (Apo v17 v19 r2 r4 y2) (GX Ao P C F Ars (A7z v17 v19 r2 r4 y2)) o):Bv Ao P C F Aet (Apo v17 v19 r2 r4 y2 v):=by
 unfold Su at h
 rcases Aj h with⟨b18,h⟩|⟨b18,h⟩
 ·obtain⟨c55,c56,h⟩:=ns2 h
  obtain⟨c57,h⟩:=A8 h
  obtain⟨c58,h⟩:=A8 h
  exact sg G [r0,bt,r0,r0,r0,r0,r0,en] (e5 b18 c55 c56 c57 c58) (L.1 _ (si h))
 ·exact sg G [r0,bf,au] (e1 b18) (L.2 _ (si h))
theorem Anj (G:Bs Ao P) {y o v17 v19 v38 v39 r2 y2} (E:Cs C F y) (h:Np v17 v19 v38 v39 r2 y2=some o) (L:LP Ao P C F Pz (Aeq r2 y2) (GX Ao P C F Afo (Anx r2 y2)) o):Bv Ao P C F Bds (Bco v17 v19 v38 v39 r2 y2):=by
 unfold Np at h
 obtain⟨c61,h⟩:=A8 h
 exact sg G [r0,r0,en] (e1 c61) (L.1 _ (si h))
theorem A58 (G:Bs Ao P) {y r2 y2} (E:Cs C F y) (v:Int×(List Int)×(List Int)) o (h:Js r2 y2 v.1 v.2.1 v.2.2=some o) (L:LP Ao P C F Pz (Aeq r2 y2) (GX Ao P C F Afo (Anx r2 y2)) o):Bv Ao P C F Pz (Aeq r2 y2 v):=by
 unfold Js at h
 rcases Aj h with⟨b11,h⟩|⟨b11,h⟩
 ·obtain⟨c38,c39,c40,h⟩:=ns3 h
  obtain⟨c41,c42,c43,c44,h⟩:=ns4 h
  obtain⟨r4,hi,h⟩:=bind_some h
  refine sg G [r0,bt,r0,r0,en] (q6 b11 c38 c39 c40 c41 c42<|e2 c43 c44) (lg (A60 G E) hi ?_)
  obtain⟨r5,hi,h⟩:=bind_some h
  refine sg G [r0,r0,en] tt (lg (A6v G E) hi ?_)
  obtain⟨c53,h⟩:=A8 h
  obtain⟨c54,h⟩:=A8 h
  rcases Aj h with⟨b17,h⟩|⟨b17,h⟩
  ·obtain⟨r6,hi,h⟩:=bind_some h
   refine sg G [r0,r0,r0,bt,r0,r0,r0,en] (e3 c53 c54 b17) (lg (A6d G E) hi ?_)
   obtain⟨c59,c60,h⟩:=ns2 h
   exact sg G [r0,au] (e2 c59 c60) (Anj G E h L)
  ·exact sg G [r0,r0,r0,bf,au] (e3 c53 c54 b17) (Anj G E h L)
 ·exact sg G [r0,bf,au] (e1 b11) (L.2 _ (si h))
theorem Aoc (G:Bs Ao P) {y o v42 v44 r2 r7 y2} (E:Cs C F y) (h:Nu v42 v44 r2 r7 y2=some o) (L:LP Ao P C F Py (Afr r2 r7 y2) (GX Ao P C F Ape (Anw r7)) o):Bv Ao P C F Bcj (Baw v42 v44 r2 r7 y2):=by
 unfold Nu at h
 exact sg G [r0,en] tt (L.1 _ (si h))
theorem A7m (G:Bs Ao P) {y r2 r7 y2} (E:Cs C F y) (v:Int×(List Int)) o (h:R5 r2 r7 y2 v.1 v.2=some o) (L:LP Ao P C F Py (Afr r2 r7 y2) (GX Ao P C F Ape (Anw r7)) o):Bv Ao P C F Py (Afr r2 r7 y2 v):=by
 unfold R5 at h
 rcases Aj h with⟨b19,h⟩|⟨b19,h⟩
 ·obtain⟨c65,c66,c67,h⟩:=ns3 h
  rcases Aj h with⟨b20,h⟩|⟨b20,h⟩
  ·obtain⟨c68,c69,c70,c71,h⟩:=ns4 h
   exact sg G [r0,bt,r0,r0,r0,bt,r0,au] (q6 b19 c65 c66 c67 b20 c68<|e3 c69 c70 c71) (Aoc G E h L)
  ·exact sg G [r0,bt,r0,r0,r0,bf,au] (e5 b19 c65 c66 c67 b20) (Aoc G E h L)
 ·exact sg G [r0,bf,au] (e1 b19) (L.2 _ (si h))
theorem Bf4 (G:Bs Ao P) {y a0 a1} (E:Cs C F y) (h:Uw a0 a1=some y):Bv Ao P C F Ai9 (Awx a0 a1):=by
 unfold Uw at h
 obtain⟨y1,c1,h⟩:=bind_some h
 rcases Aj h with⟨b1,h⟩|⟨b1,h⟩
 ·obtain⟨c2,h⟩:=A8 h
  have e:=sj h;subst e
  exact se G E [r0,rc 2 (rs (.int .i64) y1),bt,r0,au,.weak [.fix (.slot 5)]] (e3 (ca c1) b1 c2)
 ·rcases Aj h with⟨b2,h⟩|⟨b2,h⟩
  ·obtain⟨c3,c4,c5,h⟩:=ns3 h
   obtain⟨r1,hi,h⟩:=bind_some h
   refine sg G [r0,rc 2 (rs (.int .i64) y1),bf,r0,bt,r0,r0,r0,en] (e6 (ca c1) b1 b2 c3 c4 c5) (lg (A7b G E) hi ?_)
   have e:=sj h;subst e
   exact se G E [r0,au,.weak [.fix (.slot 4)]] tt
  ·obtain⟨c13,h⟩:=A8 h
   obtain⟨y2,c14,h⟩:=bind_some h
   obtain⟨c15,c16,c17,h⟩:=ns3 h
   obtain⟨c18,c19,c20,h⟩:=ns3 h
   obtain⟨r2,hi,h⟩:=bind_some h
   refine sg G [r0,rc 2 (rs (.int .i64) y1),bf,r0,bf,rc 6 (rs (.int .i64) y2),r0,r0,r0,en] (q6 (ca c1) b1 b2 c13 (ca c14) c15<|e5 c16 c17 c18 c19 c20) (lg (A59 G E) hi ?_)
   obtain⟨r3,hi,h⟩:=bind_some h
   refine sg G [r0,en] tt (lg (A6q G E) hi ?_)
   obtain⟨c35,c36,c37,h⟩:=ns3 h
   obtain⟨r7,hi,h⟩:=bind_some h
   refine sg G [r0,r0,r0,en] (e3 c35 c36 c37) (lg (A58 G E) hi ?_)
   obtain⟨c62,c63,c64,h⟩:=ns3 h
   obtain⟨r8,hi,h⟩:=bind_some h
   refine sg G [r0,r0,en] (e3 c62 c63 c64) (lg (A7m G E) hi ?_)
   have e:=sj h;subst e
   exact se G E [r0,au,.weak [.fix (.slot 4),.fix (.slot 5)]] tt
theorem A3y:MT 295 Ais:=show E1 Ao _ _ _ from mt (fn:=Tryz.f295) (S:=λ x=>Awx x.1 x.2.1) (GB ⟨Akj,Ajx,trivial⟩ trivial) λ G _ _ _ _=>Bf4 G
noncomputable abbrev Ajq:Env:=EV [(288,Un),(289,Ad5),(295,Ais)] [] false
noncomputable def Bij:=c0 Tryz.f277
noncomputable def Ar4:FS yeE:=f2 [(.nm 13),(.nm 13)] (.nm 13) (.nm 13) λ x=>Ahq x.1 x.2.1
noncomputable def Byn:=ct [0,0,2,4] Bij
abbrev Bps (C:Ctx) (F:FT) (y:(A4×A4)):Prop:=En Ajq C F Tryz.f277 Ar4 (y.1,y.2,())
def Bvh (a0:A4) (a1:A4):ST:=⟨61,[op 2,op 3,op 4,op 5],[bc 2 (Bw a0),bc 3 (Bw a1),bc 4 [.int .i64 (0:Int),.sl (.int .u32) true [],.bool false],bc 5 [.int .i64 (0:Int),.sl (.int .u32) true [],.bool false]]⟩
def Brn (a0:A4) (a1:A4):ST:=⟨61,[og 0 (Bw a0),og 1 (Bw a1)],[]⟩
theorem Apt (G:Bs Ajq P) {y a0 a1} (E:Bps C F y) (h:Yc a0 a1=some y):Bv Ajq P C F Byn (Bvh a0 a1):=by
 unfold Yc at h
 obtain⟨y1,c3,h⟩:=bind_some h
 obtain⟨y2,c4,h⟩:=bind_some h
 obtain⟨y3,c5,h⟩:=bind_some h
 obtain⟨y4,c6,h⟩:=bind_some h
 obtain⟨y5,c7,h⟩:=bind_some h
 have e:=sj h;subst e
 exact se G E [rc 1 (rt (.sl (.int .u32)) .bool y1),rc 1 (rt (.sl (.int .u32)) .bool y2),rc 2 (rt (.sl (.int .u32)) (.sl (.int .u32)) y3),.reg [(4,rs (.nm 13) y4),(7,rs (.nm 13) y5)],au] (e5 (cb c3) (cb c4) (cb c5) (ca c6) (ca c7))
theorem Byd (G:Bs Ajq P) {y a0 a1} (E:Bps C F y) (h:Ahq a0 a1=some y):Bv Ajq P C F Bij (Brn a0 a1):=by
 unfold Ahq at h
 rcases Aj h with⟨b1,h⟩|⟨b1,h⟩
 ·rcases Aj h with⟨b2,h⟩|⟨b2,h⟩
  ·rcases Aj h with⟨b3,h⟩|⟨b3,h⟩
   ·obtain⟨c1,c2,h⟩:=ns2 h
    have e:=sj h;subst e
    exact se G E [r0,ru [3,7,8,12],bt,r0,au] (ar 4 b1<|ar 4 b2<|e3 b3 c1 c2)
   ·exact sg G [r0,ru [3,7,8,12],bf,au] (ar 4 b1<|ar 4 b2<|e1 b3) (Apt G E h)
  ·exact sg G [r0,rb [8,12] [3,7],bf,au] (ar 4 b1<|ar 4 b2<|e1 rF) (Apt G E h)
 ·exact sg G [r0,rf [3,7,8,12],bf,au] (ar 4 b1<|ar 5 rF<|tt) (Apt G E h)
theorem Ayz:MT 277 Ar4:=show E1 Ajq _ _ _ from mt (fn:=Tryz.f277) (S:=λ x=>Brn x.1 x.2.1) (GB ⟨Wy,Adp,A3y,trivial⟩ trivial) λ G _ _ _ _=>Byd G
noncomputable abbrev Axe:Env:=EV [(274,T0),(275,Ad1)] [] false
noncomputable def Bz2:=c0 Tryz.f294
noncomputable def A23:FS yeE:=f1 [(.nm 13)] (.nm 13) λ x=>Amp x.1
abbrev B4y (C:Ctx) (F:FT) (y:A4):Prop:=En Axe C F Tryz.f294 A23 (y,())
def Bpx (a0:A4):ST:=⟨9,[og 0 (Bw a0)],[]⟩
theorem Bye (G:Bs Axe P) {y a0} (E:B4y C F y) (h:Amp a0=some y):Bv Axe P C F Bz2 (Bpx a0):=by
 unfold Amp at h
 obtain⟨y1,c1,h⟩:=bind_some h
 rcases Aj h with⟨b1,h⟩|⟨b1,h⟩
 ·obtain⟨y2,c2,h⟩:=bind_some h
  have e:=sj h;subst e
  exact se G E [r0,rc 1 (rs (.int .i64) y1),bt,rc 1 (rs (.nm 13) y2),au] (e3 (ca c1) b1 (ca c2))
 ·have e:=sj h;subst e
  exact se G E [r0,rc 1 (rs (.int .i64) y1),bf,r0,au] (e2 (ca c1) b1)
theorem Bk3:MT 294 A23:=show E1 Axe _ _ _ from mt (fn:=Tryz.f294) (S:=λ x=>Bpx x.1) (GB ⟨R9,Ace,trivial⟩ trivial) λ G _ _ _ _=>Bye G
noncomputable abbrev Km:Env:=EV [(274,T0),(277,Ar4),(294,A23)] [] false
noncomputable def Bsv:=c0 Tryz.f276
noncomputable def A9h:FS yeE:=f1 [(.nm 13),(.nm 13)] (.nm 13) λ x=>A2q x.1 x.2.1
noncomputable def Akd:=ct [0,0,1] Bsv
noncomputable def Bay:=ct [0,3,0,3,0,1] Akd
noncomputable def B4q:=ct [0,2,4] Bay
noncomputable def B3g:=ct [0,3,0,2,4] Akd
noncomputable def Bsj:=ct [0,2,4] Akd
abbrev A8f (C:Ctx) (F:FT) (y:A4):Prop:=En Km C F Tryz.f276 A9h (y,())
def Bt7 (r1:Int):ST:=⟨45,[op 4,oi 5 r1],[bc 4 [.int .i64 (0:Int),.sl (.int .u32) true [],.bool false]]⟩
def Bcc (r2:(Int×(List Int)×Bool)):ST:=⟨45,[op 2,op 4],[bc 2 [.int .i64 r2.1,.sl (.int .u32) true r2.2.1,.bool r2.2.2],bc 4 [.int .i64 (0:Int),.sl (.int .u32) true [],.bool false]]⟩
def Bjd (v:Int×Int):ST:=⟨45,[op 4,oi 5 v.1,oi 6 v.2],[bc 4 [.int .i64 (0:Int),.sl (.int .u32) true [],.bool false]]⟩
def By8 (v1:Int) (v2:(List Int)) (v3:Bool) (v4:Int) (v5:(List Int)) (v6:Bool):ST:=⟨45,[op 2,op 3,op 4],[bc 2 [.int .i64 v1,.sl (.int .u32) true v2,.bool v3],bc 3 [.int .i64 v4,.sl (.int .u32) true v5,.bool v6],bc 4 [.int .i64 (0:Int),.sl (.int .u32) true [],.bool false]]⟩
def A1b (v:Int×(List Int)×Bool×Int×(List Int)×Bool):ST:=⟨45,[op 2,op 3,op 4],[bc 2 [.int .i64 v.1,.sl (.int .u32) true v.2.1,.bool v.2.2.1],bc 3 [.int .i64 v.2.2.2.1,.sl (.int .u32) true v.2.2.2.2.1,.bool v.2.2.2.2.2],bc 4 [.int .i64 (0:Int),.sl (.int .u32) true [],.bool false]]⟩
def Bxj (a0:A4) (a1:A4):ST:=⟨45,[og 0 (Bw a0),og 1 (Bw a1)],[]⟩
theorem Bvo (G:Bs Km P) {y} (E:A8f C F y) (v:Int×Int) o (h:Azh v.1 v.2=some o) (L:LP Km P C F Bay Bjd (GX Km P C F B4q Bt7) o):Bv Km P C F Bay (Bjd v):=by
 unfold Azh at h
 rcases Aj h with⟨b4,h⟩|⟨b4,h⟩
 ·obtain⟨c4,h⟩:=A8 h
  exact sg G [r0,bt,r0,en] (e2 b4 c4) (L.1 _ (si h))
 ·exact sg G [r0,bf,au] (e1 b4) (L.2 _ (si h))
theorem Bbe (G:Bs Km P) {y o v1 v2 v3 v4 v5 v6} (E:A8f C F y) (h:Aj4 v1 v2 v3 v4 v5 v6=some o) (L:LP Km P C F Akd A1b (Sum.elim (GX Km P C F Bsj Bcc) (RX y)) o):Bv Km P C F B3g (By8 v1 v2 v3 v4 v5 v6):=by
 unfold Aj4 at h
 obtain⟨y4,c5,h⟩:=bind_some h
 exact sg G [rc 2 (rt (.nm 13) (.nm 13) y4),r0,en] (e1 (cb c5)) (L.1 _ (si h))
theorem Bt0 (G:Bs Km P) {y} (E:A8f C F y) (v:Int×(List Int)×Bool×Int×(List Int)×Bool) o (h:Ayv v.1 v.2.1 v.2.2.1 v.2.2.2.1 v.2.2.2.2.1 v.2.2.2.2.2=some o) (L:LP Km P C F Akd A1b (Sum.elim (GX Km P C F Bsj Bcc) (RX y)) o):Bv Km P C F Akd (A1b v):=by
 unfold Ayv at h
 obtain⟨y3,c3,h⟩:=bind_some h
 rcases Aj h with⟨b1,h⟩|⟨b1,h⟩
 ·rcases Aj h with⟨b2,h⟩|⟨b2,h⟩
  ·rcases Aj h with⟨b3,h⟩|⟨b3,h⟩
   ·obtain⟨r1,hi,h⟩:=bind_some h
    refine sg G [rc 1 (rs (.int .i64) y3),bt,ru [3,7],bt,r0,en] (q2 (ca c3) b1<|ar 4 b2<|e1 b3) (lg (Bvo G E) hi ?_)
    have e:_=y:=L.2 _ (si h);subst e
    exact se G E [r0,au] tt
   ·exact sg G [rc 1 (rs (.int .i64) y3),bt,ru [3,7],bf,au] (q2 (ca c3) b1<|ar 4 b2<|e1 b3) (Bbe G E h L)
  ·exact sg G [rc 1 (rs (.int .i64) y3),bt,rf [3,7],bf,au] (q2 (ca c3) b1<|ar 4 b2<|e1 rF) (Bbe G E h L)
 ·exact sg G [rc 1 (rs (.int .i64) y3),bf,au] (e2 (ca c3) b1) (L.2 _ (si h))
theorem B4b (G:Bs Km P) {y a0 a1} (E:A8f C F y) (h:A2q a0 a1=some y):Bv Km P C F Bsv (Bxj a0 a1):=by
 unfold A2q at h
 obtain⟨y1,c1,h⟩:=bind_some h
 obtain⟨y2,c2,h⟩:=bind_some h
 obtain⟨r,hi,h⟩:=bind_some h
 refine sg G [r0,.reg [(1,rs (.nm 13) y1),(3,rs (.nm 13) y2)],en] (e2 (ca c1) (ca c2)) (lg (Bt0 G E) hi ?_)
 rcases r with r2|r3
 ·have e:=sj h;subst e
  exact se G E [r0,au] tt
 ·exact sj h
theorem Bof:MT 276 A9h:=show E1 Km _ _ _ from mt (fn:=Tryz.f276) (S:=λ x=>Bxj x.1 x.2.1) (GB ⟨R9,Ayz,Bk3,trivial⟩ trivial) λ G _ _ _ _=>B4b G
noncomputable abbrev Ri:Env:=EV [(274,T0),(275,Ad1),(276,A9h),(277,Ar4)] [] false
noncomputable def Biw:=c0 Tryz.f252
noncomputable def Ad2:FS yeE:=f1 [(.nm 13),(.nm 13)] (.nm 14) λ x=>Oi x.1 x.2.1
noncomputable def Bjr:=ct [0,0,3,0,4] Biw
noncomputable def Bjt:=ct [0,0,3,4] Bjr
noncomputable def B0m:=ct [0,0,4] Bjt
abbrev Aw5 (C:Ctx) (F:FT) (y:B7):Prop:=En Ri C F Tryz.f252 Ad2 (y,())
def Btg (v7:Int) (v8:(List Int)) (v9:Bool) (v10:Int) (v11:(List Int)) (v12:Bool):ST:=⟨39,[op 2,op 3,op 4],[bc 2 [.int .i64 v7,.sl (.int .u32) true v8,.bool v9],bc 3 [.int .i64 v10,.sl (.int .u32) true v11,.bool v12],bc 4 [.int .i64 (0:Int),.sl (.int .u32) true [],.bool false,.int .i64 (0:Int),.sl (.int .u32) true [],.bool false]]⟩
def Bvw (v1:Int) (v2:(List Int)) (v3:Bool) (v4:Int) (v5:(List Int)) (v6:Bool) (y4:A4):ST:=⟨39,[op 2,op 3,op 4,op 5],[bc 2 [.int .i64 v1,.sl (.int .u32) true v2,.bool v3],bc 3 [.int .i64 v4,.sl (.int .u32) true v5,.bool v6],bc 4 [.int .i64 (0:Int),.sl (.int .u32) true [],.bool false,.int .i64 (0:Int),.sl (.int .u32) true [],.bool false],bc 5 (Bw y4)]⟩
def Bt5 (v1:Int) (v2:(List Int)) (v3:Bool) (v4:Int) (v5:(List Int)) (v6:Bool):ST:=⟨39,[op 2,op 3,op 4],[bc 2 [.int .i64 v1,.sl (.int .u32) true v2,.bool v3],bc 3 [.int .i64 v4,.sl (.int .u32) true v5,.bool v6],bc 4 [.int .i64 (0:Int),.sl (.int .u32) true [],.bool false,.int .i64 (0:Int),.sl (.int .u32) true [],.bool false]]⟩
def Brw (a0:A4) (a1:A4):ST:=⟨39,[og 0 (Bw a0),og 1 (Bw a1)],[]⟩
theorem A4g (G:Bs Ri P) {y v7 v8 v9 v10 v11 v12} (E:Aw5 C F y) (h:Ad9 v7 v8 v9 v10 v11 v12=some y):Bv Ri P C F B0m (Btg v7 v8 v9 v10 v11 v12):=by
 unfold Ad9 at h
 have e:=sj h;subst e
 exact se G E [r0,au] tt
theorem A5o (G:Bs Ri P) {y v1 v2 v3 v4 v5 v6 y4} (E:Aw5 C F y) (h:Ad8 v1 v2 v3 v4 v5 v6 y4=some y):Bv Ri P C F Bjt (Bvw v1 v2 v3 v4 v5 v6 y4):=by
 unfold Ad8 at h
 obtain⟨y5,c5,h⟩:=bind_some h
 obtain⟨y6,c6,h⟩:=bind_some h
 exact sg G [rc 2 (rt (.nm 13) (.nm 13) y5),rc 2 (rt (.nm 13) (.nm 13) y6),au] (e2 (cb c5) (cb c6)) (A4g G E h)
theorem A34 (G:Bs Ri P) {y v1 v2 v3 v4 v5 v6} (E:Aw5 C F y) (h:Aeh v1 v2 v3 v4 v5 v6=some y):Bv Ri P C F Bjr (Bt5 v1 v2 v3 v4 v5 v6):=by
 unfold Aeh at h
 obtain⟨y4,c4,h⟩:=bind_some h
 rcases Aj h with⟨b2,h⟩|⟨b2,h⟩
 ·exact sg G [rc 2 (rs (.nm 13) y4),ru [3,7],bt,au] (q1 (ca c4)<|ar 4 b2<|e1 rT) (A5o G E h)
 ·rcases Aj h with⟨b3,h⟩|⟨b3,h⟩
  ·exact sg G [rc 2 (rs (.nm 13) y4),rf [3,7],bt,au] (q1 (ca c4)<|ar 4 b2<|e1 b3) (A5o G E h)
  ·exact sg G [rc 2 (rs (.nm 13) y4),rf [3,7],bf,au] (q1 (ca c4)<|ar 4 b2<|e1 b3) (A4g G E h)
theorem Byp (G:Bs Ri P) {y a0 a1} (E:Aw5 C F y) (h:Oi a0 a1=some y):Bv Ri P C F Biw (Brw a0 a1):=by
 unfold Oi at h
 obtain⟨y1,c1,h⟩:=bind_some h
 rcases Aj h with⟨b1,h⟩|⟨b1,h⟩
 ·obtain⟨y2,c2,h⟩:=bind_some h
  obtain⟨y3,c3,h⟩:=bind_some h
  exact sg G [r0,rc 1 (rs (.int .i64) y1),bt,.reg [(1,rs (.nm 13) y2),(3,rs (.nm 13) y3)],au] (e4 (ca c1) b1 (ca c2) (ca c3)) (A34 G E h)
 ·exact sg G [r0,rc 1 (rs (.int .i64) y1),bf,au] (e2 (ca c1) b1) (A34 G E h)
theorem Acp:MT 252 Ad2:=show E1 Ri _ _ _ from mt (fn:=Tryz.f252) (S:=λ x=>Brw x.1 x.2.1) (GB ⟨R9,Ace,Bof,Ayz,trivial⟩ trivial) λ G _ _ _ _=>Byp G
noncomputable abbrev Am4:Env:=EV [] [] false
noncomputable def Br7:=c0 Tryz.f287
noncomputable def Aqu:FS yeE:=f2 [(.int .u64),(.int .u64)] (.int .u64) (.int .u64) λ x=>Aej x.1 x.2.1
abbrev Btl (C:Ctx) (F:FT) (y:(Int×Int)):Prop:=En Am4 C F Tryz.f287 Aqu (y.1,y.2,())
def Bfs (a0:Int) (a1:Int):ST:=⟨51,[ol 0 (.int .u64 a0),ol 1 (.int .u64 a1)],[]⟩
theorem Bp1 (G:Bs Am4 P) {y a0 a1} (E:Btl C F y) (h:Aej a0 a1=some y):Bv Am4 P C F Br7 (Bfs a0 a1):=by
 unfold Aej at h
 obtain⟨c1,h⟩:=A8 h
 obtain⟨c2,h⟩:=A8 h
 obtain⟨c3,h⟩:=A8 h
 obtain⟨c4,h⟩:=A8 h
 obtain⟨c5,h⟩:=A8 h
 have e:=sj h;subst e
 exact se G E [r0,r0,r0,r0,r0,r0,r0,r0,r0,r0,r0,r0,au] (e5 c1 c2 c3 c4 c5)
theorem Bbl:MT 287 Aqu:=show E1 Am4 _ _ _ from mt (fn:=Tryz.f287) (S:=λ x=>Bfs x.1 x.2.1) (GB trivial trivial) λ G _ _ _ _=>Bp1 G
noncomputable abbrev F6:Env:=EV [(287,Aqu),(288,Un),(289,Ad5)] [] false
noncomputable def Bja:=c0 Tryz.f262
noncomputable def Ar6:FS yeE:=f1 [(.nm 13),(.nm 13)] (.nm 13) λ x=>U3 x.1 x.2.1
noncomputable def Bi6:=ct [0,0,3,0,0,3,0,4] Bja
noncomputable def Bil:=ct [0,3,0,4] Bi6
noncomputable def Bjy:=ct [0,0,2,4] Bil
noncomputable def Asx:=ct [0,0,0,0,1] Bjy
noncomputable def A3n:=ct [0,3,0,0,0,1] Asx
noncomputable def Bzr:=ct [0,2,4] A3n
noncomputable def B0l:=ct [0,2,4] Asx
abbrev Akf (C:Ctx) (F:FT) (y:A4):Prop:=En F6 C F Tryz.f262 Ar6 (y,())
def Boz (v3:Int) (y2:((List Int)×Bool)) (y3:((List Int)×Bool)) (r1:(Int×(List Int))):ST:=⟨139,[op 4,os 9 (.int .u32) y2.1,ol 10 (.bool y2.2),os 11 (.int .u32) y3.1,ol 12 (.bool y3.2),ol 13 (.ar 83 0),oi 14 v3,ol 15 (.int .u64 r1.1),oi 85 (y2.1.length:Int),oi 86 v3],[bc 4 [.int .i64 (0:Int),.sl (.int .u32) true [],.bool false],ba 83 259 (.int .u32) r1.2]⟩
def Bp0 (y2:((List Int)×Bool)) (y3:((List Int)×Bool)) (r2:(List Int)):ST:=⟨139,[op 4,ol 10 (.bool y2.2),ol 12 (.bool y3.2),ol 13 (.ar 83 0)],[bc 4 [.int .i64 (0:Int),.sl (.int .u32) true [],.bool false],ba 83 259 (.int .u32) r2]⟩
def Bec (v3:Int) (y2:((List Int)×Bool)) (y3:((List Int)×Bool)) (v:Int×Int×(List Int)):ST:=⟨139,[op 4,os 9 (.int .u32) y2.1,ol 10 (.bool y2.2),os 11 (.int .u32) y3.1,ol 12 (.bool y3.2),ol 13 (.ar 83 0),oi 14 v3,ol 15 (.int .u64 v.1),oi 85 (y2.1.length:Int),oi 86 v3,oi 90 (y3.1.length:Int),oi 91 v.2.1],[bc 4 [.int .i64 (0:Int),.sl (.int .u32) true [],.bool false],ba 83 259 (.int .u32) v.2.2]⟩
def Beu (y2:((List Int)×Bool)) (y3:((List Int)×Bool)) (v:Int×(List Int)):ST:=⟨139,[op 4,os 9 (.int .u32) y2.1,ol 10 (.bool y2.2),os 11 (.int .u32) y3.1,ol 12 (.bool y3.2),ol 13 (.ar 83 0),oi 85 (y2.1.length:Int),oi 86 v.1],[bc 4 [.int .i64 (0:Int),.sl (.int .u32) true [],.bool false],ba 83 259 (.int .u32) v.2]⟩
def Bti (a0:A4) (a1:A4):ST:=⟨139,[op 2,op 3,op 4],[bc 2 (Bw a0),bc 3 (Bw a1),bc 4 [.int .i64 (0:Int),.sl (.int .u32) true [],.bool false]]⟩
def Bue (a0:A4) (a1:A4) (v1:Int) (v2:Int):ST:=⟨139,[op 2,op 3,op 4,ol 5 (.int .u64 v1),ol 6 (.int .u64 v2)],[bc 2 (Bw a0),bc 3 (Bw a1),bc 4 [.int .i64 (0:Int),.sl (.int .u32) true [],.bool false]]⟩
def Bu2 (a0:A4) (a1:A4) (v1:Int):ST:=⟨139,[op 2,op 3,op 4,ol 5 (.int .u64 v1),ol 6 (.int .u64 (IntKind.wrap .u64 a1.v))],[bc 2 (Bw a0),bc 3 (Bw a1),bc 4 [.int .i64 (0:Int),.sl (.int .u32) true [],.bool false]]⟩
def Br9 (a0:A4) (a1:A4):ST:=⟨139,[og 0 (Bw a0),og 1 (Bw a1)],[]⟩
theorem Bqu (G:Bs F6 P) {y v3 y2 y3} (E:Akf C F y) (v:Int×Int×(List Int)) o (h:Aka v3 y2 y3 v.1 v.2.1 v.2.2=some o) (L:LP F6 P C F A3n (Bec v3 y2 y3) (GX F6 P C F Bzr (Boz v3 y2 y3)) o):Bv F6 P C F A3n (Bec v3 y2 y3 v):=by
 unfold Aka at h
 rcases Aj h with⟨b9,h⟩|⟨b9,h⟩
 ·obtain⟨c7,c8,c9,h⟩:=ns3 h
  obtain⟨c10,h⟩:=A8 h
  obtain⟨c11,h⟩:=A8 h
  exact sg G [r0,bt,r0,r0,r0,r0,r0,en] (e6 b9 c7 c8 c9 c10 c11) (L.1 _ (si h))
 ·exact sg G [r0,bf,au] (e1 b9) (L.2 _ (si h))
theorem Boj (G:Bs F6 P) {y y2 y3} (E:Akf C F y) (v:Int×(List Int)) o (h:Akp y2 y3 v.1 v.2=some o) (L:LP F6 P C F Asx (Beu y2 y3) (GX F6 P C F B0l (Bp0 y2 y3)) o):Bv F6 P C F Asx (Beu y2 y3 v):=by
 unfold Akp at h
 rcases Aj h with⟨b8,h⟩|⟨b8,h⟩
 ·obtain⟨r1,hi,h⟩:=bind_some h
  refine sg G [r0,bt,r0,r0,r0,en] (e1 b8) (lg (Bqu G E) hi ?_)
  obtain⟨c12,h⟩:=A8 h
  exact sg G [r0,r0,en] (e1 c12) (L.1 _ (si h))
 ·exact sg G [r0,bf,au] (e1 b8) (L.2 _ (si h))
theorem Ahz (G:Bs F6 P) {y a0 a1} (E:Akf C F y) (h:Ut a0 a1=some y):Bv F6 P C F Bjy (Bti a0 a1):=by
 unfold Ut at h
 obtain⟨y2,c2,h⟩:=bind_some h
 obtain⟨y3,c3,h⟩:=bind_some h
 obtain⟨c4,c5,c6,h⟩:=ns3 h
 obtain⟨r2,hi,h⟩:=bind_some h
 refine sg G [rc 1 (rt (.sl (.int .u32)) .bool y2),rc 1 (rt (.sl (.int .u32)) .bool y3),r0,r0,en] (e5 (cb c2) (cb c3) c4 c5 c6) (lg (Boj G E) hi ?_)
 obtain⟨y4,c13,h⟩:=bind_some h
 have e:=sj h;subst e
 exact se G E [rc 4 (rs (.nm 13) y4),au] (e1 (ca c13))
theorem A36 (G:Bs F6 P) {y a0 a1 v1 v2} (E:Akf C F y) (h:Ael a0 a1 v1 v2=some y):Bv F6 P C F Bil (Bue a0 a1 v1 v2):=by
 unfold Ael at h
 obtain⟨y1,c1,h⟩:=bind_some h
 rcases Aj h with⟨b5,h⟩|⟨b5,h⟩
 ·rcases Aj h with⟨b6,h⟩|⟨b6,h⟩
  ·rcases Aj h with⟨b7,h⟩|⟨b7,h⟩
   ·have e:=sj h;subst e
    exact se G E [rc 2 (rt (.int .u64) (.int .u64) y1),ru [2,5],bt,r0,bt,r0,au] (q1 (cb c1)<|ar 3 b5<|e2 b6 b7)
   ·have e:=sj h;subst e
    exact se G E [rc 2 (rt (.int .u64) (.int .u64) y1),ru [2,5],bt,r0,bf,r0,au] (q1 (cb c1)<|ar 3 b5<|e2 b6 b7)
  ·exact sg G [rc 2 (rt (.int .u64) (.int .u64) y1),ru [2,5],bf,au] (q1 (cb c1)<|ar 3 b5<|e1 b6) (Ahz G E h)
 ·exact sg G [rc 2 (rt (.int .u64) (.int .u64) y1),rf [2,5],bf,au] (q1 (cb c1)<|ar 3 b5<|e1 rF) (Ahz G E h)
theorem A4l (G:Bs F6 P) {y a0 a1 v1} (E:Akf C F y) (h:Ak2 a0 a1 v1=some y):Bv F6 P C F Bi6 (Bu2 a0 a1 v1):=by
 unfold Ak2 at h
 rcases Aj h with⟨b4,h⟩|⟨b4,h⟩
 ·exact sg G [r0,bt,r0,au] (e1 b4) (A36 G E h)
 ·exact sg G [r0,bf,au] (e1 b4) (A36 G E h)
theorem Bze (G:Bs F6 P) {y a0 a1} (E:Akf C F y) (h:U3 a0 a1=some y):Bv F6 P C F Bja (Br9 a0 a1):=by
 unfold U3 at h
 rcases Aj h with⟨b1,h⟩|⟨b1,h⟩
 ·rcases Aj h with⟨b2,h⟩|⟨b2,h⟩
  ·rcases Aj h with⟨b3,h⟩|⟨b3,h⟩
   ·exact sg G [r0,ru [3,7],bt,r0,r0,bt,r0,au] (ar 4 b1<|e2 b2 b3) (A4l G E h)
   ·exact sg G [r0,ru [3,7],bt,r0,r0,bf,au] (ar 4 b1<|e2 b2 b3) (A4l G E h)
  ·exact sg G [r0,ru [3,7],bf,au] (ar 4 b1<|e1 b2) (Ahz G E h)
 ·exact sg G [r0,rf [3,7],bf,au] (ar 4 b1<|e1 rF) (Ahz G E h)
theorem Azq:MT 262 Ar6:=show E1 F6 _ _ _ from mt (fn:=Tryz.f262) (S:=λ x=>Br9 x.1 x.2.1) (GB ⟨Bbl,Wy,Adp,trivial⟩ trivial) λ G _ _ _ _=>Bze G
end
end Go.Ab
