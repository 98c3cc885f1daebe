/- The functions compute what the plain functions tell. Conditions: none beyond those that each theorem names. -/
import Derived.Test.YtgngflkahbpecaaGreatDoorP24
namespace Go.Ab
open Go Go.Proofs
set_option linter.unusedVariables false
section
variable {P:Program} {C:Ctx} {F:FT}
noncomputable abbrev Dn:Env:=EV [] [] false
noncomputable def Aud:=c0 Tryz.f298
noncomputable def Ajm:FS yeE:=f1 [(.sl (.int .u32)),(.sl (.int .u32))] (.sl (.int .u32)) λ x=>Up x.1 x.2.1
noncomputable def Auk:=ct [0,0,3,0,4] Aud
noncomputable def Rj:=ct [0,0,0,1] Auk
noncomputable def Bhl:=ct [0,3,0,0,0,3,0,4] Rj
noncomputable def At3:=ct [0,2,4] Rj
abbrev Acg (C:Ctx) (F:FT) (y:(List Int)):Prop:=En Dn C F Tryz.f298 Ajm (y,())
def Ans (r1:(Int×(List Int))):ST:=⟨56,[ol 5 (.ar 19 0),ol 6 (.int .u64 r1.1)],[ba 19 259 (.int .u32) r1.2]⟩
def Bd7 (v1:(List Int)) (v2:(List Int)) (v4:Int) (v5:(List Int)) (v6:Int):ST:=⟨56,[os 0 (.int .u32) v1,os 1 (.int .u32) v2,ol 5 (.ar 19 0),ol 8 (.int .u64 v6),oi 21 (v1.length:Int),oi 22 v4],[ba 19 259 (.int .u32) v5]⟩
def Aer (v1:(List Int)) (v2:(List Int)) (v:Int×Int×(List Int)):ST:=⟨56,[os 0 (.int .u32) v1,os 1 (.int .u32) v2,ol 5 (.ar 19 0),ol 6 (.int .u64 v.1),oi 21 (v1.length:Int),oi 22 v.2.1],[ba 19 259 (.int .u32) v.2.2]⟩
def Ba0 (v1:(List Int)) (v2:(List Int)):ST:=⟨56,[os 0 (.int .u32) v1,os 1 (.int .u32) v2],[]⟩
def Ax7 (a0:(List Int)) (a1:(List Int)):ST:=⟨56,[os 0 (.int .u32) a0,os 1 (.int .u32) a1],[]⟩
theorem Anl (G:Bs Dn P) {y o v1 v2 v4 v5 v6} (E:Acg C F y) (h:N3 v1 v2 v4 v5 v6=some o) (L:LP Dn P C F Rj (Aer v1 v2) (GX Dn P C F At3 Ans) o):Bv Dn P C F Bhl (Bd7 v1 v2 v4 v5 v6):=by
 unfold N3 at h
 obtain⟨c6,h⟩:=A8 h
 obtain⟨c7,h⟩:=A8 h
 exact sg G [r0,r0,r0,en,.weak [.re 19 19 0]] (e2 c6 c7) (L.1 _ (si h))
theorem A78 (G:Bs Dn P) {y v1 v2} (E:Acg C F y) (v:Int×Int×(List Int)) o (h:Yh v1 v2 v.1 v.2.1 v.2.2=some o) (L:LP Dn P C F Rj (Aer v1 v2) (GX Dn P C F At3 Ans) o):Bv Dn P C F Rj (Aer v1 v2 v):=by
 unfold Yh at h
 rcases Aj h with⟨b2,h⟩|⟨b2,h⟩
 ·obtain⟨c4,h⟩:=A8 h
  rcases Aj h with⟨b3,h⟩|⟨b3,h⟩
  ·obtain⟨c5,h⟩:=A8 h
   exact sg G [r0,bt,r0,r0,r0,bt,r0,au] (e4 b2 c4 b3 c5) (Anl G E h L)
  ·exact sg G [r0,bt,r0,r0,r0,bf,au] (e3 b2 c4 b3) (Anl G E h L)
 ·exact sg G [r0,bf,au] (e1 b2) (L.2 _ (si h))
theorem Aoj (G:Bs Dn P) {y v1 v2} (E:Acg C F y) (h:N8 v1 v2=some y):Bv Dn P C F Auk (Ba0 v1 v2):=by
 unfold N8 at h
 obtain⟨c1,c2,c3,h⟩:=ns3 h
 obtain⟨r1,hi,h⟩:=bind_some h
 refine sg G [r0,r0,r0,en] (e3 c1 c2 c3) (lg (A78 G E) hi ?_)
 obtain⟨c8,h⟩:=A8 h
 have e:=sj h;subst e
 exact se G E [r0,au,.weak [.fix (.slot 4)]] (e1 c8)
theorem Bge (G:Bs Dn P) {y a0 a1} (E:Acg C F y) (h:Up a0 a1=some y):Bv Dn P C F Aud (Ax7 a0 a1):=by
 unfold Up at h
 rcases Aj h with⟨b1,h⟩|⟨b1,h⟩
 ·exact sg G [r0,r0,bt,r0,au] (e1 b1) (Aoj G E h)
 ·exact sg G [r0,r0,bf,au] (e1 b1) (Aoj G E h)
theorem A0k:MT 298 Ajm:=show E1 Dn _ _ _ from mt (fn:=Tryz.f298) (S:=λ x=>Ax7 x.1 x.2.1) (GB trivial trivial) λ G _ _ _ _=>Bge G
noncomputable abbrev Cr:Env:=EV [] [] false
noncomputable def Aui:=c0 Tryz.f300
noncomputable def Aja:FS yeE:=f1 [(.sl (.int .u32)),(.sl (.int .u32))] (.sl (.int .u32)) λ x=>Pa x.1 x.2.1
noncomputable def N5:=ct [0,0,0,0,1] Aui
noncomputable def Auc:=ct [0,3,0,0,0,3,0,4] N5
noncomputable def Bgy:=ct [0,0,3,0,4] Auc
noncomputable def Ai8:=ct [0,2,4] N5
abbrev Adh (C:Ctx) (F:FT) (y:(List Int)):Prop:=En Cr C F Tryz.f300 Aja (y,())
def Aa6 (r1:(List Int)):ST:=⟨46,[ol 5 (.ar 11 0)],[ba 11 259 (.int .u32) r1]⟩
def Bdb (a0:(List Int)) (a1:(List Int)) (v2:Int) (v3:(List Int)) (v5:Int) (v6:Int):ST:=⟨46,[os 0 (.int .u32) a0,os 1 (.int .u32) a1,ol 5 (.ar 11 0),oi 6 v5,oi 8 v6,oi 13 (a0.length:Int),oi 14 v2],[ba 11 259 (.int .u32) v3]⟩
def Bc3 (a0:(List Int)) (a1:(List Int)) (v2:Int) (v3:(List Int)) (v4:Int):ST:=⟨46,[os 0 (.int .u32) a0,os 1 (.int .u32) a1,ol 5 (.ar 11 0),oi 8 v4,oi 13 (a0.length:Int),oi 14 v2],[ba 11 259 (.int .u32) v3]⟩
def Wu (a0:(List Int)) (a1:(List Int)) (v:Int×Int×(List Int)):ST:=⟨46,[os 0 (.int .u32) a0,os 1 (.int .u32) a1,ol 5 (.ar 11 0),oi 6 v.1,oi 13 (a0.length:Int),oi 14 v.2.1],[ba 11 259 (.int .u32) v.2.2]⟩
def Ayw (a0:(List Int)) (a1:(List Int)):ST:=⟨46,[os 0 (.int .u32) a0,os 1 (.int .u32) a1],[]⟩
theorem Aon (G:Bs Cr P) {y o a0 a1 v2 v3 v5 v6} (E:Adh C F y) (h:N4 a0 a1 v2 v3 v5 v6=some o) (L:LP Cr P C F N5 (Wu a0 a1) (GX Cr P C F Ai8 Aa6) o):Bv Cr P C F Bgy (Bdb a0 a1 v2 v3 v5 v6):=by
 unfold N4 at h
 obtain⟨c6,h⟩:=A8 h
 exact sg G [r0,r0,en,.weak [.re 11 11 0]] (e1 c6) (L.1 _ (si h))
theorem An7 (G:Bs Cr P) {y o a0 a1 v2 v3 v4} (E:Adh C F y) (h:No a0 a1 v2 v3 v4=some o) (L:LP Cr P C F N5 (Wu a0 a1) (GX Cr P C F Ai8 Aa6) o):Bv Cr P C F Auc (Bc3 a0 a1 v2 v3 v4):=by
 unfold No at h
 rcases Aj h with⟨b3,h⟩|⟨b3,h⟩
 ·exact sg G [r0,r0,bt,r0,au] (e1 b3) (Aon G E h L)
 ·exact sg G [r0,r0,bf,au] (e1 b3) (Aon G E h L)
theorem A7j (G:Bs Cr P) {y a0 a1} (E:Adh C F y) (v:Int×Int×(List Int)) o (h:Zd a0 a1 v.1 v.2.1 v.2.2=some o) (L:LP Cr P C F N5 (Wu a0 a1) (GX Cr P C F Ai8 Aa6) o):Bv Cr P C F N5 (Wu a0 a1 v):=by
 unfold Zd at h
 rcases Aj h with⟨b1,h⟩|⟨b1,h⟩
 ·obtain⟨c4,h⟩:=A8 h
  rcases Aj h with⟨b2,h⟩|⟨b2,h⟩
  ·obtain⟨c5,h⟩:=A8 h
   exact sg G [r0,bt,r0,r0,r0,bt,r0,au] (e4 b1 c4 b2 c5) (An7 G E h L)
  ·exact sg G [r0,bt,r0,r0,r0,bf,au] (e3 b1 c4 b2) (An7 G E h L)
 ·exact sg G [r0,bf,au] (e1 b1) (L.2 _ (si h))
theorem Bf7 (G:Bs Cr P) {y a0 a1} (E:Adh C F y) (h:Pa a0 a1=some y):Bv Cr P C F Aui (Ayw a0 a1):=by
 unfold Pa at h
 obtain⟨c1,c2,c3,h⟩:=ns3 h
 obtain⟨r1,hi,h⟩:=bind_some h
 refine sg G [r0,r0,r0,r0,en] (e3 c1 c2 c3) (lg (A7j G E) hi ?_)
 have e:=sj h;subst e
 exact se G E [r0,au,.weak [.fix (.slot 4)]] tt
theorem A3b:MT 300 Aja:=show E1 Cr _ _ _ from mt (fn:=Tryz.f300) (S:=λ x=>Ayw x.1 x.2.1) (GB trivial trivial) λ G _ _ _ _=>Bf7 G
noncomputable abbrev Ake:Env:=EV [(288,Un),(289,Ad5),(298,Ajm),(299,Yn),(300,Aja)] [] false
noncomputable def Bka:=c0 Tryz.f279
noncomputable def Asb:FS yeE:=f1 [(.nm 13),(.nm 13)] (.nm 13) λ x=>Amo x.1 x.2.1
noncomputable def Byy:=ct [0,0,3,0,0,2,4] Bka
abbrev Bqd (C:Ctx) (F:FT) (y:A4):Prop:=En Ake C F Tryz.f279 Asb (y,())
def Bt8 (a0:A4) (a1:A4):ST:=⟨65,[op 2,op 3,op 4],[bc 2 (Bw a0),bc 3 (Bw a1),bc 4 [.int .i64 (0:Int),.sl (.int .u32) true [],.bool false]]⟩
def Bop (a0:A4) (a1:A4):ST:=⟨65,[og 0 (Bw a0),og 1 (Bw a1)],[]⟩
theorem Ao8 (G:Bs Ake P) {y a0 a1} (E:Bqd C F y) (h:Xy a0 a1=some y):Bv Ake P C F Byy (Bt8 a0 a1):=by
 unfold Xy at h
 obtain⟨y1,c1,h⟩:=bind_some h
 obtain⟨y2,c2,h⟩:=bind_some h
 rcases Aj h with⟨b4,h⟩|⟨b4,h⟩
 ·obtain⟨y3,c3,h⟩:=bind_some h
  obtain⟨y4,c4,h⟩:=bind_some h
  have e:=sj h;subst e
  exact se G E [rc 1 (rt (.sl (.int .u32)) .bool y1),rc 1 (rt (.sl (.int .u32)) .bool y2),r0,bt,.reg [(2,rs (.sl (.int .u32)) y3),(4,rs (.nm 13) y4)],au] (e5 (cb c1) (cb c2) b4 (ca c3) (ca c4))
 ·obtain⟨y5,c5,h⟩:=bind_some h
  rcases Aj h with⟨b5,h⟩|⟨b5,h⟩
  ·obtain⟨y6,c6,h⟩:=bind_some h
   obtain⟨y7,c7,h⟩:=bind_some h
   have e:=sj h;subst e
   exact se G E [rc 1 (rt (.sl (.int .u32)) .bool y1),rc 1 (rt (.sl (.int .u32)) .bool y2),r0,bf,rc 2 (rs (.int .i64) y5),bt,.reg [(2,rs (.sl (.int .u32)) y6),(4,rs (.nm 13) y7)],au] (q6 (cb c1) (cb c2) b4 (ca c5) b5 (ca c6)<|e1 (ca c7))
  ·obtain⟨y8,c8,h⟩:=bind_some h
   obtain⟨y9,c9,h⟩:=bind_some h
   have e:=sj h;subst e
   exact se G E [rc 1 (rt (.sl (.int .u32)) .bool y1),rc 1 (rt (.sl (.int .u32)) .bool y2),r0,bf,rc 2 (rs (.int .i64) y5),bf,.reg [(2,rs (.sl (.int .u32)) y8),(4,rs (.nm 13) y9)],au] (q6 (cb c1) (cb c2) b4 (ca c5) b5 (ca c8)<|e1 (ca c9))
theorem Byv (G:Bs Ake P) {y a0 a1} (E:Bqd C F y) (h:Amo a0 a1=some y):Bv Ake P C F Bka (Bop a0 a1):=by
 unfold Amo at h
 rcases Aj h with⟨b1,h⟩|⟨b1,h⟩
 ·rcases Aj h with⟨b2,h⟩|⟨b2,h⟩
  ·rcases Aj h with⟨b3,h⟩|⟨b3,h⟩
   ·have e:=sj h;subst e
    exact se G E [r0,ru [3,7],bt,r0,r0,bt,r0,au] (ar 4 b1<|e2 b2 b3)
   ·exact sg G [r0,ru [3,7],bt,r0,r0,bf,au] (ar 4 b1<|e2 b2 b3) (Ao8 G E h)
  ·exact sg G [r0,ru [3,7],bf,au] (ar 4 b1<|e1 b2) (Ao8 G E h)
 ·exact sg G [r0,rf [3,7],bf,au] (ar 4 b1<|e1 rF) (Ao8 G E h)
theorem Azm:MT 279 Asb:=show E1 Ake _ _ _ from mt (fn:=Tryz.f279) (S:=λ x=>Bop x.1 x.2.1) (GB ⟨Wy,Adp,A0k,Ajx,A3b,trivial⟩ trivial) λ G _ _ _ _=>Byv G
noncomputable def Aac:FS yeE:=f1 [.str] (.nm 13) λ x=>Uu x.1
theorem B6x:GO (EX [(249,Aru),(262,Ar6),(279,Asb)] [(278,[],Aua)] []):=GF ⟨Ad3,Azq,Azm,trivial⟩ ⟨A3c,trivial⟩ trivial
section
variable (k:Kt B6x C F 39 [])
noncomputable def Bql:=c0 Tryz.f253
noncomputable def Aah:=ct [0,0,1,4] Bql
noncomputable def Ahj:=ct [0,3,0,0,0,0,1,4] Aah
noncomputable def A5r:=ct [0,2,4] Ahj
noncomputable def A37:=ct [0,2,4] Aah
abbrev B6q (y:A4):Prop:=Ez k Tryz.f253 Aac (y,())
abbrev Blc (v1:(List UInt8)) (v2:A4) (v3:A4):=Lz k Ahj (Mx v1 v2 v3) (Gz k A5r (Vt v1 v2 v3))
abbrev Amc:=Lz k Aah Qx (Gz k A37 Va)
theorem Bhv (v1:(List UInt8)) (v2:A4) (v3:A4):Ok k (Amc k) ⟨A5r,Vt v1 v2 v3,Ahm v1 v2 v3⟩:=pz k Au (.g (.g (.l (.c 0 [[]])))) λ _=>ac bk<|an
theorem Bht (v1:(List UInt8)) (v2:A4) (v3:A4):Ok k (Blc k v1 v2 v3) ⟨Ahj,Mx v1 v2 v3,Aie v1 v2 v3⟩:=pz k Au (.g (.b (.g (.g (.l (.c 0 [[]])))) (.c 1 [[]]))) λ _=>ac bk<|ac (xt id λ _ h=>h)<|an
theorem Bgr (v1:(List UInt8)) (v2:A4) (v3:A4):Ok k (Amc k) ⟨Ahj,Mx v1 v2 v3,λ v=>Option.bind (iter (Aie v1 v2 v3) v) (Ahm v1 v2 v3)⟩:=lz k (Bht k v1 v2 v3) (Bhv k v1 v2 v3)
theorem Bh8:Ok k (B6q k) ⟨A37,Va,Ahi⟩:=pz k (fz k Tryz.f253 Aac (λ y=>y.1) λ _ h=>h) (.g (.e [[]])) λ _=>an
theorem Bh3:Ok k (Amc k) ⟨Aah,Qx,Aha⟩:=pz k Au (.g (.b (.g (.g (.g (.g (.l (.c 0 [[]])))))) (.c 1 [[]]))) λ v=>ac (Bgr k v.1 v.2.1 v.2.2.1)<|ac (xt id λ _ h=>h)<|an
theorem Bg9:Ok k (B6q k) ⟨Aah,Qx,λ v=>Option.bind (iter Aha v) Ahi⟩:=lz k (Bh3 k) (Bh8 k)
end
theorem Baz:MT 253 Aac:=mz B6x 253 Tryz.f253 Aac [] (λ k=>Au) (.g (.g (.l (.c 0 [[]])))) λ k _=>ac (Bg9 k)<|an
noncomputable abbrev Ah7:Env:=EV [(274,T0)] [] false
noncomputable def Bmk:=c0 Tryz.f256
noncomputable def Alb:FS yeE:=f1 [(.nm 14)] .bool λ x=>X0 x.1
abbrev Bsb (C:Ctx) (F:FT) (y:Bool):Prop:=En Ah7 C F Tryz.f256 Alb (y,())
def A4p (a0:B7):ST:=⟨7,[og 0 (Ow a0)],[]⟩
theorem Bmd (G:Bs Ah7 P) {y a0} (E:Bsb C F y) (h:X0 a0=some y):Bv Ah7 P C F Bmk (A4p a0):=by
 unfold X0 at h
 obtain⟨y1,c1,h⟩:=bind_some h
 have e:=sj h;subst e
 exact se G E [r0,rc 2 (rs (.int .i64) y1),au] (e1 (ca c1))
theorem A7s:MT 256 Alb:=show E1 Ah7 _ _ _ from mt (fn:=Tryz.f256) (S:=λ x=>A4p x.1) (GB ⟨R9,trivial⟩ trivial) λ G _ _ _ _=>Bmd G
noncomputable abbrev Ax6:Env:=EV [(275,Ad1)] [] false
noncomputable def Bz7:=c0 Tryz.f257
noncomputable def A3v:FS yeE:=f1 [(.nm 14)] (.nm 14) λ x=>Ar7 x.1
abbrev B3f (C:Ctx) (F:FT) (y:B7):Prop:=En Ax6 C F Tryz.f257 A3v (y,())
def Bpk (a0:B7):ST:=⟨9,[og 0 (Ow a0)],[]⟩
theorem Bzu (G:Bs Ax6 P) {y a0} (E:B3f C F y) (h:Ar7 a0=some y):Bv Ax6 P C F Bz7 (Bpk a0):=by
 unfold Ar7 at h
 obtain⟨y1,c1,h⟩:=bind_some h
 have e:=sj h;subst e
 exact se G E [r0,rc 2 (rs (.nm 13) y1),au] (e1 (ca c1))
theorem Boc:MT 257 A3v:=show E1 Ax6 _ _ _ from mt (fn:=Tryz.f257) (S:=λ x=>Bpk x.1) (GB ⟨Ace,trivial⟩ trivial) λ G _ _ _ _=>Bzu G
noncomputable abbrev Aj6:Env:=EV [] [] false
noncomputable def Bi1:=c0 Tryz.f263
noncomputable def A3o:FS yeE:=f2 [(.nm 13),(.int .i64)] (.int .i64) .bool λ x=>Ala x.1 x.2.1
noncomputable def Bxy:=ct [0,0,3,4] Bi1
abbrev Boo (C:Ctx) (F:FT) (y:(Int×Bool)):Prop:=En Aj6 C F Tryz.f263 A3o (y.1,y.2,())
def Bt1:ST:=⟨24,[],[]⟩
def Br1 (a0:A4) (a1:Int):ST:=⟨24,[og 0 (Bw a0),oi 1 a1],[]⟩
theorem Apz (G:Bs Aj6 P) {y} (E:Boo C F y) (h:Aef=some y):Bv Aj6 P C F Bxy (Bt1):=by
 unfold Aef at h
 have e:=sj h;subst e
 exact se G E [r0,au] tt
theorem Byr (G:Bs Aj6 P) {y a0 a1} (E:Boo C F y) (h:Ala a0 a1=some y):Bv Aj6 P C F Bi1 (Br1 a0 a1):=by
 unfold Ala at h
 rcases Aj h with⟨b1,h⟩|⟨b1,h⟩
 ·exact sg G [r0,ru [3,8,9,15],bt,au] (ar 5 b1<|ar 7 rT<|tt) (Apz G E h)
 ·rcases Aj h with⟨b2,h⟩|⟨b2,h⟩
  ·exact sg G [r0,rb [3,8] [9,15],bt,au] (ar 5 b1<|ar 6 b2<|e1 rT) (Apz G E h)
  ·rcases Aj h with⟨b3,h⟩|⟨b3,h⟩
   ·exact sg G [r0,rf [3,8,9,15],bt,au] (ar 5 b1<|ar 6 b2<|e1 b3) (Apz G E h)
   ·have e:=sj h;subst e
    exact se G E [r0,rf [3,8,9,15],bf,r0,au] (ar 5 b1<|ar 6 b2<|e1 b3)
theorem Bko:MT 263 A3o:=show E1 Aj6 _ _ _ from mt (fn:=Tryz.f263) (S:=λ x=>Br1 x.1 x.2.1) (GB trivial trivial) λ G _ _ _ _=>Byr G
noncomputable abbrev Aj3:Env:=EV [(263,A3o)] [] false
noncomputable def Bjo:=c0 Tryz.f235
noncomputable def Aso:FS yeE:=f2 [(.nm 14)] (.nm 0) .bool λ x=>Alo x.1
noncomputable def Bz5:=ct [0,0,0,0,3,4] Bjo
abbrev Bq2 (C:Ctx) (F:FT) (y:(Bd×Bool)):Prop:=En Aj3 C F Tryz.f235 Aso (y.1,y.2,())
def Btu:ST:=⟨30,[op 2],[bc 2 [.int .i64 (0:Int),.int .i64 (0:Int)]]⟩
def Br2 (a0:B7):ST:=⟨30,[og 0 (Ow a0)],[]⟩
theorem A45 (G:Bs Aj3 P) {y} (E:Bq2 C F y) (h:Akg=some y):Bv Aj3 P C F Bz5 (Btu):=by
 unfold Akg at h
 have e:=sj h;subst e
 exact se G E [r0,au] tt
theorem Bx3 (G:Bs Aj3 P) {y a0} (E:Bq2 C F y) (h:Alo a0=some y):Bv Aj3 P C F Bjo (Br2 a0):=by
 unfold Alo at h
 obtain⟨y1,c1,h⟩:=bind_some h
 obtain⟨y2,c2,h⟩:=bind_some h
 rcases Aj h with⟨b1,h⟩|⟨b1,h⟩
 ·exact sg G [r0,rc 2 (rt (.int .i64) .bool y1),rc 2 (rt (.int .i64) .bool y2),ru [2,5],bt,au] (q2 (cb c1) (cb c2)<|ar 3 b1<|e1 rT) (A45 G E h)
 ·rcases Aj h with⟨b2,h⟩|⟨b2,h⟩
  ·exact sg G [r0,rc 2 (rt (.int .i64) .bool y1),rc 2 (rt (.int .i64) .bool y2),rf [2,5],bt,au] (q2 (cb c1) (cb c2)<|ar 3 b1<|e1 b2) (A45 G E h)
  ·have e:=sj h;subst e
   exact se G E [r0,rc 2 (rt (.int .i64) .bool y1),rc 2 (rt (.int .i64) .bool y2),rf [2,5],bf,r0,au] (q2 (cb c1) (cb c2)<|ar 3 b1<|e1 b2)
theorem A0c:MT 235 Aso:=show E1 Aj3 _ _ _ from mt (fn:=Tryz.f235) (S:=λ x=>Br2 x.1) (GB ⟨Bko,trivial⟩ trivial) λ G _ _ _ _=>Bx3 G
noncomputable def Ast:FS yeE:=f2 [(.nm 14)] (.nm 0) (.int .i64) λ x=>A8g x.1
theorem B7h:GO (EV [(235,Aso)] [] false):=GB ⟨A0c,trivial⟩ trivial
section
variable (k:Kt B7h C F 15 [])
end
theorem Bmi:MT 258 Ast:=mz B7h 258 Tryz.f258 Ast [] (λ k=>(fz k Tryz.f258 Ast (λ y=>(y.1,y.2.1)) λ _ h=>h)) (.g (.g (.g (.b (.g (.e [[]])) (.g (.e [[]])))))) λ k _=>an
noncomputable def Mw:FS yeE:=f2 [.str] (.nm 0) (.int .i64) λ x=>Ayq x.1
theorem B8s:GO (EV [(93,Jk),(201,Lw),(249,Aru),(250,Mm),(251,K7),(252,Ad2),(253,Aac),(254,Ju),(255,An8),(256,Alb),(257,A3v),(258,Ast)] [] false):=GB ⟨M5,Ao4,Ad3,Aow,Ay2,Acp,Baz,Akv,Av3,A7s,Boc,Bmi,trivial⟩ trivial
section
variable (k:Kt B8s C F 100 [])
noncomputable def Av2:=c0 Tryz.f227
noncomputable def Bu3:=ct [0,0,0,0,0,0,3,0,3,4] Av2
noncomputable def Btr:=ct [0,0,0,0,0,0,2,0,3,0,0,3,4] Av2
noncomputable def Bce:=ct [0,0,0,0,0,0,3,0,2,0,4] Av2
noncomputable def Bu9:=ct [0,3,0,2,0,4] Bce
abbrev Bww (y:(Bd×Int)):Prop:=Ez k Tryz.f227 Mw (y.1,y.2,())
theorem Bl6:Ok k (Bww k) ⟨Bu3,A51,Agd⟩:=pz k (fz k Tryz.f227 Mw (λ y=>(y.1,y.2.1)) λ _ h=>h) (.g (.e [[]])) λ _=>an
theorem Bl8 (v4:Bd):Ok k (Bww k) ⟨Bu9,Aii v4,Aft v4⟩:=pz k (fz k Tryz.f227 Mw (λ y=>(y.1,y.2.1)) λ _ h=>h) (.g (.e [[]])) λ _=>an
theorem Bk6:Ok k (Bww k) ⟨Bce,A43,X9⟩:=pz k (fz k Tryz.f227 Mw (λ y=>(y.1,y.2.1)) λ _ h=>h) (.g (.b (.g (.b (.g (.e [[]])) (.g (.c 0 [[]])))) (.c 0 [[]]))) λ v=>ac (Bl8 k v.2.1)<|an
theorem Bne:Ok k (Bww k) ⟨Btr,A5c,Xm⟩:=pz k (fz k Tryz.f227 Mw (λ y=>(y.1,y.2.1)) λ _ h=>h) (.g (.e [[]])) λ _=>an
end
theorem Bha:MT 227 Mw:=mz B8s 227 Tryz.f227 Mw [] (λ k=>(fz k Tryz.f227 Mw (λ y=>(y.1,y.2.1)) λ _ h=>h)) (.g (.g (.g (.g (.g (.g (.b (.g (.b (.c 0 [[]]) (.g (.c 1 [[]])))) (.g (.b (.g (.g (.b (.c 2 [[]]) (.g (.c 1 [[]]))))) (.g (.b (.g (.e [[]])) (.g (.c 1 [[]]))))))))))))) λ k _=>ac (Bl6 k)<|ac (Bk6 k)<|ac (Bne k)<|an
noncomputable abbrev Bln:Env:=EV [(249,Aru)] [] false
noncomputable def B40:=c0 Tryz.f228
noncomputable def A8v:FS yeE:=f1 [(.nm 0)] (.nm 14) λ x=>Beo x.1
abbrev B9u (C:Ctx) (F:FT) (y:B7):Prop:=En Bln C F Tryz.f228 A8v (y,())
def B0x (a0:Bd):ST:=⟨10,[og 0 (Xt a0)],[]⟩
theorem B6g (G:Bs Bln P) {y a0} (E:B9u C F y) (h:Beo a0=some y):Bv Bln P C F B40 (B0x a0):=by
 unfold Beo at h
 obtain⟨y1,c1,h⟩:=bind_some h
 obtain⟨y2,c2,h⟩:=bind_some h
 have e:=sj h;subst e
 exact se G E [r0,.reg [(2,rs (.nm 13) y1),(5,rs (.nm 13) y2)],au] (e2 (ca c1) (ca c2))
theorem Bft:MT 228 A8v:=show E1 Bln _ _ _ from mt (fn:=Tryz.f228) (S:=λ x=>B0x x.1) (GB ⟨Ad3,trivial⟩ trivial) λ G _ _ _ _=>B6g G
noncomputable def Jo:FS yeE:=⟨[.str],[(.nm 14),.str,(.int .i64)],[],[],(B7×(List UInt8)×Int),λ x=>Ame x.1,λ r=>(r.1,r.2.1,r.2.2,())⟩
theorem B64:GO (EV [(93,Jk),(226,Ard),(227,Mw),(228,A8v)] [] false):=GB ⟨M5,Aps,Bha,Bft,trivial⟩ trivial
section
variable (k:Kt B64 C F 56 [])
noncomputable def Axv:=c0 Tryz.f191
noncomputable def Bn6:=ct [0,0,0,2,0,0,3,4] Axv
noncomputable def Aya:=ct [0,0,0,2,0,0,2,4] Axv
noncomputable def Blu:=ct [0,2,4] Aya
abbrev B4c (y:(B7×(List UInt8)×Int)):Prop:=Ez k Tryz.f191 Jo (y.1,y.2.1,y.2.2,())
theorem Bam:Ok k (B4c k) ⟨Bn6,Aup,Acq⟩:=pz k (fz k Tryz.f191 Jo (λ y=>(y.1,y.2.1,y.2.2.1)) λ _ h=>h) (.g (.e [[]])) λ _=>an
theorem A9r (v3:(List UInt8)) (v4:Int) (v5:B7) (v6:Bd):Ok k (B4c k) ⟨Blu,Zb v3 v4 v5 v6,Vf v3 v4 v5 v6⟩:=pz k (fz k Tryz.f191 Jo (λ y=>(y.1,y.2.1,y.2.2.1)) λ _ h=>h) (.g (.b (.g (.e [[]])) (.g (.e [[]])))) λ _=>an
theorem Bex:Ok k (B4c k) ⟨Aya,Ato,Vr⟩:=pz k (fz k Tryz.f191 Jo (λ y=>(y.1,y.2.1,y.2.2.1)) λ _ h=>h) (.g (.b (.g (.e [[]])) (.c 0 [[]]))) λ v=>ac (A9r k v.2.1 v.2.2.1 v.2.2.2.1 v.2.2.2.2.1)<|an
end
theorem A6m:MT 191 Jo:=mz B64 191 Tryz.f191 Jo [] (λ k=>(fz k Tryz.f191 Jo (λ y=>(y.1,y.2.1,y.2.2.1)) λ _ h=>h)) (.g (.g (.g (.b (.g (.e [[]])) (.g (.g (.b (.c 0 [[]]) (.c 1 [[]])))))))) λ k _=>ac (Bam k)<|ac (Bex k)<|an
noncomputable def Wv:FS yeE:=f1 [(.int .u8)] .bool λ x=>P9 x.1
theorem B82:GO (EV [] [] false):=GB trivial trivial
section
variable (k:Kt B82 C F 17 [])
end
theorem Azv:MT 229 Wv:=mz B82 229 Tryz.f229 Wv [] (λ k=>(fz k Tryz.f229 Wv (λ y=>y.1) λ _ h=>h)) (.g (.g (.e [[]]))) λ k _=>an
noncomputable def Ke:FS yeE:=⟨[.str,(.int .i64)],[(.sl (.nm 15)),.bool],[],[[(251,0)],[(0,0)]],((List Bm)×Bool),λ x=>Zr x.1 x.2.1,λ r=>(r.1,r.2,())⟩
theorem B8h:GO (EV [(163,Ld),(229,Wv)] [] false):=GB ⟨W5,Azv,trivial⟩ trivial
section
variable (k:Kt B8h C F 78 [])
noncomputable def Bg8:=c0 Tryz.f192
noncomputable def Sf:=ct [0,0,0,1,4] Bg8
noncomputable def Yp:=ct [0,3,0,0,1,4] Sf
noncomputable def Ajl:=ct [0,2,4] Yp
noncomputable def Ajd:=ct [0,0,0,2,0,3,0,3,0,4] Ajl
noncomputable def Bgo:=ct [0,3,4] Ajd
noncomputable def Bf0:=ct [0,2,0,4] Ajd
noncomputable def At2:=ct [0,2,4] Sf
abbrev B4j (y:((List Bm)×Bool)):Prop:=Ez k Tryz.f192 Ke (y.1,y.2,())
abbrev Be6 (a1:Int) (v1:(List (List UInt8))) (v2:Int) (v3:Int):=Lz k Yp (Io a1 v1 v2 v3) (Gz k Ajl (La a1 v1 v2 v3))
abbrev K3 (a1:Int):=Lz k Sf (Ds a1) (Sum.elim (Gz k At2 Gy) (B4j k))
theorem A6p (a1:Int):Ok k (K3 k a1) ⟨Bgo,Ap4,N9 a1⟩:=pz k (fz k Tryz.f192 Ke (λ y=> .inr (.inr (y.1,y.2.1))) λ y h=>h.2 (.inr (y.1,y.2.1)) rfl) (.g (.e [[.own (.slot 4) 0 5000000 251 0]])) λ _=>an
theorem An6 (a1:Int) (v1:(List (List UInt8))) (v2:Int) (v3:Int):Ok k (K3 k a1) ⟨Bf0,V6 a1 v1 v2 v3,Sa a1 v1 v2 v3⟩:=pz k Au (.g (.g (.l (.c 0 [[.re 75 75 0]])))) λ _=>ac bk<|an
theorem A7g (a1:Int) (v1:(List (List UInt8))) (v2:Int) (v3:Int):Ok k (K3 k a1) ⟨Ajd,V0 a1 v1 v2 v3,Rh a1 v1 v2 v3⟩:=pz k Au (.g (.b (.c 0 [[]]) (.g (.c 1 [[]])))) λ _=>ac (A6p k a1)<|ac (An6 k a1 v1 v2 v3)<|an
theorem A6j (a1:Int) (v1:(List (List UInt8))) (v2:Int) (v3:Int):Ok k (K3 k a1) ⟨Ajl,La a1 v1 v2 v3,Se a1 v1 v2 v3⟩:=pz k (fz k Tryz.f192 Ke (λ y=> .inr (.inr (y.1,y.2.1))) λ y h=>h.2 (.inr (y.1,y.2.1)) rfl) (.g (.g (.g (.b (.g (.e [[.own (.slot 4) 0 5000000 251 0]])) (.g (.b (.g (.b (.g (.c 0 [[]])) (.c 0 [[]]))) (.c 1 [[]]))))))) λ _=>ac (A7g k a1 v1 v2 v3)<|ac (An6 k a1 v1 v2 v3)<|an
theorem A8d (a1:Int) (v1:(List (List UInt8))) (v2:Int) (v3:Int):Ok k (Be6 k a1 v1 v2 v3) ⟨Yp,Io a1 v1 v2 v3,Ys a1 v1 v2 v3⟩:=pz k Au (.g (.b (.g (.l (.c 0 [[]]))) (.c 1 [[]]))) λ _=>ac bk<|ac (xt id λ _ h=>h)<|an
theorem A6i (a1:Int) (v1:(List (List UInt8))) (v2:Int) (v3:Int):Ok k (K3 k a1) ⟨Yp,Io a1 v1 v2 v3,λ v=>Option.bind (iter (Ys a1 v1 v2 v3) v) (Se a1 v1 v2 v3)⟩:=lz k (A8d k a1 v1 v2 v3) (A6j k a1 v1 v2 v3)
theorem A6b:Ok k (B4j k) ⟨At2,Gy,H8⟩:=pz k (fz k Tryz.f192 Ke (λ y=>(y.1,y.2.1)) λ _ h=>h) (.g (.e [[]])) λ _=>an
theorem A7f (a1:Int):Ok k (K3 k a1) ⟨Sf,Ds a1,Y7 a1⟩:=pz k Au (.g (.b (.g (.g (.l (.c 0 [[]])))) (.c 1 [[]]))) λ v=>ac (A6i k a1 v.1 v.2.1 v.2.2.1)<|ac (xt Sum.inl λ _ h=>h)<|an
theorem A7t (a1:Int):Ok k (B4j k) ⟨Sf,Ds a1,λ v=>Option.bind (iter (Y7 a1) v) (Sum.elim H8 (λ y=>some y))⟩:=lz k (A7f k a1) (xs (A6b k) xr)
end
theorem A18:MT 192 Ke:=mz B8h 192 Tryz.f192 Ke [] (λ k=>Au) (.g (.g (.g (.l (.c 0 [[.own (.slot 6) 0 75 251 0]]))))) λ k x=>ac (A7t k x.2.1)<|an
noncomputable def Az2:FS yeE:=f1 [(.nm 12)] (.nm 16) λ x=>Bdv x.1
theorem B7d:GO (EV [(228,A8v)] [] false):=GB ⟨Bft,trivial⟩ trivial
section
variable (k:Kt B7d C F 9 [])
end
theorem Bq1:MT 231 Az2:=mz B7d 231 Tryz.f231 Az2 [] (λ k=>(fz k Tryz.f231 Az2 (λ y=>y.1) λ _ h=>h)) (.g (.g (.e [[]]))) λ k _=>an
noncomputable def As6:FS yeE:=f1 [(.int .i64),(.int .i64)] (.nm 14) λ x=>Asd x.1 x.2.1
theorem B75:GO (EV [(249,Aru),(252,Ad2)] [] false):=GB ⟨Ad3,Acp,trivial⟩ trivial
section
variable (k:Kt B75 C F 10 [])
end
theorem Bn4:MT 260 As6:=mz B75 260 Tryz.f260 As6 [] (λ k=>(fz k Tryz.f260 As6 (λ y=>y.1) λ _ h=>h)) (.g (.g (.e [[]]))) λ k _=>an
noncomputable def Ac9:FS yeE:=f2 [(.int .u8)] (.nm 14) .bool λ x=>Alk x.1
theorem B8v:GO (EV [(226,Ard),(260,As6)] [] false):=GB ⟨Aps,Bn4,trivial⟩ trivial
section
variable (k:Kt B8v C F 24 [])
end
theorem A8a:MT 232 Ac9:=mz B8v 232 Tryz.f232 Ac9 [] (λ k=>(fz k Tryz.f232 Ac9 (λ y=>(y.1,y.2.1)) λ _ h=>h)) (.g (.g (.g (.b (.g (.e [[]])) (.g (.b (.g (.e [[]])) (.g (.b (.g (.e [[]])) (.g (.b (.g (.e [[]])) (.g (.b (.g (.e [[]])) (.g (.b (.g (.e [[]])) (.g (.e [[]])))))))))))))))) λ k _=>an
noncomputable abbrev Aye:Env:=EV [(275,Ad1),(279,Asb)] [] false
noncomputable def Byo:=c0 Tryz.f304
noncomputable def A0m:FS yeE:=f1 [(.nm 13),(.nm 13)] (.nm 13) λ x=>Asf x.1 x.2.1
abbrev B0z (C:Ctx) (F:FT) (y:A4):Prop:=En Aye C F Tryz.f304 A0m (y,())
def Bor (a0:A4) (a1:A4):ST:=⟨9,[og 0 (Bw a0),og 1 (Bw a1)],[]⟩
theorem Bzq (G:Bs Aye P) {y a0 a1} (E:B0z C F y) (h:Asf a0 a1=some y):Bv Aye P C F Byo (Bor a0 a1):=by
 unfold Asf at h
 obtain⟨y1,c1,h⟩:=bind_some h
 obtain⟨y2,c2,h⟩:=bind_some h
 have e:=sj h;subst e
 exact se G E [r0,.reg [(2,rs (.nm 13) y1),(3,rs (.nm 13) y2)],au] (e2 (ca c1) (ca c2))
theorem Bm8:MT 304 A0m:=show E1 Aye _ _ _ from mt (fn:=Tryz.f304) (S:=λ x=>Bor x.1 x.2.1) (GB ⟨Ace,Azm,trivial⟩ trivial) λ G _ _ _ _=>Bzq G
noncomputable abbrev Aj8:Env:=EV [(274,T0),(304,A0m)] [] false
noncomputable def Bjv:=c0 Tryz.f286
noncomputable def A22:FS yeE:=f1 [(.nm 13),(.nm 13)] (.int .i64) λ x=>Ar9 x.1 x.2.1
noncomputable def Bz0:=ct [0,0,2,4] Bjv
abbrev Bo6 (C:Ctx) (F:FT) (y:Int):Prop:=En Aj8 C F Tryz.f286 A22 (y,())
def Bto (a0:A4) (a1:A4):ST:=⟨29,[op 2,op 3],[bc 2 (Bw a0),bc 3 (Bw a1)]⟩
def Bq5 (a0:A4) (a1:A4):ST:=⟨29,[og 0 (Bw a0),og 1 (Bw a1)],[]⟩
theorem A4v (G:Bs Aj8 P) {y a0 a1} (E:Bo6 C F y) (h:Aei a0 a1=some y):Bv Aj8 P C F Bz0 (Bto a0 a1):=by
 unfold Aei at h
 obtain⟨y1,c1,h⟩:=bind_some h
 obtain⟨y2,c2,h⟩:=bind_some h
 have e:=sj h;subst e
 exact se G E [.reg [(2,rs (.nm 13) y1),(3,rs (.int .i64) y2)],au] (e2 (ca c1) (ca c2))
theorem Bx1 (G:Bs Aj8 P) {y a0 a1} (E:Bo6 C F y) (h:Ar9 a0 a1=some y):Bv Aj8 P C F Bjv (Bq5 a0 a1):=by
 unfold Ar9 at h
 rcases Aj h with⟨b1,h⟩|⟨b1,h⟩
 ·rcases Aj h with⟨b2,h⟩|⟨b2,h⟩
  ·rcases Aj h with⟨b3,h⟩|⟨b3,h⟩
   ·have e:=sj h;subst e
    exact se G E [r0,ru [3,7],bt,r0,bt,r0,au] (ar 4 b1<|e2 b2 b3)
   ·rcases Aj h with⟨b4,h⟩|⟨b4,h⟩
    ·have e:=sj h;subst e
     exact se G E [r0,ru [3,7],bt,r0,bf,r0,bt,r0,au] (ar 4 b1<|e3 b2 b3 b4)
    ·have e:=sj h;subst e
     exact se G E [r0,ru [3,7],bt,r0,bf,r0,bf,r0,au] (ar 4 b1<|e3 b2 b3 b4)
  ·exact sg G [r0,ru [3,7],bf,au] (ar 4 b1<|e1 b2) (A4v G E h)
 ·exact sg G [r0,rf [3,7],bf,au] (ar 4 b1<|e1 rF) (A4v G E h)
theorem Bmn:MT 286 A22:=show E1 Aj8 _ _ _ from mt (fn:=Tryz.f286) (S:=λ x=>Bq5 x.1 x.2.1) (GB ⟨R9,Bm8,trivial⟩ trivial) λ G _ _ _ _=>Bx1 G
noncomputable abbrev Ale:Env:=EV [(249,Aru),(286,A22)] [] false
noncomputable def Bpt:=c0 Tryz.f261
noncomputable def Ap7:FS yeE:=f1 [(.nm 14)] .bool λ x=>Xq x.1
abbrev Bvi (C:Ctx) (F:FT) (y:Bool):Prop:=En Ale C F Tryz.f261 Ap7 (y,())
def Bdg (a0:B7):ST:=⟨8,[og 0 (Ow a0)],[]⟩
theorem Bq6 (G:Bs Ale P) {y a0} (E:Bvi C F y) (h:Xq a0=some y):Bv Ale P C F Bpt (Bdg a0):=by
 unfold Xq at h
 obtain⟨y1,c1,h⟩:=bind_some h
 obtain⟨y2,c2,h⟩:=bind_some h
 have e:=sj h;subst e
 exact se G E [r0,.reg [(2,rs (.nm 13) y1),(3,rs (.int .i64) y2)],au] (e2 (ca c1) (ca c2))
theorem Ba4:MT 261 Ap7:=show E1 Ale _ _ _ from mt (fn:=Tryz.f261) (S:=λ x=>Bdg x.1) (GB ⟨Ad3,Bmn,trivial⟩ trivial) λ G _ _ _ _=>Bq6 G
noncomputable abbrev Akx:Env:=EV [(252,Ad2),(261,Ap7),(262,Ar6)] [] false
noncomputable def Bje:=c0 Tryz.f233
noncomputable def Aj0:FS yeE:=f1 [(.nm 14),(.nm 14)] (.nm 14) λ x=>Aci x.1 x.2.1
noncomputable def Bzj:=ct [0,0,2,4] Bje
abbrev Bpa (C:Ctx) (F:FT) (y:B7):Prop:=En Akx C F Tryz.f233 Aj0 (y,())
def Bvl (a0:B7) (a1:B7):ST:=⟨30,[op 2,op 3,op 4],[bc 2 (Ow a0),bc 3 (Ow a1),bc 4 [.int .i64 (0:Int),.sl (.int .u32) true [],.bool false,.int .i64 (0:Int),.sl (.int .u32) true [],.bool false]]⟩
def Bo8 (a0:B7) (a1:B7):ST:=⟨30,[og 0 (Ow a0),og 1 (Ow a1)],[]⟩
theorem A4d (G:Bs Akx P) {y a0 a1} (E:Bpa C F y) (h:Asr a0 a1=some y):Bv Akx P C F Bzj (Bvl a0 a1):=by
 unfold Asr at h
 obtain⟨y4,c4,h⟩:=bind_some h
 obtain⟨y5,c5,h⟩:=bind_some h
 obtain⟨y6,c6,h⟩:=bind_some h
 have e:=sj h;subst e
 exact se G E [.reg [(4,rs (.nm 13) y4),(9,rs (.nm 13) y5),(10,rs (.nm 14) y6)],au] (e3 (ca c4) (ca c5) (ca c6))
theorem Bx8 (G:Bs Akx P) {y a0 a1} (E:Bpa C F y) (h:Aci a0 a1=some y):Bv Akx P C F Bje (Bo8 a0 a1):=by
 unfold Aci at h
 obtain⟨y1,c1,h⟩:=bind_some h
 rcases Aj h with⟨b1,h⟩|⟨b1,h⟩
 ·obtain⟨y2,c2,h⟩:=bind_some h
  rcases Aj h with⟨b2,h⟩|⟨b2,h⟩
  ·obtain⟨y3,c3,h⟩:=bind_some h
   have e:=sj h;subst e
   exact se G E [r0,rg [] [2,5] [(1,rs .bool y1),(4,rs .bool y2)],bt,rc 4 (rs (.nm 13) y3),au] (q6 (ca c1) b1 b1 (ca c2) b1 b2<|e1 (ca c3))
  ·exact sg G [r0,rg [] [2,5] [(1,rs .bool y1),(4,rs .bool y2)],bf,au] (e6 (ca c1) b1 b1 (ca c2) b1 b2) (A4d G E h)
 ·exact sg G [r0,rg [2,5] [] [(1,rs .bool y1)],bf,au] (q1 (ca c1)<|ar 3 b1<|e1 rF) (A4d G E h)
theorem Amr:MT 233 Aj0:=show E1 Akx _ _ _ from mt (fn:=Tryz.f233) (S:=λ x=>Bo8 x.1 x.2.1) (GB ⟨Acp,Ba4,Azq,trivial⟩ trivial) λ G _ _ _ _=>Bx8 G
abbrev Bpb:List (Tk yeE):=[]
abbrev Bm4:List (Tk yeE):=[.S 0 false,.k (.mp 2),.M 2 .str (.nm 12)]
noncomputable def Ahv:FX yeE:=⟨Bpb,Bm4,(List ((List UInt8)×A7)),λ _=>Ak6,λ r=>(r,())⟩
theorem B8p:GO (EX [(259,Atr)] [] []):=GF ⟨A15,trivial⟩ trivial trivial
section
variable (k:Kt B8p C F 78 [])
end
theorem Bb5:MX 230 Ahv:=mw B8p 230 Tryz.f230 Ahv [] (λ k=>(fx k Tryz.f230 Ahv (λ y=>y.1) λ _ h=>h)) (.g (.g (.g (.e [[]])))) λ k _=>an
noncomputable def Us:FS yeE:=f2 [.str] (.nm 16) .bool λ x=>Asg x.1
theorem B7j:GO (EX [(231,Az2),(232,Ac9),(233,Aj0)] [(230,[],Ahv)] []):=GF ⟨Bq1,A8a,Amr,trivial⟩ ⟨Bb5,trivial⟩ trivial
section
variable (k:Kt B7j C F 74 [])
noncomputable def Bq4:=c0 Tryz.f193
noncomputable def Brd:=ct [0,0,0,0,2,0,2,0,0,0,3,4] Bq4
abbrev Cbl (y:(Bu×Bool)):Prop:=Ez k Tryz.f193 Us (y.1,y.2,())
theorem Bgm:Ok k (Cbl k) ⟨Brd,Ayt,Li⟩:=pz k (fz k Tryz.f193 Us (λ y=>(y.1,y.2.1)) λ _ h=>h) (.g (.e [[]])) λ _=>an
end
theorem A9n:MT 193 Us:=mz B7j 193 Tryz.f193 Us [] (λ k=>(fz k Tryz.f193 Us (λ y=>(y.1,y.2.1)) λ _ h=>h)) (.g (.g (.g (.g (.b (.g (.e [[]])) (.g (.b (.g (.e [[]])) (.g (.g (.g (.b (.c 0 [[]]) (.g (.g (.g (.e [[]]))))))))))))))) λ k _=>ac (Bgm k)<|an
noncomputable def Ak1 (R:Lb):FS yeE:=f1 [(.nm 14),(.int .i64)] (.nm 14) λ x=>R x.1 x.2.1
noncomputable def Bqs (R:Lb):FS yeE:=f1 [(.nm 14),(.int .i64)] (.nm 14) λ x=>Ayc R x.1 x.2.1
noncomputable abbrev B6p (R:Lb):Env:=EV [(234,Ak1 R),(226,Ard),(233,Aj0),(252,Ad2)] [] false
theorem Cbj {R:Lb} (hR:MT 234 (Ak1 R)):GO (B6p R):=GB ⟨hR,Aps,Amr,Acp,trivial⟩ trivial
section
variable {R:Lb} {G:GO (B6p R)} (k:Kt G C F 25 [])
noncomputable def Bs6:=c0 Tryz.f234
noncomputable def Am1:=ct [0,0,2,0,0,1,4] Bs6
noncomputable def Ber:=ct [0,2,4] Am1
abbrev B6t (y:B7):Prop:=Ez k Tryz.f234 (Bqs R) (y,())
abbrev Bo3 (a0:B7) (a1:Int):=Lz k Am1 (O6 a0 a1) (Gz k Ber Ag3)
theorem Bmb:Ok k (B6t k) ⟨Ber,Ag3,Al3 R⟩:=pz k (fz k Tryz.f234 (Bqs R) (λ y=>y.1) λ _ h=>h) (.g (.e [[]])) λ _=>an
theorem Bn7 (a0:B7) (a1:Int):Ok k (Bo3 k a0 a1) ⟨Am1,O6 a0 a1,Alg R a0 a1⟩:=pz k Au (.g (.b (.g (.g (.l (.c 0 [[]])))) (.c 1 [[]]))) λ _=>ac bk<|ac (xt id λ _ h=>h)<|an
theorem Bnu (a0:B7) (a1:Int):Ok k (B6t k) ⟨Am1,O6 a0 a1,λ v=>Option.bind (iter (Alg R a0 a1) v) (Al3 R)⟩:=lz k (Bn7 k a0 a1) (Bmb k)
end
theorem Bgf {R:Lb} (hR:MT 234 (Ak1 R)):MT 234 (Bqs R):=mz (Cbj hR) 234 Tryz.f234 (Bqs R) [] (λ k=>(fz k Tryz.f234 (Bqs R) (λ y=>y.1) λ _ h=>h)) (.g (.g (.b (.g (.e [[]])) (.g (.g (.l (.c 0 [[]]))))))) λ k x=>ac (Bnu k x.1 x.2.1)<|an
theorem A93:∀k,MT 234 (Ak1 (Aed k))
 |0=>m0 (fn:=Tryz.f234) λ _=>rfl
 |k+1=>Bgf (A93 k)
noncomputable def Bkg:FS yeE:=Ak1 A8t
theorem Bmx:MT 234 Bkg:=A93 3
noncomputable def Vw:FS yeE:=f1 [(.nm 16),(.nm 16),(.int .i64)] (.nm 16) λ x=>Adm x.1 x.2.1 x.2.2.1
theorem B8o:GO (EV [(233,Aj0),(234,Bkg)] [] false):=GB ⟨Amr,Bmx,trivial⟩ trivial
section
variable (k:Kt B8o C F 34 [])
end
theorem Ax9:MT 194 Vw:=mz B8o 194 Tryz.f194 Vw [] (λ k=>(fz k Tryz.f194 Vw (λ y=>y.1) λ _ h=>h)) (.g (.g (.l (.g (.b (.g (.g (.g (.l (.g (.b (.g (.g (.g (.l (.g (.b (.g (.g (.g (.l (.g (.b (.g (.g (.g (.l (.g (.b (.g (.g (.g (.l (.g (.b (.g (.g (.g (.l (.g (.b (.g (.g (.g (.l (.g (.b (.e []) (.g (.g (.e [[]]))))))))) (.e []))))))) (.e []))))))) (.e []))))))) (.e []))))))) (.e []))))))) (.e []))))))) (.e [])))))) λ k _=>an
noncomputable def V3:FS yeE:=f2 [(.nm 16)] (.nm 12) (.int .i64) λ x=>Am5 x.1
theorem B8i:GO (EV [(235,Aso)] [] false):=GB ⟨A0c,trivial⟩ trivial
section
variable (k:Kt B8i C F 36 [])
noncomputable def Bly:=c0 Tryz.f195
noncomputable def My:=ct [0,0,0,1,0,3,0,0,4] Bly
abbrev Bbk (y:(A7×Int)):Prop:=Ez k Tryz.f195 V3 (y.1,y.2,())
theorem Bbi (a0:Bu) (v2:A7) (v3:Bd):Ok k (Bbk k) ⟨My,Rv a0 v2 v3,V4 a0 v2 v3⟩:=pz k (fz k Tryz.f195 V3 (λ y=>(y.1,y.2.1)) λ _ h=>h) (.g (.l (.g (.b (.e []) (.g (.b (.g (.e [[]])) (.g (.e [[]])))))))) λ _=>an
theorem Bbm (a0:Bu) (v2:A7) (v3:Bd):Ok k (Bbk k) ⟨My,Sq a0 v2 v3,Xd a0 v2 v3⟩:=pz k Au (.g (.l (.g (.b (.g (.g (.c 0 [[]]))) (.e []))))) λ _=>ac (Bbi k a0 v2 v3)<|an
theorem Bcb (a0:Bu) (v2:A7) (v3:Bd):Ok k (Bbk k) ⟨My,So a0 v2 v3,U7 a0 v2 v3⟩:=pz k Au (.g (.l (.g (.b (.g (.g (.c 0 [[]]))) (.e []))))) λ _=>ac (Bbm k a0 v2 v3)<|an
theorem A86 (a0:Bu) (v2:A7) (v3:Bd):Ok k (Bbk k) ⟨My,Rt a0 v2 v3,V7 a0 v2 v3⟩:=pz k Au (.g (.l (.g (.b (.g (.g (.c 0 [[]]))) (.e []))))) λ _=>ac (Bcb k a0 v2 v3)<|an
theorem A9l (a0:Bu) (v2:A7) (v3:Bd):Ok k (Bbk k) ⟨My,Sk a0 v2 v3,Vy a0 v2 v3⟩:=pz k Au (.g (.l (.g (.b (.g (.g (.c 0 [[]]))) (.e []))))) λ _=>ac (A86 k a0 v2 v3)<|an
theorem Bd3 (a0:Bu) (v2:A7) (v3:Bd):Ok k (Bbk k) ⟨My,Sw a0 v2 v3,Vz a0 v2 v3⟩:=pz k Au (.g (.l (.g (.b (.g (.g (.c 0 [[]]))) (.e []))))) λ _=>ac (A9l k a0 v2 v3)<|an
theorem Bb3 (a0:Bu):Ok k (Bbk k) ⟨My,Ry a0,Vi a0⟩:=pz k Au (.g (.l (.g (.b (.g (.g (.c 0 [[]]))) (.e []))))) λ v=>ac (Bd3 k a0 v.2.1 v.2.2.1)<|an
end
theorem A7n:MT 195 V3:=mz B8i 195 Tryz.f195 V3 [] (λ k=>Au) (.g (.g (.g (.l (.g (.b (.g (.g (.c 0 [[]]))) (.e []))))))) λ k x=>ac (Bb3 k x.1)<|an
noncomputable def Lm:FS yeE:=f2 [.str] (.nm 12) (.int .i64) λ x=>Aem x.1
theorem B7o:GO (EV [(93,Jk),(191,Jo),(192,Ke),(193,Us),(194,Vw),(195,V3)] [] false):=GB ⟨M5,A6m,A18,A9n,Ax9,A7n,trivial⟩ trivial
section
variable (k:Kt B7o C F 96 [])
noncomputable def Bsi:=c0 Tryz.f162
noncomputable def A4b:=ct [0,0,2,0,0,2,0,0,0,3,0,0,2,0,4] Bsi
noncomputable def A4h:=ct [0,3,0,0,2,0,4] A4b
noncomputable def Z3:=ct [0,0,1,4] A4h
noncomputable def Bpr:=ct [0,3,0,0,0,2,0,3,0,4] Z3
noncomputable def A52:=ct [0,2,4] Z3
abbrev Brt (y:(A7×Int)):Prop:=Ez k Tryz.f162 Lm (y.1,y.2,())
abbrev Ayo (v1:Int) (v4:A7) (v7:(List Bm)):=Lz k Z3 (Jr v1 v4 v7) (Sum.elim (Gz k A52 (Qc v1 v4)) (Brt k))
theorem Bg1 (v1:Int) (v4:A7) (v7:(List Bm)) (v8:Int):Ok k (Ayo k v1 v4 v7) ⟨Bpr,Acm v1 v4 v7 v8,Ah2 v1 v4 v7 v8⟩:=pz k Au (.g (.l (.c 0 [[]]))) λ _=>ac bk<|an
theorem Bh7 (v1:Int) (v4:A7):Ok k (Brt k) ⟨A52,Qc v1 v4,Aij v1 v4⟩:=pz k (fz k Tryz.f162 Lm (λ y=>(y.1,y.2.1)) λ _ h=>h) (.g (.b (.g (.e [[]])) (.g (.e [[]])))) λ _=>an
theorem Bhy (v1:Int) (v4:A7) (v7:(List Bm)):Ok k (Ayo k v1 v4 v7) ⟨Z3,Jr v1 v4 v7,Aho v1 v4 v7⟩:=pz k (fz k Tryz.f162 Lm (λ y=> .inr (.inr (y.1,y.2.1))) λ y h=>h.2 (.inr (y.1,y.2.1)) rfl) (.g (.b (.g (.g (.g (.b (.g (.e [[]])) (.g (.b (.g (.c 0 [[]])) (.c 0 [[]]))))))) (.c 1 [[]]))) λ v=>ac (Bg1 k v1 v4 v7 v.1)<|ac (xt Sum.inl λ _ h=>h)<|an
theorem Bg0 (v1:Int) (v4:A7) (v7:(List Bm)):Ok k (Brt k) ⟨Z3,Jr v1 v4 v7,λ v=>Option.bind (iter (Aho v1 v4 v7) v) (Sum.elim (Aij v1 v4) (λ y=>some y))⟩:=lz k (Bhy k v1 v4 v7) (xs (Bh7 k v1 v4) xr)
theorem Big (v1:Int) (v4:A7) (v5:B7):Ok k (Brt k) ⟨A4h,Ack v1 v4 v5,Zt v1 v4 v5⟩:=pz k Au (.g (.g (.l (.c 0 [[]])))) λ v=>ac (Bg0 k v1 v4 v.1)<|an
theorem Bhm:Ok k (Brt k) ⟨A4b,Azb,Aaf⟩:=pz k (fz k Tryz.f162 Lm (λ y=>(y.1,y.2.1)) λ _ h=>h) (.g (.b (.g (.g (.b (.g (.e [[]])) (.g (.c 0 [[.re 44 44 0]]))))) (.c 0 [[]]))) λ v=>ac (Big k v.1 v.2.2.2.1 v.2.2.2.2.1)<|an
end
theorem Bcl:MT 162 Lm:=mz B7o 162 Tryz.f162 Lm [] (λ k=>(fz k Tryz.f162 Lm (λ y=>(y.1,y.2.1)) λ _ h=>h)) (.g (.g (.b (.g (.e [[]])) (.g (.g (.b (.g (.e [[]])) (.g (.g (.g (.b (.g (.g (.b (.g (.e [[]])) (.g (.c 0 [[]]))))) (.c 0 [[.own (.slot 7) 0 44 251 0]]))))))))))) λ k _=>ac (Bhm k)<|an
noncomputable def J1:FS yeE:=f1 [(.nm 4)] .bool λ x=>Ur x.1
theorem B78:GO (EV [(84,Nf),(144,K9),(145,Ih),(150,Nr),(162,Lm)] [] false):=GB ⟨T3,Vo,Ail,X8,Bcl,trivial⟩ trivial
section
variable (k:Kt B78 C F 98 [])
noncomputable def Atk:=c0 Tryz.f146
noncomputable def Bgz:=ct [0,0,0,3,4] Atk
noncomputable def Atz:=ct [0,0,0,2,4] Atk
noncomputable def Bg5:=ct [0,3,0,0,2,4] Atz
abbrev B0y (y:Bool):Prop:=Ez k Tryz.f146 J1 (y,())
theorem A7u:Ok k (B0y k) ⟨Bgz,Ap0,B8⟩:=pz k (fz k Tryz.f146 J1 (λ y=>y.1) λ _ h=>h) (.g (.e [[]])) λ _=>an
theorem A6n (a0:Ax):Ok k (B0y k) ⟨Bg5,Vk a0,R4 a0⟩:=pz k (fz k Tryz.f146 J1 (λ y=>y.1) λ _ h=>h) (.g (.b (.g (.e [[]])) (.g (.e [[]])))) λ _=>an
theorem A7h (a0:Ax):Ok k (B0y k) ⟨Atz,Vd a0,Sv a0⟩:=pz k (fz k Tryz.f146 J1 (λ y=>y.1) λ _ h=>h) (.g (.b (.g (.g (.b (.g (.e [[]])) (.c 0 [[]])))) (.c 0 [[]]))) λ _=>ac (A6n k a0)<|an
end
theorem A3m:MT 146 J1:=mz B78 146 Tryz.f146 J1 [] (λ k=>Au) (.g (.g (.g (.b (.c 0 [[]]) (.c 1 [[]]))))) λ k x=>ac (A7u k)<|ac (A7h k x.1)<|an
noncomputable def Kc:FS yeE:=f1 [.str] .bool λ x=>Ln x.1
theorem B6u:GO (EV [(84,Nf),(163,Ld)] [] false):=GB ⟨T3,W5,trivial⟩ trivial
section
variable (k:Kt B6u C F 56 [])
noncomputable def Bga:=c0 Tryz.f147
noncomputable def Ro:=ct [0,0,2,0,1,4] Bga
noncomputable def Bif:=ct [0,3,0,0,0,3,0,4] Ro
noncomputable def At1:=ct [0,2,4] Ro
abbrev B28 (y:Bool):Prop:=Ez k Tryz.f147 Kc (y,())
abbrev Arx:=Lz k Ro Lh (Sum.elim (Gz k At1 O1) (B28 k))
theorem A69 (v1:(List (List UInt8))) (v2:Int) (v3:Int):Ok k (Arx k) ⟨Bif,Gw v1 v2 v3,H4 v1 v2 v3⟩:=pz k (fz k Tryz.f147 Kc (λ y=> .inr (.inr y.1)) λ y h=>h.2 (.inr y.1) rfl) (.g (.b (.g (.e [[]])) (.g (.l (.c 0 [[]]))))) λ _=>ac bk<|an
theorem A54:Ok k (B28 k) ⟨At1,O1,Zo⟩:=pz k (fz k Tryz.f147 Kc (λ y=>y.1) λ _ h=>h) (.g (.e [[]])) λ _=>an
theorem A6t:Ok k (Arx k) ⟨Ro,Lh,Yk⟩:=pz k Au (.g (.b (.g (.g (.g (.b (.g (.c 0 [[]])) (.c 0 [[]]))))) (.c 1 [[]]))) λ v=>ac (A69 k v.1 v.2.1 v.2.2.1)<|ac (xt Sum.inl λ _ h=>h)<|an
theorem A8c:Ok k (B28 k) ⟨Ro,Lh,λ v=>Option.bind (iter Yk v) (Sum.elim Zo (λ y=>some y))⟩:=lz k (A6t k) (xs (A54 k) xr)
end
theorem A10:MT 147 Kc:=mz B6u 147 Tryz.f147 Kc [] (λ k=>(fz k Tryz.f147 Kc (λ y=>y.1) λ _ h=>h)) (.g (.g (.b (.g (.e [[]])) (.g (.l (.c 0 [[]])))))) λ k _=>ac (A8c k)<|an
end
end Go.Ab
