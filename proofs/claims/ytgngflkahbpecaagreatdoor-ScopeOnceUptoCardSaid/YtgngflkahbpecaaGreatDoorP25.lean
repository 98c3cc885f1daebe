/- The functions compute what the plain functions tell. Conditions: none beyond those that each theorem names. -/
import Derived.Test.YtgngflkahbpecaaGreatDoorP24
set_option linter.unusedSimpArgs false
namespace Go.Ab
open Go Go.Proofs
set_option linter.unusedVariables false
section
variable {P:Program} {C:Ctx} {F:FT}
noncomputable abbrev Dn:Env:=EV [] [] false
noncomputable def At5:=c0 Tryz.f298
noncomputable def Aix:FS yeE:=f1 [(.sl (.int .u32)),(.sl (.int .u32))] (.sl (.int .u32)) λ x=>Up x.1 x.2.1
noncomputable def Atz:=ct [0,0,3,0,4] At5
noncomputable def Sq:=ct [0,0,0,1] Atz
noncomputable def Bgb:=ct [0,3,0,0,0,3,0,4] Sq
noncomputable def At7:=ct [0,2,4] Sq
abbrev Acy (C:Ctx) (F:FT) (y:(List Int)):Prop:=En Dn C F Tryz.f298 Aix (y,())
def Anh (r1:(Int×(List Int))):ST:=⟨56,[ol 5 (.ar 19 0),ol 6 (.int .u64 r1.1)],[ba 19 259 (.int .u32) r1.2]⟩
def Bc9 (v1:(List Int)) (v2:(List Int)) (v4:Int) (v5:(List Int)) (v6:Int):ST:=⟨56,[os 0 (.int .u32) v1,os 1 (.int .u32) v2,ol 5 (.ar 19 0),ol 8 (.int .u64 v6),oi 21 (v1.length:Int),oi 22 v4],[ba 19 259 (.int .u32) v5]⟩
def Afo (v1:(List Int)) (v2:(List Int)) (v:Int×Int×(List Int)):ST:=⟨56,[os 0 (.int .u32) v1,os 1 (.int .u32) v2,ol 5 (.ar 19 0),ol 6 (.int .u64 v.1),oi 21 (v1.length:Int),oi 22 v.2.1],[ba 19 259 (.int .u32) v.2.2]⟩
def Bab (v1:(List Int)) (v2:(List Int)):ST:=⟨56,[os 0 (.int .u32) v1,os 1 (.int .u32) v2],[]⟩
def Ayx (a0:(List Int)) (a1:(List Int)):ST:=⟨56,[os 0 (.int .u32) a0,os 1 (.int .u32) a1],[]⟩
theorem An9 (G:Bs Dn P) {y o v1 v2 v4 v5 v6} (E:Acy C F y) (h:N5 v1 v2 v4 v5 v6=some o) (L:LP Dn P C F Sq (Afo v1 v2) (GX Dn P C F At7 Anh) o):Bv Dn P C F Bgb (Bc9 v1 v2 v4 v5 v6):=by
 unfold N5 at h
 obtain⟨c6,h⟩:=A8 h
 obtain⟨c7,h⟩:=A8 h
 exact sg G [r0,r0,r0,en,.weak [.re 19 19 0]] (e2 c6 c7) (L.1 _ (si h))
theorem A7q (G:Bs Dn P) {y v1 v2} (E:Acy C F y) (v:Int×Int×(List Int)) o (h:Yp v1 v2 v.1 v.2.1 v.2.2=some o) (L:LP Dn P C F Sq (Afo v1 v2) (GX Dn P C F At7 Anh) o):Bv Dn P C F Sq (Afo v1 v2 v):=by
 unfold Yp at h
 rcases Aj h with⟨b2,h⟩|⟨b2,h⟩
 ·obtain⟨c4,h⟩:=A8 h
  rcases Aj h with⟨b3,h⟩|⟨b3,h⟩
  ·obtain⟨c5,h⟩:=A8 h
   exact sg G [r0,bt,r0,r0,r0,bt,r0,au] (e4 b2 c4 b3 c5) (An9 G E h L)
  ·exact sg G [r0,bt,r0,r0,r0,bf,au] (e3 b2 c4 b3) (An9 G E h L)
 ·exact sg G [r0,bf,au] (e1 b2) (L.2 _ (si h))
theorem Aom (G:Bs Dn P) {y v1 v2} (E:Acy C F y) (h:N6 v1 v2=some y):Bv Dn P C F Atz (Bab v1 v2):=by
 unfold N6 at h
 obtain⟨c1,c2,c3,h⟩:=ns3 h
 obtain⟨r1,hi,h⟩:=bind_some h
 refine sg G [r0,r0,r0,en] (e3 c1 c2 c3) (lg (A7q G E) hi ?_)
 obtain⟨c8,h⟩:=A8 h
 have e:=sj h;subst e
 exact se G E [r0,au,.weak [.fix (.slot 4)]] (e1 c8)
theorem Bhj (G:Bs Dn P) {y a0 a1} (E:Acy C F y) (h:Up a0 a1=some y):Bv Dn P C F At5 (Ayx a0 a1):=by
 unfold Up at h
 rcases Aj h with⟨b1,h⟩|⟨b1,h⟩
 ·exact sg G [r0,r0,bt,r0,au] (e1 b1) (Aom G E h)
 ·exact sg G [r0,r0,bf,au] (e1 b1) (Aom G E h)
theorem A2f:MT 298 Aix:=show E1 Dn _ _ _ from mt (fn:=Tryz.f298) (S:=λ x=>Ayx x.1 x.2.1) (GB trivial trivial) λ G _ _ _ _=>Bhj G
noncomputable abbrev Cr:Env:=EV [] [] false
noncomputable def At2:=c0 Tryz.f300
noncomputable def Ajb:FS yeE:=f1 [(.sl (.int .u32)),(.sl (.int .u32))] (.sl (.int .u32)) λ x=>Pu x.1 x.2.1
noncomputable def N1:=ct [0,0,0,0,1] At2
noncomputable def At8:=ct [0,3,0,0,0,3,0,4] N1
noncomputable def Bg7:=ct [0,0,3,0,4] At8
noncomputable def Aio:=ct [0,2,4] N1
abbrev Ac8 (C:Ctx) (F:FT) (y:(List Int)):Prop:=En Cr C F Tryz.f300 Ajb (y,())
def Aa9 (r1:(List Int)):ST:=⟨46,[ol 5 (.ar 11 0)],[ba 11 259 (.int .u32) r1]⟩
def Ba7 (a0:(List Int)) (a1:(List Int)) (v2:Int) (v3:(List Int)) (v5:Int) (v6:Int):ST:=⟨46,[os 0 (.int .u32) a0,os 1 (.int .u32) a1,ol 5 (.ar 11 0),oi 6 v5,oi 8 v6,oi 13 (a0.length:Int),oi 14 v2],[ba 11 259 (.int .u32) v3]⟩
def Bcq (a0:(List Int)) (a1:(List Int)) (v2:Int) (v3:(List Int)) (v4:Int):ST:=⟨46,[os 0 (.int .u32) a0,os 1 (.int .u32) a1,ol 5 (.ar 11 0),oi 8 v4,oi 13 (a0.length:Int),oi 14 v2],[ba 11 259 (.int .u32) v3]⟩
def Wl (a0:(List Int)) (a1:(List Int)) (v:Int×Int×(List Int)):ST:=⟨46,[os 0 (.int .u32) a0,os 1 (.int .u32) a1,ol 5 (.ar 11 0),oi 6 v.1,oi 13 (a0.length:Int),oi 14 v.2.1],[ba 11 259 (.int .u32) v.2.2]⟩
def Ax9 (a0:(List Int)) (a1:(List Int)):ST:=⟨46,[os 0 (.int .u32) a0,os 1 (.int .u32) a1],[]⟩
theorem Ank (G:Bs Cr P) {y o a0 a1 v2 v3 v5 v6} (E:Ac8 C F y) (h:Nz a0 a1 v2 v3 v5 v6=some o) (L:LP Cr P C F N1 (Wl a0 a1) (GX Cr P C F Aio Aa9) o):Bv Cr P C F Bg7 (Ba7 a0 a1 v2 v3 v5 v6):=by
 unfold Nz at h
 obtain⟨c6,h⟩:=A8 h
 exact sg G [r0,r0,en,.weak [.re 11 11 0]] (e1 c6) (L.1 _ (si h))
theorem Aol (G:Bs Cr P) {y o a0 a1 v2 v3 v4} (E:Ac8 C F y) (h:No a0 a1 v2 v3 v4=some o) (L:LP Cr P C F N1 (Wl a0 a1) (GX Cr P C F Aio Aa9) o):Bv Cr P C F At8 (Bcq a0 a1 v2 v3 v4):=by
 unfold No at h
 rcases Aj h with⟨b3,h⟩|⟨b3,h⟩
 ·exact sg G [r0,r0,bt,r0,au] (e1 b3) (Ank G E h L)
 ·exact sg G [r0,r0,bf,au] (e1 b3) (Ank G E h L)
theorem A6l (G:Bs Cr P) {y a0 a1} (E:Ac8 C F y) (v:Int×Int×(List Int)) o (h:Ys a0 a1 v.1 v.2.1 v.2.2=some o) (L:LP Cr P C F N1 (Wl a0 a1) (GX Cr P C F Aio Aa9) o):Bv Cr P C F N1 (Wl a0 a1 v):=by
 unfold Ys at h
 rcases Aj h with⟨b1,h⟩|⟨b1,h⟩
 ·obtain⟨c4,h⟩:=A8 h
  rcases Aj h with⟨b2,h⟩|⟨b2,h⟩
  ·obtain⟨c5,h⟩:=A8 h
   exact sg G [r0,bt,r0,r0,r0,bt,r0,au] (e4 b1 c4 b2 c5) (Aol G E h L)
  ·exact sg G [r0,bt,r0,r0,r0,bf,au] (e3 b1 c4 b2) (Aol G E h L)
 ·exact sg G [r0,bf,au] (e1 b1) (L.2 _ (si h))
theorem Bgs (G:Bs Cr P) {y a0 a1} (E:Ac8 C F y) (h:Pu a0 a1=some y):Bv Cr P C F At2 (Ax9 a0 a1):=by
 unfold Pu at h
 obtain⟨c1,c2,c3,h⟩:=ns3 h
 obtain⟨r1,hi,h⟩:=bind_some h
 refine sg G [r0,r0,r0,r0,en] (e3 c1 c2 c3) (lg (A6l G E) hi ?_)
 have e:=sj h;subst e
 exact se G E [r0,au,.weak [.fix (.slot 4)]] tt
theorem A1n:MT 300 Ajb:=show E1 Cr _ _ _ from mt (fn:=Tryz.f300) (S:=λ x=>Ax9 x.1 x.2.1) (GB trivial trivial) λ G _ _ _ _=>Bgs G
noncomputable abbrev Akn:Env:=EV [(288,Ut),(289,Aek),(298,Aix),(299,Y0),(300,Ajb)] [] false
noncomputable def Bkm:=c0 Tryz.f279
noncomputable def Asn:FS yeE:=f1 [(.nm 13),(.nm 13)] (.nm 13) λ x=>Alw x.1 x.2.1
noncomputable def Byc:=ct [0,0,3,0,0,2,4] Bkm
abbrev Bqa (C:Ctx) (F:FT) (y:A4):Prop:=En Akn C F Tryz.f279 Asn (y,())
def Bt2 (a0:A4) (a1:A4):ST:=⟨65,[op 2,op 3,op 4],[bc 2 (Bw a0),bc 3 (Bw a1),bc 4 [.int .i64 (0:Int),.sl (.int .u32) true [],.bool false]]⟩
def Brm (a0:A4) (a1:A4):ST:=⟨65,[og 0 (Bw a0),og 1 (Bw a1)],[]⟩
theorem Apj (G:Bs Akn P) {y a0 a1} (E:Bqa C F y) (h:X5 a0 a1=some y):Bv Akn P C F Byc (Bt2 a0 a1):=by
 unfold X5 at h
 obtain⟨y1,c1,h⟩:=bind_some h
 obtain⟨y2,c2,h⟩:=bind_some h
 rcases Aj h with⟨b4,h⟩|⟨b4,h⟩
 ·obtain⟨y3,c3,h⟩:=bind_some h
  obtain⟨y4,c4,h⟩:=bind_some h
  have e:=sj h;subst e
  exact se G E [rc 1 (rt (.sl (.int .u32)) .bool y1),rc 1 (rt (.sl (.int .u32)) .bool y2),r0,bt,.reg [(2,rs (.sl (.int .u32)) y3),(4,rs (.nm 13) y4)],au] (e5 (cb c1) (cb c2) b4 (ca c3) (ca c4))
 ·obtain⟨y5,c5,h⟩:=bind_some h
  rcases Aj h with⟨b5,h⟩|⟨b5,h⟩
  ·obtain⟨y6,c6,h⟩:=bind_some h
   obtain⟨y7,c7,h⟩:=bind_some h
   have e:=sj h;subst e
   exact se G E [rc 1 (rt (.sl (.int .u32)) .bool y1),rc 1 (rt (.sl (.int .u32)) .bool y2),r0,bf,rc 2 (rs (.int .i64) y5),bt,.reg [(2,rs (.sl (.int .u32)) y6),(4,rs (.nm 13) y7)],au] (q6 (cb c1) (cb c2) b4 (ca c5) b5 (ca c6)<|e1 (ca c7))
  ·obtain⟨y8,c8,h⟩:=bind_some h
   obtain⟨y9,c9,h⟩:=bind_some h
   have e:=sj h;subst e
   exact se G E [rc 1 (rt (.sl (.int .u32)) .bool y1),rc 1 (rt (.sl (.int .u32)) .bool y2),r0,bf,rc 2 (rs (.int .i64) y5),bf,.reg [(2,rs (.sl (.int .u32)) y8),(4,rs (.nm 13) y9)],au] (q6 (cb c1) (cb c2) b4 (ca c5) b5 (ca c8)<|e1 (ca c9))
theorem Byg (G:Bs Akn P) {y a0 a1} (E:Bqa C F y) (h:Alw a0 a1=some y):Bv Akn P C F Bkm (Brm a0 a1):=by
 unfold Alw at h
 rcases Aj h with⟨b1,h⟩|⟨b1,h⟩
 ·rcases Aj h with⟨b2,h⟩|⟨b2,h⟩
  ·rcases Aj h with⟨b3,h⟩|⟨b3,h⟩
   ·have e:=sj h;subst e
    exact se G E [r0,ru [3,7],bt,r0,r0,bt,r0,au] (ar 4 b1<|e2 b2 b3)
   ·exact sg G [r0,ru [3,7],bt,r0,r0,bf,au] (ar 4 b1<|e2 b2 b3) (Apj G E h)
  ·exact sg G [r0,ru [3,7],bf,au] (ar 4 b1<|e1 b2) (Apj G E h)
 ·exact sg G [r0,rf [3,7],bf,au] (ar 4 b1<|e1 rF) (Apj G E h)
theorem Ayp:MT 279 Asn:=show E1 Akn _ _ _ from mt (fn:=Tryz.f279) (S:=λ x=>Brm x.1 x.2.1) (GB ⟨V3,Ady,A2f,Aks,A1n,trivial⟩ trivial) λ G _ _ _ _=>Byg G
noncomputable def Zu:FS yeE:=f1 [.str] (.nm 13) λ x=>Ul x.1
theorem B8h:GO (EX [(249,Aq1),(262,As2),(279,Asn)] [(278,[],Auq)] []):=GF ⟨Aee,Aym,Ayp,trivial⟩ ⟨A1k,trivial⟩ trivial
section
variable (k:Kt B8h C F 39 [])
noncomputable def Bq7:=c0 Tryz.f253
noncomputable def Aaa:=ct [0,0,1,4] Bq7
noncomputable def Ahi:=ct [0,3,0,0,0,0,1,4] Aaa
noncomputable def A4c:=ct [0,2,4] Ahi
noncomputable def A4q:=ct [0,2,4] Aaa
abbrev B8o (y:A4):Prop:=Ez k Tryz.f253 Zu (y,())
abbrev Boc (v1:(List UInt8)) (v2:A4) (v3:A4):=Lz k Ahi (Lt v1 v2 v3) (Gz k A4c (Vc v1 v2 v3))
abbrev Amn:=Lz k Aaa Qn (Gz k A4q Vp)
theorem Bhd (v1:(List UInt8)) (v2:A4) (v3:A4):Ok k (Amn k) ⟨A4c,Vc v1 v2 v3,Ahr v1 v2 v3⟩:=pz k Au (.g (.g (.l (.c 0 [[]])))) λ _=>ac bk<|an
theorem Bhw (v1:(List UInt8)) (v2:A4) (v3:A4):Ok k (Boc k v1 v2 v3) ⟨Ahi,Lt v1 v2 v3,Aii v1 v2 v3⟩:=pz k Au (.g (.b (.g (.g (.l (.c 0 [[]])))) (.c 1 [[]]))) λ _=>ac bk<|ac (xt id λ _ h=>h)<|an
theorem Bf6 (v1:(List UInt8)) (v2:A4) (v3:A4):Ok k (Amn k) ⟨Ahi,Lt v1 v2 v3,λ v=>Option.bind (iter (Aii v1 v2 v3) v) (Ahr v1 v2 v3)⟩:=lz k (Bhw k v1 v2 v3) (Bhd k v1 v2 v3)
theorem Bf9:Ok k (B8o k) ⟨A4q,Vp,Ahx⟩:=pz k (fz k Tryz.f253 Zu (λ y=>y.1) λ _ h=>h) (.g (.e [[]])) λ _=>an
theorem Bh1:Ok k (Amn k) ⟨Aaa,Qn,Ag1⟩:=pz k Au (.g (.b (.g (.g (.g (.g (.l (.c 0 [[]])))))) (.c 1 [[]]))) λ v=>ac (Bf6 k v.1 v.2.1 v.2.2.1)<|ac (xt id λ _ h=>h)<|an
theorem Bhh:Ok k (B8o k) ⟨Aaa,Qn,λ v=>Option.bind (iter Ag1 v) Ahx⟩:=lz k (Bh1 k) (Bf9 k)
end
theorem Bbk:MT 253 Zu:=mz B8h 253 Tryz.f253 Zu [] (λ k=>Au) (.g (.g (.l (.c 0 [[]])))) λ k _=>ac (Bhh k)<|an
noncomputable abbrev Ahv:Env:=EV [(274,T8)] [] false
noncomputable def Bmr:=c0 Tryz.f256
noncomputable def Alz:FS yeE:=f1 [(.nm 14)] .bool λ x=>Ya x.1
abbrev Bp9 (C:Ctx) (F:FT) (y:Bool):Prop:=En Ahv C F Tryz.f256 Alz (y,())
def A4s (a0:B6):ST:=⟨7,[og 0 (Pw a0)],[]⟩
theorem Bk9 (G:Bs Ahv P) {y a0} (E:Bp9 C F y) (h:Ya a0=some y):Bv Ahv P C F Bmr (A4s a0):=by
 unfold Ya at h
 obtain⟨y1,c1,h⟩:=bind_some h
 have e:=sj h;subst e
 exact se G E [r0,rc 2 (rs (.int .i64) y1),au] (e1 (ca c1))
theorem A7i:MT 256 Alz:=show E1 Ahv _ _ _ from mt (fn:=Tryz.f256) (S:=λ x=>A4s x.1) (GB ⟨Rl,trivial⟩ trivial) λ G _ _ _ _=>Bk9 G
noncomputable abbrev Axl:Env:=EV [(275,Ad4)] [] false
noncomputable def Byx:=c0 Tryz.f257
noncomputable def A2e:FS yeE:=f1 [(.nm 14)] (.nm 14) λ x=>Asl x.1
abbrev B00 (C:Ctx) (F:FT) (y:B6):Prop:=En Axl C F Tryz.f257 A2e (y,())
def Bqb (a0:B6):ST:=⟨9,[og 0 (Pw a0)],[]⟩
theorem Bzy (G:Bs Axl P) {y a0} (E:B00 C F y) (h:Asl a0=some y):Bv Axl P C F Byx (Bqb a0):=by
 unfold Asl at h
 obtain⟨y1,c1,h⟩:=bind_some h
 have e:=sj h;subst e
 exact se G E [r0,rc 2 (rs (.nm 13) y1),au] (e1 (ca c1))
theorem Bmx:MT 257 A2e:=show E1 Axl _ _ _ from mt (fn:=Tryz.f257) (S:=λ x=>Bqb x.1) (GB ⟨Ac1,trivial⟩ trivial) λ G _ _ _ _=>Bzy G
noncomputable abbrev Ako:Env:=EV [] [] false
noncomputable def Bj9:=c0 Tryz.f263
noncomputable def A3r:FS yeE:=f2 [(.nm 13),(.int .i64)] (.int .i64) .bool λ x=>Alr x.1 x.2.1
noncomputable def Bya:=ct [0,0,3,4] Bj9
abbrev Bo4 (C:Ctx) (F:FT) (y:(Int×Bool)):Prop:=En Ako C F Tryz.f263 A3r (y.1,y.2,())
def Bt9:ST:=⟨24,[],[]⟩
def Bpi (a0:A4) (a1:Int):ST:=⟨24,[og 0 (Bw a0),oi 1 a1],[]⟩
theorem Ar2 (G:Bs Ako P) {y} (E:Bo4 C F y) (h:Ad2=some y):Bv Ako P C F Bya (Bt9):=by
 unfold Ad2 at h
 have e:=sj h;subst e
 exact se G E [r0,au] tt
theorem Bz7 (G:Bs Ako P) {y a0 a1} (E:Bo4 C F y) (h:Alr a0 a1=some y):Bv Ako P C F Bj9 (Bpi a0 a1):=by
 unfold Alr at h
 rcases Aj h with⟨b1,h⟩|⟨b1,h⟩
 ·exact sg G [r0,ru [3,8,9,15],bt,au] (ar 5 b1<|ar 7 rT<|tt) (Ar2 G E h)
 ·rcases Aj h with⟨b2,h⟩|⟨b2,h⟩
  ·exact sg G [r0,rb [3,8] [9,15],bt,au] (ar 5 b1<|ar 6 b2<|e1 rT) (Ar2 G E h)
  ·rcases Aj h with⟨b3,h⟩|⟨b3,h⟩
   ·exact sg G [r0,rf [3,8,9,15],bt,au] (ar 5 b1<|ar 6 b2<|e1 b3) (Ar2 G E h)
   ·have e:=sj h;subst e
    exact se G E [r0,rf [3,8,9,15],bf,r0,au] (ar 5 b1<|ar 6 b2<|e1 b3)
theorem Blh:MT 263 A3r:=show E1 Ako _ _ _ from mt (fn:=Tryz.f263) (S:=λ x=>Bpi x.1 x.2.1) (GB trivial trivial) λ G _ _ _ _=>Bz7 G
noncomputable abbrev Aj1:Env:=EV [(263,A3r)] [] false
noncomputable def Bik:=c0 Tryz.f235
noncomputable def Asa:FS yeE:=f2 [(.nm 14)] (.nm 0) .bool λ x=>Amp x.1
noncomputable def By9:=ct [0,0,0,0,3,4] Bik
abbrev Bpz (C:Ctx) (F:FT) (y:(Bd×Bool)):Prop:=En Aj1 C F Tryz.f235 Asa (y.1,y.2,())
def Bu0:ST:=⟨30,[op 2],[bc 2 [.int .i64 (0:Int),.int .i64 (0:Int)]]⟩
def Bqq (a0:B6):ST:=⟨30,[og 0 (Pw a0)],[]⟩
theorem A5p (G:Bs Aj1 P) {y} (E:Bpz C F y) (h:Akk=some y):Bv Aj1 P C F By9 (Bu0):=by
 unfold Akk at h
 have e:=sj h;subst e
 exact se G E [r0,au] tt
theorem Bx2 (G:Bs Aj1 P) {y a0} (E:Bpz C F y) (h:Amp a0=some y):Bv Aj1 P C F Bik (Bqq a0):=by
 unfold Amp at h
 obtain⟨y1,c1,h⟩:=bind_some h
 obtain⟨y2,c2,h⟩:=bind_some h
 rcases Aj h with⟨b1,h⟩|⟨b1,h⟩
 ·exact sg G [r0,rc 2 (rt (.int .i64) .bool y1),rc 2 (rt (.int .i64) .bool y2),ru [2,5],bt,au] (q2 (cb c1) (cb c2)<|ar 3 b1<|e1 rT) (A5p G E h)
 ·rcases Aj h with⟨b2,h⟩|⟨b2,h⟩
  ·exact sg G [r0,rc 2 (rt (.int .i64) .bool y1),rc 2 (rt (.int .i64) .bool y2),rf [2,5],bt,au] (q2 (cb c1) (cb c2)<|ar 3 b1<|e1 b2) (A5p G E h)
  ·have e:=sj h;subst e
   exact se G E [r0,rc 2 (rt (.int .i64) .bool y1),rc 2 (rt (.int .i64) .bool y2),rf [2,5],bf,r0,au] (q2 (cb c1) (cb c2)<|ar 3 b1<|e1 b2)
theorem Azj:MT 235 Asa:=show E1 Aj1 _ _ _ from mt (fn:=Tryz.f235) (S:=λ x=>Bqq x.1) (GB ⟨Blh,trivial⟩ trivial) λ G _ _ _ _=>Bx2 G
noncomputable def As6:FS yeE:=f2 [(.nm 14)] (.nm 0) (.int .i64) λ x=>A83 x.1
theorem B8g:GO (EV [(235,Asa)] [] false):=GB ⟨Azj,trivial⟩ trivial
section
variable (k:Kt B8g C F 15 [])
end
theorem Bmu:MT 258 As6:=mz B8g 258 Tryz.f258 As6 [] (λ k=>(fz k Tryz.f258 As6 (λ y=>(y.1,y.2.1)) λ _ h=>h)) (.g (.g (.g (.b (.g (.e [[]])) (.g (.e [[]])))))) λ k _=>an
noncomputable def Ma:FS yeE:=f2 [.str] (.nm 0) (.int .i64) λ x=>Azk x.1
theorem B7a:GO (EV [(93,Jb),(201,Mh),(249,Aq1),(250,Me),(251,Lf),(252,Aeg),(253,Zu),(254,J0),(255,Aog),(256,Alz),(257,A2e),(258,As6)] [] false):=GB ⟨Nl,Aot,Aee,Ao5,Ayz,Adr,Bbk,Akm,Avi,A7i,Bmx,Bmu,trivial⟩ trivial
section
variable (k:Kt B7a C F 100 [])
noncomputable def Aus:=c0 Tryz.f227
noncomputable def Btz:=ct [0,0,0,0,0,0,3,0,3,4] Aus
noncomputable def Bs6:=ct [0,0,0,0,0,0,2,0,3,0,0,3,4] Aus
noncomputable def Be6:=ct [0,0,0,0,0,0,3,0,2,0,4] Aus
noncomputable def Btg:=ct [0,3,0,2,0,4] Be6
abbrev Bxm (y:(Bd×Int)):Prop:=Ez k Tryz.f227 Ma (y.1,y.2,())
theorem Boa:Ok k (Bxm k) ⟨Btz,A4n,Afr⟩:=pz k (fz k Tryz.f227 Ma (λ y=>(y.1,y.2.1)) λ _ h=>h) (.g (.e [[]])) λ _=>an
theorem Bld (v4:Bd):Ok k (Bxm k) ⟨Btg,Ahb v4,Afs v4⟩:=pz k (fz k Tryz.f227 Ma (λ y=>(y.1,y.2.1)) λ _ h=>h) (.g (.e [[]])) λ _=>an
theorem Bnd:Ok k (Bxm k) ⟨Be6,A5n,Xp⟩:=pz k (fz k Tryz.f227 Ma (λ y=>(y.1,y.2.1)) λ _ h=>h) (.g (.b (.g (.b (.g (.e [[]])) (.g (.c 0 [[]])))) (.c 0 [[]]))) λ v=>ac (Bld k v.2.1)<|an
theorem Bmy:Ok k (Bxm k) ⟨Bs6,A5j,Xn⟩:=pz k (fz k Tryz.f227 Ma (λ y=>(y.1,y.2.1)) λ _ h=>h) (.g (.e [[]])) λ _=>an
end
theorem Bh0:MT 227 Ma:=mz B7a 227 Tryz.f227 Ma [] (λ k=>(fz k Tryz.f227 Ma (λ y=>(y.1,y.2.1)) λ _ h=>h)) (.g (.g (.g (.g (.g (.g (.b (.g (.b (.c 0 [[]]) (.g (.c 1 [[]])))) (.g (.b (.g (.g (.b (.c 2 [[]]) (.g (.c 1 [[]]))))) (.g (.b (.g (.e [[]])) (.g (.c 1 [[]]))))))))))))) λ k _=>ac (Boa k)<|ac (Bnd k)<|ac (Bmy k)<|an
noncomputable abbrev Blr:Env:=EV [(249,Aq1)] [] false
noncomputable def B59:=c0 Tryz.f228
noncomputable def A8m:FS yeE:=f1 [(.nm 0)] (.nm 14) λ x=>A97 x.1
abbrev B88 (C:Ctx) (F:FT) (y:B6):Prop:=En Blr C F Tryz.f228 A8m (y,())
def B0t (a0:Bd):ST:=⟨10,[og 0 (Yd a0)],[]⟩
theorem B49 (G:Bs Blr P) {y a0} (E:B88 C F y) (h:A97 a0=some y):Bv Blr P C F B59 (B0t a0):=by
 unfold A97 at h
 obtain⟨y1,c1,h⟩:=bind_some h
 obtain⟨y2,c2,h⟩:=bind_some h
 have e:=sj h;subst e
 exact se G E [r0,.reg [(2,rs (.nm 13) y1),(5,rs (.nm 13) y2)],au] (e2 (ca c1) (ca c2))
theorem Bcy:MT 228 A8m:=show E1 Blr _ _ _ from mt (fn:=Tryz.f228) (S:=λ x=>B0t x.1) (GB ⟨Aee,trivial⟩ trivial) λ G _ _ _ _=>B49 G
noncomputable def Jo:FS yeE:=⟨[.str],[(.nm 14),.str,(.int .i64)],[],[],(B6×(List UInt8)×Int),λ x=>Alk x.1,λ r=>(r.1,r.2.1,r.2.2,())⟩
theorem B63:GO (EV [(93,Jb),(226,Arv),(227,Ma),(228,A8m)] [] false):=GB ⟨Nl,Ao7,Bh0,Bcy,trivial⟩ trivial
section
variable (k:Kt B63 C F 56 [])
noncomputable def Axn:=c0 Tryz.f191
noncomputable def Bky:=ct [0,0,0,2,0,0,3,4] Axn
noncomputable def Ax6:=ct [0,0,0,2,0,0,2,4] Axn
noncomputable def Bm9:=ct [0,2,4] Ax6
abbrev B0u (y:(B6×(List UInt8)×Int)):Prop:=Ez k Tryz.f191 Jo (y.1,y.2.1,y.2.2,())
theorem Bcl:Ok k (B0u k) ⟨Bky,Att,Ac9⟩:=pz k (fz k Tryz.f191 Jo (λ y=>(y.1,y.2.1,y.2.2.1)) λ _ h=>h) (.g (.e [[]])) λ _=>an
theorem A9j (v3:(List UInt8)) (v4:Int) (v5:B6) (v6:Bd):Ok k (B0u k) ⟨Bm9,Zj v3 v4 v5 v6,V8 v3 v4 v5 v6⟩:=pz k (fz k Tryz.f191 Jo (λ y=>(y.1,y.2.1,y.2.2.1)) λ _ h=>h) (.g (.b (.g (.e [[]])) (.g (.e [[]])))) λ _=>an
theorem Bah:Ok k (B0u k) ⟨Ax6,Aty,Vo⟩:=pz k (fz k Tryz.f191 Jo (λ y=>(y.1,y.2.1,y.2.2.1)) λ _ h=>h) (.g (.b (.g (.e [[]])) (.c 0 [[]]))) λ v=>ac (A9j k v.2.1 v.2.2.1 v.2.2.2.1 v.2.2.2.2.1)<|an
end
theorem A76:MT 191 Jo:=mz B63 191 Tryz.f191 Jo [] (λ k=>(fz k Tryz.f191 Jo (λ y=>(y.1,y.2.1,y.2.2.1)) λ _ h=>h)) (.g (.g (.g (.b (.g (.e [[]])) (.g (.g (.b (.c 0 [[]]) (.c 1 [[]])))))))) λ k _=>ac (Bcl k)<|ac (Bah k)<|an
noncomputable def U3:FS yeE:=f1 [(.int .u8)] .bool λ x=>P4 x.1
theorem B7r:GO (EV [] [] false):=GB trivial trivial
section
variable (k:Kt B7r C F 17 [])
end
theorem Axv:MT 229 U3:=mz B7r 229 Tryz.f229 U3 [] (λ k=>(fz k Tryz.f229 U3 (λ y=>y.1) λ _ h=>h)) (.g (.g (.e [[]]))) λ k _=>an
noncomputable def Kf:FS yeE:=⟨[.str,(.int .i64)],[(.sl (.nm 15)),.bool],[],[[(251,0)],[(0,0)]],((List Bm)×Bool),λ x=>Z2 x.1 x.2.1,λ r=>(r.1,r.2,())⟩
theorem B8d:GO (EV [(163,Kx),(229,U3)] [] false):=GB ⟨V7,Axv,trivial⟩ trivial
section
variable (k:Kt B8d C F 78 [])
noncomputable def Bhz:=c0 Tryz.f192
noncomputable def Sd:=ct [0,0,0,1,4] Bhz
noncomputable def Zb:=ct [0,3,0,0,1,4] Sd
noncomputable def Ai3:=ct [0,2,4] Zb
noncomputable def Aiz:=ct [0,0,0,2,0,3,0,3,0,4] Ai3
noncomputable def Bhv:=ct [0,3,4] Aiz
noncomputable def Bgq:=ct [0,2,0,4] Aiz
noncomputable def Auo:=ct [0,2,4] Sd
abbrev B3y (y:((List Bm)×Bool)):Prop:=Ez k Tryz.f192 Kf (y.1,y.2,())
abbrev Bbb (a1:Int) (v1:(List (List UInt8))) (v2:Int) (v3:Int):=Lz k Zb (Im a1 v1 v2 v3) (Gz k Ai3 (Kz a1 v1 v2 v3))
abbrev K7 (a1:Int):=Lz k Sd (Ds a1) (Sum.elim (Gz k Auo G0) (B3y k))
theorem A8a (a1:Int):Ok k (K7 k a1) ⟨Bhv,Ap8,N9 a1⟩:=pz k (fz k Tryz.f192 Kf (λ y=> .inr (.inr (y.1,y.2.1))) λ y h=>h.2 (.inr (y.1,y.2.1)) rfl) (.g (.e [[.own (.slot 4) 0 5000000 251 0]])) λ _=>an
theorem An5 (a1:Int) (v1:(List (List UInt8))) (v2:Int) (v3:Int):Ok k (K7 k a1) ⟨Bgq,Ve a1 v1 v2 v3,Sk a1 v1 v2 v3⟩:=pz k Au (.g (.g (.l (.c 0 [[.re 75 75 0]])))) λ _=>ac bk<|an
theorem A6b (a1:Int) (v1:(List (List UInt8))) (v2:Int) (v3:Int):Ok k (K7 k a1) ⟨Aiz,Wp a1 v1 v2 v3,Sy a1 v1 v2 v3⟩:=pz k Au (.g (.b (.c 0 [[]]) (.g (.c 1 [[]])))) λ _=>ac (A8a k a1)<|ac (An5 k a1 v1 v2 v3)<|an
theorem A6e (a1:Int) (v1:(List (List UInt8))) (v2:Int) (v3:Int):Ok k (K7 k a1) ⟨Ai3,Kz a1 v1 v2 v3,Rj a1 v1 v2 v3⟩:=pz k (fz k Tryz.f192 Kf (λ y=> .inr (.inr (y.1,y.2.1))) λ y h=>h.2 (.inr (y.1,y.2.1)) rfl) (.g (.g (.g (.b (.g (.e [[.own (.slot 4) 0 5000000 251 0]])) (.g (.b (.g (.b (.g (.c 0 [[]])) (.c 0 [[]]))) (.c 1 [[]]))))))) λ _=>ac (A6b k a1 v1 v2 v3)<|ac (An5 k a1 v1 v2 v3)<|an
theorem A7s (a1:Int) (v1:(List (List UInt8))) (v2:Int) (v3:Int):Ok k (Bbb k a1 v1 v2 v3) ⟨Zb,Im a1 v1 v2 v3,Yo a1 v1 v2 v3⟩:=pz k Au (.g (.b (.g (.l (.c 0 [[]]))) (.c 1 [[]]))) λ _=>ac bk<|ac (xt id λ _ h=>h)<|an
theorem A7e (a1:Int) (v1:(List (List UInt8))) (v2:Int) (v3:Int):Ok k (K7 k a1) ⟨Zb,Im a1 v1 v2 v3,λ v=>Option.bind (iter (Yo a1 v1 v2 v3) v) (Rj a1 v1 v2 v3)⟩:=lz k (A7s k a1 v1 v2 v3) (A6e k a1 v1 v2 v3)
theorem A7p:Ok k (B3y k) ⟨Auo,G0,H8⟩:=pz k (fz k Tryz.f192 Kf (λ y=>(y.1,y.2.1)) λ _ h=>h) (.g (.e [[]])) λ _=>an
theorem A8c (a1:Int):Ok k (K7 k a1) ⟨Sd,Ds a1,Y4 a1⟩:=pz k Au (.g (.b (.g (.g (.l (.c 0 [[]])))) (.c 1 [[]]))) λ v=>ac (A7e k a1 v.1 v.2.1 v.2.2.1)<|ac (xt Sum.inl λ _ h=>h)<|an
theorem A6r (a1:Int):Ok k (B3y k) ⟨Sd,Ds a1,λ v=>Option.bind (iter (Y4 a1) v) (Sum.elim H8 (λ y=>some y))⟩:=lz k (A8c k a1) (xs (A7p k) xr)
end
theorem A3q:MT 192 Kf:=mz B8d 192 Tryz.f192 Kf [] (λ k=>Au) (.g (.g (.g (.l (.c 0 [[.own (.slot 6) 0 75 251 0]]))))) λ k x=>ac (A6r k x.2.1)<|an
noncomputable def Awz:FS yeE:=f1 [(.nm 12)] (.nm 16) λ x=>Bfv x.1
theorem B8w:GO (EV [(228,A8m)] [] false):=GB ⟨Bcy,trivial⟩ trivial
section
variable (k:Kt B8w C F 9 [])
end
theorem Bqz:MT 231 Awz:=mz B8w 231 Tryz.f231 Awz [] (λ k=>(fz k Tryz.f231 Awz (λ y=>y.1) λ _ h=>h)) (.g (.g (.e [[]]))) λ k _=>an
noncomputable def Ast:FS yeE:=f1 [(.int .i64),(.int .i64)] (.nm 14) λ x=>As1 x.1 x.2.1
theorem B7y:GO (EV [(249,Aq1),(252,Aeg)] [] false):=GB ⟨Aee,Adr,trivial⟩ trivial
section
variable (k:Kt B7y C F 10 [])
end
theorem Bli:MT 260 Ast:=mz B7y 260 Tryz.f260 Ast [] (λ k=>(fz k Tryz.f260 Ast (λ y=>y.1) λ _ h=>h)) (.g (.g (.e [[]]))) λ k _=>an
noncomputable def Acp:FS yeE:=f2 [(.int .u8)] (.nm 14) .bool λ x=>Am5 x.1
theorem B7z:GO (EV [(226,Arv),(260,Ast)] [] false):=GB ⟨Ao7,Bli,trivial⟩ trivial
section
variable (k:Kt B7z C F 24 [])
end
theorem A54:MT 232 Acp:=mz B7z 232 Tryz.f232 Acp [] (λ k=>(fz k Tryz.f232 Acp (λ y=>(y.1,y.2.1)) λ _ h=>h)) (.g (.g (.g (.b (.g (.e [[]])) (.g (.b (.g (.e [[]])) (.g (.b (.g (.e [[]])) (.g (.b (.g (.e [[]])) (.g (.b (.g (.e [[]])) (.g (.b (.g (.e [[]])) (.g (.e [[]])))))))))))))))) λ k _=>an
noncomputable abbrev Axu:Env:=EV [(275,Ad4),(279,Asn)] [] false
noncomputable def Bzs:=c0 Tryz.f304
noncomputable def A0x:FS yeE:=f1 [(.nm 13),(.nm 13)] (.nm 13) λ x=>Asg x.1 x.2.1
abbrev B4v (C:Ctx) (F:FT) (y:A4):Prop:=En Axu C F Tryz.f304 A0x (y,())
def Bsg (a0:A4) (a1:A4):ST:=⟨9,[og 0 (Bw a0),og 1 (Bw a1)],[]⟩
theorem Bxx (G:Bs Axu P) {y a0 a1} (E:B4v C F y) (h:Asg a0 a1=some y):Bv Axu P C F Bzs (Bsg a0 a1):=by
 unfold Asg at h
 obtain⟨y1,c1,h⟩:=bind_some h
 obtain⟨y2,c2,h⟩:=bind_some h
 have e:=sj h;subst e
 exact se G E [r0,.reg [(2,rs (.nm 13) y1),(3,rs (.nm 13) y2)],au] (e2 (ca c1) (ca c2))
theorem Bn4:MT 304 A0x:=show E1 Axu _ _ _ from mt (fn:=Tryz.f304) (S:=λ x=>Bsg x.1 x.2.1) (GB ⟨Ac1,Ayp,trivial⟩ trivial) λ G _ _ _ _=>Bxx G
noncomputable abbrev Ajx:Env:=EV [(274,T8),(304,A0x)] [] false
noncomputable def Bju:=c0 Tryz.f286
noncomputable def A13:FS yeE:=f1 [(.nm 13),(.nm 13)] (.int .i64) λ x=>Asf x.1 x.2.1
noncomputable def By1:=ct [0,0,2,4] Bju
abbrev Bqw (C:Ctx) (F:FT) (y:Int):Prop:=En Ajx C F Tryz.f286 A13 (y,())
def Bum (a0:A4) (a1:A4):ST:=⟨29,[op 2,op 3],[bc 2 (Bw a0),bc 3 (Bw a1)]⟩
def Bqc (a0:A4) (a1:A4):ST:=⟨29,[og 0 (Bw a0),og 1 (Bw a1)],[]⟩
theorem A4k (G:Bs Ajx P) {y a0 a1} (E:Bqw C F y) (h:Ad8 a0 a1=some y):Bv Ajx P C F By1 (Bum a0 a1):=by
 unfold Ad8 at h
 obtain⟨y1,c1,h⟩:=bind_some h
 obtain⟨y2,c2,h⟩:=bind_some h
 have e:=sj h;subst e
 exact se G E [.reg [(2,rs (.nm 13) y1),(3,rs (.int .i64) y2)],au] (e2 (ca c1) (ca c2))
theorem B0l (G:Bs Ajx P) {y a0 a1} (E:Bqw C F y) (h:Asf a0 a1=some y):Bv Ajx P C F Bju (Bqc a0 a1):=by
 unfold Asf at h
 rcases Aj h with⟨b1,h⟩|⟨b1,h⟩
 ·rcases Aj h with⟨b2,h⟩|⟨b2,h⟩
  ·rcases Aj h with⟨b3,h⟩|⟨b3,h⟩
   ·have e:=sj h;subst e
    exact se G E [r0,ru [3,7],bt,r0,bt,r0,au] (ar 4 b1<|e2 b2 b3)
   ·rcases Aj h with⟨b4,h⟩|⟨b4,h⟩
    ·have e:=sj h;subst e
     exact se G E [r0,ru [3,7],bt,r0,bf,r0,bt,r0,au] (ar 4 b1<|e3 b2 b3 b4)
    ·have e:=sj h;subst e
     exact se G E [r0,ru [3,7],bt,r0,bf,r0,bf,r0,au] (ar 4 b1<|e3 b2 b3 b4)
  ·exact sg G [r0,ru [3,7],bf,au] (ar 4 b1<|e1 b2) (A4k G E h)
 ·exact sg G [r0,rf [3,7],bf,au] (ar 4 b1<|e1 rF) (A4k G E h)
theorem Bnh:MT 286 A13:=show E1 Ajx _ _ _ from mt (fn:=Tryz.f286) (S:=λ x=>Bqc x.1 x.2.1) (GB ⟨Rl,Bn4,trivial⟩ trivial) λ G _ _ _ _=>B0l G
noncomputable abbrev Al0:Env:=EV [(249,Aq1),(286,A13)] [] false
noncomputable def Brc:=c0 Tryz.f261
noncomputable def Aqo:FS yeE:=f1 [(.nm 14)] .bool λ x=>X3 x.1
abbrev Bs5 (C:Ctx) (F:FT) (y:Bool):Prop:=En Al0 C F Tryz.f261 Aqo (y,())
def Be1 (a0:B6):ST:=⟨8,[og 0 (Pw a0)],[]⟩
theorem Bqf (G:Bs Al0 P) {y a0} (E:Bs5 C F y) (h:X3 a0=some y):Bv Al0 P C F Brc (Be1 a0):=by
 unfold X3 at h
 obtain⟨y1,c1,h⟩:=bind_some h
 obtain⟨y2,c2,h⟩:=bind_some h
 have e:=sj h;subst e
 exact se G E [r0,.reg [(2,rs (.nm 13) y1),(3,rs (.int .i64) y2)],au] (e2 (ca c1) (ca c2))
theorem Bdo:MT 261 Aqo:=show E1 Al0 _ _ _ from mt (fn:=Tryz.f261) (S:=λ x=>Be1 x.1) (GB ⟨Aee,Bnh,trivial⟩ trivial) λ G _ _ _ _=>Bqf G
noncomputable abbrev Akl:Env:=EV [(252,Aeg),(261,Aqo),(262,As2)] [] false
noncomputable def Bio:=c0 Tryz.f233
noncomputable def Ak6:FS yeE:=f1 [(.nm 14),(.nm 14)] (.nm 14) λ x=>Ado x.1 x.2.1
noncomputable def Byp:=ct [0,0,2,4] Bio
abbrev Br3 (C:Ctx) (F:FT) (y:B6):Prop:=En Akl C F Tryz.f233 Ak6 (y,())
def Bvd (a0:B6) (a1:B6):ST:=⟨30,[op 2,op 3,op 4],[bc 2 (Pw a0),bc 3 (Pw a1),bc 4 [.int .i64 (0:Int),.sl (.int .u32) true [],.bool false,.int .i64 (0:Int),.sl (.int .u32) true [],.bool false]]⟩
def Bqs (a0:B6) (a1:B6):ST:=⟨30,[og 0 (Pw a0),og 1 (Pw a1)],[]⟩
theorem A5d (G:Bs Akl P) {y a0 a1} (E:Br3 C F y) (h:Asj a0 a1=some y):Bv Akl P C F Byp (Bvd a0 a1):=by
 unfold Asj at h
 obtain⟨y4,c4,h⟩:=bind_some h
 obtain⟨y5,c5,h⟩:=bind_some h
 obtain⟨y6,c6,h⟩:=bind_some h
 have e:=sj h;subst e
 exact se G E [.reg [(4,rs (.nm 13) y4),(9,rs (.nm 13) y5),(10,rs (.nm 14) y6)],au] (e3 (ca c4) (ca c5) (ca c6))
theorem Bzj (G:Bs Akl P) {y a0 a1} (E:Br3 C F y) (h:Ado a0 a1=some y):Bv Akl P C F Bio (Bqs a0 a1):=by
 unfold Ado at h
 obtain⟨y1,c1,h⟩:=bind_some h
 rcases Aj h with⟨b1,h⟩|⟨b1,h⟩
 ·obtain⟨y2,c2,h⟩:=bind_some h
  rcases Aj h with⟨b2,h⟩|⟨b2,h⟩
  ·obtain⟨y3,c3,h⟩:=bind_some h
   have e:=sj h;subst e
   exact se G E [r0,rg [] [2,5] [(1,rs .bool y1),(4,rs .bool y2)],bt,rc 4 (rs (.nm 13) y3),au] (q6 (ca c1) b1 b1 (ca c2) b1 b2<|e1 (ca c3))
  ·exact sg G [r0,rg [] [2,5] [(1,rs .bool y1),(4,rs .bool y2)],bf,au] (e6 (ca c1) b1 b1 (ca c2) b1 b2) (A5d G E h)
 ·exact sg G [r0,rg [2,5] [] [(1,rs .bool y1)],bf,au] (q1 (ca c1)<|ar 3 b1<|e1 rF) (A5d G E h)
theorem Amx:MT 233 Ak6:=show E1 Akl _ _ _ from mt (fn:=Tryz.f233) (S:=λ x=>Bqs x.1 x.2.1) (GB ⟨Adr,Bdo,Aym,trivial⟩ trivial) λ G _ _ _ _=>Bzj G
abbrev Bqj:List (Tk yeE):=[]
abbrev Bmf:List (Tk yeE):=[.S 0 false,.k (.mp 2),.M 2 .str (.nm 12)]
noncomputable def Aho:FX yeE:=⟨Bqj,Bmf,(List ((List UInt8)×A7)),λ _=>Ajr,λ r=>(r,())⟩
theorem B7i:GO (EX [(259,At3)] [] []):=GF ⟨A29,trivial⟩ trivial trivial
section
variable (k:Kt B7i C F 78 [])
end
theorem A9o:MX 230 Aho:=mw B7i 230 Tryz.f230 Aho [] (λ k=>(fx k Tryz.f230 Aho (λ y=>y.1) λ _ h=>h)) (.g (.g (.g (.e [[]])))) λ k _=>an
noncomputable def Ui:FS yeE:=f2 [.str] (.nm 16) .bool λ x=>Ar8 x.1
theorem B73:GO (EX [(231,Awz),(232,Acp),(233,Ak6)] [(230,[],Aho)] []):=GF ⟨Bqz,A54,Amx,trivial⟩ ⟨A9o,trivial⟩ trivial
section
variable (k:Kt B73 C F 74 [])
noncomputable def Bss:=c0 Tryz.f193
noncomputable def Bp8:=ct [0,0,0,0,2,0,2,0,0,0,3,4] Bss
abbrev Cax (y:(Bu×Bool)):Prop:=Ez k Tryz.f193 Ui (y.1,y.2,())
theorem Bgc:Ok k (Cax k) ⟨Bp8,Ayh,Li⟩:=pz k (fz k Tryz.f193 Ui (λ y=>(y.1,y.2.1)) λ _ h=>h) (.g (.e [[]])) λ _=>an
end
theorem Bfg:MT 193 Ui:=mz B73 193 Tryz.f193 Ui [] (λ k=>(fz k Tryz.f193 Ui (λ y=>(y.1,y.2.1)) λ _ h=>h)) (.g (.g (.g (.g (.b (.g (.e [[]])) (.g (.b (.g (.e [[]])) (.g (.g (.g (.b (.c 0 [[]]) (.g (.g (.g (.e [[]]))))))))))))))) λ k _=>ac (Bgc k)<|an
noncomputable def Aj5 (R:K8):FS yeE:=f1 [(.nm 14),(.int .i64)] (.nm 14) λ x=>R x.1 x.2.1
noncomputable def Bpt (R:K8):FS yeE:=f1 [(.nm 14),(.int .i64)] (.nm 14) λ x=>Awy R x.1 x.2.1
noncomputable abbrev B62 (R:K8):Env:=EV [(234,Aj5 R),(226,Arv),(233,Ak6),(252,Aeg)] [] false
theorem Cbp {R:K8} (hR:MT 234 (Aj5 R)):GO (B62 R):=GB ⟨hR,Ao7,Amx,Adr,trivial⟩ trivial
section
variable {R:K8} {G:GO (B62 R)} (k:Kt G C F 25 [])
noncomputable def Bve:=c0 Tryz.f234
noncomputable def Ame:=ct [0,0,2,0,0,1,4] Bve
noncomputable def Beh:=ct [0,2,4] Ame
abbrev B7b (y:B6):Prop:=Ez k Tryz.f234 (Bpt R) (y,())
abbrev Bsq (a0:B6) (a1:Int):=Lz k Ame (Pa a0 a1) (Gz k Beh Aib)
theorem Blb:Ok k (B7b k) ⟨Beh,Aib,Ama R⟩:=pz k (fz k Tryz.f234 (Bpt R) (λ y=>y.1) λ _ h=>h) (.g (.e [[]])) λ _=>an
theorem Bk5 (a0:B6) (a1:Int):Ok k (Bsq k a0 a1) ⟨Ame,Pa a0 a1,Alg R a0 a1⟩:=pz k Au (.g (.b (.g (.g (.l (.c 0 [[]])))) (.c 1 [[]]))) λ _=>ac bk<|ac (xt id λ _ h=>h)<|an
theorem Bmk (a0:B6) (a1:Int):Ok k (B7b k) ⟨Ame,Pa a0 a1,λ v=>Option.bind (iter (Alg R a0 a1) v) (Ama R)⟩:=lz k (Bk5 k a0 a1) (Blb k)
end
theorem Bif {R:K8} (hR:MT 234 (Aj5 R)):MT 234 (Bpt R):=mz (Cbp hR) 234 Tryz.f234 (Bpt R) [] (λ k=>(fz k Tryz.f234 (Bpt R) (λ y=>y.1) λ _ h=>h)) (.g (.g (.b (.g (.e [[]])) (.g (.g (.l (.c 0 [[]]))))))) λ k x=>ac (Bmk k x.1 x.2.1)<|an
theorem Bfx:∀k,MT 234 (Aj5 (Aem k))
 |0=>m0 (fn:=Tryz.f234) λ _=>rfl
 |k+1=>Bif (Bfx k)
noncomputable def Bkd:FS yeE:=Aj5 A8p
theorem Bkq:MT 234 Bkd:=Bfx 3
noncomputable def Vt:FS yeE:=f1 [(.nm 16),(.nm 16),(.int .i64)] (.nm 16) λ x=>Abv x.1 x.2.1 x.2.2.1
theorem B7w:GO (EV [(233,Ak6),(234,Bkd)] [] false):=GB ⟨Amx,Bkq,trivial⟩ trivial
section
variable (k:Kt B7w C F 34 [])
end
theorem Axe:MT 194 Vt:=mz B7w 194 Tryz.f194 Vt [] (λ k=>(fz k Tryz.f194 Vt (λ y=>y.1) λ _ h=>h)) (.g (.g (.l (.g (.b (.g (.g (.g (.l (.g (.b (.g (.g (.g (.l (.g (.b (.g (.g (.g (.l (.g (.b (.g (.g (.g (.l (.g (.b (.g (.g (.g (.l (.g (.b (.g (.g (.g (.l (.g (.b (.g (.g (.g (.l (.g (.b (.e []) (.g (.g (.e [[]]))))))))) (.e []))))))) (.e []))))))) (.e []))))))) (.e []))))))) (.e []))))))) (.e []))))))) (.e [])))))) λ k _=>an
noncomputable def Vr:FS yeE:=f2 [(.nm 16)] (.nm 12) (.int .i64) λ x=>Am2 x.1
theorem B8r:GO (EV [(235,Asa)] [] false):=GB ⟨Azj,trivial⟩ trivial
section
variable (k:Kt B8r C F 36 [])
noncomputable def Bku:=c0 Tryz.f195
noncomputable def Mx:=ct [0,0,0,1,0,3,0,0,4] Bku
abbrev Bfn (y:(A7×Int)):Prop:=Ez k Tryz.f195 Vr (y.1,y.2,())
theorem Bak (a0:Bu) (v2:A7) (v3:Bd):Ok k (Bfn k) ⟨Mx,Rw a0 v2 v3,Va a0 v2 v3⟩:=pz k (fz k Tryz.f195 Vr (λ y=>(y.1,y.2.1)) λ _ h=>h) (.g (.l (.g (.b (.e []) (.g (.b (.g (.e [[]])) (.g (.e [[]])))))))) λ _=>an
theorem Bdv (a0:Bu) (v2:A7) (v3:Bd):Ok k (Bfn k) ⟨Mx,R5 a0 v2 v3,W8 a0 v2 v3⟩:=pz k Au (.g (.l (.g (.b (.g (.g (.c 0 [[]]))) (.e []))))) λ _=>ac (Bak k a0 v2 v3)<|an
theorem A88 (a0:Bu) (v2:A7) (v3:Bd):Ok k (Bfn k) ⟨Mx,Ry a0 v2 v3,Wa a0 v2 v3⟩:=pz k Au (.g (.l (.g (.b (.g (.g (.c 0 [[]]))) (.e []))))) λ _=>ac (Bdv k a0 v2 v3)<|an
theorem Beu (a0:Bu) (v2:A7) (v3:Bd):Ok k (Bfn k) ⟨Mx,Rx a0 v2 v3,Wx a0 v2 v3⟩:=pz k Au (.g (.l (.g (.b (.g (.g (.c 0 [[]]))) (.e []))))) λ _=>ac (A88 k a0 v2 v3)<|an
theorem Be4 (a0:Bu) (v2:A7) (v3:Bd):Ok k (Bfn k) ⟨Mx,Sv a0 v2 v3,Vw a0 v2 v3⟩:=pz k Au (.g (.l (.g (.b (.g (.g (.c 0 [[]]))) (.e []))))) λ _=>ac (Beu k a0 v2 v3)<|an
theorem Bfj (a0:Bu) (v2:A7) (v3:Bd):Ok k (Bfn k) ⟨Mx,Rk a0 v2 v3,Vy a0 v2 v3⟩:=pz k Au (.g (.l (.g (.b (.g (.g (.c 0 [[]]))) (.e []))))) λ _=>ac (Be4 k a0 v2 v3)<|an
theorem Bac (a0:Bu):Ok k (Bfn k) ⟨Mx,R6 a0,U4 a0⟩:=pz k Au (.g (.l (.g (.b (.g (.g (.c 0 [[]]))) (.e []))))) λ v=>ac (Bfj k a0 v.2.1 v.2.2.1)<|an
end
theorem A55:MT 195 Vr:=mz B8r 195 Tryz.f195 Vr [] (λ k=>Au) (.g (.g (.g (.l (.g (.b (.g (.g (.c 0 [[]]))) (.e []))))))) λ k x=>ac (Bac k x.1)<|an
noncomputable def Lk:FS yeE:=f2 [.str] (.nm 12) (.int .i64) λ x=>Aeh x.1
theorem B7u:GO (EV [(93,Jb),(191,Jo),(192,Kf),(193,Ui),(194,Vt),(195,Vr)] [] false):=GB ⟨Nl,A76,A3q,Bfg,Axe,A55,trivial⟩ trivial
section
variable (k:Kt B7u C F 96 [])
noncomputable def Bom:=c0 Tryz.f162
noncomputable def A45:=ct [0,0,2,0,0,2,0,0,0,3,0,0,2,0,4] Bom
noncomputable def A4l:=ct [0,3,0,0,2,0,4] A45
noncomputable def Aab:=ct [0,0,1,4] A4l
noncomputable def Bsw:=ct [0,3,0,0,0,2,0,3,0,4] Aab
noncomputable def A5u:=ct [0,2,4] Aab
abbrev Bsj (y:(A7×Int)):Prop:=Ez k Tryz.f162 Lk (y.1,y.2,())
abbrev Azh (v1:Int) (v4:A7) (v7:(List Bm)):=Lz k Aab (Jq v1 v4 v7) (Sum.elim (Gz k A5u (Qt v1 v4)) (Bsj k))
theorem Bgn (v1:Int) (v4:A7) (v7:(List Bm)) (v8:Int):Ok k (Azh k v1 v4 v7) ⟨Bsw,Ac5 v1 v4 v7 v8,Ah3 v1 v4 v7 v8⟩:=pz k Au (.g (.l (.c 0 [[]]))) λ _=>ac bk<|an
theorem Bh2 (v1:Int) (v4:A7):Ok k (Bsj k) ⟨A5u,Qt v1 v4,Ahm v1 v4⟩:=pz k (fz k Tryz.f162 Lk (λ y=>(y.1,y.2.1)) λ _ h=>h) (.g (.b (.g (.e [[]])) (.g (.e [[]])))) λ _=>an
theorem Bgd (v1:Int) (v4:A7) (v7:(List Bm)):Ok k (Azh k v1 v4 v7) ⟨Aab,Jq v1 v4 v7,Aij v1 v4 v7⟩:=pz k (fz k Tryz.f162 Lk (λ y=> .inr (.inr (y.1,y.2.1))) λ y h=>h.2 (.inr (y.1,y.2.1)) rfl) (.g (.b (.g (.g (.g (.b (.g (.e [[]])) (.g (.b (.g (.c 0 [[]])) (.c 0 [[]]))))))) (.c 1 [[]]))) λ v=>ac (Bgn k v1 v4 v7 v.1)<|ac (xt Sum.inl λ _ h=>h)<|an
theorem Bg8 (v1:Int) (v4:A7) (v7:(List Bm)):Ok k (Bsj k) ⟨Aab,Jq v1 v4 v7,λ v=>Option.bind (iter (Aij v1 v4 v7) v) (Sum.elim (Ahm v1 v4) (λ y=>some y))⟩:=lz k (Bgd k v1 v4 v7) (xs (Bh2 k v1 v4) xr)
theorem Bga (v1:Int) (v4:A7) (v5:B6):Ok k (Bsj k) ⟨A4l,Ac7 v1 v4 v5,Z6 v1 v4 v5⟩:=pz k Au (.g (.g (.l (.c 0 [[]])))) λ v=>ac (Bg8 k v1 v4 v.1)<|an
theorem Bg5:Ok k (Bsj k) ⟨A45,Ayv,Z0⟩:=pz k (fz k Tryz.f162 Lk (λ y=>(y.1,y.2.1)) λ _ h=>h) (.g (.b (.g (.g (.b (.g (.e [[]])) (.g (.c 0 [[.re 44 44 0]]))))) (.c 0 [[]]))) λ v=>ac (Bga k v.1 v.2.2.2.1 v.2.2.2.2.1)<|an
end
theorem Bba:MT 162 Lk:=mz B7u 162 Tryz.f162 Lk [] (λ k=>(fz k Tryz.f162 Lk (λ y=>(y.1,y.2.1)) λ _ h=>h)) (.g (.g (.b (.g (.e [[]])) (.g (.g (.b (.g (.e [[]])) (.g (.g (.g (.b (.g (.g (.b (.g (.e [[]])) (.g (.c 0 [[]]))))) (.c 0 [[.own (.slot 7) 0 44 251 0]]))))))))))) λ k _=>ac (Bg5 k)<|an
noncomputable def Ka:FS yeE:=f1 [(.nm 4)] .bool λ x=>Us x.1
theorem B6t:GO (EV [(84,Ni),(144,Lb),(145,Ii),(150,Oc),(162,Lk)] [] false):=GB ⟨Uc,U6,Ah8,Xz,Bba,trivial⟩ trivial
section
variable (k:Kt B6t C F 98 [])
noncomputable def Atq:=c0 Tryz.f146
noncomputable def Bf3:=ct [0,0,0,3,4] Atq
noncomputable def Atj:=ct [0,0,0,2,4] Atq
noncomputable def Bha:=ct [0,3,0,0,2,4] Atj
abbrev B24 (y:Bool):Prop:=Ez k Tryz.f146 Ka (y,())
theorem A65:Ok k (B24 k) ⟨Bf3,Aqq,B8⟩:=pz k (fz k Tryz.f146 Ka (λ y=>y.1) λ _ h=>h) (.g (.e [[]])) λ _=>an
theorem A6d (a0:Ax):Ok k (B24 k) ⟨Bha,Vf a0,Sb a0⟩:=pz k (fz k Tryz.f146 Ka (λ y=>y.1) λ _ h=>h) (.g (.b (.g (.e [[]])) (.g (.e [[]])))) λ _=>an
theorem A66 (a0:Ax):Ok k (B24 k) ⟨Atj,W9 a0,R9 a0⟩:=pz k (fz k Tryz.f146 Ka (λ y=>y.1) λ _ h=>h) (.g (.b (.g (.g (.b (.g (.e [[]])) (.c 0 [[]])))) (.c 0 [[]]))) λ _=>ac (A6d k a0)<|an
end
theorem A1i:MT 146 Ka:=mz B6t 146 Tryz.f146 Ka [] (λ k=>Au) (.g (.g (.g (.b (.c 0 [[]]) (.c 1 [[]]))))) λ k x=>ac (A65 k)<|ac (A66 k x.1)<|an
noncomputable def J1:FS yeE:=f1 [.str] .bool λ x=>Lm x.1
theorem B60:GO (EV [(84,Ni),(163,Kx)] [] false):=GB ⟨Uc,V7,trivial⟩ trivial
section
variable (k:Kt B60 C F 56 [])
noncomputable def Bic:=c0 Tryz.f147
noncomputable def Rt:=ct [0,0,2,0,1,4] Bic
noncomputable def Bhy:=ct [0,3,0,0,0,3,0,4] Rt
noncomputable def Ato:=ct [0,2,4] Rt
abbrev B26 (y:Bool):Prop:=Ez k Tryz.f147 J1 (y,())
abbrev Ars:=Lz k Rt Ks (Sum.elim (Gz k Ato Ov) (B26 k))
theorem A73 (v1:(List (List UInt8))) (v2:Int) (v3:Int):Ok k (Ars k) ⟨Bhy,Gq v1 v2 v3,H6 v1 v2 v3⟩:=pz k (fz k Tryz.f147 J1 (λ y=> .inr (.inr y.1)) λ y h=>h.2 (.inr y.1) rfl) (.g (.b (.g (.e [[]])) (.g (.l (.c 0 [[]]))))) λ _=>ac bk<|an
theorem A7c:Ok k (B26 k) ⟨Ato,Ov,Y7⟩:=pz k (fz k Tryz.f147 J1 (λ y=>y.1) λ _ h=>h) (.g (.e [[]])) λ _=>an
theorem A6v:Ok k (Ars k) ⟨Rt,Ks,Zo⟩:=pz k Au (.g (.b (.g (.g (.g (.b (.g (.c 0 [[]])) (.c 0 [[]]))))) (.c 1 [[]]))) λ v=>ac (A73 k v.1 v.2.1 v.2.2.1)<|ac (xt Sum.inl λ _ h=>h)<|an
theorem A7k:Ok k (B26 k) ⟨Rt,Ks,λ v=>Option.bind (iter Zo v) (Sum.elim Y7 (λ y=>some y))⟩:=lz k (A6v k) (xs (A7c k) xr)
end
theorem A2z:MT 147 J1:=mz B60 147 Tryz.f147 J1 [] (λ k=>(fz k Tryz.f147 J1 (λ y=>y.1) λ _ h=>h)) (.g (.g (.b (.g (.e [[]])) (.g (.l (.c 0 [[]])))))) λ k _=>ac (A7k k)<|an
end
end Go.Ab
