/- Comparisons, conversions, parts, slices. New boxes, stores, made slices. What a store does to arrays, and rows put into a slice of rows. Conditions: none beyond those that each theorem names. -/
import Derived.Test.YtgngflkahbpecaaGreatDoorP02
import Derived.Laws.Tables
import Derived.Laws.Rows
set_option linter.unusedSimpArgs false
set_option linter.unusedVariables false
namespace Go.Ab
open Go
def Bxo (V:Env) (P:Program):Prop:=
 ∀t,V.eqs t=true->∀i,V.ti t=some i->∀(bx:List (Nat×Box V.E)) (β:Nat->BI) (ok:Nat->Prop) (w':World) (l m:List (Av V.E)) (b:Bool) (c d:Array Value),R7 i.zero l=true->eqL V l m=some b->
  Ba (Ad V.T bx β ok w') l c.toList->Ba (Ad V.T bx β ok w') m d.toList->∀(x y:Operand) (w:World) (op:BinOp),op= .eql\/op= .neq->
  (eqGuard op t x y (.agg c) (.agg d)).run P w= .ok () w/\(Op.equal t (.agg c) (.agg d)).run P w= .ok b w
section
variable {V:Env} {P:Program} {C:Ctx} {bx:List (Nat×Box V.E)} {β:Nat->BI} {w:World}
variable {res:Option (SV V.E)} {cs:List Cd} {bx':List (Nat×Box V.E)} {rs ws:List Nat} {ac:Acc}
theorem Bwy {t:TypeId} (hu:P.underlying t=some .bool) (a b:Bool):(Op.equal t (.bool a) (.bool b)).run P w= .ok (a==b) w:=by
 have gen:∀d,(Op.equalIn (d+1) t (.bool a) (.bool b)).run P w= .ok (a==b) w:=by
  intro d;simp[Op.equalIn,run_underlying hu]
 exact gen 9999
theorem B33 {t e:TypeId} (hu:P.underlying t=some (.slice e)) (n c n' c':Nat):(Op.equal t (.slice none n c) (.slice none n' c')).run P w= .ok true w:=by
 have gen:∀d,(Op.equalIn (d+1) t (.slice none n c) (.slice none n' c')).run P w= .ok true w:=by
  intro d;simp[Op.equalIn,run_underlying hu]
 exact gen 9999
theorem Bl9 {t e:TypeId} (hu:P.underlying t=some (.slice e)) (a:Addr) (n c n' c':Nat):(Op.equal t (.slice (some a) n c) (.slice none n' c')).run P w= .ok false w:=by
 have gen:∀d,(Op.equalIn (d+1) t (.slice (some a) n c) (.slice none n' c')).run P w= .ok false w:=by
  intro d;simp[Op.equalIn,run_underlying hu]
 exact gen 9999
theorem Bau {α:Type} {xs:List α} (h:xs≠[]):xs.isEmpty=false:=by cases xs<;>simp_all
theorem Bh3 (op:BinOp) (t:TypeId) (x y:Operand) {a b:Value} (h:a.oneCell'=true) (h2:a≠ .nilIface):(eqGuard op t x y a b).run P w= .ok () w:=by
 unfold eqGuard
 cases op<;>simp<;>cases a<;>simp_all [Value.oneCell']
theorem B9x (HE:Auc V P) (HQ:Bxo V P) (M:Bk V.T C bx β w) (op:BinOp) (t:TypeId) (x y:Operand) {a b:SV V.E} {va vb:Value} (ha:SR V C bx β w a va) (hb:SR V C bx β w b vb)
 (h:Ac V bx (A8k V op t a b) rs ws=some (res,cs,bx',ac)) (hc:Fj cs):
 VOk V.T C bx β w res bx' ((do eqGuard op t x y va vb;binOp op t va vb:Sem Value).run P w):=by
 have plain:∀r:Result Value,va.oneCell'=true->va≠ .nilIface->VOk V.T C bx β w res bx' r->(binOp op t va vb).run P w=r->VOk V.T C bx β w res bx' ((do eqGuard op t x y va vb;binOp op t va vb:Sem Value).run P w):=by
  intro r h1 h2 h3 h4
  simp only[Sem.run_bind,Bh3 op t x y h1 h2,Result.andThen_ok,h4]
  exact h3
 unfold A8k at h
 split at h
 ·rename_i k p k' q
  obtain⟨rfl,rfl,rfl⟩:=Aq h
  simp only[SR,Az,Ar,Ad]at ha hb
  subst ha hb
  refine plain _ rfl (by simp) (.pure M rfl) ?_
  have:=hc.1
  simp[binOp,Op.shift,show¬q<0 by omega]
 ·rename_i k p k' q
  obtain⟨rfl,rfl,rfl⟩:=Aq h
  simp only[SR,Az,Ar,Ad]at ha hb
  subst ha hb
  refine plain _ rfl (by simp) (.pure M rfl) ?_
  have:=hc.1
  simp[binOp,Op.shift,show¬q<0 by omega]
 ·rename_i k p k' q _ _
  simp only[SR,Az,Ar,Ad]at ha hb
  subst ha hb
  split at h
  ·rename_i hk;subst hk
   exact plain _ rfl (by simp) (B0o M op t k p q h hc) rfl
  ·simp[Ac]at h
 ·rename_i p q
  simp only[SR,Az,Ar,Ad]at ha hb
  subst ha hb
  exact plain _ rfl (by simp) (Byf M op t p q h hc) rfl
 ·rename_i p q
  simp only[SR,Az,Ar,Ad]at ha hb
  subst ha hb
  split at h
  ·rename_i e1 e2 e3 e4 hi
   obtain⟨rfl,rfl,rfl⟩:=Aq h
   refine plain _ rfl (by simp) (.pure M rfl) ?_
   obtain⟨info,d,z,I⟩:=HE t _ hi
   have hk:=I.kind
   cases d<;>simp[Gg]at hk
   simp only[binOp,Sem.run_bind,Bwy I.under,Result.andThen_ok,Sem.run_pure]
  ·simp[Ac]at h
 ·rename_i p q
  simp only[SR,Az,Ar,Ad]at ha hb
  subst ha hb
  split at h
  ·rename_i e1 e2 e3 e4 hi
   obtain⟨rfl,rfl,rfl⟩:=Aq h
   refine plain _ rfl (by simp) (.pure M rfl) ?_
   obtain⟨info,d,z,I⟩:=HE t _ hi
   have hk:=I.kind
   cases d<;>simp[Gg]at hk
   simp only[binOp,Sem.run_bind,Bwy I.under,Result.andThen_ok,Sem.run_pure]
  ·simp[Ac]at h
 ·rename_i u st xs u'
  simp only[SR,Az,Ar,Ad]at ha hb
  obtain⟨a,cap,hv,hcap,hn,hs,_⟩:=ha
  obtain⟨a',cap',hv',hcap',hn',hs',_⟩:=hb
  simp only[List.cons.injEq,and_true,List.length_map]at hv hv'
  subst hv hv'
  have a'0:=hs' rfl (by simp)
  subst a'0
  split at h
  ·rename_i e1 e2 e3 e4 e5 hi
   obtain⟨rfl,rfl,rfl⟩:=Aq h
   refine plain _ rfl (by simp) (.pure M (v:= .bool xs.isEmpty) rfl) ?_
   obtain⟨info,d,z,I⟩:=HE t _ hi
   have hk:=I.kind
   cases d<;>simp[Gg]at hk
   have hst:st=true\/xs.isEmpty=false:=by
    cases st with
    |true=>exact .inl rfl
    |false=>exact .inr hc.1
   cases a with
   |none=>
    have:xs=[]:=by have:=hn rfl;simp at hcap;cases xs<;>simp_all
    subst this
    simp only[binOp,Sem.run_bind,B33 I.under,Result.andThen_ok,Sem.run_pure,List.isEmpty_nil]
   |some ad=>
    have:xs≠[]:=λ e=>by
     rcases hst with h|h
     ·have:=hs h (by simp[e]);cases this
     ·rw[e]at h;cases h
    simp only[binOp,Sem.run_bind,Bl9 I.under,Result.andThen_ok,Sem.run_pure,Bau this]
  ·simp[Ac]at h
 ·rename_i u st xs u'
  simp only[SR,Az,Ar,Ad]at ha hb
  obtain⟨a,cap,hv,hcap,hn,hs,_⟩:=ha
  obtain⟨a',cap',hv',hcap',hn',hs',_⟩:=hb
  simp only[List.cons.injEq,and_true,List.length_map]at hv hv'
  subst hv hv'
  have a'0:=hs' rfl (by simp)
  subst a'0
  split at h
  ·rename_i e1 e2 e3 e4 e5 hi
   obtain⟨rfl,rfl,rfl⟩:=Aq h
   refine plain _ rfl (by simp) (.pure M (v:= .bool !xs.isEmpty) rfl) ?_
   obtain⟨info,d,z,I⟩:=HE t _ hi
   have hk:=I.kind
   cases d<;>simp[Gg]at hk
   have hst:st=true\/xs.isEmpty=false:=by
    cases st with
    |true=>exact .inl rfl
    |false=>exact .inr hc.1
   cases a with
   |none=>
    have:xs=[]:=by have:=hn rfl;simp at hcap;cases xs<;>simp_all
    subst this
    simp only[binOp,Sem.run_bind,B33 I.under,Result.andThen_ok,Sem.run_pure,List.isEmpty_nil]
   |some ad=>
    have:xs≠[]:=λ e=>by
     rcases hst with h|h
     ·have:=hs h (by simp[e]);cases this
     ·rw[e]at h;cases h
    simp only[binOp,Sem.run_bind,Bl9 I.under,Result.andThen_ok,Sem.run_pure,Bau this]
  ·simp[Ac]at h
 ·rename_i id ver u'
  simp only[SR,Az,Ar,Ad]at ha hb
  obtain⟨a',cap',hv',hcap',hn',hs',_⟩:=hb
  simp only[List.cons.injEq,and_true,List.length_map]at hv'
  subst hv'
  have a'0:=hs' rfl (by simp)
  subst a'0
  split at h
  ·rename_i e1 e2 e3 e4 e5 hi
   simp only[Ac]at h
   split at h
   ·rename_i e0 u0 xs v fz hb
    split at h
    ·rename_i hver
     obtain⟨rfl,rfl,rfl⟩:=Aq h
     have hne:xs≠[]:=λ e=>by have:=hc.1;rw[e]at this;cases this
     rw[hb]at ha
     have hvv:=ha.2.2 (Ah hver)
     obtain⟨ad,cap,hsl⟩:∃ad cap,va= .slice (some ad) xs.length cap:=by
      have hB:=M.boxes id _ hb
      cases fz with
      |false=>
       obtain⟨_,css,⟨_,k⟩,_⟩:=hB
       rcases k with⟨_,k⟩|⟨g,cap,cur,k,_⟩
       ·exact(hne (List.length_eq_zero_iff.1 k)).elim
       ·exact⟨_,_,hvv.trans k⟩
      |true=>
       obtain⟨_,_,k⟩:=hB
       obtain⟨b,cap,k⟩:=k hne
       exact⟨_,_,hvv.trans k⟩
     rw[hsl]
     rw[hsl]at plain
     refine plain _ rfl (by simp) (.pure M (v:= .bool false) rfl) ?_
     obtain⟨info,d,z,I⟩:=HE t _ hi
     have hk:=I.kind
     cases d<;>simp[Gg]at hk
     simp only[binOp,Sem.run_bind,Bl9 I.under,Result.andThen_ok,Sem.run_pure]
    ·simp[Ac]at h
   ·simp[Ac]at h
  ·simp[Ac]at h
 ·rename_i l m
  split at h
  ·rename_i b i he1 he2 hti
   split at h
   ·rename_i hsz
    obtain⟨rfl,rfl,rfl⟩:=Aq h
    simp only[SR,Az,Ar]at ha hb
    obtain⟨c1,rfl,h1⟩:=ha
    obtain⟨c2,rfl,h2⟩:=hb
    obtain⟨g1,g2⟩:=HQ t he2 _ hti _ _ _ _ _ _ _ _ _ hsz he1 h1 h2 x y w .eql (.inl rfl)
    simp only[Sem.run_bind,g1,g2,binOp,Result.andThen_ok,Sem.run_pure]
    exact .pure M rfl
   ·simp[Ac]at h
  ·simp[Ac]at h
 ·rename_i l m
  split at h
  ·rename_i b i he1 he2 hti
   split at h
   ·rename_i hsz
    obtain⟨rfl,rfl,rfl⟩:=Aq h
    simp only[SR,Az,Ar]at ha hb
    obtain⟨c1,rfl,h1⟩:=ha
    obtain⟨c2,rfl,h2⟩:=hb
    obtain⟨g1,g2⟩:=HQ t he2 _ hti _ _ _ _ _ _ _ _ _ hsz he1 h1 h2 x y w .neq (.inr rfl)
    simp only[Sem.run_bind,g1,g2,binOp,Result.andThen_ok,Sem.run_pure]
    exact .pure M rfl
   ·simp[Ac]at h
  ·simp[Ac]at h
 ·simp[Ac]at h
theorem Ccn (M:Bk V.T C bx β w) (op:UnOp) {a:SV V.E} {va:Value} (ha:SR V C bx β w a va)
 (h:Ac V bx (Bt5 V op a) rs ws=some (res,cs,bx',ac)):VOk V.T C bx β w res bx' ((Op.unary op va).run P w):=by
 unfold Bt5 at h
 split at h
 ·obtain⟨rfl,_,rfl⟩:=Aq h
  simp only[SR,Az,Ar,Ad]at ha
  subst ha
  exact .pure M rfl
 ·obtain⟨rfl,_,rfl⟩:=Aq h
  simp only[SR,Az,Ar,Ad]at ha
  subst ha
  exact .pure M rfl
 ·simp[Ac]at h
theorem B6i (HE:Auc V P) (M:Bk V.T C bx β w) (u t:TypeId) {a:SV V.E} {va:Value} (ha:SR V C bx β w a va)
 (h:Ac V bx (A91 V (V.ti u) (V.ti t) a) rs ws=some (res,cs,bx',ac)):VOk V.T C bx β w res bx' ((convert u t va).run P w):=by
 unfold A91 at h
 split at h
 ·rename_i k0 _ _ _ _ k _ _ _ _ k1 n h1 h2
  obtain⟨rfl,_,rfl⟩:=Aq h
  simp only[SR,Az,Ar,Ad]at ha
  subst ha
  obtain⟨_,d1,_,I1⟩:=HE u _ h1
  obtain⟨_,d2,_,I2⟩:=HE t _ h2
  have k1:=I1.kind
  have k2:=I2.kind
  cases d1<;>simp[Gg]at k1
  cases d2<;>simp[Gg]at k2
  subst k1 k2
  have:(convert u t (.int ‹_› n)).run P w= .ok (.int k (k.wrap n)) w:=by
   simp[convert,I1.run_under,I2.run_under,Conv.intToInt]
  rw[this]
  exact .pure M rfl
 ·rename_i _ _ _ _ _ _ _ _ s h1 h2
  obtain⟨rfl,_,rfl⟩:=Aq h
  simp only[SR,Az,Ar,Ad]at ha
  subst ha
  obtain⟨_,d1,_,I1⟩:=HE u _ h1
  obtain⟨_,d2,_,I2⟩:=HE t _ h2
  have k1:=I1.kind
  have k2:=I2.kind
  cases d1<;>simp[Gg]at k1
  cases d2<;>simp[Gg]at k2
  have:(convert u t (.string ⟨s.toArray⟩)).run P w= .ok (.string ⟨s.toArray⟩) w:=by
   simp[convert,I1.run_under,I2.run_under]
  rw[this]
  exact .pure M rfl
 ·simp[Ac]at h
theorem Bto (M:Bk V.T C bx β w) {l:List (CV V.E)} {va:Value} (ha:SR V C bx β w (.tup l) va) (n:Nat)
 (h:Ac V bx (tcv l[n]?) rs ws=some (res,cs,bx',ac)):VOk V.T C bx β w res bx' ((Instr.extract va n).run P w):=by
 simp only[SR,Az]at ha
 obtain⟨vs,rfl,ha⟩:=ha
 cases hn:l[n]? with
 |none=>rw[hn]at h;simp[tcv,Ac]at h
 |some c=>
  rw[hn]at h
  obtain⟨rfl,_,rfl⟩:=Aq h
  obtain⟨v,hv,hr⟩:=ha.get n c hn
  have:vs[n]?=some v:=by rw[<-Array.getElem?_toList];exact hv
  simp only[Instr.extract,this,Sem.run_pure]
  exact .pure M hr
theorem Bxl (M:Bk V.T C bx β w) {t:TypeId} {i:TI V.E} {info:TypeInfo} {d:TypeDesc} {z:Value} (I:Cw V P t i info d z) (off:Nat) {ls:List (Av V.E)} {vs:Array Value}
 (hr:Ba (Ad V.T bx β (A2 C β w) w) ls vs.toList) (h:Ac V bx (part V i.kind.agg i.size off ls) rs ws=some (res,cs,bx',ac)):
 VOk V.T C bx β w res bx' ((Go.part t vs off).run P w):=by
 unfold part at h
 split at h
 ·rename_i hle
  have hle:=Nat.le_of_ble_eq_true hle
  obtain⟨c,h1,rfl,rfl⟩:=Bdw h
  have hr':=(hr.drop off).take i.size
  rcases Abs h1 hr' with⟨hag,rfl,k⟩|⟨hag,l,v,e1,rfl,e2,k⟩
  ·have:(Go.part t vs off).run P w= .ok (.agg (vs.extract off (off+i.size))) w:=by
    simp only[Go.part,Sem.run_bind,I.run_agg,Result.andThen_ok,hag,if_true,I.run_size,Sem.run_pure]
   rw[this]
   refine .pure M ?_
   have e:((vs.toList.drop off).take i.size).toArray=vs.extract off (off+i.size):=by
    apply Array.ext'
    rw[Array.toList_extract]
    simp[List.extract]
   rw[e]at k
   exact k
  ·have hv:vs[off]?=some v:=by
    have:=congrArg (λ l=>l[0]?) e2
    simp only[List.getElem?_take,List.getElem?_drop]at this
    rw[if_pos I.pos]at this
    simpa using this
   have:(Go.part t vs off).run P w= .ok v w:=by
    simp only[Go.part,Sem.run_bind,I.run_agg,Result.andThen_ok,hag,Bool.false_eq_true,if_false,hv,Sem.run_pure]
   rw[this]
   exact .pure M k
 ·simp[Ac]at h
theorem Fp.drop {ok:Nat->Prop} {w:World} {esz:Nat}:∀(n:Nat) (xs:List AV) (blk off:Nat),Fp ok w esz xs blk off->n<=xs.length->Fp ok w esz (xs.drop n) blk (off+n*esz)
 |0,xs,blk,off,h,_=>by simpa using h
 |n+1,[],blk,off,h,hl=>by simp at hl
 |n+1,x::xs,blk,off,h,hl=>by
  have:=Fp.drop n xs blk (off+esz) h.2 (by simpa using hl)
  rw[show off+(n+1)*esz=off+esz+n*esz by rw[Nat.add_mul];omega]
  simpa using this
theorem Fp.take {ok:Nat->Prop} {w:World} {esz:Nat}:∀(n:Nat) (xs:List AV) (blk off:Nat),Fp ok w esz xs blk off->Fp ok w esz (xs.take n) blk off
 |0,xs,blk,off,h=>by simp[Fp]
 |n+1,[],blk,off,h=>by simp[Fp]
 |n+1,x::xs,blk,off,h=>⟨h.1,Fp.take n xs blk _ h.2⟩
theorem Az6 {α:Type}:∀(css:List (List α)) (k sz:Nat),(∀c∈css,c.length=sz)->(css.take k).flatten=css.flatten.take (k*sz)
 |[],k,sz,_=>by simp
 |c::css,0,sz,_=>by simp
 |c::css,k+1,sz,h=>by
  have hc:=h c (by simp)
  rw[List.take_succ_cons,List.flatten_cons,List.flatten_cons,Az6 css k sz (λ x hx=>h x (by simp[hx])),List.take_append]
  have e1:c.take ((k+1)*sz)=c:=List.take_of_length_le (by rw[hc,Nat.add_mul];omega)
  have e2:(k+1)*sz-c.length=k*sz:=by rw[hc,Nat.add_mul];omega
  rw[e1,e2]
theorem Aw9 (M:Bk V.T C bx β w) {t:TypeId} {i:TI V.E} {info:TypeInfo} {d:TypeDesc} {z:Value} (I:Cw V P t i info d z)
 (het:∀e,i.kind= .slice e->∀j,V.ti e=some j->∃info d z,Cw V P e j info d z) (et:Option Ty) (hel:∀e u,i.kind= .slice e->et=some u->∃j,V.ti e=some j/\j.ty=u)
 {a:SV V.E} {va:Value} (ha:SR V C bx β w a va) (lo hi:Option (IntKind×Int))
 (h:Ac V bx (Ad3 V i.kind et a (lo.map (·.2)) (hi.map (·.2))) rs ws=some (res,cs,bx',ac)) (hc:Fj cs):
 VOk V.T C bx β w res bx' ((Instr.sliceAt t va (lo.map λ x=> .int x.1 x.2) (hi.map λ x=> .int x.1 x.2) none).run P w):=by
 have hk:=I.kind
 have bounds:∀(isS:Bool) (len cap:Nat) (l h:Int),lo.elim (0:Int) (·.2)=l->hi.elim (len:Int) (·.2)=h->0<=l->l<=h->h<=len->len<=cap->
  (Instr.sliceBounds isS len cap (lo.map λ x=> .int x.1 x.2) (hi.map λ x=> .int x.1 x.2) none).run P w= .ok (l.toNat,h.toNat,cap) w:=by
  intro isS len cap l h hl hh h0 h1 h2 h3
  cases lo<;>cases hi<;>simp only[Option.elim]at hl hh<;>subst hl hh
  ·simp[Instr.sliceBounds]
  ·rename_i y
   simp[Instr.sliceBounds,Instr.sliceBound,asIntOf,show 0<=y.2/\y.2<=(cap:Int) by omega]
  ·rename_i x
   simp[Instr.sliceBounds,Instr.sliceBound,asIntOf,show 0<=x.2/\x.2<=(len:Int) by omega]
  ·rename_i x y
   have e:((y.2.toNat:Nat):Int)=y.2:=Int.toNat_of_nonneg (by omega)
   simp[Instr.sliceBounds,Instr.sliceBound,asIntOf,show 0<=y.2/\y.2<=(cap:Int) by omega,e,show 0<=x.2/\x.2<=y.2 by omega]
 have glo:∀(n:Int),(lo.map (·.2)).getD n=lo.elim n (·.2):=by intro n;cases lo<;>rfl
 have ghi:∀(n:Int),(hi.map (·.2)).getD n=hi.elim n (·.2):=by intro n;cases hi<;>rfl
 unfold Ad3 at h
 split at h
 ·rename_i s hs
  obtain⟨rfl,rfl,rfl⟩:=Aq h
  obtain⟨c1,c2,c3,_⟩:=hc
  simp only[SR,Az,Ar,Ad]at ha
  subst ha
  rw[hs]at hk
  cases d<;>simp[Gg]at hk
  have hsz:ByteArray.size ⟨s.toArray⟩=s.length:=List.size_toArray
  rw[glo]at c1 c2 ⊢
  rw[ghi]at c2 c3 ⊢
  have hb:=bounds false s.length s.length _ _ rfl rfl c1 c2 c3 (Nat.le_refl _)
  have:(Instr.sliceAt t (.string ⟨s.toArray⟩) (lo.map λ x=> .int x.1 x.2) (hi.map λ x=> .int x.1 x.2) none).run P w=
   .ok (.string ⟨((s.drop (lo.elim (0:Int) (·.2)).toNat).take ((hi.elim (s.length:Int) (·.2)).toNat-(lo.elim (0:Int) (·.2)).toNat)).toArray⟩) w:=by
   simp only[Instr.sliceAt,Sem.run_bind,I.run_under,Result.andThen_ok,Instr.slice,hsz,hb,Option.isSome_none,Bool.false_eq_true,if_false,Sem.run_pure,ByteArray.extract_mk]
  rw[this]
  exact .pure M rfl
 ·rename_i e u u' st xs hE
  split at h
  ·rename_i hu
   subst hu
   obtain⟨rfl,rfl,rfl⟩:=Aq h
   obtain⟨c1,c2,c3,_⟩:=hc
   simp only[SR,Az,Ar,Ad]at ha
   obtain⟨a,cap,hv,hcap,hn,hs,hm⟩:=ha
   simp only[List.cons.injEq,and_true,List.length_map]at hv hcap
   subst hv
   rw[hE]at hk
   cases d<;>simp[Gg]at hk
   subst hk
   obtain⟨j,hj,hjt⟩:=hel e _ hE rfl
   obtain⟨info',d',z',J⟩:=het e hE j hj
   rw[glo]at c1 c2 ⊢
   rw[ghi]at c2 c3 ⊢
   have hb:=bounds true xs.length cap _ _ rfl rfl c1 c2 c3 hcap
   generalize hl:lo.elim (0:Int) (·.2)=l at*
   generalize hh:hi.elim (xs.length:Int) (·.2)=hh' at*
   have:(Instr.sliceAt t (.slice a xs.length cap) (lo.map λ x=> .int x.1 x.2) (hi.map λ x=> .int x.1 x.2) none).run P w=
    .ok (.slice (if cap=l.toNat then a else a.map (·.add (l.toNat*j.size))) (hh'.toNat-l.toNat) (cap-l.toNat)) w:=by
    simp only[Instr.sliceAt,Sem.run_bind,I.run_under,Result.andThen_ok,Instr.slice,hb,J.run_size,Sem.run_pure]
   rw[this]
   refine .pure M ?_
   simp only[Az,Ar,Ad]
   have hlen:((xs.drop l.toNat).take (hh'.toNat-l.toNat)).length=hh'.toNat-l.toNat:=by
    rw[List.length_take,List.length_drop];omega
   refine⟨if cap=l.toNat then a else a.map λ x=>x.add (l.toNat*j.size),cap-l.toNat, ?_, ?_, ?_,(λ h=>by cases h), ?_⟩
   ·rw[List.length_map,hlen]
   ·rw[List.length_map,hlen];omega
   ·intro e
    split at e
    ·have:=hn e;omega
    ·cases a with
     |none=>have:=hn rfl;omega
     |some ad=>simp at e
   ·intro ad he
    split at he
    ·rename_i hcl
     obtain⟨s1,_⟩:=hm ad he
     have:(xs.drop l.toNat).take (hh'.toNat-l.toNat)=[]:=List.eq_nil_of_length_eq_zero (by rw[hlen];omega)
     rw[this];exact⟨λ h=>(h rfl).elim,trivial⟩
    ·cases a with
     |none=>simp at he
     |some ad0=>
      obtain⟨s1,m1⟩:=hm ad0 rfl
      simp at he
      subst he
      by_cases hx0:xs=[]
      ·subst hx0
       refine⟨λ h=>(h (by simp)).elim, ?_⟩
       rw[show((([]:List (Ty.den V.E u')).drop l.toNat).take (hh'.toNat-l.toNat))=[] by simp]
       exact trivial
      rw[Brr (s1 (by simpa using hx0))]
      refine⟨λ _=>rfl, ?_⟩
      rw[List.map_take,List.map_drop]
      have hsz:j.size=Ty.sz V.T u':=by rw[<-hjt];exact J.ty.symm
      rw[hsz]
      exact Fp.take _ _ _ _ (Fp.drop _ _ _ _ m1 (by simp;omega))
  ·simp[Ac]at h
 ·-- of a box's array
  rename_i e u' id ver hE
  simp only[Ac]at h
  split at h
  ·rename_i e' u xs v hb
   split at h
   ·rename_i hv
    simp only[Bool.and_eq_true,decide_eq_true_eq]at hv
    obtain⟨hv,hu⟩:=hv
    subst hu
    simp only[SR,Az,Ar,Ad,hb]at ha
    obtain⟨_,hle,ha⟩:=ha
    have hva:=ha (Ah hv)
    rw[hE]at hk
    cases d<;>simp[Gg]at hk
    subst hk
    obtain⟨j,hj,hjt⟩:=hel e _ hE rfl
    obtain⟨info',d',z',J⟩:=het e hE j hj
    have hsz:j.size=Ty.sz V.T u:=by rw[<-hjt];exact J.ty.symm
    obtain⟨hown,hA⟩:=M.boxes id _ hb
    have hA':=hA
    obtain⟨css,⟨l1,l2⟩,hal⟩:=hA'
    have run:∀(a:Option Addr) (cap:Nat) (l h':Int),lo.elim (0:Int) (·.2)=l->hi.elim (xs.length:Int) (·.2)=h'->0<=l->l<=h'->h'<=xs.length->xs.length<=cap->
     (Instr.sliceAt t (.slice a xs.length cap) (lo.map λ x=> .int x.1 x.2) (hi.map λ x=> .int x.1 x.2) none).run P w=
     .ok (.slice (if cap=l.toNat then a else a.map (·.add (l.toNat*j.size))) (h'.toNat-l.toNat) (cap-l.toNat)) w:=by
     intro a cap l h' e1 e2 c1 c2 c3 c4
     have hb:=bounds true xs.length cap _ _ e1 e2 c1 c2 c3 c4
     simp only[Instr.sliceAt,Sem.run_bind,I.run_under,Result.andThen_ok,Instr.slice,hb,J.run_size,Sem.run_pure]
    cases lo with
    |none=>
     simp only[Option.map_none,Ac]at h
     obtain⟨rfl,rfl,rfl⟩:=Aq h
     obtain⟨c1,c2,_⟩:=hc
     rw[ghi]at c1 c2 ⊢
     generalize hh:hi.elim (xs.length:Int) (·.2)=hh' at*
     have key:∃r,(Instr.sliceAt t va (none:Option Value) (hi.map λ x=> .int x.1 x.2) none).run P w= .ok r w/\r.ownBlock=(β id).hdr.ownBlock/\r.oneCell'=true/\w.ownsRow 0 e' (u.sz V.T) r hh'.toNat (css.take hh'.toNat).flatten:=by
      have hl:(css.take hh'.toNat).flatten=css.flatten.take (hh'.toNat*u.sz V.T):=Az6 css _ _ λ c hc=>by
       obtain⟨m,hm⟩:=List.getElem?_of_mem hc
       obtain⟨_,_,q⟩:=hal.get' m c hm
       exact q.2
      have hle':hh'.toNat*u.sz V.T<=xs.length*u.sz V.T:=Nat.mul_le_mul_right _ (by omega)
      rcases l2 with⟨l2,l3⟩|⟨g,cap,cur,l2,l0,l3,l4,l5,l6,l7⟩
      ·rw[hva,l2]
       have hz:hh'=0:=by omega
       have:=run none 0 0 hh' rfl rfl (Int.le_refl _) c1 c2 (by omega)
       rw[l3]at this
       refine⟨_,this, ?_, ?_, ?_⟩
       ·simp[Value.ownBlock]
       ·simp[Value.oneCell']
       ·subst hz;simp;exact World.ownsRow_nil _ _ _ _
      ·rw[hva,l2]
       refine⟨_,run (some ⟨g,0,none⟩) cap 0 hh' rfl rfl (Int.le_refl _) c1 c2 l4, ?_, ?_, ?_⟩
       ·split<;>simp[Value.ownBlock,Q1]
       ·split<;>simp[Value.oneCell']
       ·have e0:(if cap=Int.toNat 0 then(some ⟨g,0,none⟩:Option Addr)else(some ⟨g,0,none⟩:Option Addr).map (·.add (Int.toNat 0*j.size)))=some ⟨g,0,none⟩:=by
         split<;>simp[Q1]
        rw[e0,hl]
        refine⟨?_,.inr ⟨g,cap,cur,by simp,Nat.zero_le _,l3,by omega,l5,l6, ?_⟩⟩
        ·rw[List.length_take,l1];omega
        ·rw[<-l7,List.take_take,Nat.min_eq_left hle']
     obtain⟨r,hr,ho,hone,hrow⟩:=key
     rw[show(Option.map (λ x=>Value.int x.1 x.2) (none:Option (IntKind×Int)))=none from rfl,hr]
     obtain⟨M',X⟩:=M.set (w':=w) id (.arr e' u (xs.take hh'.toNat) (v+1) false) {β id with hdr:=r} rfl rfl rfl (Nat.le_refl _) (λ _ _ _=>rfl) (λ x hx=> .inl hx) (M.nodup id)
      (λ b0 h0=>by rw[hb]at h0;cases h0;exact⟨rfl,Nat.le_succ _,λ e=>by omega⟩)
      (λ X=>by
       simp only[Dc]
       rw[A6]
       refine⟨by show(β id).own=_;rw[hown,ho],css.take hh'.toNat, ?_,(hal.take hh'.toNat).imp λ x c q=>⟨Bl.later X.later _ _ q.1,q.2⟩⟩
       rw[List.length_take,Nat.min_eq_left (by omega)];exact hrow)
     refine⟨_,w,r,_,rfl,rfl, ?_,M',X⟩
     simp only[Az,Ar,Ad,Aw]
     exact⟨hone,Nat.le_refl _,λ _=>by rw[A6]⟩
    |some lk=>
     simp only[Option.map_some]at h
     obtain⟨rfl,rfl,rfl⟩:=Aq h
     obtain⟨c1,c2,c3,_⟩:=hc
     rw[ghi]at c2 c3 ⊢
     generalize hh:hi.elim (xs.length:Int) (·.2)=hh' at*
     rcases l2 with⟨l2,l3⟩|⟨g,cap,cur,l2,l0,l3,l4,l5,l6,l7⟩
     ·omega
     ·rw[hva,l2,run (some ⟨g,0,none⟩) cap lk.2 hh' rfl rfl c1 (by omega) c3 l4]
      refine .pure M ?_
      simp only[Az,Ar,Ad,hb]
      refine⟨by simp[Value.oneCell'],hle,λ _=>⟨c1,by omega,by omega,g,cap,l2,by omega, ?_⟩⟩
      rw[if_neg (by omega)]
      simp only[Option.map_some,Q1,hsz,Nat.zero_add]
      congr 1
      omega
   ·simp[Ac]at h
  ·simp[Ac]at h
 ·simp[Ac]at h
end
theorem Avn {α β:Type} {R:α->β->Prop}:∀{l:List α} {m:List β} {n:Nat} {xs:List α} {ys:List β} {l':List α},Ba R l m->Ba R xs ys->Abg l n xs=some l'->
 Ba R l' (m.take n++ys++m.drop (n+ys.length))/\n+ys.length<=m.length\/(xs=[]/\l'=l)
 |l,m,n,[],ys,l',_,_,h=>by
  unfold Abg at h
  cases l<;>simp at h<;>(subst h;exact .inr ⟨rfl,rfl⟩)
 |[],m,n,x::xs,ys,l',_,_,h=>by unfold Abg at h;cases h
 |a::l,_,0,x::xs,_,l',.cons h1 h2,.cons k1 k2,h=>by
  simp only[Abg]at h
  cases hs:Abg l 0 xs with
  |none=>rw[hs]at h;cases h
  |some r=>
   rw[hs]at h;simp at h;subst h
   left
   rcases Avn h2 k2 hs with⟨q,ql⟩|⟨rfl,rfl⟩
   ·refine⟨?_,by simp at ql ⊢;omega⟩
    simp only[List.take_zero,List.nil_append,Nat.zero_add]at q ⊢
    simp only[List.length_cons,List.drop_succ_cons,List.cons_append]
    exact .cons k1 q
   ·cases k2
    refine⟨?_,by simp⟩
    simp only[List.take_zero,List.nil_append,Nat.zero_add,List.length_cons,List.length_nil,List.drop_succ_cons,List.drop_zero,List.cons_append]
    exact .cons k1 h2
 |a::l,_,n+1,x::xs,ys,l',.cons h1 h2,k,h=>by
  simp only[Abg]at h
  cases hs:Abg l n (x::xs)with
  |none=>rw[hs]at h;cases h
  |some r=>
   rw[hs]at h;simp at h;subst h
   left
   rcases Avn h2 k hs with⟨q,ql⟩|⟨q,_⟩
   ·refine⟨?_,by simp;omega⟩
    simp only[List.take_succ_cons,List.cons_append,show n+1+ys.length=n+ys.length+1 by omega,List.drop_succ_cons]
    exact .cons h1 q
   ·cases q
theorem A1v {α β:Type} {R:α->β->Prop} {l:List α} {m:List β} {n:Nat} {xs:List α} {ys:List β} {l':List α} (h1:Ba R l m) (h2:Ba R xs ys) (h:Abg l n xs=some l') (hpos:0<xs.length):
 Ba R l' (m.take n++ys++m.drop (n+ys.length))/\n+ys.length<=m.length:=by
 rcases Avn h1 h2 h with h|⟨h,_⟩
 ·exact h
 ·rw[h]at hpos;simp at hpos
theorem Apl {sz:Nat}:∀(css:List (List Value)) (i:Nat) (cs:List Value),(∀c∈css,c.length=sz)->css[i]?=some cs->∀(n:Nat) (ys:List Value),n+ys.length<=sz->
 css.flatten.take (i*sz+n)++ys++css.flatten.drop (i*sz+n+ys.length)=(css.set i (cs.take n++ys++cs.drop (n+ys.length))).flatten
 |[],i,cs,_,h,_,_,_=>by simp at h
 |c::css,0,cs,hall,h,n,ys,hl=>by
  simp at h;subst h
  have hc:=hall c (by simp)
  simp only[List.set_cons_zero,List.flatten_cons,Nat.zero_mul,Nat.zero_add]
  rw[List.take_append_of_le_length (by omega),List.drop_append_of_le_length (by omega)]
  simp
 |c::css,i+1,cs,hall,h,n,ys,hl=>by
  have hc:=hall c (by simp)
  simp only[List.set_cons_succ,List.flatten_cons]
  rw[<-Apl css i cs (λ c hc=>hall c (by simp[hc])) (by simpa using h) n ys hl]
  have e1:(i+1)*sz+n=c.length+(i*sz+n):=by rw[hc,Nat.add_mul];omega
  have e2:(i+1)*sz+n+ys.length=c.length+(i*sz+n+ys.length):=by rw[hc,Nat.add_mul];omega
  rw[e2,e1,List.take_length_add_append,List.drop_length_add_append]
  simp
theorem Adq (z:Array Value) (hz:0<z.size):∀n:Nat,(madeCells z (n*z.size)).toList=(List.replicate n z.toList).flatten
 |0=>by simp[madeCells]
 |n+1=>by
  rw[List.replicate_succ,List.flatten_cons,<-Adq z hz n]
  unfold madeCells
  simp only[Array.toList_map,Array.toList_range]
  rw[show(n+1)*z.size=z.size+n*z.size by rw[Nat.add_mul];omega,List.range_add,List.map_append,List.map_map]
  congr 1
  ·apply List.ext_getElem?
   intro k
   simp only[List.getElem?_map]
   by_cases hk:k<z.size
   ·rw[List.getElem?_range hk]
    simp[Nat.mod_eq_of_lt hk,hk]
   ·rw[List.getElem?_eq_none (by simp;omega)]
    simp;omega
  ·apply List.map_congr_left
   intro k _
   simp[Nat.add_mod_left]
section
variable {V:Env} {P:Program} {C:Ctx} {bx:List (Nat×Box V.E)} {β:Nat->BI} {w:World}
variable {res:Option (SV V.E)} {cs:List Cd} {bx':List (Nat×Box V.E)} {rs ws:List Nat} {ac:Acc}
theorem Lc {id:Nat} {b:Box V.E} {k:B0 V.E} (h:Ac V bx (Rf V id b k) rs ws=some (res,cs,bx',ac)):
 Ae id bx=none/\∃rs' ws',Ac V (put id b bx) k rs' ws'=some (res,cs,bx',ac):=by
 simp only[Rf,Ac]at h
 split at h
 ·rename_i hb;exact⟨hb,_,_,h⟩
 ·simp[Ac]at h
theorem Bk.new (M:Bk V.T C bx β w) {id:Nat} (hid:Ae id bx=none) (b:Box V.E) (o:Obj) (hdr:Value) (own:List Nat) (ho:own=[w.heap.size]\/own=[])
 (hrep:Ext V.T bx β (A2 C β w) w (put id b bx) (upd β id ⟨w.heap.size,hdr,own,[]⟩) (A2 C (upd β id ⟨w.heap.size,hdr,own,[]⟩) (w.alloc o)) (w.alloc o)->
  Dc V.T (put id b bx) (upd β id ⟨w.heap.size,hdr,own,[]⟩) (A2 C (upd β id ⟨w.heap.size,hdr,own,[]⟩) (w.alloc o)) (w.alloc o) id b):
 Bk V.T C (put id b bx) (upd β id ⟨w.heap.size,hdr,own,[]⟩) (w.alloc o)/\
  Ext V.T bx β (A2 C β w) w (put id b bx) (upd β id ⟨w.heap.size,hdr,own,[]⟩) (A2 C (upd β id ⟨w.heap.size,hdr,own,[]⟩) (w.alloc o)) (w.alloc o):=by
 have G:=U1.alloc w o
 refine M.set id b _ G.os G.tape G.output G.size (λ x hx _=>G.heap x hx) ?_ ?_ ?_ hrep
 ·intro x hx
  rcases ho with rfl|rfl
  ·simp at hx;subst hx;exact .inr ⟨Nat.le_refl _,by simp⟩
  ·simp at hx
 ·rcases ho with rfl|rfl<;>simp
 ·intro b0 h0;rw[hid]at h0;cases h0
theorem B38 (M:Bk V.T C bx β w) {dst:Nat} {t:TypeId} {ls:List (Av V.E)} {vs:Array Value} (hr:Ba (Ad V.T bx β (A2 C β w) w) ls vs.toList)
 (h:Ac V bx (Rf V dst (.cells ls) (.one (.ptr dst 0))) rs ws=some (res,cs,bx',ac)):
 VOk V.T C bx β w res bx' (.ok (.pointer (some ⟨w.heap.size,0,none⟩)) (w.alloc (.cells vs t))):=by
 obtain⟨hid,rs',ws',h⟩:=Lc h
 obtain⟨rfl,_,rfl⟩:=Aq h
 obtain⟨M',X⟩:=M.new hid (.cells ls) (.cells vs t) .nilIface [w.heap.size] (.inl rfl) λ X=>by
  refine⟨vs,t,by simp, ?_,Ba.ext X hr⟩
  rw[A6];exact heap_alloc_new _ _
 refine⟨_,_,_,_,rfl,rfl, ?_,M',X⟩
 simp only[Az,Ar,Ad,Aw,A6]
 exact⟨rfl,trivial⟩
theorem Bnb (i i':BI) (h:i'.blk=i.blk) (l m:List (Av V.E)):Gu V.T i i' (.cells l) (.cells m):=h
theorem Bbl {ls:List (Av V.E)} {vs:List Value} (h:Ba (Ad V.T bx β (A2 C β w) w) ls vs):∀v∈vs,v.oneCell'=true:=by
 intro v hv
 obtain⟨n,hn⟩:=List.getElem?_of_mem hv
 obtain⟨l,_,hl⟩:=h.get' n v hn
 exact Bp2 hl
def UOk (T:Tab) (C:Ctx) (bx:List (Nat×Box T.E)) (β:Nat->BI) (w:World) (res:Option (SV T.E)) (bx':List (Nat×Box T.E)) (r:Result Unit):Prop:=
 ∃β' w',res=none/\r= .ok () w'/\Bk T C bx' β' w'/\Ext T bx β (A2 C β w) w bx' β' (A2 C β' w') w'
theorem Lg {t:TypeId} {i:TI V.E} {info:TypeInfo} {d:TypeDesc} {z:Value} (I:Cw V P t i info d z) {b o:Nat} {c:Array Value} {e:TypeId} (hg:w.heap[b]?=some (.cells c e (0,0)))
 {v:Value} (hv:v.cells.size=i.size) (hl:o+i.size<=c.size) (h1:∀x∈v.cells.toList,x.oneCell'=true):
 (Instr.storeAt t (.pointer (some ⟨b,o,none⟩)) v).run P w= .ok () (w.setRow b (c.toList.take o++v.cells.toList++c.toList.drop (o+v.cells.toList.length)).toArray):=by
 have hs:=run_storeCells_at (P:=P) b o e v.cells.toList 0 c w hg (by simp[hv];omega) h1
 simp only[Nat.add_zero]at hs
 simp only[Instr.storeAt,Instr.sureAddr,storeVar,Sem.run_bind,Sem.run_pure,Result.andThen_ok,I.run_size,hv,ne_eq,not_true,if_false,hs]
end
section
variable {V:Env} {P:Program} {C:Ctx} {bx:List (Nat×Box V.E)} {β:Nat->BI} {w:World}
variable {res:Option (SV V.E)} {cs:List Cd} {bx':List (Nat×Box V.E)} {rs ws:List Nat} {ac:Acc}
theorem Ba.getD_set {α β:Type} {R:α->β->Prop}:∀{l:List α} {m:List β},Ba R l m->∀(i:Nat) (a:α) (b:β),R a b->Ba R (l.set i a) (m.set i b)
 |_,_,.nil,i,a,b,_=>by simp;exact .nil
 |_,_,.cons h t,0,a,b,k=>by simpa using .cons k t
 |_,_,.cons h t,i+1,a,b,k=>by simpa using .cons h (t.getD_set i a b k)
theorem Aqy {α:Type} (l:List α) (p:Nat) (ys:List α) (N:Nat) (h:p+ys.length<=N) (hl:p<=l.length):
 (l.take p++ys++l.drop (p+ys.length)).take N=(l.take N).take p++ys++(l.take N).drop (p+ys.length):=by
 have e:(l.take p++ys).length=p+ys.length:=by rw[List.length_append,List.length_take];omega
 rw[List.take_append,e,List.take_of_length_le (by omega),List.take_take,Nat.min_eq_left (by omega),List.drop_take]
theorem Bke (HT:V.T.Ok) {ok:Nat->Prop} {e:TypeId} {t:Ty} {xs:List (t.den V.E)} {hdr:Value} (h:Lh V.T ok w e t xs hdr) {i:Nat} (hi:i<xs.length) {b n cap:Nat}
 (hh:hdr= .slice (some ⟨b,0,none⟩) n cap)
 {off:Nat} {ls ls':List (Av V.E)} {ys:List Value} (hpos:0<ls.length) (hy:Ba (Ad V.T bx β ok w) ls ys)
 (hs:Abg (t.toL V.T (xs.getD i (t.df V.T))) off ls=some ls') {y:t.den V.E} (ho:t.ofL V.T ls'=some y):
 ∃c,w.heap[b]?=some (.cells c e (0,0))/\i*t.sz V.T+off+ys.length<=c.size/\∀w' ok',Dd ok w ok' w'->
  w'.heap[b]?=some (.cells (c.toList.take (i*t.sz V.T+off)++ys++c.toList.drop (i*t.sz V.T+off+ys.length)).toArray e (0,0))->
  Lh V.T ok' w' e t (xs.set i y) hdr:=by
 obtain⟨css,⟨h1,h2⟩,h3⟩:=h
 rcases h2 with⟨h2,h0⟩|⟨b',cap',cur,h2,k1,k2,k3,k4,k5,k6⟩
 ·omega
 ·rw[hh]at h2;cases h2
  obtain⟨cz,hcz,r1,r2⟩:=h3.get i (xs.getD i (t.df V.T)) (by rw[List.getD_eq_getElem?_getD,List.getElem?_eq_getElem hi];rfl)
  have hall:∀c∈css,c.length=t.sz V.T:=by
   intro c hc
   obtain⟨m,hm⟩:=List.getElem?_of_mem hc
   obtain⟨_,_,q⟩:=h3.get' m c hm
   exact q.2
  obtain⟨hnew,hle⟩:=A1v ((T0 HT (bx:=bx) (β:=β) (ok:=ok) (w:=w) t _ cz).2 r1) hy hs hpos
  rw[r2]at hle
  have hle2:i*t.sz V.T+off+ys.length<=xs.length*t.sz V.T:=by
   have:(i+1)*t.sz V.T<=xs.length*t.sz V.T:=Nat.mul_le_mul_right _ (by omega)
   rw[Nat.add_mul]at this;omega
  have hle3:xs.length*t.sz V.T<=cap*t.sz V.T:=Nat.mul_le_mul_right _ k3
  refine⟨cur,k2,by rw[k5];omega,λ w' ok' L hw'=> ?_⟩
  refine⟨css.set i (cz.take off++ys++cz.drop (off+ys.length)),⟨?_,.inr ⟨b,cap,_,by rw[hh,List.length_set],Nat.zero_le _,hw',by rw[List.length_set];exact k3,k4, ?_, ?_⟩⟩, ?_⟩
  ·rw[List.length_set,<-Apl css i cz hall hcz off ys hle]
   simp only[List.length_append,List.length_take,List.length_drop]
   rw[h1];omega
  ·simp only[List.size_toArray,List.length_append,List.length_take,List.length_drop,Array.length_toList]
   rw[k5];omega
  ·rw[<-Apl css i cz hall hcz off ys hle,<-k6,List.length_set]
   exact Aqy _ _ _ _ hle2 (by rw[Array.length_toList,k5];omega)
  ·refine Ba.getD_set (h3.imp λ x c q=>⟨Bl.later L _ _ q.1,q.2⟩) i y _ ⟨?_, ?_⟩
   ·refine Bl.later L _ _ ((T0 HT (bx:=bx) (β:=β) t y _).1 ?_)
    exact Af0 (Amj HT ho) hnew
   ·simp only[List.length_append,List.length_take,List.length_drop];omega
def obs (rows:List Value):List Nat:=rows.flatMap λ v=>v.ownBlock.toList
theorem Y3 {rows:List Value} {b:Nat}:b∈obs rows↔∃v∈rows,v.ownBlock=some b:=by
 simp[obs,List.mem_flatMap,Option.mem_toList]
theorem Bka:∀{rows:List Value},(obs rows).Nodup->∀(m k:Nat) (x y:Value) (b:Nat),rows[m]?=some x->rows[k]?=some y->x.ownBlock=some b->y.ownBlock=some b->m=k
 |[],_,m,k,x,y,b,h,_,_,_=>by simp at h
 |r::rows,hnd,m,k,x,y,b,hm,hk,hx,hy=>by
  simp only[obs,List.flatMap_cons]at hnd
  obtain⟨n1,n2,n3⟩:=List.nodup_append.1 hnd
  cases m<;>cases k
  ·rfl
  ·simp at hm hk;subst hm
   exact(n3 b (by rw[hx];simp) b (Y3.2 ⟨y,List.mem_of_getElem? hk,hy⟩) rfl).elim
  ·simp at hm hk;subst hk
   exact(n3 b (by rw[hy];simp) b (Y3.2 ⟨x,List.mem_of_getElem? hm,hx⟩) rfl).elim
  ·rename_i m k
   exact congrArg (·+1) (Bka n2 m k x y b (by simpa using hm) (by simpa using hk) hx hy)
theorem Bw4:∀{rows:List Value} {j:Nat} {x:Value},(obs rows).Nodup->(∀b,x.ownBlock=some b->b∉obs rows)->(obs (rows.set j x)).Nodup/\∀b∈obs (rows.set j x),b∈obs rows\/x.ownBlock=some b
 |[],j,x,h,_=>by simp[obs]
 |r::rows,0,x,h,hx=>by
  simp only[obs,List.set_cons_zero,List.flatMap_cons]at h hx ⊢
  obtain⟨n1,n2,n3⟩:=List.nodup_append.1 h
  refine⟨List.nodup_append.2 ⟨by cases x.ownBlock<;>simp,n2,λ b hb c hc e=> ?_⟩,λ b hb=> ?_⟩
  ·subst e
   have:=hx b (by simpa using hb)
   exact this (List.mem_append.2 (.inr hc))
  ·rcases List.mem_append.1 hb with hb|hb
   ·exact .inr (by simpa using hb)
   ·exact .inl (List.mem_append.2 (.inr hb))
 |r::rows,j+1,x,h,hx=>by
  have eo:∀l:List Value,obs (r::l)=r.ownBlock.toList++obs l:=λ l=>rfl
  rw[List.set_cons_succ,eo]
  simp only[eo]at h hx
  obtain⟨n1,n2,n3⟩:=List.nodup_append.1 h
  obtain⟨q1,q2⟩:=Bw4 (j:=j) (x:=x) n2 (λ b hb hc=>hx b hb (List.mem_append.2 (.inr hc)))
  refine⟨List.nodup_append.2 ⟨n1,q1,λ b hb c hc e=> ?_⟩,λ b hb=> ?_⟩
  ·subst e
   rcases q2 b hc with hc|hc
   ·exact n3 b hb b hc rfl
   ·exact hx b hc (List.mem_append.2 (.inl hb))
  ·rcases List.mem_append.1 hb with hb|hb
   ·exact .inl (List.mem_append.2 (.inl hb))
   ·rcases q2 b hb with hb|hb
    ·exact .inl (List.mem_append.2 (.inr hb))
    ·exact .inr hb
theorem Ba.of_get {α β:Type} {R:α->β->Prop}:∀{l:List α} {m:List β},l.length=m.length->(∀(i:Nat) a b,l[i]?=some a->m[i]?=some b->R a b)->Ba R l m
 |[],[],_,_=> .nil
 |[],_::_,h,_=>by simp at h
 |_::_,[],h,_=>by simp at h
 |a::l,b::m,h,f=> .cons (f 0 a b rfl rfl) (Ba.of_get (by simpa using h) λ i a b ha hb=>f (i+1) a b (by simpa using ha) (by simpa using hb))
theorem Alq {α:Type} {l:List α} {i:Nat} (h:i<l.length) (d:α):l[i]?=some (l.getD i d):=by
 rw[List.getD_eq_getElem?_getD,List.getElem?_eq_getElem h];rfl
theorem Bkc (M:Bk V.T C bx β w) {t:TypeId} {i:TI V.E} {info:TypeInfo} {d:TypeDesc} {z:Value} (I:Cw V P t i info d z) (q6:i.size=1)
 {id id2:Nat} {e e2:TypeId} {u:Ty} {xss:List (List (u.den V.E))} {v rv:Nat} (hb:Ae id bx=some (.rows e e2 u xss v rv .opn)) (hne:id≠id2)
 {j:Int} {b n cap:Nat} (h0:0<=j) (hlt:j<xss.length) (hh:(β id).hdr= .slice (some ⟨b,0,none⟩) n cap) {vv:Value} (hv1:vv.oneCell'=true)
 (fresh2:∀b',vv.ownBlock=some b'->b'∈(β id2).own) {ys:List (u.den V.E)} (hA2:Lh V.T (A2 C β w) w e2 u ys vv):
 UOk V.T C bx β w none (put id (.rows e e2 u (xss.set j.toNat ys) v (rv+1) .opn) (put id2 .gone bx)) ((Instr.storeAt t (.pointer (some ⟨b,j.toNat+0,none⟩)) vv).run P w):=by
 obtain⟨hO,hown,hA⟩:=M.boxes id _ hb
 have hj:j.toNat<xss.length:=by omega
 have hO':=hO
 obtain⟨l1,l2⟩:=hO'
 rcases l2 with⟨l2,_⟩|⟨g,cap',cur,l2,_,l3,l4,l5,l6,l7⟩
 ·rw[hh]at l2;cases l2
 ·rw[hh]at l2;cases l2
  have hrl:(β id).rows.length=xss.length:=by rw[l1];simp
  have hvc:vv.cells= #[vv]:=Asw hv1
  have hsz:j.toNat+i.size<=cur.size:=by rw[l6,q6];omega
  have e0:j.toNat+0=j.toNat:=rfl
  rw[e0,Lg I l3 (by rw[hvc,q6];rfl) hsz (by rw[hvc];intro x hx;simp at hx;subst hx;exact hv1),hvc]
  have hbo:b∈(β id).own:=by rw[hown,hh];simp[Value.ownBlock]
  have hnd:=M.nodup id
  rw[hown]at hnd
  have hnd1:=List.nodup_append.1 hnd
  have hset:=Bw4 (rows:=(β id).rows) (j:=j.toNat) (x:=vv) hnd1.2.1 (λ b' hb' hc=>hne (M.apart id id2 b' (by rw[hown];exact List.mem_append.2 (.inr hc)) (fresh2 b' hb')))
  let i':BI:=⟨(β id).blk,(β id).hdr,(β id).hdr.ownBlock.toList++obs ((β id).rows.set j.toNat vv),(β id).rows.set j.toNat vv⟩
  let β':Nat->BI:=upd (upd β id2 {β id2 with own:=[]}) id i'
  have hβid:β' id=i':=A6 _ _ _
  have hβid2:β' id2={β id2 with own:=[]}:=by rw[show β' id2=upd β id2 {β id2 with own:=[]} id2 from Di _ _ hne.symm,A6]
  have hmem:∀x∈i'.own,x∈(β id).own\/x∈(β id2).own:=by
   intro x hx
   rcases List.mem_append.1 hx with hx|hx
   ·exact .inl (by rw[hown];exact List.mem_append.2 (.inl hx))
   ·rcases hset.2 x hx with hx|hx
    ·exact .inl (by rw[hown];exact List.mem_append.2 (.inr hx))
    ·exact .inr (fresh2 x hx)
  have hbx:∀b'',b''∈obs ((β id).rows.set j.toNat vv)->b''≠b:=by
   intro b'' hb'' e
   subst e
   rcases hset.2 b'' hb'' with hx|hx
   ·exact hnd1.2.2 b'' (by rw[hh];simp[Value.ownBlock]) b'' hx rfl
   ·exact hne (M.apart id id2 b'' hbo (fresh2 b'' hx))
  obtain⟨M',X⟩:=M.step (bx':=put id (.rows e e2 u (xss.set j.toNat ys) v (rv+1) .opn) (put id2 .gone bx)) (β':=β')
   (w':=w.setRow b (cur.toList.take j.toNat++[vv]++cur.toList.drop (j.toNat+[vv].length)).toArray) (λ m=>m=id\/m=id2) rfl rfl rfl (by simp)
   (λ m hm=>⟨by
    rw[show β' m=upd β id2 {β id2 with own:=[]} m from Di _ _ (λ e=>hm (.inl e)),Di _ _ (λ e=>hm (.inr e))],
    by rw[Ay (λ e=>hm (.inl e)),Ay (λ e=>hm (.inr e))]⟩)
   (λ x _ hx=>setRow_other _ _ _ _ (by rintro rfl;exact hx id (.inl rfl) hbo))
   (λ m hm x hx=>by
    rcases hm with rfl|rfl
    ·rw[hβid]at hx
     rcases hmem x hx with hx|hx
     ·exact .inl ⟨_,.inl rfl,hx⟩
     ·exact .inl ⟨_,.inr rfl,hx⟩
    ·rw[hβid2]at hx;simp at hx)
   (λ m hm=>by
    rcases hm with rfl|rfl
    ·rw[hβid]
     refine List.nodup_append.2 ⟨hnd1.1,hset.1,λ x hx y hy e=> ?_⟩
     subst e
     rw[hh]at hx;simp[Value.ownBlock]at hx;subst hx
     exact hbx _ hy rfl
    ·rw[hβid2];simp)
   (λ m m' x hm hm' hx hx'=>by
    rcases hm with rfl|rfl<;>rcases hm' with rfl|rfl
    ·rfl
    ·rw[hβid2]at hx';simp at hx'
    ·rw[hβid2]at hx;simp at hx
    ·rfl)
   (λ m hm hn=>by
    rcases hm with rfl|rfl
    ·rw[Aw]at hn;cases hn
    ·rw[hβid2])
   (λ m b0 hm h0=>by
    rcases hm with rfl|rfl
    ·rw[hb]at h0;cases h0
     refine⟨_,Aw _ _ _, ?_⟩
     rw[hβid]
     refine⟨rfl,Nat.le_refl _,λ _=>⟨rfl,by simp,by omega,λ e=>by omega⟩⟩
    ·exact⟨.gone,by rw[Ay hne.symm,Aw],by cases b0<;>trivial⟩)
   (λ X m b0 hm h0=>by
    rcases hm with rfl|rfl
    ·rw[Aw]at h0;cases h0
     have hX:=X
     refine⟨?_,by rw[hβid];rfl, ?_⟩
     ·rw[hβid,List.length_set]
      show(w.setRow b _).ownsRow 0 e 1 (β m).hdr xss.length ((β m).rows.set j.toNat vv)
      refine⟨by rw[List.length_set,l1],.inr ⟨b,cap,_,hh,Nat.zero_le _,setRow_heap _ _ _ _ _ _ l3,l4,l5, ?_, ?_⟩⟩
      ·simp only[List.size_toArray,List.length_append,List.length_take,List.length_drop,Array.length_toList,List.length_cons,List.length_nil]
       omega
      ·rw[Aqy _ _ _ _ (by simp;omega) (by rw[Array.length_toList];omega),l7]
       rw[List.set_eq_take_append_cons_drop,if_pos (by omega)]
       simp
     ·rw[hβid]
      show Ba _ _ ((β m).rows.set j.toNat vv)
      refine Ba.of_get (by rw[List.length_set,List.length_set];exact hA.length) λ n' xs x hm hx=> ?_
      by_cases hmj:n'=j.toNat
      ·subst hmj
       rw[List.getElem?_set_self hj]at hm;cases hm
       rw[List.getElem?_set_self (by omega)]at hx;cases hx
       exact hA2.later X.later λ b' hb'=>setRow_other _ _ _ _ (hbx b' (Y3.2 ⟨vv,List.mem_of_getElem? (List.getElem?_set_self (by omega)),hb'⟩))
      ·rw[List.getElem?_set_ne (by omega)]at hm hx
       obtain⟨x',hx',hr⟩:=hA.get n' xs hm
       rw[hx]at hx';cases hx'
       exact hr.later X.later λ b' hb'=>setRow_other _ _ _ _ (hbx b' (Y3.2 ⟨x,List.mem_of_getElem? (i:=n') (by rw[List.getElem?_set_ne (by omega)];exact hx),hb'⟩))
    ·rw[Ay hne.symm,Aw]at h0;cases h0
     trivial)
  exact⟨_,_,rfl,rfl,M',X⟩
theorem Biv {e:TypeId} {hdr vv:Value} {N:Nat} {rows:List Value} (h:w.ownsRow 0 e 1 hdr N rows) {b n cap:Nat} (hh:hdr= .slice (some ⟨b,0,none⟩) n cap) {j:Nat} (hj:j<N):
 ∃cur:Array Value,w.heap[b]?=some (.cells cur e (0,0))/\j+1<=cur.size/\∀w':World,
  w'.heap[b]?=some (.cells (cur.toList.take j++[vv]++cur.toList.drop (j+[vv].length)).toArray e (0,0))->w'.ownsRow 0 e 1 hdr N (rows.set j vv):=by
 obtain⟨l1,l2⟩:=h
 rcases l2 with⟨l2,_⟩|⟨g,cap',cur,l2,_,l3,l4,l5,l6,l7⟩
 ·rw[hh]at l2;cases l2
 ·rw[hh]at l2;cases l2
  refine⟨cur,l3,by omega,λ w' hw'=>⟨by rw[List.length_set,l1],.inr ⟨b,cap,_,hh,Nat.zero_le _,hw',l4,l5, ?_, ?_⟩⟩⟩
  ·simp only[List.size_toArray,List.length_append,List.length_take,List.length_drop,Array.length_toList,List.length_cons,List.length_nil]
   omega
  ·rw[Aqy _ _ _ _ (by simp;omega) (by rw[Array.length_toList];omega),l7]
   rw[List.set_eq_take_append_cons_drop,if_pos (by rw[<-l7];simp;omega)]
   simp
theorem Byb {α:Type} {l:List α} {i j:Nat} {x y:α} (hi:l[i]?=some x) (hj:l[j]?=some y):((l.set i y).set j x).Perm l:=by
 obtain⟨h1,e1⟩:=List.getElem?_eq_some_iff.1 hi
 obtain⟨h2,e2⟩:=List.getElem?_eq_some_iff.1 hj
 have:=List.set_set_perm h1 h2
 rw[e1,e2]at this
 exact this
theorem Btb (M:Bk V.T C bx β w) {t:TypeId} {i:TI V.E} {info:TypeInfo} {d:TypeDesc} {z:Value} (I:Cw V P t i info d z) (q6:i.size=1)
 {id:Nat} {e e2:TypeId} {u:Ty} {xss:List (List (u.den V.E))} {v rv:Nat} (hb:Ae id bx=some (.rows e e2 u xss v rv .opn))
 {j k:Int} {b n cap:Nat} (h0:0<=j) (hlt:j<xss.length) (hh:(β id).hdr= .slice (some ⟨b,0,none⟩) n cap) {vv:Value} (hv1:vv.oneCell'=true)
 (k0:0<=k) (klt:k<xss.length) (hk:(β id).rows[k.toNat]?=some vv):
 UOk V.T C bx β w none (put id (.rows e e2 u xss v rv (.mix j k)) bx) ((Instr.storeAt t (.pointer (some ⟨b,j.toNat+0,none⟩)) vv).run P w):=by
 obtain⟨hO,hown,hA⟩:=M.boxes id _ hb
 obtain⟨cur,l3,hsz,fin⟩:=Biv (vv:=vv) hO hh (j:=j.toNat) (by omega)
 have hvc:vv.cells= #[vv]:=Asw hv1
 have e0:j.toNat+0=j.toNat:=rfl
 rw[e0,Lg I l3 (by rw[hvc,q6];rfl) (by rw[q6];exact hsz) (by rw[hvc];intro x hx;simp at hx;subst hx;exact hv1),hvc]
 have hbo:b∈(β id).own:=by rw[hown,hh];simp[Value.ownBlock]
 have hnd:=M.nodup id
 rw[hown]at hnd
 have hnd1:=List.nodup_append.1 hnd
 obtain⟨M',X⟩:=M.set (w':=w.setRow b (cur.toList.take j.toNat++[vv]++cur.toList.drop (j.toNat+[vv].length)).toArray)
  id (.rows e e2 u xss v rv (.mix j k)) (β id) rfl rfl rfl (by simp)
  (λ x _ hx=>setRow_other _ _ _ _ (by rintro rfl;exact hx hbo)) (λ x hx=> .inl hx) (M.nodup id)
  (λ b0 h0=>by rw[hb]at h0;cases h0;exact⟨rfl,Nat.le_refl _,λ _=>⟨rfl,rfl,Nat.le_refl _,λ _=>⟨rfl,λ _=>rfl⟩⟩⟩)
  (λ X=>by
   simp only[Dc,Bnx]
   rw[A6]
   refine⟨h0,hlt,k0,klt,vv,hk,fin _ (setRow_heap _ _ _ _ _ _ l3),hown, ?_⟩
   refine Ba.imp_mem' (λ xs x hx hr=>hr.later X.later λ b' hb'=>setRow_other _ _ _ _ ?_) hA
   rintro rfl
   exact hnd1.2.2 b' (by rw[hh];simp[Value.ownBlock]) b' (List.mem_flatMap.2 ⟨x,hx,by rw[hb'];simp⟩) rfl)
 exact⟨_,_,rfl,rfl,M',X⟩
theorem Bu5 (M:Bk V.T C bx β w) {t:TypeId} {i:TI V.E} {info:TypeInfo} {d:TypeDesc} {z:Value} (I:Cw V P t i info d z) (q6:i.size=1)
 {id:Nat} {e e2:TypeId} {u:Ty} {xss:List (List (u.den V.E))} {v rv:Nat} {a c:Int} (hb:Ae id bx=some (.rows e e2 u xss v rv (.mix a c)))
 {b n cap:Nat} (hh:(β id).hdr= .slice (some ⟨b,0,none⟩) n cap) {vv:Value} (hv1:vv.oneCell'=true)
 (hk:(β id).rows[a.toNat]?=some vv):
 UOk V.T C bx β w none (put id (.rows e e2 u ((xss.set a.toNat (xss.getD c.toNat [])).set c.toNat (xss.getD a.toNat [])) v (rv+1) .opn) bx)
  ((Instr.storeAt t (.pointer (some ⟨b,c.toNat+0,none⟩)) vv).run P w):=by
 obtain⟨a0,alt,c0,clt,rb,hrb,hO,hown,hA⟩:=M.boxes id _ hb
 obtain⟨cur,l3,hsz,fin⟩:=Biv (vv:=vv) hO hh (j:=c.toNat) (by omega)
 have hvc:vv.cells= #[vv]:=Asw hv1
 have e0:c.toNat+0=c.toNat:=rfl
 rw[e0,Lg I l3 (by rw[hvc,q6];rfl) (by rw[q6];exact hsz) (by rw[hvc];intro x hx;simp at hx;subst hx;exact hv1),hvc]
 have hbo:b∈(β id).own:=by rw[hown,hh];simp[Value.ownBlock]
 have hnd:=M.nodup id
 rw[hown]at hnd
 have hnd1:=List.nodup_append.1 hnd
 have hp:(((β id).rows.set a.toNat rb).set c.toNat vv).Perm (β id).rows:=Byb hk hrb
 have hpo:(obs (((β id).rows.set a.toNat rb).set c.toNat vv)).Perm (obs (β id).rows):=hp.flatMap_right _
 let i':BI:=⟨(β id).blk,(β id).hdr,(β id).hdr.ownBlock.toList++obs (((β id).rows.set a.toNat rb).set c.toNat vv),((β id).rows.set a.toNat rb).set c.toNat vv⟩
 have hall:((β id).hdr.ownBlock.toList++obs (((β id).rows.set a.toNat rb).set c.toNat vv)).Perm ((β id).hdr.ownBlock.toList++obs (β id).rows):=hpo.append_left _
 obtain⟨M',X⟩:=M.set (w':=w.setRow b (cur.toList.take c.toNat++[vv]++cur.toList.drop (c.toNat+[vv].length)).toArray)
  id (.rows e e2 u ((xss.set a.toNat (xss.getD c.toNat [])).set c.toNat (xss.getD a.toNat [])) v (rv+1) .opn) i' rfl rfl rfl (by simp)
  (λ x _ hx=>setRow_other _ _ _ _ (by rintro rfl;exact hx hbo)) (λ x hx=> .inl (by rw[hown];exact hall.subset hx)) (hall.symm.nodup hnd)
  (λ b0 h0=>by rw[hb]at h0;cases h0;exact⟨rfl,Nat.le_refl _,λ _=>⟨rfl,by simp,by omega,λ e=>by omega⟩⟩)
  (λ X=>by
   simp only[Dc,Zd]
   rw[A6]
   refine⟨?_,rfl, ?_⟩
   ·have:=fin _ (setRow_heap _ _ _ _ _ _ l3)
    simpa [i']using this
   ·refine Ba.of_get (by simp[i',hA.length]) λ m xs x hm hx=> ?_
    have hl:=hA.length
    have key:∃m':Nat,((β id).rows[m']?=some x)/\(xss[m']?=some xs):=by
     simp only[i']at hx
     by_cases h1:m=c.toNat
     ·subst h1
      rw[List.getElem?_set_self (by simp;omega)]at hm hx
      cases hm;cases hx
      exact⟨a.toNat,hk,Alq (by omega) _⟩
     ·rw[List.getElem?_set_ne (by omega)]at hm hx
      by_cases h2:m=a.toNat
      ·subst h2
       rw[List.getElem?_set_self (by omega)]at hm hx
       cases hm;cases hx
       exact⟨c.toNat,hrb,Alq (by omega) _⟩
      ·rw[List.getElem?_set_ne (by omega)]at hm hx
       exact⟨m,hx,hm⟩
    obtain⟨m',g1,g2⟩:=key
    obtain⟨x',hx',hr⟩:=hA.get m' xs g2
    rw[g1]at hx';cases hx'
    refine hr.later X.later λ b' hb'=>setRow_other _ _ _ _ ?_
    rintro rfl
    exact hnd1.2.2 b' (by rw[hh];simp[Value.ownBlock]) b' (Y3.2 ⟨x,List.mem_of_getElem? g1,hb'⟩) rfl)
 exact⟨_,_,rfl,rfl,M',X⟩
end
end Go.Ab
