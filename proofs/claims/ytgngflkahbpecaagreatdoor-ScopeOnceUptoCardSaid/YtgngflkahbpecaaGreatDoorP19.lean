/- Functions that are handed pointers, by their pieces. Pieces that may tell of each other's data; short forms. The tables of the types. Conditions: none beyond those that each theorem names. -/
import Derived.Test.YtgngflkahbpecaaGreatDoorP18
import Derived.Test.YtgngflkahbpecaaGreatDoorP15
import Derived.Test.YtgngflkahbpecaaGreatDoorP17
import Derived.Test.YtgngflkahbpecaaGreatDoorP12
import Derived.Test.YtgngflkahbpecaaGreatDoorP11
import Derived.Test.YtgngflkahbpecaaGreatDoorProg
namespace Go.Ab
open Go
section
variable {V:Env} {P:Program} {C:Ctx} {F:FT} {ρ:Type}
def W3 {E:Nat->Type}:List (Tk E)->List (SV E)
 |[]=>[]
 | .C j::r=> .cv (.one (.ptr j 0))::W3 r
 | .M j _ _::r=> .cv (.one (.mp j))::W3 r
 |_::r=>W3 r
variable (V)
def A9z (n:Nat) (X:FX V.E) (x:HV V.E X.ins):St V.E:=
 match Blz (mkS V.T X.ins x).2.1 with
 |some as=>⟨n,M8 0 as++kpM V 0 (W3 X.ins),(mkS V.T X.ins x).2.2⟩
 |none=>⟨n,[],[]⟩
def B5h (s:St V.E):Nat->List (SV V.E)->Bool
 |_,[]=>true
 |i,.cv (.one l)::r=>match slot V s (fr i)with
  |some (.cv (.one l'))=>Bqt l l'&&B5h s (i+1) r
  |_=>false
 |_,_=>false
def Bsn (ks:List Nat):List Nat->Bool
 |[]=>true
 |i::r=>Rw i ks&&Bsn ks r
def Al0 (ks:List Nat):List (Nat×Box V.E)->Bool
 |[]=>true
 |(_,.cells ls)::r=>Bsn ks (B5 ls)&&Al0 ks r
 |_::r=>Al0 ks r
def Cal (rs:List ResultVar) (X:FX V.E) (s:St V.E):Option (HV V.E X.outs):=
 match A2d V s rs with
 |some cs=>match Bsn (Aae X.outs) (cs.flatMap λ c=>B5 c.leaves)&&(Al0 V (Aae X.outs) (Zu (Aae X.outs) s.boxes)&&B5h V s 0 (W3 X.ins))with
  |true=>ofS V.T X.outs [] (B36 0 cs) (Zu (Aae X.outs) s.boxes)
  |false=>none
 |none=>none
def Cak (rs:List ResultVar) (X:FX V.E) (cv:HV V.E X.outs->ρ) (s:St V.E):Option ρ:=
 match Cal V rs X s with
 |some y=>some (cv y)
 |none=>none
variable {V}
def Bi4 (V:Env) (C:Ctx) (F:Act->World->Prop) (rs:List ResultVar) (X:FX V.E) (y:HV V.E X.outs):Prop:=∀s,Cal V rs X s=some y->∀a w,Sim V C s a w->F a w
theorem fX (fn:Func) (X:FX V.E) (cv:HV V.E X.outs->ρ) {Y:ρ->Prop} (h:∀y,Y (cv y)->Bi4 V C F fn.results.toList X y):Anm V C F (Cak V fn.results.toList X cv) Y:=by
 intro s o hs hY a w S
 unfold Cak at hs
 split at hs
 ·rename_i y hy
  cases hs
  exact h y hY s hy a w S
 ·cases hs
theorem Bej {ks:List Nat}:∀{l:List Nat},Bsn ks l=true->∀i∈l,Rw i ks=true
 |[],_,i,h=>by simp at h
 |j::r,h,i,hi=>by
  simp only[Bsn,Bool.and_eq_true]at h
  rcases List.mem_cons.1 hi with rfl|hi
  ·exact h.1
  ·exact Bej h.2 i hi
theorem Ban {ks:List Nat}:∀{bx:List (Nat×Box V.E)},Al0 V ks bx=true->∀{id ls},Ae id bx=some (.cells ls)->∀i∈B5 ls,Rw i ks=true
 |[],_,_,_,h=>by simp[Ae]at h
 |(j,b)::r,hk,id,ls,h=>by
  have hr:Al0 V ks r=true:=by
   unfold Al0 at hk
   split at hk
   ·rename_i heq;cases heq
   ·rename_i heq;cases heq;simp only[Bool.and_eq_true]at hk;exact hk.2
   ·rename_i heq;cases heq;exact hk
  unfold Ae at h
  split at h
  ·cases h
   unfold Al0 at hk
   simp only[Bool.and_eq_true]at hk
   exact Bej hk.1
  ·exact Ban hr h
theorem B26 (T:Tab):∀(l:List (Tk T.E)) (x:HV T.E l) (j:Nat) (b:Box T.E),Ae j (mkS T l x).2.2=some b->A0h (some b) (some b)=true->∃(i:Nat) (s:SV T.E),(W3 l)[i]?=some s/\((∃ls,b= .cells ls/\s= .cv (.one (.ptr j 0)))\/(∃k t q,b= .map k t q/\s= .cv (.one (.mp j)))):=by
 intro l
 induction l with
 |nil=>intro x j b h _;simp[mkS,Ae]at h
 |cons t r ih=>
  intro x j b h hs
  have nx:∀{i:Nat} {s q:SV T.E},(W3 r)[i]?=some s->(q::W3 r)[i+1]?=some s:=λ h=>by simpa using h
  cases t with
  |C k=>
   have h9:(if Nat.beq k j=true then some (Box.cells (mkS T r x).1)else Ae j (mkS T r x).2.2)=some b:=h
   split at h9
   ·rename_i e;have:=Ah e;subst this;cases h9
    exact⟨0,_,rfl,.inl ⟨_,rfl,rfl⟩⟩
   ·obtain⟨i,s,h1,h2⟩:=ih x j b h9 hs
    exact⟨i+1,s,nx h1,h2⟩
  |A k e t v fz=>
   obtain⟨x,y⟩:=x
   have h9:(if Nat.beq k j=true then some (Box.arr e t x v fz)else Ae j (mkS T r y).2.2)=some b:=h
   split at h9
   ·cases h9;simp[A0h]at hs
   ·exact ih y j b h9 hs
  |R k e e2 t v rv=>
   obtain⟨x,y⟩:=x
   have h9:(if Nat.beq k j=true then some (Box.rows e e2 t x v rv .opn)else Ae j (mkS T r y).2.2)=some b:=h
   split at h9
   ·cases h9;simp[A0h]at hs
   ·exact ih y j b h9 hs
  |M k kt t=>
   obtain⟨x,y⟩:=x
   have h9:(if Nat.beq k j=true then some (Box.map kt t x)else Ae j (mkS T r y).2.2)=some b:=h
   split at h9
   ·rename_i e;have:=Ah e;subst this;cases h9
    exact⟨0,_,rfl,.inr ⟨_,_,_,rfl,rfl⟩⟩
   ·obtain⟨i,s,h1,h2⟩:=ih y j b h9 hs
    exact⟨i+1,s,nx h1,h2⟩
  |S a b'=>exact ih x j b h hs
  |k a=>exact ih x j b h hs
  |q t y=>exact ih x j b h hs
  |v a=>obtain⟨x,y⟩:=x;exact ih y j b h hs
  |n a=>obtain⟨x,y⟩:=x;exact ih y j b h hs
  |s a=>obtain⟨x,y⟩:=x;exact ih y j b h hs
  |r a b' c=>obtain⟨x,y⟩:=x;exact ih y j b h hs
  |p a b'=>obtain⟨x,y⟩:=x;exact ih y j b h hs
  |e a b' c=>obtain⟨x,y⟩:=x;exact ih y j b h hs
def B5a (β:Nat->BI) {E:Nat->Type}:SV E->Value
 | .cv (.one (.ptr j _))=> .pointer (some ⟨(β j).blk,0,none⟩)
 | .cv (.one (.mp j))=> .map (some (β j).blk)
 |_=>undef
theorem A33 {T:Tab} {bx:List (Nat×Box T.E)} {β:Nat->BI} {ok:Nat->Prop} {w:World}:∀(l:List (Tk T.E)),(∀(i:Nat) (s:SV T.E),(W3 l)[i]?=some s->∀j,(s= .cv (.one (.ptr j 0))\/s= .cv (.one (.mp j)))->∃b,Ae j bx=some b)->
 Ba (Az T bx β ok w) (W3 l) ((W3 l).map (B5a β))
 |[],_=> .nil
 |t::r,h=>by
  have tl:∀{q:SV T.E},(∀(i:Nat) (s:SV T.E),(q::W3 r)[i]?=some s->∀j,(s= .cv (.one (.ptr j 0))\/s= .cv (.one (.mp j)))->∃b,Ae j bx=some b)->Ba (Az T bx β ok w) (W3 r) ((W3 r).map (B5a β)):=
   λ h=>A33 r λ i s hs=>h (i+1) s (by simpa using hs)
  cases t with
  |C j=>
   refine .cons ?_ (tl h)
   obtain⟨b,hb⟩:=h 0 _ rfl j (.inl rfl)
   show Ad T bx β ok w (.ptr j 0) _
   simp only[Ad,hb]
   refine⟨rfl, ?_⟩
   cases b<;>first|rfl|trivial
  |M j k t=>
   refine .cons ?_ (tl h)
   obtain⟨b,hb⟩:=h 0 _ rfl j (.inr rfl)
   show Ad T bx β ok w (.mp j) _
   simp only[Ad,hb]
   refine⟨rfl, ?_⟩
   cases b<;>first|rfl|trivial
  |_=>exact A33 r h
theorem Bur {T:Tab}:∀(l:List (Tk T.E)) (x:HV T.E l) (i:Nat) (s:SV T.E),(W3 l)[i]?=some s->∀j,(s= .cv (.one (.ptr j 0))\/s= .cv (.one (.mp j)))->∃b,Ae j (mkS T l x).2.2=some b:=by
 intro l
 induction l with
 |nil=>intro x i s h;simp[W3]at h
 |cons t r ih=>
  intro x i s h j hj
  have put:∀{k:Nat} {c:Box T.E} {bx:List (Nat×Box T.E)},(∃b,Ae j bx=some b)->∃b,Ae j ((k,c)::bx)=some b:=by
   intro k c bx ⟨b,hb⟩
   unfold Ae
   split
   ·exact⟨_,rfl⟩
   ·exact⟨b,hb⟩
  have here:∀{c:Box T.E} {bx:List (Nat×Box T.E)},∃b,Ae j ((j,c)::bx)=some b:=by
   intro c bx
   unfold Ae
   rw[if_pos (Nat.beq_refl _)]
   exact⟨_,rfl⟩
  cases t with
  |C k=>
   cases i with
   |zero=>
    have h:some (SV.cv (CV.one (.ptr k 0)))=some s:=h
    cases h
    rcases hj with hj|hj<;>cases hj
    exact here
   |succ i=>exact put (ih x i s (by simpa [W3]using h) j hj)
  |M k kt t=>
   obtain⟨x,y⟩:=x
   cases i with
   |zero=>
    have h:some (SV.cv (CV.one (.mp k)))=some s:=h
    cases h
    rcases hj with hj|hj<;>cases hj
    exact here
   |succ i=>exact put (ih y i s (by simpa [W3]using h) j hj)
  |A k e t v fz=>obtain⟨x,y⟩:=x;exact put (ih y i s h j hj)
  |R k e e2 t v rv=>obtain⟨x,y⟩:=x;exact put (ih y i s h j hj)
  |S a b'=>exact ih x i s h j hj
  |k a=>exact ih x i s h j hj
  |q t y=>exact ih x i s h j hj
  |v a=>obtain⟨x,y⟩:=x;exact ih y i s h j hj
  |n a=>obtain⟨x,y⟩:=x;exact ih y i s h j hj
  |s a=>obtain⟨x,y⟩:=x;exact ih y i s h j hj
  |r a b' c=>obtain⟨x,y⟩:=x;exact ih y i s h j hj
  |p a b'=>obtain⟨x,y⟩:=x;exact ih y i s h j hj
  |e a b' c=>obtain⟨x,y⟩:=x;exact ih y i s h j hj
theorem Bxk {s:St V.E}:∀{l:List (SV V.E)} {i:Nat},B5h V s i l=true->∀{n:Nat} {x:SV V.E},l[n]?=some x->slot V s (fr (i+n))=some x
 |[],_,_,n,x,h=>by simp at h
 |y::r,i,hk,n,x,h=>by
  unfold B5h at hk
  split at hk
  ·rename_i heq;cases heq
  ·rename_i heq
   cases heq
   split at hk
   ·rename_i l' hs
    simp only[Bool.and_eq_true]at hk
    cases n with
    |zero=>
     simp at h
     subst h
     rw[Nat.add_zero,hs,Brc _ _ hk.1]
    |succ n=>
     have:=Bxk hk.2 (n:=n) (x:=x) (by simpa using h)
     have e:∀i:Nat,i+1+n=i+(n+1):=λ i=>by omega
     rw[e]at this
     exact this
   ·cases hk
  ·cases hk
theorem mx {fn:Func} {f:FuncId} {X:FX V.E} (G:Bs V P)
 (hw:Bs V P->∀C F x z,X.g x=some z->Bi4 V C F fn.results.toList X (X.out z)->Bv V P C F [.code (fn.body.getD .skip)] (A9z V fn.ntmps X x))
 (h0:V.t0=false:=by kernel_rfl) (h1:P.funcs[f]?=some fn:=by kernel_rfl) (h2:fn.body=some (fn.body.getD .skip):=by kernel_rfl) (h3:(fn.name== "runtime.NumGoroutine")=false:=by kernel_rfl)
 (h4:∀x as,Blz (mkS V.T X.ins x).2.1=some as->(Nat.ble as.length fn.ntmps&&Nat.ble as.length 1000000)=true:=by intro x as h;cases h;kernel_rfl):Ae3 V.T P f X:=by
 refine⟨⟨fn,h1,by rw[h2];rfl,h3⟩, ?_⟩
 intro x z hz args res hargsS hresS C β w vs M hargs
 let kx:List (SV V.E):=W3 X.ins
 let kv:List Value:=kx.map (B5a β)
 have hkp:Ba (Az V.T (mkS V.T X.ins x).2.2 β (A2 C β w) w) kx kv:=A33 X.ins (Bur X.ins x)
 let C':Ctx:=⟨C.P,C.okp,C.B,C.chg,C.W,undef,kv.map λ v=> #[v]⟩
 have M':Bk V.T C' (mkS V.T X.ins x).2.2 β w:=⟨M.boxes,M.nones,M.nodup,M.apart,M.mine,⟨M.kept.os,M.kept.tape,M.kept.output,M.kept.size,M.kept.heap⟩⟩
 have hlen:=h4 x args hargsS
 simp only[Bool.and_eq_true,Nat.ble_eq]at hlen
 have hlenv:args.length=vs.length:=hargs.length
 have hent:A9z V fn.ntmps X x=⟨fn.ntmps,M8 0 args++kpM V 0 kx,(mkS V.T X.ins x).2.2⟩:=by unfold A9z;rw[hargsS]
 have hkget:∀i y,kx[i]?=some y->∃v,kv[i]?=some v/\Az V.T (mkS V.T X.ins x).2.2 β (A2 C β w) w y v:=λ i y hy=>hkp.get i y hy
 have Sm:Sim V C' (A9z V fn.ntmps X x) {tmps:=vs.toArray++Array.replicate (fn.ntmps-vs.toArray.size) undef,defers:=[]} w:=by
  rw[hent]
  refine⟨β, ?_,⟨rfl,λ h=>by rw[h0]at h;cases h⟩,λ k y hk=> ?_,M'⟩
  ·simp;omega
  ·have hk':Ae k ((M8 0 args:Sl V)++kpM V 0 kx)=some (some y):=by
    unfold slot at hk
    split at hk
    ·rename_i q hq;subst hk;exact hq
    ·cases hk
   rw[H3,Zk (V:=V)]at hk'
   simp only[Nat.zero_le,if_true,Nat.sub_zero]at hk'
   cases hak:args[k]? with
   |some c0=>
    rw[hak]at hk'
    simp only[Option.map_some,Option.some.injEq]at hk'
    subst hk'
    obtain⟨v,hv,hr⟩:=hargs.get k c0 hak
    have hlt:k<args.length:=(List.getElem?_eq_some_iff.1 hak).1
    have hget:Uy C' (vs.toArray++Array.replicate (fn.ntmps-vs.toArray.size) undef) k=v:=by
     rw[Blk (by omega),Array.getD_eq_getD_getElem?,Array.getElem?_append_left (by simpa [<-hlenv]using hlt)]
     simp[hv]
    show Ar V.T (mkS V.T X.ins x).2.2 β (A2 C β w) w c0 _
    rw[hget];exact hr
   |none=>
    rw[hak]at hk'
    simp only[Option.map_none]at hk'
    rcases Api (V:=V) kx 0 k with h|⟨j,q,p1,p2,p3⟩
    ·rw[h]at hk';cases hk'
    ·rw[p3]at hk'
     cases hk'
     obtain⟨v,hv,hr⟩:=hkget j _ p1
     have hget:Uy C' (vs.toArray++Array.replicate (fn.ntmps-vs.toArray.size) undef) k=v:=by
      rw[p2,A8q,Nat.zero_add]
      show((kv.map λ v=> #[v]).getD j #[]).getD 0 undef=v
      rw[List.getD_eq_getElem?_getD,List.getElem?_map,hv]
      rfl
     show Az V.T (mkS V.T X.ins x).2.2 β (A2 C β w) w _ _
     rw[hget];exact hr
 refine Calls.of_goes h1 h2 λ b cs=> ?_
 refine hw G C' _ x z hz ?_ _ _ Sm b cs
 intro s hfin a w' S'
 obtain⟨β',S'⟩:=S'
 unfold Cal at hfin
 split at hfin
 rotate_left
 ·cases hfin
 rename_i rcs hres
 split at hfin
 rotate_left
 ·cases hfin
 rename_i hck
 simp only[Bool.and_eq_true]at hck
 obtain⟨hc1,hc2,hc3⟩:=hck
 have hmk:=B01 V.T G.tab _ _ _ _ _ hfin
 have hrcs:rcs=res:=by
  rw[hmk]at hresS
  simp only[A2t,Option.some.injEq]at hresS
  exact hresS
 subst hrcs
 have hpl:He ([]:Sl V) s=s:=by cases s;simp[He]
 obtain⟨rs,r1,r2⟩:=A2z (V:=V) (m:=[]) G.types (λ _ _=>rfl) (by rw[hpl];exact S') _ _ hres
 obtain⟨β2,M2,L,hag⟩:=Bcq (V:=V) (p:=λ i=>Rw i (Aae X.outs)) (bx':=Zu (Aae X.outs) s.boxes) S'.mem (λ id=>Ib _ _ _) (λ id ls hp hl=>Ban hc2 (by rw[Ib,if_pos hp];exact hl))
 rw[hmk]
 refine⟨S'.defers.1,Arb rs, ?_,β2,rs,rfl,⟨M2.boxes,M2.nones,M2.nodup,M2.apart,M2.mine,⟨M2.kept.os,M2.kept.tape,M2.kept.output,M2.kept.size,M2.kept.heap⟩⟩, ?_, ?_⟩
 ·have hm:=r1
  unfold results
  rw[Array.mapM_eq_mapM_toList]
  simp only[Sem.run_bind,Sem.run_map]
  refine(congrArg (λ r=>Result.andThen (Result.andThen r _) _) hm).trans ?_
  simp only[Result.andThen_ok,Sem.run_pure]
  congr 1
  match rs with
  |[]=>rfl
  |[v]=>rfl
  |v::v'::r=>rfl
 ·refine r2.imp_mem λ c v hc k=> ?_
  have hin:∀id∈B5 c.leaves,Rw id (Aae X.outs)=true:=λ id hid=>Bej hc1 id (List.mem_flatMap.2 ⟨c,hc,hid⟩)
  exact Ar.agree (V:=V) L (λ id hid=>⟨.inl (hag id (hin id hid)).1,(hag id (hin id hid)).2⟩) k
 ·intro j hj
  -- what stays
  have hmem:Rw j (Aae X.outs)=true:=by
   cases hm:Rw j (Aae X.outs)with
   |true=>rfl
   |false=>
    have:Ae j (Zu (Aae X.outs) s.boxes)=none:=by rw[Ib,hm];rfl
    simp only[this]at hj
    cases hb:Ae j (mkS V.T X.ins x).2.2 with
    |none=>rw[hb]at hj;cases hj
    |some b=>rw[hb]at hj;cases b<;>cases hj
  have hlk:Ae j (Zu (Aae X.outs) s.boxes)=Ae j s.boxes:=by rw[Ib,if_pos hmem]
  simp only[hlk]at hj
  rw[(hag j hmem).2]
  cases hb:Ae j (mkS V.T X.ins x).2.2 with
  |none=>rw[hb]at hj;cases hj
  |some b=>
   rw[hb]at hj
   have hbb:A0h (some b) (some b)=true:=by cases b<;>first|rfl|(cases Ae j s.boxes<;>cases hj)
   obtain⟨i,sv,hi,hsv⟩:=B26 V.T X.ins x j b hb hbb
   have hsl:=Bxk hc3 hi
   rw[Nat.zero_add]at hsl
   have hrep:=S'.slots _ _ hsl
   have hget:Uy C' a.tmps (fr i)=B5a β sv:=by
    rw[A8q]
    show((kv.map λ v=> #[v]).getD i #[]).getD 0 undef=_
    rw[List.getD_eq_getElem?_getD,List.getElem?_map,List.getElem?_map,show kx[i]?=some sv from hi]
    rfl
   rw[hget]at hrep
   cases hb':Ae j s.boxes with
   |none=>rw[hb']at hj;cases b<;>cases hj
   |some b'=>
    rw[hb']at hj
    rcases hsv with⟨ls,rfl,rfl⟩|⟨k,t,q,rfl,rfl⟩
    ·cases b'<;>try cases hj
     have hrep:Ad V.T s.boxes β' (A2 C' β' w') w' (.ptr j 0) (.pointer (some ⟨(β j).blk,0,none⟩)):=hrep
     simp only[Ad,hb']at hrep
     have:=hrep.2
     simp only[Value.pointer.injEq,Option.some.injEq,Addr.mk.injEq]at this
     exact this.1.symm
    ·cases b'<;>try cases hj
     have hrep:Ad V.T s.boxes β' (A2 C' β' w') w' (.mp j) (.map (some (β j).blk)):=hrep
     simp only[Ad,hb']at hrep
     have:=hrep.2
     simp only[Value.map.injEq,Option.some.injEq]at this
     exact this.symm
end
theorem A3t {T:Tab} {P:Program} {f:FuncId} {ins outs:List (Tk T.E)} {ρ τ:Type} {out:ρ->HV T.E outs} (ap:τ->HV T.E ins->Option ρ) (It:Nat->τ) (r:τ) (m:HV T.E ins->Nat) (h:∀k,Ae3 T P f ⟨ins,outs,ρ,ap (It k),out⟩) (e:∀x,ap r x=ap (It (m x)) x):Ae3 T P f ⟨ins,outs,ρ,ap r,out⟩:=
 ⟨(h 0).1,λ x z hx=>(h (m x)).2 x z ((e x).symm.trans hx)⟩
theorem m0x {T:Tab} {P:Program} {fn:Func} {f:FuncId} {X:FX T.E} (hn:∀x,X.g x=none) (h1:P.funcs[f]?=some fn:=by kernel_rfl) (h2:fn.body.isSome=true:=by kernel_rfl) (h3:(fn.name== "runtime.NumGoroutine")=false:=by kernel_rfl):Ae3 T P f X:=
 ⟨⟨fn,h1,h2,h3⟩,λ x z h=>by rw[hn x]at h;cases h⟩
def Bu7 {E:Nat->Type}:List (CV E)->List Nat
 |[]=>[]
 | .one (.clo g _)::r=>g::Bu7 r
 |_::r=>Bu7 r
def B2k:List Nat->List Nat->Bool
 |[],[]=>true
 |a::l,b::m=>Nat.beq a b&&B2k l m
 |_,_=>false
def Bwk {E:Nat->Type} (f:FuncId) (as:List (CV E)):List (FuncId×List Nat×FX E)->Option (FX E)
 |[]=>none
 |(g,ks,X)::r=>match Nat.beq g f&&B2k ks (Bu7 as)with
  |true=>some X
  |false=>Bwk f as r
def Az5 (T:Tab) (P:Program):List (FuncId×List Nat×FX T.E)->Prop
 |[]=>True
 |(f,_,X)::r=>Ae3 T P f X/\Az5 T P r
def Aym (T:Tab) (P:Program):List (FuncId×FL T.E)->Prop
 |[]=>True
 |(f,S)::r=>L7 T P f S/\Aym T P r
theorem Ay6 {T:Tab} {P:Program}:∀{l:List (FuncId×List Nat×FX T.E)},Az5 T P l->∀{f as X},Bwk f as l=some X->Ae3 T P f X
 |[],_,_,_,_,h=>by cases h
 |(g,ks,Y)::r,hA,f,as,X,h=>by
  unfold Bwk at h
  split at h
  ·rename_i e
   cases h
   simp only[Bool.and_eq_true]at e
   have:=Ah e.1
   subst this
   exact hA.1
  ·exact Ay6 hA.2 h
theorem Azz {T:Tab} {P:Program}:∀{l:List (FuncId×FL T.E)},Aym T P l->∀{f S},Ae f l=some S->L7 T P f S
 |[],_,_,_,h=>by simp[Ae]at h
 |(g,S')::r,hA,f,S,h=>by
  unfold Ae at h
  split at h
  ·rename_i e
   cases h
   have:=Ah e
   subst this
   exact hA.1
  ·exact Azz hA.2 h
def B84 (T:Tab) (ti:TypeId->Option (TI T.E)) (eqs:TypeId->Bool) (fs:List (FuncId×FS T.E)) (xs:List (FuncId×List Nat×FX T.E)) (ps:List (FuncId×FL T.E)):Env:=
 ⟨T,ti,eqs,λ f=>Ae f fs,λ _=>none,λ _=>none,λ f=>Ae f ps,false,0,λ f as=>Bwk f as xs⟩
theorem Ccj {T:Tab} {ti:TypeId->Option (TI T.E)} {eqs:TypeId->Bool} {fs:List (FuncId×FS T.E)} {xs:List (FuncId×List Nat×FX T.E)} {ps:List (FuncId×FL T.E)}:∀(l m:List (Av T.E)),eqL (B84 T ti eqs fs xs ps) l m=eqL (Axx T ti eqs []) l m:=by
 intro l
 induction l with
 |nil=>intro m;cases m<;>simp[eqL]
 |cons a l ih=>
  intro m
  cases m with
  |nil=>cases a<;>simp[eqL]
  |cons b m=>cases a<;>cases b<;>simp[eqL,ih]
theorem B9n {T:Tab} {ti:TypeId->Option (TI T.E)} {eqs:TypeId->Bool} {P:Program} {fs:List (FuncId×FS T.E)} {xs:List (FuncId×List Nat×FX T.E)} {ps:List (FuncId×FL T.E)} (B:Bse T ti eqs P) (h:Amu T ti eqs P fs) (hx:Az5 T P xs) (hp:Aym T P ps):
 Bs (B84 T ti eqs fs xs ps) P:=
 ⟨B.tab,λ t i hi=>by obtain⟨info,d,z,I⟩:=B.types t i hi;exact⟨info,d,z,I.inf,I.under,I.kind,I.size,I.bytes,I.ty,I.pos,I.bpos,I.zero,I.zeros,I.zcells,I.zagg⟩,
  λ t ht i hi bx β ok w' l m b c d hl h=>B.eqs t ht i hi bx β ok w' l m b c d hl (by rw[<-h];exact(Ccj l m).symm),⟨λ _ _ hS=>Ap8 h hS,(λ _ _ hS=>by cases hS),(λ _ _ hS=>by cases hS),(λ _ _ hS=>Azz hp hS),λ _ _ _ hS=>Ay6 hx hS⟩,B.mixed⟩
inductive Kt {V:Env} {P:Program} (G:Bs V P) (C:Ctx) (F:FT) (n:Nat) (own:List Nat):Prop
 |mk
section
variable {V:Env} {P:Program} {G:Bs V P} {C:Ctx} {F:FT} {ρ τ σ:Type} {n:Nat} {own:List Nat}
abbrev Ok (_:Kt G C F n own) (X:ρ->Prop) (p:Pc V ρ):Prop:=Blm V P n C F X p
abbrev Lz (_:Kt G C F n own) (k:List Item) (l:List (Tk V.E)) (XL:τ->Prop):HV V.E l⊕τ->Prop:=LX V P n C F k l XL
abbrev Gz (_:Kt G C F n own) (k:List Item) (l:List (Tk V.E)) (x:HV V.E l):Prop:=GE V P n C F k l x
abbrev Ez (_:Kt G C F n own) (fn:Func) (S:FS V.E) (y:HL V.E S.res):Prop:=En V C F fn S y
abbrev Ex (_:Kt G C F n own) (fn:Func) (X:FX V.E) (y:HV V.E X.outs):Prop:=Bi4 V C F fn.results.toList X y
theorem pz (k:Kt G C F n own) {X:ρ->Prop} {p:Pc V ρ} {cuts:HV V.E p.l->List (Pc V ρ)} {fin:St V.E->Option ρ} (hf:Anm V C F fin X) (sc:Sc) (hc:∀v,Ang V P n C F X (cuts v))
 (e:∀v,dn V own n (cuts v) fin sc p.k [] (p.st n v)=p.val v:=by intro v;kernel_rfl) (ha:∀v,(arr sc p.k).map (Ahg (cuts v))=arr sc p.k:=by intro v;kernel_rfl):Ok k X p:=
 λ v _ h hX=>Ag0 G (hc v) hf hX sc p.k [] _ ((e v).trans h) (λ _ _ h=>by cases h) (Xp (ha v))
theorem lz (k:Kt G C F n own) {k':List Item} {l:List (Tk V.E)} {body:HV V.E l->Option (HV V.E l⊕τ)} {XK:τ->Option ρ} {X:ρ->Prop} {XL:τ->Prop} (hb:Ok k (Lz k k' l XL) ⟨k',l,body⟩) (hx:∀r o,XK r=some o->X o->XL r):
 Ok k X ⟨k',l,λ v=>Option.bind (iter body v) XK⟩:=lk hb hx
theorem fz (_:Kt G C F n own) (fn:Func) (S:FS V.E) (cv:HL V.E S.res->ρ) {X:ρ->Prop} (h:∀y,X (cv y)->En V C F fn S y):Anm V C F (B5j V fn.results.toList S.resOwn S.res cv) X:=fS fn S cv h
theorem fx (_:Kt G C F n own) (fn:Func) (X:FX V.E) (cv:HV V.E X.outs->ρ) {Y:ρ->Prop} (h:∀y,Y (cv y)->Bi4 V C F fn.results.toList X y):Anm V C F (Cak V fn.results.toList X cv) Y:=fX fn X cv h
end
theorem mz {V:Env} {P:Program} (G:Bs V P) (f:FuncId) (fn:Func) (S:FS V.E) (own:List Nat) {cuts:HL V.E S.args->List (Pc V S.ρ)} {fin:St V.E->Option S.ρ}
 (hf:∀{C F},Kt G C F fn.ntmps own->Anm V C F fin (λ z=>En V C F fn S (S.out z))) (sc:Sc) (hc:∀{C F},Kt G C F fn.ntmps own->∀x,Ang V P fn.ntmps C F (λ z=>En V C F fn S (S.out z)) (cuts x))
 (e:∀x,dn V own fn.ntmps (cuts x) fin sc [.code (fn.body.getD .skip)] [] (As4 V fn.ntmps S x)=S.g x:=by intro v;kernel_rfl) (ha:∀x,(arr sc [.code (fn.body.getD .skip)]).map (Ahg (cuts x))=arr sc [.code (fn.body.getD .skip)]:=by intro v;kernel_rfl)
 (h0:V.t0=false:=by kernel_rfl) (h1:P.funcs[f]?=some fn:=by kernel_rfl) (h2:fn.body=some (fn.body.getD .skip):=by kernel_rfl) (h3:(fn.name== "runtime.NumGoroutine")=false:=by kernel_rfl) (h4:(Nat.ble S.args.length fn.ntmps&&Nat.ble S.args.length 1000000)=true:=by kernel_rfl):Ub V.T V.ti V.eqs P f S:=
 show E1 V P f ⟨S.args,S.res,S.argOwn,S.resOwn,S.ρ,S.g,S.out⟩from md G (λ _ C F x _ h hE=>Ag0 G (hc .mk x) (hf .mk) hE sc _ [] _ ((e x).trans h) (λ _ _ h=>by cases h) (Xp (ha x))) h0 h1 h2 h3 h4
theorem mw {V:Env} {P:Program} (G:Bs V P) (f:FuncId) (fn:Func) (S:FX V.E) (own:List Nat) {cuts:HV V.E S.ins->List (Pc V S.ρ)} {fin:St V.E->Option S.ρ}
 (hf:∀{C F},Kt G C F fn.ntmps own->Anm V C F fin (λ z=>Bi4 V C F fn.results.toList S (S.out z))) (sc:Sc) (hc:∀{C F},Kt G C F fn.ntmps own->∀x,Ang V P fn.ntmps C F (λ z=>Bi4 V C F fn.results.toList S (S.out z)) (cuts x))
 (e:∀x,dn V own fn.ntmps (cuts x) fin sc [.code (fn.body.getD .skip)] [] (A9z V fn.ntmps S x)=S.g x:=by intro v;kernel_rfl) (ha:∀x,(arr sc [.code (fn.body.getD .skip)]).map (Ahg (cuts x))=arr sc [.code (fn.body.getD .skip)]:=by intro v;kernel_rfl)
 (h0:V.t0=false:=by kernel_rfl) (h1:P.funcs[f]?=some fn:=by kernel_rfl) (h2:fn.body=some (fn.body.getD .skip):=by kernel_rfl) (h3:(fn.name== "runtime.NumGoroutine")=false:=by kernel_rfl)
 (h4:∀x as,Blz (mkS V.T S.ins x).2.1=some as->(Nat.ble as.length fn.ntmps&&Nat.ble as.length 1000000)=true:=by intro x as h;cases h;kernel_rfl):Ae3 V.T P f S:=
 mx G (λ _ C F x _ h hE=>Ag0 G (hc .mk x) (hf .mk) hE sc _ [] _ ((e x).trans h) (λ _ _ h=>by cases h) (Xp (ha x))) h0 h1 h2 h3 h4
set_option linter.unusedVariables false
def Axq (z:Bd):List AV:=[.int .i64 z.N]++([.int .i64 z.D])
def Xt (z:Bd):List (Av yeE):=[.int .i64 z.N]++([.int .i64 z.D])
def Asn:Prs yeE Bd:=Adb (Eo (Aa5 .i64) (Aa5 .i64)) λ x=>⟨x.1,x.2⟩
theorem Afc:Prs.Spec Asn Xt:=C6 (A1 (Cu _) ((Cu _))) _ _ λ _=>rfl
mutual
def Gd:Am->List AV
 |⟨Op,Name,N,Kids⟩=>[.int .i64 Op]++([.str Name]++(Axq N++([.sl 5 false (Amw Kids)])))
def Amw:List Am->List AV
 |[]=>[]
 |k::r=>AV.ag (Gd k)::Amw r
end
theorem Ats:∀l:List Am,Amw l=List.map (λ z=>AV.ag (Gd z)) l
 |[]=>rfl
 |k::r=>by rw[Amw,Ats r];rfl
theorem Hx (z:Am):Gd z=[.int .i64 z.Op]++([.str z.Name]++(Axq z.N++([.sl 5 false (List.map (λ z=>AV.ag (Gd z)) z.Kids)]))):=by cases z;rw[Gd,Ats]
def Gq (z:Am):List (Av yeE):=[.int .i64 z.Op]++([.str z.Name]++(Xt z.N++([.sl (.nm 1) false z.Kids])))
def Kg:Prs yeE Am:=Adb (Eo (Aa5 .i64) (Eo (Au7) (Eo (Asn) (pSl (.nm 1) false)))) λ x=>⟨x.1,x.2.1,x.2.2.1,x.2.2.2⟩
theorem Ej:Prs.Spec Kg Gq:=C6 (A1 (Cu _) (A1 H9 (A1 Afc ((Nk _ _))))) _ _ λ _=>rfl
def Aj2 (z:Ak):List AV:=[.str z.Path]++([.str z.Type_]++(Gd z.Value))
def Bcs (z:Ak):List (Av yeE):=[.str z.Path]++([.str z.Type_]++(Gq z.Value))
def Bj1:Prs yeE Ak:=Adb (Eo (Au7) (Eo (Au7) (Kg))) λ x=>⟨x.1,x.2.1,x.2.2⟩
theorem Bbj:Prs.Spec Bj1 Bcs:=C6 (A1 H9 (A1 H9 (Ej))) _ _ λ _=>rfl
def Bji (z:Qy):List AV:=[.str z.Name]++([.sl 7 false (List.map (λ z=>AV.ag (Aj2 z)) z.Mods)])
def A4w (z:Qy):List (Av yeE):=[.str z.Name]++([.sl (.nm 2) false z.Mods])
def A9t:Prs yeE Qy:=Adb (Eo (Au7) (pSl (.nm 2) false)) λ x=>⟨x.1,x.2⟩
theorem A6s:Prs.Spec A9t A4w:=C6 (A1 H9 ((Nk _ _))) _ _ λ _=>rfl
def Ak4 (z:Ax):List AV:=[.str z.Name]++([.str z.Type_]++([.int .i64 z.Var]++([.bool z.Flow]++([.int .i64 z.Size]++([.int .i64 z.Scope]++([.bool z.Replace]++(Gd z.Cond++(Gd z.Value++([.str z.Unit]++([.sl 7 false (List.map (λ z=>AV.ag (Aj2 z)) z.Mods)]))))))))))
def A5p (z:Ax):List (Av yeE):=[.str z.Name]++([.str z.Type_]++([.int .i64 z.Var]++([.bool z.Flow]++([.int .i64 z.Size]++([.int .i64 z.Scope]++([.bool z.Replace]++(Gq z.Cond++(Gq z.Value++([.str z.Unit]++([.sl (.nm 2) false z.Mods]))))))))))
def Bbs:Prs yeE Ax:=Adb (Eo (Au7) (Eo (Au7) (Eo (Aa5 .i64) (Eo (Bfh) (Eo (Aa5 .i64) (Eo (Aa5 .i64) (Eo (Bfh) (Eo (Kg) (Eo (Kg) (Eo (Au7) (pSl (.nm 2) false))))))))))) λ x=>⟨x.1,x.2.1,x.2.2.1,x.2.2.2.1,x.2.2.2.2.1,x.2.2.2.2.2.1,x.2.2.2.2.2.2.1,x.2.2.2.2.2.2.2.1,x.2.2.2.2.2.2.2.2.1,x.2.2.2.2.2.2.2.2.2.1,x.2.2.2.2.2.2.2.2.2.2⟩
theorem A68:Prs.Spec Bbs A5p:=C6 (A1 H9 (A1 H9 (A1 (Cu _) (A1 Aeo (A1 (Cu _) (A1 (Cu _) (A1 Aeo (A1 Ej (A1 Ej (A1 H9 ((Nk _ _)))))))))))) _ _ λ _=>rfl
def A8s (z:U4):List AV:=[.bool z.Init]++(Gd z.L++(Gd z.R))
def Biu (z:U4):List (Av yeE):=[.bool z.Init]++(Gq z.L++(Gq z.R))
def Boq:Prs yeE U4:=Adb (Eo (Bfh) (Eo (Kg) (Kg))) λ x=>⟨x.1,x.2.1,x.2.2⟩
theorem Bg3:Prs.Spec Boq Biu:=C6 (A1 Aeo (A1 Ej (Ej))) _ _ λ _=>rfl
def Bjf (z:Mf):List AV:=[.str z.A]++([.str z.B]++([.str z.In]))
def A5e (z:Mf):List (Av yeE):=[.str z.A]++([.str z.B]++([.str z.In]))
def A89:Prs yeE Mf:=Adb (Eo (Au7) (Eo (Au7) (Au7))) λ x=>⟨x.1,x.2.1,x.2.2⟩
theorem A7y:Prs.Spec A89 A5e:=C6 (A1 H9 (A1 H9 (H9))) _ _ λ _=>rfl
def Azl (z:Aa9):List AV:=[.str z.Name]++(Gd z.E)
def Bc2 (z:Aa9):List (Av yeE):=[.str z.Name]++(Gq z.E)
def Bjj:Prs yeE Aa9:=Adb (Eo (Au7) (Kg)) λ x=>⟨x.1,x.2⟩
theorem A99:Prs.Spec Bjj Bc2:=C6 (A1 H9 (Ej)) _ _ λ _=>rfl
def As7 (z:G3):List AV:=Gd z.C++([.sl 6 false (List.map (λ z=>AV.ag (Azl z)) z.Sets)])
def A4t (z:G3):List (Av yeE):=Gq z.C++([.sl (.nm 7) false z.Sets])
def Bes:Prs yeE G3:=Adb (Eo (Kg) (pSl (.nm 7) false)) λ x=>⟨x.1,x.2⟩
theorem A6l:Prs.Spec Bes A4t:=C6 (A1 Ej ((Nk _ _))) _ _ λ _=>rfl
def Btz (z:Aa):List AV:=[.str z.Name]++([.int .i64 z.Kind]++([.sl 2 false (List.map (λ z=>AV.ag (Bji z)) z.Bases)]++([.sl 19 false (List.map (λ z=>AV.ag (Ak4 z)) z.Comps)]++([.sl 11 false (List.map (λ z=>AV.ag (A8s z)) z.Eqs)]++([.sl 3 false (List.map (λ z=>AV.ag (Bjf z)) z.Links)]++([.sl 6 false (List.map (λ z=>AV.ag (As7 z)) z.Whens)]))))))
def Awp (z:Aa):List (Av yeE):=[.str z.Name]++([.int .i64 z.Kind]++([.sl (.nm 3) false z.Bases]++([.sl (.nm 4) false z.Comps]++([.sl (.nm 5) false z.Eqs]++([.sl (.nm 6) false z.Links]++([.sl (.nm 8) false z.Whens]))))))
def A4s:Prs yeE Aa:=Adb (Eo (Au7) (Eo (Aa5 .i64) (Eo (pSl (.nm 3) false) (Eo (pSl (.nm 4) false) (Eo (pSl (.nm 5) false) (Eo (pSl (.nm 6) false) (pSl (.nm 8) false))))))) λ x=>⟨x.1,x.2.1,x.2.2.1,x.2.2.2.1,x.2.2.2.2.1,x.2.2.2.2.2.1,x.2.2.2.2.2.2⟩
theorem A2y:Prs.Spec A4s Awp:=C6 (A1 H9 (A1 (Cu _) (A1 (Nk _ _) (A1 (Nk _ _) (A1 (Nk _ _) (A1 (Nk _ _) ((Nk _ _)))))))) _ _ λ _=>rfl
def App (z:A5):List AV:=Gd z.e++([.bool z.cond])
def At5 (z:A5):List (Av yeE):=Gq z.e++([.bool z.cond])
def Aw7:Prs yeE A5:=Adb (Eo (Kg) (Bfh)) λ x=>⟨x.1,x.2⟩
theorem Aws:Prs.Spec Aw7 At5:=C6 (A1 Ej (Aeo)) _ _ λ _=>rfl
def Bd0 (z:E9):List AV:=[.int .i64 z.e0]++([.int .i64 z.e1]++([.int .i64 z.e2]++([.int .i64 z.e3]++([.int .i64 z.e4]++([.int .i64 z.e5]++([.int .i64 z.e6]))))))
def Al8 (z:E9):List (Av yeE):=[.int .i64 z.e0]++([.int .i64 z.e1]++([.int .i64 z.e2]++([.int .i64 z.e3]++([.int .i64 z.e4]++([.int .i64 z.e5]++([.int .i64 z.e6]))))))
def Asq:Prs yeE E9:=Adb (Eo (Aa5 .i64) (Eo (Aa5 .i64) (Eo (Aa5 .i64) (Eo (Aa5 .i64) (Eo (Aa5 .i64) (Eo (Aa5 .i64) (Aa5 .i64))))))) λ x=>⟨x.1,x.2.1,x.2.2.1,x.2.2.2.1,x.2.2.2.2.1,x.2.2.2.2.2.1,x.2.2.2.2.2.2⟩
theorem Ae2:Prs.Spec Asq Al8:=C6 (A1 (Cu _) (A1 (Cu _) (A1 (Cu _) (A1 (Cu _) (A1 (Cu _) (A1 (Cu _) ((Cu _)))))))) _ _ λ _=>rfl
def B0f (z:A7):List AV:=Bd0 z.E++(Axq z.F)
def A5s (z:A7):List (Av yeE):=Al8 z.E++(Xt z.F)
def Ba6:Prs yeE A7:=Adb (Eo (Asq) (Asn)) λ x=>⟨x.1,x.2⟩
theorem A6z:Prs.Spec Ba6 A5s:=C6 (A1 Ae2 (Afc)) _ _ λ _=>rfl
def Bs5 (z:A4):List AV:=[.int .i64 z.v]++([.sl 1 true (List.map (λ n=>AV.int .u32 n) z.m)]++([.bool z.neg]))
def Bw (z:A4):List (Av yeE):=[.int .i64 z.v]++([.sl (.int .u32) true z.m]++([.bool z.neg]))
def A8z:Prs yeE A4:=Adb (Eo (Aa5 .i64) (Eo (pSl (.int .u32) true) (Bfh))) λ x=>⟨x.1,x.2.1,x.2.2⟩
theorem Am2:Prs.Spec A8z Bw:=C6 (A1 (Cu _) (A1 (Nk _ _) (Aeo))) _ _ λ _=>rfl
def B32 (z:B7):List AV:=Bs5 z.N++(Bs5 z.D)
def Ow (z:B7):List (Av yeE):=Bw z.N++(Bw z.D)
def Bm0:Prs yeE B7:=Adb (Eo (A8z) (A8z)) λ x=>⟨x.1,x.2⟩
theorem Ayd:Prs.Spec Bm0 Ow:=C6 (A1 Am2 (Am2)) _ _ λ _=>rfl
def Bms (z:Bm):List AV:=[.str z.name]++([.int .i64 z.n])
def Ark (z:Bm):List (Av yeE):=[.str z.name]++([.int .i64 z.n])
def Atj:Prs yeE Bm:=Adb (Eo (Au7) (Aa5 .i64)) λ x=>⟨x.1,x.2⟩
theorem Avk:Prs.Spec Atj Ark:=C6 (A1 H9 ((Cu _))) _ _ λ _=>rfl
def B0g (z:Bu):List AV:=Bd0 z.e++(B32 z.f)
def A4j (z:Bu):List (Av yeE):=Al8 z.e++(Ow z.f)
def Bac:Prs yeE Bu:=Adb (Eo (Asq) (Bm0)) λ x=>⟨x.1,x.2⟩
theorem A67:Prs.Spec Bac A4j:=C6 (A1 Ae2 (Ayd)) _ _ λ _=>rfl
def Brg (z:Cb):List AV:=[.sl 19 false (List.map (λ z=>AV.ag (Ak4 z)) z.comps)]++([.sl 7 false (List.map (λ z=>AV.ag (Aj2 z)) z.mods)])
def Atv (z:Cb):List (Av yeE):=[.sl (.nm 4) false z.comps]++([.sl (.nm 2) false z.mods])
def Axf:Prs yeE Cb:=Adb (Eo (pSl (.nm 4) false) (pSl (.nm 2) false)) λ x=>⟨x.1,x.2⟩
theorem Awt:Prs.Spec Axf Atv:=C6 (A1 (Nk _ _) ((Nk _ _))) _ _ λ _=>rfl
def Brs (z:Ai):List AV:=[.int .i64 z.class_]++([.int .i64 z.by_]++([.int .i64 z.base]))
def Aug (z:Ai):List (Av yeE):=[.int .i64 z.class_]++([.int .i64 z.by_]++([.int .i64 z.base]))
def Aww:Prs yeE Ai:=Adb (Eo (Aa5 .i64) (Eo (Aa5 .i64) (Aa5 .i64))) λ x=>⟨x.1,x.2.1,x.2.2⟩
theorem Ay5:Prs.Spec Aww Aug:=C6 (A1 (Cu _) (A1 (Cu _) ((Cu _)))) _ _ λ _=>rfl
def B34 (z:D7):List AV:=[.int .i64 z.e0]++([.int .i64 z.e1])
def Bbt (z:D7):List (Av yeE):=[.int .i64 z.e0]++([.int .i64 z.e1])
def Bis:Prs yeE D7:=Adb (Eo (Aa5 .i64) (Aa5 .i64)) λ x=>⟨x.1,x.2⟩
theorem A9c:Prs.Spec Bis Bbt:=C6 (A1 (Cu _) ((Cu _))) _ _ λ _=>rfl
def Bq (z:Bp):List AV:=[.int .u8 z.lo]++([.int .u8 z.hi])
def Bj (z:Bp):List (Av yeE):=[.int .u8 z.lo]++([.int .u8 z.hi])
def Bn:Prs yeE Bp:=Adb (Eo (Aa5 .u8) (Aa5 .u8)) λ x=>⟨x.1,x.2⟩
theorem Bb:Prs.Spec Bn Bj:=C6 (A1 (Cu _) ((Cu _))) _ _ λ _=>rfl
def B2m (z:Bcp):List AV:=Bq z.e0++(Bq z.e1++(Bq z.e2++(Bq z.e3++(Bq z.e4++(Bq z.e5++(Bq z.e6++(Bq z.e7++(Bq z.e8++(Bq z.e9++(Bq z.e10++(Bq z.e11++(Bq z.e12++(Bq z.e13++(Bq z.e14++(Bq z.e15)))))))))))))))
def Bcz (z:Bcp):List (Av yeE):=Bj z.e0++(Bj z.e1++(Bj z.e2++(Bj z.e3++(Bj z.e4++(Bj z.e5++(Bj z.e6++(Bj z.e7++(Bj z.e8++(Bj z.e9++(Bj z.e10++(Bj z.e11++(Bj z.e12++(Bj z.e13++(Bj z.e14++(Bj z.e15)))))))))))))))
def Bjw:Prs yeE Bcp:=Adb (Eo (Bn) (Eo (Bn) (Eo (Bn) (Eo (Bn) (Eo (Bn) (Eo (Bn) (Eo (Bn) (Eo (Bn) (Eo (Bn) (Eo (Bn) (Eo (Bn) (Eo (Bn) (Eo (Bn) (Eo (Bn) (Eo (Bn) (Bn)))))))))))))))) λ x=>⟨x.1,x.2.1,x.2.2.1,x.2.2.2.1,x.2.2.2.2.1,x.2.2.2.2.2.1,x.2.2.2.2.2.2.1,x.2.2.2.2.2.2.2.1,x.2.2.2.2.2.2.2.2.1,x.2.2.2.2.2.2.2.2.2.1,x.2.2.2.2.2.2.2.2.2.2.1,x.2.2.2.2.2.2.2.2.2.2.2.1,x.2.2.2.2.2.2.2.2.2.2.2.2.1,x.2.2.2.2.2.2.2.2.2.2.2.2.2.1,x.2.2.2.2.2.2.2.2.2.2.2.2.2.2.1,x.2.2.2.2.2.2.2.2.2.2.2.2.2.2.2⟩
theorem Be7:Prs.Spec Bjw Bcz:=C6 (A1 Bb (A1 Bb (A1 Bb (A1 Bb (A1 Bb (A1 Bb (A1 Bb (A1 Bb (A1 Bb (A1 Bb (A1 Bb (A1 Bb (A1 Bb (A1 Bb (A1 Bb (Bb)))))))))))))))) _ _ λ _=>rfl
@[reducible] def yeT:Tab where
 E:=yeE
 sz:=λ n=>match n with
  |0=>2
  |1=>5
  |2=>7
  |3=>2
  |4=>19
  |5=>11
  |6=>3
  |7=>6
  |8=>6
  |9=>7
  |10=>6
  |11=>7
  |12=>9
  |13=>3
  |14=>6
  |15=>2
  |16=>13
  |17=>2
  |18=>3
  |19=>2
  |20=>2
  |21=>32
  |_=>0
 df:=λ n=>match n with
  |0=>Bk5
  |1=>D2
  |2=>A3
  |3=>Cl
  |4=>An
  |5=>Afa
  |6=>Ay9
  |7=>Ac2
  |8=>Bz
  |9=>Ag
  |10=>T8
  |11=>Bm7
  |12=>Aex
  |13=>B2x
  |14=>B74
  |15=>Ag4
  |16=>B21
  |17=>Kf
  |18=>Be
  |19=>B6e
  |20=>Bt
  |21=>B6d
  |_+22=>()
 toL:=λ n=>match n with
  |0=>Xt
  |1=>Gq
  |2=>Bcs
  |3=>A4w
  |4=>A5p
  |5=>Biu
  |6=>A5e
  |7=>Bc2
  |8=>A4t
  |9=>Awp
  |10=>At5
  |11=>Al8
  |12=>A5s
  |13=>Bw
  |14=>Ow
  |15=>Ark
  |16=>A4j
  |17=>Atv
  |18=>Aug
  |19=>Bbt
  |20=>Bj
  |21=>Bcz
  |_+22=>λ _=>[]
 ofL:=λ n=>match n with
  |0=>Ab4 Asn
  |1=>Ab4 Kg
  |2=>Ab4 Bj1
  |3=>Ab4 A9t
  |4=>Ab4 Bbs
  |5=>Ab4 Boq
  |6=>Ab4 A89
  |7=>Ab4 Bjj
  |8=>Ab4 Bes
  |9=>Ab4 A4s
  |10=>Ab4 Aw7
  |11=>Ab4 Asq
  |12=>Ab4 Ba6
  |13=>Ab4 A8z
  |14=>Ab4 Bm0
  |15=>Ab4 Atj
  |16=>Ab4 Bac
  |17=>Ab4 Axf
  |18=>Ab4 Aww
  |19=>Ab4 Bis
  |20=>Ab4 Bn
  |21=>Ab4 Bjw
  |_+22=>λ _=>none
 av:=λ n=>match n with
  |0=>Axq
  |1=>Gd
  |2=>Aj2
  |3=>Bji
  |4=>Ak4
  |5=>A8s
  |6=>Bjf
  |7=>Azl
  |8=>As7
  |9=>Btz
  |10=>App
  |11=>Bd0
  |12=>B0f
  |13=>Bs5
  |14=>B32
  |15=>Bms
  |16=>B0g
  |17=>Brg
  |18=>Brs
  |19=>B34
  |20=>Bq
  |21=>B2m
  |_+22=>λ _=>[]
 kx:=λ n=>match n with
  |19=>some (.i64,Al4)
  |_=>none
theorem Ai3:Tab.Ok yeT where
 av:=λ n=>match n with
  |0=>λ _=>rfl
  |1=>λ z=>by show _=(Gd z).map some;rw[Hx];rfl
  |2=>λ z=>by show _=(Aj2 z).map some;unfold Aj2;rw[Hx z.Value];rfl
  |3=>λ _=>rfl
  |4=>λ z=>by show _=(Ak4 z).map some;unfold Ak4;rw[Hx z.Cond,Hx z.Value];rfl
  |5=>λ z=>by show _=(A8s z).map some;unfold A8s;rw[Hx z.L,Hx z.R];rfl
  |6=>λ _=>rfl
  |7=>λ z=>by show _=(Azl z).map some;unfold Azl;rw[Hx z.E];rfl
  |8=>λ z=>by show _=(As7 z).map some;unfold As7;rw[Hx z.C];rfl
  |9=>λ _=>rfl
  |10=>λ z=>by show _=(App z).map some;unfold App;rw[Hx z.e];rfl
  |11=>λ _=>rfl
  |12=>λ _=>rfl
  |13=>λ _=>rfl
  |14=>λ _=>rfl
  |15=>λ _=>rfl
  |16=>λ _=>rfl
  |17=>λ _=>rfl
  |18=>λ _=>rfl
  |19=>λ _=>rfl
  |20=>λ _=>rfl
  |21=>λ _=>rfl
  |_+22=>λ _=>rfl
 len:=λ n=>match n with
  |0=>λ _=>rfl
  |1=>λ _=>rfl
  |2=>λ _=>rfl
  |3=>λ _=>rfl
  |4=>λ _=>rfl
  |5=>λ _=>rfl
  |6=>λ _=>rfl
  |7=>λ _=>rfl
  |8=>λ _=>rfl
  |9=>λ _=>rfl
  |10=>λ _=>rfl
  |11=>λ _=>rfl
  |12=>λ _=>rfl
  |13=>λ _=>rfl
  |14=>λ _=>rfl
  |15=>λ _=>rfl
  |16=>λ _=>rfl
  |17=>λ _=>rfl
  |18=>λ _=>rfl
  |19=>λ _=>rfl
  |20=>λ _=>rfl
  |21=>λ _=>rfl
  |_+22=>λ _=>rfl
 ofL:=λ n=>match n with
  |0=>λ ls x h=>D3 Afc h
  |1=>λ ls x h=>D3 Ej h
  |2=>λ ls x h=>D3 Bbj h
  |3=>λ ls x h=>D3 A6s h
  |4=>λ ls x h=>D3 A68 h
  |5=>λ ls x h=>D3 Bg3 h
  |6=>λ ls x h=>D3 A7y h
  |7=>λ ls x h=>D3 A99 h
  |8=>λ ls x h=>D3 A6l h
  |9=>λ ls x h=>D3 A2y h
  |10=>λ ls x h=>D3 Aws h
  |11=>λ ls x h=>D3 Ae2 h
  |12=>λ ls x h=>D3 A6z h
  |13=>λ ls x h=>D3 Am2 h
  |14=>λ ls x h=>D3 Ayd h
  |15=>λ ls x h=>D3 Avk h
  |16=>λ ls x h=>D3 A67 h
  |17=>λ ls x h=>D3 Awt h
  |18=>λ ls x h=>D3 Ay5 h
  |19=>λ ls x h=>D3 A9c h
  |20=>λ ls x h=>D3 Bb h
  |21=>λ ls x h=>D3 Be7 h
  |_+22=>λ ls x h=>by cases h
 kx:=λ n=>match n with
  |0=>λ _ _ h _=>by cases h
  |1=>λ _ _ h _=>by cases h
  |2=>λ _ _ h _=>by cases h
  |3=>λ _ _ h _=>by cases h
  |4=>λ _ _ h _=>by cases h
  |5=>λ _ _ h _=>by cases h
  |6=>λ _ _ h _=>by cases h
  |7=>λ _ _ h _=>by cases h
  |8=>λ _ _ h _=>by cases h
  |9=>λ _ _ h _=>by cases h
  |10=>λ _ _ h _=>by cases h
  |11=>λ _ _ h _=>by cases h
  |12=>λ _ _ h _=>by cases h
  |13=>λ _ _ h _=>by cases h
  |14=>λ _ _ h _=>by cases h
  |15=>λ _ _ h _=>by cases h
  |16=>λ _ _ h _=>by cases h
  |17=>λ _ _ h _=>by cases h
  |18=>λ _ _ h _=>by cases h
  |19=>λ _ _ h _=>by cases h;rfl
  |20=>λ _ _ h _=>by cases h
  |21=>λ _ _ h _=>by cases h
  |_+22=>λ _ _ h _=>by cases h
def Bu1:List (TypeId×TI yeE):=[
 (2,⟨.int .i64,1,8,[.int .i64 (0:Int)],(.int .i64)⟩),
 (3,⟨.int .i64,1,8,[.int .i64 (0:Int)],(.int .i64)⟩),
 (4,⟨.bool,1,1,[.bool false],.bool⟩),
 (5,⟨.int .u8,1,1,[.int .u8 (0:Int)],(.int .u8)⟩),
 (9,⟨.str,1,16,[.str ([]:List UInt8)],.str⟩),
 (21,⟨.int .i32,1,4,[.int .i32 (0:Int)],(.int .i32)⟩),
 (22,⟨.slice 29,1,24,[.sl (.nm 9) true []],(.sl (.nm 9))⟩),
 (23,⟨.slice 62,1,24,[.sl (.nm 3) true []],(.sl (.nm 3))⟩),
 (24,⟨.slice 70,1,24,[.sl (.nm 4) true []],(.sl (.nm 4))⟩),
 (25,⟨.slice 100,1,24,[.sl (.nm 5) true []],(.sl (.nm 5))⟩),
 (26,⟨.slice 123,1,24,[.sl (.nm 6) true []],(.sl (.nm 6))⟩),
 (27,⟨.slice 126,1,24,[.sl (.nm 8) true []],(.sl (.nm 8))⟩),
 (29,⟨.struct [(0,9),(1,3),(2,23),(3,24),(4,25),(5,26),(6,27)],7,144,[.str ([]:List UInt8),.int .i64 (0:Int),.sl (.nm 3) true [],.sl (.nm 4) true [],.sl (.nm 5) true [],.sl (.nm 6) true [],.sl (.nm 8) true []],(.nm 9)⟩),
 (30,⟨.int .i64,1,8,[.int .i64 (0:Int)],(.int .i64)⟩),
 (42,⟨.slice 9,1,24,[.sl .str true []],(.sl .str)⟩),
 (54,⟨.slice 75,1,24,[.sl (.nm 2) true []],(.sl (.nm 2))⟩),
 (62,⟨.struct [(0,9),(1,54)],2,40,[.str ([]:List UInt8),.sl (.nm 2) true []],(.nm 3)⟩),
 (65,⟨.struct [(0,3),(1,3)],2,16,[.int .i64 (0:Int),.int .i64 (0:Int)],(.nm 0)⟩),
 (66,⟨.slice 68,1,24,[.sl (.nm 1) true []],(.sl (.nm 1))⟩),
 (68,⟨.struct [(0,3),(1,9),(2,65),(4,66)],5,64,[.int .i64 (0:Int),.str ([]:List UInt8),.int .i64 (0:Int),.int .i64 (0:Int),.sl (.nm 1) true []],(.nm 1)⟩),
 (70,⟨.struct [(0,9),(1,9),(2,3),(3,4),(4,3),(5,3),(6,4),(7,68),(12,68),(17,9),(18,54)],19,240,[.str ([]:List UInt8),.str ([]:List UInt8),.int .i64 (0:Int),.bool false,.int .i64 (0:Int),.int .i64 (0:Int),.bool false,.int .i64 (0:Int),.str ([]:List UInt8),.int .i64 (0:Int),.int .i64 (0:Int),.sl (.nm 1) true [],.int .i64 (0:Int),.str ([]:List UInt8),.int .i64 (0:Int),.int .i64 (0:Int),.sl (.nm 1) true [],.str ([]:List UInt8),.sl (.nm 2) true []],(.nm 4)⟩),
 (75,⟨.struct [(0,9),(1,9),(2,68)],7,96,[.str ([]:List UInt8),.str ([]:List UInt8),.int .i64 (0:Int),.str ([]:List UInt8),.int .i64 (0:Int),.int .i64 (0:Int),.sl (.nm 1) true []],(.nm 2)⟩),
 (77,⟨.map 129 4,1,8,[.nmp],.bool⟩),
 (80,⟨.slice 84,1,24,[.sl (.nm 18) true []],(.sl (.nm 18))⟩),
 (84,⟨.struct [(0,3),(1,3),(2,3)],3,24,[.int .i64 (0:Int),.int .i64 (0:Int),.int .i64 (0:Int)],(.nm 18)⟩),
 (88,⟨.slice 3,1,24,[.sl (.int .i64) true []],(.sl (.int .i64))⟩),
 (100,⟨.struct [(0,4),(1,68),(6,68)],11,136,[.bool false,.int .i64 (0:Int),.str ([]:List UInt8),.int .i64 (0:Int),.int .i64 (0:Int),.sl (.nm 1) true [],.int .i64 (0:Int),.str ([]:List UInt8),.int .i64 (0:Int),.int .i64 (0:Int),.sl (.nm 1) true []],(.nm 5)⟩),
 (114,⟨.slice 118,1,24,[.sl (.nm 17) true []],(.sl (.nm 17))⟩),
 (118,⟨.struct [(0,24),(1,54)],2,48,[.sl (.nm 4) true [],.sl (.nm 2) true []],(.nm 17)⟩),
 (119,⟨.slice 30,1,24,[.sl (.int .i64) true []],(.sl (.int .i64))⟩),
 (123,⟨.struct [(0,9),(1,9),(2,9)],3,48,[.str ([]:List UInt8),.str ([]:List UInt8),.str ([]:List UInt8)],(.nm 6)⟩),
 (124,⟨.slice 128,1,24,[.sl (.nm 7) true []],(.sl (.nm 7))⟩),
 (126,⟨.struct [(0,68),(5,124)],6,88,[.int .i64 (0:Int),.str ([]:List UInt8),.int .i64 (0:Int),.int .i64 (0:Int),.sl (.nm 1) true [],.sl (.nm 7) true []],(.nm 8)⟩),
 (128,⟨.struct [(0,9),(1,68)],6,80,[.str ([]:List UInt8),.int .i64 (0:Int),.str ([]:List UInt8),.int .i64 (0:Int),.int .i64 (0:Int),.sl (.nm 1) true []],(.nm 7)⟩),
 (129,⟨.array 2 3,2,16,[.int .i64 (0:Int),.int .i64 (0:Int)],(.nm 19)⟩),
 (140,⟨.map 3 4,1,8,[.nmp],.bool⟩),
 (151,⟨.map 9 4,1,8,[.nmp],.bool⟩),
 (156,⟨.map 3 54,1,8,[.nmp],.bool⟩),
 (178,⟨.slice 181,1,24,[.sl (.nm 10) true []],(.sl (.nm 10))⟩),
 (181,⟨.struct [(0,68),(5,4)],6,72,[.int .i64 (0:Int),.str ([]:List UInt8),.int .i64 (0:Int),.int .i64 (0:Int),.sl (.nm 1) true [],.bool false],(.nm 10)⟩),
 (194,⟨.ptr 3,1,8,[.nptr],.bool⟩),
 (196,⟨.array 7 3,7,56,[.int .i64 (0:Int),.int .i64 (0:Int),.int .i64 (0:Int),.int .i64 (0:Int),.int .i64 (0:Int),.int .i64 (0:Int),.int .i64 (0:Int)],(.nm 11)⟩),
 (198,⟨.struct [(0,196),(7,65)],9,72,[.int .i64 (0:Int),.int .i64 (0:Int),.int .i64 (0:Int),.int .i64 (0:Int),.int .i64 (0:Int),.int .i64 (0:Int),.int .i64 (0:Int),.int .i64 (0:Int),.int .i64 (0:Int)],(.nm 12)⟩),
 (211,⟨.int .u64,1,8,[.int .u64 (0:Int)],(.int .u64)⟩),
 (212,⟨.slice 259,1,24,[.sl (.int .u32) true []],(.sl (.int .u32))⟩),
 (238,⟨.array 16 237,32,32,[.int .u8 (0:Int),.int .u8 (0:Int),.int .u8 (0:Int),.int .u8 (0:Int),.int .u8 (0:Int),.int .u8 (0:Int),.int .u8 (0:Int),.int .u8 (0:Int),.int .u8 (0:Int),.int .u8 (0:Int),.int .u8 (0:Int),.int .u8 (0:Int),.int .u8 (0:Int),.int .u8 (0:Int),.int .u8 (0:Int),.int .u8 (0:Int),.int .u8 (0:Int),.int .u8 (0:Int),.int .u8 (0:Int),.int .u8 (0:Int),.int .u8 (0:Int),.int .u8 (0:Int),.int .u8 (0:Int),.int .u8 (0:Int),.int .u8 (0:Int),.int .u8 (0:Int),.int .u8 (0:Int),.int .u8 (0:Int),.int .u8 (0:Int),.int .u8 (0:Int),.int .u8 (0:Int),.int .u8 (0:Int)],(.nm 21)⟩),
 (240,⟨.struct [(0,2),(1,212),(2,4)],3,40,[.int .i64 (0:Int),.sl (.int .u32) true [],.bool false],(.nm 13)⟩),
 (242,⟨.struct [(0,240),(3,240)],6,80,[.int .i64 (0:Int),.sl (.int .u32) true [],.bool false,.int .i64 (0:Int),.sl (.int .u32) true [],.bool false],(.nm 14)⟩),
 (245,⟨.slice 251,1,24,[.sl (.nm 15) true []],(.sl (.nm 15))⟩),
 (249,⟨.struct [(0,196),(7,242)],13,136,[.int .i64 (0:Int),.int .i64 (0:Int),.int .i64 (0:Int),.int .i64 (0:Int),.int .i64 (0:Int),.int .i64 (0:Int),.int .i64 (0:Int),.int .i64 (0:Int),.sl (.int .u32) true [],.bool false,.int .i64 (0:Int),.sl (.int .u32) true [],.bool false],(.nm 16)⟩),
 (251,⟨.struct [(0,9),(1,3)],2,24,[.str ([]:List UInt8),.int .i64 (0:Int)],(.nm 15)⟩),
 (259,⟨.int .u32,1,4,[.int .u32 (0:Int)],(.int .u32)⟩),
 (277,⟨.map 9 198,1,8,[.nmp],.bool⟩),
 (286,⟨.int .u64,1,8,[.int .u64 (0:Int)],(.int .u64)⟩)]
def Bg6:TypeId->Option (TI yeE):=λ t=>Ae t Bu1
def B91:Nat->Nat->Option (List Nat):=λ f r=>match Ae f [
 (20,[(9,[0,9,30,31,32])]),
 (22,[(4,[0,1,5])]),
 (32,[(5,[0,13,14,15])]),
 (33,[(10,[0,6,9,12,51,52,53,79,80,81,82,85,86,87,88,91,92,93,94]),(13,[0,6,9,12,14,51,52,53,57,58,59,79,80,81,82,85,86,87,88,91,92,93,94]),(22,[6,9,98,99,100])]),
 (43,[(1,[0,1,2])]),
 (56,[(4,[0,5,6,13,14,15]),(13,[5,6,36,37,38])]),
 (57,[(4,[3,12,13])]),
 (62,[(4,[0,11,12,13])]),
 (63,[(7,[0,1,2,6,7,9,10,58,59,60]),(10,[0,1,2,6,7,9,10,58,59,60,69,70,71]),(19,[0,6,7,9,15,16]),(28,[0,6,7,15,137,138,139]),(32,[0,6,7,15,21,22,137,138,139,149,150,151]),(47,[0,6,7,15,22,137,138,139,216,217,218]),(53,[0,6,7,15,137,138,139,244,245,246]),(57,[0,6,7,15,32,137,138,139,244,245,246,255,256,257])]),
 (64,[(4,[0,6,24,25,26,73,74]),(7,[0,6,10,24,25,26,35,36,37,73,74])]),
 (65,[(2,[0,1,3,17,18,19,49,52,53,54,55,56,57,58,59,60,67,68,69,72,73,74,75,76,77,78,79,80,81,82,83,84,85,86,87])]),
 (68,[(2,[0,1,7,8])]),
 (70,[(2,[0,1,7,8])]),
 (75,[(7,[0,2,3,4,6,36,37,38])]),
 (84,[(4,[0,23,24,33,34,35,36,37,40,41,42,43])]),
 (85,[(2,[0,1,7,8])]),
 (90,[(11,[5,28,29,30]),(18,[5,41,42,43]),(24,[51,52,53])]),
 (91,[(3,[0,1,8,14,15,16])]),
 (92,[(3,[2,4,5,11,12,13])]),
 (119,[(6,[1,4,5,18,19,20])]),
 (122,[(4,[1,38,39,40]),(10,[1,50,51,52]),(16,[62,63,64])]),
 (123,[(4,[1,28,29,30,39,40,41,42,68,69,70,71,74,75,76]),(10,[1,46,47,48,68,69,70,71,74,75,76]),(16,[1,57,58,59,68,69,70,71,74,75,76]),(22,[80,81,82]),(25,[80,81,82,87,88,89])]),
 (124,[(2,[1,9,10]),(14,[40,41,42])]),
 (125,[(4,[1,3,4,17,18,19]),(9,[1,3,4,29,30,31]),(18,[1,3,61,62,63]),(23,[3,78,79,80]),(27,[3,78,79,80,91,92,93])]),
 (127,[(8,[23,24,25])]),
 (145,[(2,[5,6,7,16,17,18,19,20,21,22,23,24,27,28,29,30,31,32,33])]),
 (147,[(4,[10,11,12,21,22,23,24,25,28,29,30,31,32,35,36,37,38,39,42,43,44,45,46])]),
 (149,[(1,[1,5,6,7])]),
 (152,[(4,[1,12,13,14])]),
 (154,[(2,[1,6,7,8])]),
 (155,[(12,[0,6,8]),(18,[1,45])]),
 (156,[(15,[0,1,5,6,7,8,9,10,85,86,87,88,89,90,91,92,103,104,105,106,122,123,124,125,126,129,130,131])]),
 (161,[(2,[6,7,8])]),
 (168,[(4,[0,22,23])]),
 (173,[(2,[0,2,4])]),
 (178,[(11,[0,1,5,6,7,8,10,69,70,71,72,73,74,75,76])]),
 (196,[(11,[0,1,2,3,9,10])]),
 (197,[(2,[0,1,7,8])]),
 (204,[(3,[0,4,5])]),
 (236,[(6,[0,1,6,7])]),
 (237,[(6,[0,1,5])])]with
 |some l=>Ae r l
 |none=>none
def At6:TypeId->Bool:=λ t=>Rw t [65]
theorem Btw:Bse yeT Bg6 At6 Go.Proofs.Tryz.prog where
 tab:=Ai3
 types:=Bsu Bu1 rfl (by kernel_rfl)
 eqs:=B1k (V:=Axx yeT Bg6 At6 []) (Bsu Bu1 rfl (by kernel_rfl)) rfl (by kernel_rfl)
 mixed:=by kernel_rfl
abbrev ST:=Ab.St yeE
abbrev MT:=Ub yeT Bg6 At6 Go.Proofs.Tryz.prog
abbrev EV:=Cai yeT Bg6 At6
abbrev GO (V:Env):=Bs V Go.Proofs.Tryz.prog
abbrev EX:=B84 yeT Bg6 At6
abbrev MX:=Ae3 yeT Go.Proofs.Tryz.prog
theorem GF {fs:List (FuncId×FS yeE)} {xs:List (FuncId×List Nat×FX yeE)} {ps:List (FuncId×FL yeE)} (h:Amu yeT Bg6 At6 Go.Proofs.Tryz.prog fs) (hx:Az5 yeT Go.Proofs.Tryz.prog xs) (hp:Aym yeT Go.Proofs.Tryz.prog ps):Bs (EX fs xs ps) Go.Proofs.Tryz.prog:=B9n Btw h hx hp
theorem GB {fs:List (FuncId×FS yeE)} {ws:List (FuncId×FW yeE)} {t0:Bool} (h:Amu yeT Bg6 At6 Go.Proofs.Tryz.prog fs) (hw:Aq0 yeT Bg6 At6 Go.Proofs.Tryz.prog ws):Bs (EV fs ws t0) Go.Proofs.Tryz.prog:=B20 Btw h hw
end Go.Ab
