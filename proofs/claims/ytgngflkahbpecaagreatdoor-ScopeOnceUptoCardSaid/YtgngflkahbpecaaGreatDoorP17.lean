/- Functions that are handed pointers, by their pieces. Pieces that may tell of each other's data; short forms. Conditions: none beyond those that each theorem names. -/
import Derived.Test.YtgngflkahbpecaaGreatDoorP16
import Derived.Test.YtgngflkahbpecaaGreatDoorP15
set_option linter.unusedSimpArgs false
set_option linter.unusedVariables false
namespace Go.Ab
open Go
section
variable {V:Env} {P:Program} {C:Ctx} {F:FT} {ρ:Type}
def Wu {E:Nat->Type}:List (Tk E)->List (SV E)
 |[]=>[]
 | .C j::r=> .cv (.one (.ptr j 0))::Wu r
 | .M j _ _::r=> .cv (.one (.mp j))::Wu r
 |_::r=>Wu r
variable (V)
def Bea (n:Nat) (X:FX V.E) (x:HV V.E X.ins):St V.E:=
 match Blt (mkS V.T X.ins x).2.1 with
 |some as=>⟨n,M9 0 as++kpM V 0 (Wu X.ins),(mkS V.T X.ins x).2.2⟩
 |none=>⟨n,[],[]⟩
def B5w (s:St V.E):Nat->List (SV V.E)->Bool
 |_,[]=>true
 |i,.cv (.one l)::r=>match slot V s (fr i)with
  |some (.cv (.one l'))=>Bo6 l l'&&B5w s (i+1) r
  |_=>false
 |_,_=>false
def Bqp (ks:List Nat):List Nat->Bool
 |[]=>true
 |i::r=>Sa i ks&&Bqp ks r
def Amz (ks:List Nat):List (Nat×Box V.E)->Bool
 |[]=>true
 |(_,.cells ls)::r=>Bqp ks (B5 ls)&&Amz ks r
 |_::r=>Amz ks r
def B9l (rs:List ResultVar) (X:FX V.E) (s:St V.E):Option (HV V.E X.outs):=
 match A1g V s rs with
 |some cs=>match Bqp (Z4 X.outs) (cs.flatMap λ c=>B5 c.leaves)&&(Amz V (Z4 X.outs) (Zr (Z4 X.outs) s.boxes)&&B5w V s 0 (Wu X.ins))with
  |true=>ofS V.T X.outs [] (B2a 0 cs) (Zr (Z4 X.outs) s.boxes)
  |false=>none
 |none=>none
def B9i (rs:List ResultVar) (X:FX V.E) (cv:HV V.E X.outs->ρ) (s:St V.E):Option ρ:=
 match B9l V rs X s with
 |some y=>some (cv y)
 |none=>none
variable {V}
def Bj0 (V:Env) (C:Ctx) (F:Act->World->Prop) (rs:List ResultVar) (X:FX V.E) (y:HV V.E X.outs):Prop:=∀s,B9l V rs X s=some y->∀a w,Sim V C s a w->F a w
theorem fX (fn:Func) (X:FX V.E) (cv:HV V.E X.outs->ρ) {Y:ρ->Prop} (h:∀y,Y (cv y)->Bj0 V C F fn.results.toList X y):Anz V C F (B9i V fn.results.toList X cv) Y:=by
 intro s o hs hY a w S
 unfold B9i at hs
 split at hs
 ·rename_i y hy
  cases hs
  exact h y hY s hy a w S
 ·cases hs
theorem Bcx {ks:List Nat}:∀{l:List Nat},Bqp ks l=true->∀i∈l,Sa i ks=true
 |[],_,i,h=>by simp at h
 |j::r,h,i,hi=>by
  simp only[Bqp,Bool.and_eq_true]at h
  rcases List.mem_cons.1 hi with rfl|hi
  ·exact h.1
  ·exact Bcx h.2 i hi
theorem Ba5 {ks:List Nat}:∀{bx:List (Nat×Box V.E)},Amz V ks bx=true->∀{id ls},Ae id bx=some (.cells ls)->∀i∈B5 ls,Sa i ks=true
 |[],_,_,_,h=>by simp[Ae]at h
 |(j,b)::r,hk,id,ls,h=>by
  have hr:Amz V ks r=true:=by
   unfold Amz at hk
   split at hk
   ·rename_i heq;cases heq
   ·rename_i heq;cases heq;simp only[Bool.and_eq_true]at hk;exact hk.2
   ·rename_i heq;cases heq;exact hk
  unfold Ae at h
  split at h
  ·cases h
   unfold Amz at hk
   simp only[Bool.and_eq_true]at hk
   exact Bcx hk.1
  ·exact Ba5 hr h
theorem B1d (T:Tab):∀(l:List (Tk T.E)) (x:HV T.E l) (j:Nat) (b:Box T.E),Ae j (mkS T l x).2.2=some b->A01 (some b) (some b)=true->∃(i:Nat) (s:SV T.E),(Wu l)[i]?=some s/\((∃ls,b= .cells ls/\s= .cv (.one (.ptr j 0)))\/(∃k t q,b= .map k t q/\s= .cv (.one (.mp j)))):=by
 intro l
 induction l with
 |nil=>intro x j b h _;simp[mkS,Ae]at h
 |cons t r ih=>
  intro x j b h hs
  have nx:∀{i:Nat} {s q:SV T.E},(Wu r)[i]?=some s->(q::Wu r)[i+1]?=some s:=λ h=>by simpa using h
  cases t with
  |C k=>
   have h9:(if Nat.beq k j=true then some (Box.cells (mkS T r x).1)else Ae j (mkS T r x).2.2)=some b:=h
   split at h9
   ·rename_i e;have:=Ah e;subst this;cases h9
    exact⟨0,_,rfl,.inl ⟨_,rfl,rfl⟩⟩
   ·obtain⟨i,s,h1,h2⟩:=ih x j b h9 hs
    exact⟨i+1,s,nx h1,h2⟩
  |A k e t v fz=>
   obtain⟨x,y⟩:=x
   have h9:(if Nat.beq k j=true then some (Box.arr e t x v fz)else Ae j (mkS T r y).2.2)=some b:=h
   split at h9
   ·cases h9;simp[A01]at hs
   ·exact ih y j b h9 hs
  |R k e e2 t v rv=>
   obtain⟨x,y⟩:=x
   have h9:(if Nat.beq k j=true then some (Box.rows e e2 t x v rv .opn)else Ae j (mkS T r y).2.2)=some b:=h
   split at h9
   ·cases h9;simp[A01]at hs
   ·exact ih y j b h9 hs
  |M k kt t=>
   obtain⟨x,y⟩:=x
   have h9:(if Nat.beq k j=true then some (Box.map kt t x)else Ae j (mkS T r y).2.2)=some b:=h
   split at h9
   ·rename_i e;have:=Ah e;subst this;cases h9
    exact⟨0,_,rfl,.inr ⟨_,_,_,rfl,rfl⟩⟩
   ·obtain⟨i,s,h1,h2⟩:=ih y j b h9 hs
    exact⟨i+1,s,nx h1,h2⟩
  |S a b'=>exact ih x j b h hs
  |k a=>exact ih x j b h hs
  |q t y=>exact ih x j b h hs
  |v a=>obtain⟨x,y⟩:=x;exact ih y j b h hs
  |n a=>obtain⟨x,y⟩:=x;exact ih y j b h hs
  |s a=>obtain⟨x,y⟩:=x;exact ih y j b h hs
  |r a b' c=>obtain⟨x,y⟩:=x;exact ih y j b h hs
  |p a b'=>obtain⟨x,y⟩:=x;exact ih y j b h hs
  |e a b' c=>obtain⟨x,y⟩:=x;exact ih y j b h hs
def B43 (β:Nat->BI) {E:Nat->Type}:SV E->Value
 | .cv (.one (.ptr j _))=> .pointer (some ⟨(β j).blk,0,none⟩)
 | .cv (.one (.mp j))=> .map (some (β j).blk)
 |_=>undef
theorem A3u {T:Tab} {bx:List (Nat×Box T.E)} {β:Nat->BI} {ok:Nat->Prop} {w:World}:∀(l:List (Tk T.E)),(∀(i:Nat) (s:SV T.E),(Wu l)[i]?=some s->∀j,(s= .cv (.one (.ptr j 0))\/s= .cv (.one (.mp j)))->∃b,Ae j bx=some b)->
 Ba (Az T bx β ok w) (Wu l) ((Wu l).map (B43 β))
 |[],_=> .nil
 |t::r,h=>by
  have tl:∀{q:SV T.E},(∀(i:Nat) (s:SV T.E),(q::Wu r)[i]?=some s->∀j,(s= .cv (.one (.ptr j 0))\/s= .cv (.one (.mp j)))->∃b,Ae j bx=some b)->Ba (Az T bx β ok w) (Wu r) ((Wu r).map (B43 β)):=
   λ h=>A3u r λ i s hs=>h (i+1) s (by simpa using hs)
  cases t with
  |C j=>
   refine .cons ?_ (tl h)
   obtain⟨b,hb⟩:=h 0 _ rfl j (.inl rfl)
   show Ad T bx β ok w (.ptr j 0) _
   simp only[Ad,hb]
   refine⟨rfl, ?_⟩
   cases b<;>first|rfl|trivial
  |M j k t=>
   refine .cons ?_ (tl h)
   obtain⟨b,hb⟩:=h 0 _ rfl j (.inr rfl)
   show Ad T bx β ok w (.mp j) _
   simp only[Ad,hb]
   refine⟨rfl, ?_⟩
   cases b<;>first|rfl|trivial
  |_=>exact A3u r h
theorem Bvi {T:Tab}:∀(l:List (Tk T.E)) (x:HV T.E l) (i:Nat) (s:SV T.E),(Wu l)[i]?=some s->∀j,(s= .cv (.one (.ptr j 0))\/s= .cv (.one (.mp j)))->∃b,Ae j (mkS T l x).2.2=some b:=by
 intro l
 induction l with
 |nil=>intro x i s h;simp[Wu]at h
 |cons t r ih=>
  intro x i s h j hj
  have put:∀{k:Nat} {c:Box T.E} {bx:List (Nat×Box T.E)},(∃b,Ae j bx=some b)->∃b,Ae j ((k,c)::bx)=some b:=by
   intro k c bx ⟨b,hb⟩
   unfold Ae
   split
   ·exact⟨_,rfl⟩
   ·exact⟨b,hb⟩
  have here:∀{c:Box T.E} {bx:List (Nat×Box T.E)},∃b,Ae j ((j,c)::bx)=some b:=by
   intro c bx
   unfold Ae
   rw[if_pos (Nat.beq_refl _)]
   exact⟨_,rfl⟩
  cases t with
  |C k=>
   cases i with
   |zero=>
    have h:some (SV.cv (CV.one (.ptr k 0)))=some s:=h
    cases h
    rcases hj with hj|hj<;>cases hj
    exact here
   |succ i=>exact put (ih x i s (by simpa [Wu]using h) j hj)
  |M k kt t=>
   obtain⟨x,y⟩:=x
   cases i with
   |zero=>
    have h:some (SV.cv (CV.one (.mp k)))=some s:=h
    cases h
    rcases hj with hj|hj<;>cases hj
    exact here
   |succ i=>exact put (ih y i s (by simpa [Wu]using h) j hj)
  |A k e t v fz=>obtain⟨x,y⟩:=x;exact put (ih y i s h j hj)
  |R k e e2 t v rv=>obtain⟨x,y⟩:=x;exact put (ih y i s h j hj)
  |S a b'=>exact ih x i s h j hj
  |k a=>exact ih x i s h j hj
  |q t y=>exact ih x i s h j hj
  |v a=>obtain⟨x,y⟩:=x;exact ih y i s h j hj
  |n a=>obtain⟨x,y⟩:=x;exact ih y i s h j hj
  |s a=>obtain⟨x,y⟩:=x;exact ih y i s h j hj
  |r a b' c=>obtain⟨x,y⟩:=x;exact ih y i s h j hj
  |p a b'=>obtain⟨x,y⟩:=x;exact ih y i s h j hj
  |e a b' c=>obtain⟨x,y⟩:=x;exact ih y i s h j hj
theorem Bwg {s:St V.E}:∀{l:List (SV V.E)} {i:Nat},B5w V s i l=true->∀{n:Nat} {x:SV V.E},l[n]?=some x->slot V s (fr (i+n))=some x
 |[],_,_,n,x,h=>by simp at h
 |y::r,i,hk,n,x,h=>by
  unfold B5w at hk
  split at hk
  ·rename_i heq;cases heq
  ·rename_i heq
   cases heq
   split at hk
   ·rename_i l' hs
    simp only[Bool.and_eq_true]at hk
    cases n with
    |zero=>
     simp at h
     subst h
     rw[Nat.add_zero,hs,Brw _ _ hk.1]
    |succ n=>
     have:=Bwg hk.2 (n:=n) (x:=x) (by simpa using h)
     have e:∀i:Nat,i+1+n=i+(n+1):=λ i=>by omega
     rw[e]at this
     exact this
   ·cases hk
  ·cases hk
theorem mx {fn:Func} {f:FuncId} {X:FX V.E} (G:Bs V P)
 (hw:Bs V P->∀C F x z,X.g x=some z->Bj0 V C F fn.results.toList X (X.out z)->Bv V P C F [.code (fn.body.getD .skip)] (Bea V fn.ntmps X x))
 (h0:V.t0=false:=by kernel_rfl) (h1:P.funcs[f]?=some fn:=by kernel_rfl) (h2:fn.body=some (fn.body.getD .skip):=by kernel_rfl) (h3:(fn.name== "runtime.NumGoroutine")=false:=by kernel_rfl)
 (h4:∀x as,Blt (mkS V.T X.ins x).2.1=some as->(Nat.ble as.length fn.ntmps&&Nat.ble as.length 1000000)=true:=by intro x as h;cases h;kernel_rfl):Agj V.T P f X:=by
 refine⟨⟨fn,h1,by rw[h2];rfl,h3⟩, ?_⟩
 intro x z hz args res hargsS hresS C β w vs M hargs
 let kx:List (SV V.E):=Wu X.ins
 let kv:List Value:=kx.map (B43 β)
 have hkp:Ba (Az V.T (mkS V.T X.ins x).2.2 β (A2 C β w) w) kx kv:=A3u X.ins (Bvi X.ins x)
 let C':Ctx:=⟨C.P,C.okp,C.B,C.chg,C.W,undef,kv.map λ v=> #[v]⟩
 have M':Bk V.T C' (mkS V.T X.ins x).2.2 β w:=⟨M.boxes,M.nones,M.nodup,M.apart,M.mine,⟨M.kept.os,M.kept.tape,M.kept.output,M.kept.size,M.kept.heap⟩⟩
 have hlen:=h4 x args hargsS
 simp only[Bool.and_eq_true,Nat.ble_eq]at hlen
 have hlenv:args.length=vs.length:=hargs.length
 have hent:Bea V fn.ntmps X x=⟨fn.ntmps,M9 0 args++kpM V 0 kx,(mkS V.T X.ins x).2.2⟩:=by unfold Bea;rw[hargsS]
 have hkget:∀i y,kx[i]?=some y->∃v,kv[i]?=some v/\Az V.T (mkS V.T X.ins x).2.2 β (A2 C β w) w y v:=λ i y hy=>hkp.get i y hy
 have Sm:Sim V C' (Bea V fn.ntmps X x) {tmps:=vs.toArray++Array.replicate (fn.ntmps-vs.toArray.size) undef,defers:=[]} w:=by
  rw[hent]
  refine⟨β, ?_,⟨rfl,λ h=>by rw[h0]at h;cases h⟩,λ k y hk=> ?_,M'⟩
  ·simp;omega
  ·have hk':Ae k ((M9 0 args:Sl V)++kpM V 0 kx)=some (some y):=by
    unfold slot at hk
    split at hk
    ·rename_i q hq;subst hk;exact hq
    ·cases hk
   rw[H5,Zg (V:=V)]at hk'
   simp only[Nat.zero_le,if_true,Nat.sub_zero]at hk'
   cases hak:args[k]? with
   |some c0=>
    rw[hak]at hk'
    simp only[Option.map_some,Option.some.injEq]at hk'
    subst hk'
    obtain⟨v,hv,hr⟩:=hargs.get k c0 hak
    have hlt:k<args.length:=(List.getElem?_eq_some_iff.1 hak).1
    have hget:Uz C' (vs.toArray++Array.replicate (fn.ntmps-vs.toArray.size) undef) k=v:=by
     rw[Bmn (by omega),Array.getD_eq_getD_getElem?,Array.getElem?_append_left (by simpa [<-hlenv]using hlt)]
     simp[hv]
    show Ar V.T (mkS V.T X.ins x).2.2 β (A2 C β w) w c0 _
    rw[hget];exact hr
   |none=>
    rw[hak]at hk'
    simp only[Option.map_none]at hk'
    rcases Ao8 (V:=V) kx 0 k with h|⟨j,q,p1,p2,p3⟩
    ·rw[h]at hk';cases hk'
    ·rw[p3]at hk'
     cases hk'
     obtain⟨v,hv,hr⟩:=hkget j _ p1
     have hget:Uz C' (vs.toArray++Array.replicate (fn.ntmps-vs.toArray.size) undef) k=v:=by
      rw[p2,A82,Nat.zero_add]
      show((kv.map λ v=> #[v]).getD j #[]).getD 0 undef=v
      rw[List.getD_eq_getElem?_getD,List.getElem?_map,hv]
      rfl
     show Az V.T (mkS V.T X.ins x).2.2 β (A2 C β w) w _ _
     rw[hget];exact hr
 refine Calls.of_goes h1 h2 λ b cs=> ?_
 refine hw G C' _ x z hz ?_ _ _ Sm b cs
 intro s hfin a w' S'
 obtain⟨β',S'⟩:=S'
 unfold B9l at hfin
 split at hfin
 rotate_left
 ·cases hfin
 rename_i rcs hres
 split at hfin
 rotate_left
 ·cases hfin
 rename_i hck
 simp only[Bool.and_eq_true]at hck
 obtain⟨hc1,hc2,hc3⟩:=hck
 have hmk:=B3s V.T G.tab _ _ _ _ _ hfin
 have hrcs:rcs=res:=by
  rw[hmk]at hresS
  simp only[A3h,Option.some.injEq]at hresS
  exact hresS
 subst hrcs
 have hpl:Hg ([]:Sl V) s=s:=by cases s;simp[Hg]
 obtain⟨rs,r1,r2⟩:=A06 (V:=V) (m:=[]) G.types (λ _ _=>rfl) (by rw[hpl];exact S') _ _ hres
 obtain⟨β2,M2,L,hag⟩:=Bfh (V:=V) (p:=λ i=>Sa i (Z4 X.outs)) (bx':=Zr (Z4 X.outs) s.boxes) S'.mem (λ id=>Ia _ _ _) (λ id ls hp hl=>Ba5 hc2 (by rw[Ia,if_pos hp];exact hl))
 rw[hmk]
 refine⟨S'.defers.1,Ape rs, ?_,β2,rs,rfl,⟨M2.boxes,M2.nones,M2.nodup,M2.apart,M2.mine,⟨M2.kept.os,M2.kept.tape,M2.kept.output,M2.kept.size,M2.kept.heap⟩⟩, ?_, ?_⟩
 ·have hm:=r1
  unfold results
  rw[Array.mapM_eq_mapM_toList]
  simp only[Sem.run_bind,Sem.run_map]
  refine(congrArg (λ r=>Result.andThen (Result.andThen r _) _) hm).trans ?_
  simp only[Result.andThen_ok,Sem.run_pure]
  congr 1
  match rs with
  |[]=>rfl
  |[v]=>rfl
  |v::v'::r=>rfl
 ·refine r2.imp_mem λ c v hc k=> ?_
  have hin:∀id∈B5 c.leaves,Sa id (Z4 X.outs)=true:=λ id hid=>Bcx hc1 id (List.mem_flatMap.2 ⟨c,hc,hid⟩)
  exact Ar.agree (V:=V) L (λ id hid=>⟨.inl (hag id (hin id hid)).1,(hag id (hin id hid)).2⟩) k
 ·intro j hj
  -- what stays
  have hmem:Sa j (Z4 X.outs)=true:=by
   cases hm:Sa j (Z4 X.outs)with
   |true=>rfl
   |false=>
    have:Ae j (Zr (Z4 X.outs) s.boxes)=none:=by rw[Ia,hm];rfl
    simp only[this]at hj
    cases hb:Ae j (mkS V.T X.ins x).2.2 with
    |none=>rw[hb]at hj;cases hj
    |some b=>rw[hb]at hj;cases b<;>cases hj
  have hlk:Ae j (Zr (Z4 X.outs) s.boxes)=Ae j s.boxes:=by rw[Ia,if_pos hmem]
  simp only[hlk]at hj
  rw[(hag j hmem).2]
  cases hb:Ae j (mkS V.T X.ins x).2.2 with
  |none=>rw[hb]at hj;cases hj
  |some b=>
   rw[hb]at hj
   have hbb:A01 (some b) (some b)=true:=by cases b<;>first|rfl|(cases Ae j s.boxes<;>cases hj)
   obtain⟨i,sv,hi,hsv⟩:=B1d V.T X.ins x j b hb hbb
   have hsl:=Bwg hc3 hi
   rw[Nat.zero_add]at hsl
   have hrep:=S'.slots _ _ hsl
   have hget:Uz C' a.tmps (fr i)=B43 β sv:=by
    rw[A82]
    show((kv.map λ v=> #[v]).getD i #[]).getD 0 undef=_
    rw[List.getD_eq_getElem?_getD,List.getElem?_map,List.getElem?_map,show kx[i]?=some sv from hi]
    rfl
   rw[hget]at hrep
   cases hb':Ae j s.boxes with
   |none=>rw[hb']at hj;cases b<;>cases hj
   |some b'=>
    rw[hb']at hj
    rcases hsv with⟨ls,rfl,rfl⟩|⟨k,t,q,rfl,rfl⟩
    ·cases b'<;>try cases hj
     have hrep:Ad V.T s.boxes β' (A2 C' β' w') w' (.ptr j 0) (.pointer (some ⟨(β j).blk,0,none⟩)):=hrep
     simp only[Ad,hb']at hrep
     have:=hrep.2
     simp only[Value.pointer.injEq,Option.some.injEq,Addr.mk.injEq]at this
     exact this.1.symm
    ·cases b'<;>try cases hj
     have hrep:Ad V.T s.boxes β' (A2 C' β' w') w' (.mp j) (.map (some (β j).blk)):=hrep
     simp only[Ad,hb']at hrep
     have:=hrep.2
     simp only[Value.map.injEq,Option.some.injEq]at this
     exact this.symm
end
theorem A0n {T:Tab} {P:Program} {f:FuncId} {ins outs:List (Tk T.E)} {ρ τ:Type} {out:ρ->HV T.E outs} (ap:τ->HV T.E ins->Option ρ) (It:Nat->τ) (r:τ) (m:HV T.E ins->Nat) (h:∀k,Agj T P f ⟨ins,outs,ρ,ap (It k),out⟩) (e:∀x,ap r x=ap (It (m x)) x):Agj T P f ⟨ins,outs,ρ,ap r,out⟩:=
 ⟨(h 0).1,λ x z hx=>(h (m x)).2 x z ((e x).symm.trans hx)⟩
theorem m0x {T:Tab} {P:Program} {fn:Func} {f:FuncId} {X:FX T.E} (hn:∀x,X.g x=none) (h1:P.funcs[f]?=some fn:=by kernel_rfl) (h2:fn.body.isSome=true:=by kernel_rfl) (h3:(fn.name== "runtime.NumGoroutine")=false:=by kernel_rfl):Agj T P f X:=
 ⟨⟨fn,h1,h2,h3⟩,λ x z h=>by rw[hn x]at h;cases h⟩
def Btf {E:Nat->Type}:List (CV E)->List Nat
 |[]=>[]
 | .one (.clo g _)::r=>g::Btf r
 |_::r=>Btf r
def B4l:List Nat->List Nat->Bool
 |[],[]=>true
 |a::l,b::m=>Nat.beq a b&&B4l l m
 |_,_=>false
def Bw1 {E:Nat->Type} (f:FuncId) (as:List (CV E)):List (FuncId×List Nat×FX E)->Option (FX E)
 |[]=>none
 |(g,ks,X)::r=>match Nat.beq g f&&B4l ks (Btf as)with
  |true=>some X
  |false=>Bw1 f as r
def Aza (T:Tab) (P:Program):List (FuncId×List Nat×FX T.E)->Prop
 |[]=>True
 |(f,_,X)::r=>Agj T P f X/\Aza T P r
def Axr (T:Tab) (P:Program):List (FuncId×FL T.E)->Prop
 |[]=>True
 |(f,S)::r=>Mb T P f S/\Axr T P r
theorem Azx {T:Tab} {P:Program}:∀{l:List (FuncId×List Nat×FX T.E)},Aza T P l->∀{f as X},Bw1 f as l=some X->Agj T P f X
 |[],_,_,_,_,h=>by cases h
 |(g,ks,Y)::r,hA,f,as,X,h=>by
  unfold Bw1 at h
  split at h
  ·rename_i e
   cases h
   simp only[Bool.and_eq_true]at e
   have:=Ah e.1
   subst this
   exact hA.1
  ·exact Azx hA.2 h
theorem Aww {T:Tab} {P:Program}:∀{l:List (FuncId×FL T.E)},Axr T P l->∀{f S},Ae f l=some S->Mb T P f S
 |[],_,_,_,h=>by simp[Ae]at h
 |(g,S')::r,hA,f,S,h=>by
  unfold Ae at h
  split at h
  ·rename_i e
   cases h
   have:=Ah e
   subst this
   exact hA.1
  ·exact Aww hA.2 h
def B9n (T:Tab) (ti:TypeId->Option (TI T.E)) (eqs:TypeId->Bool) (fs:List (FuncId×FS T.E)) (xs:List (FuncId×List Nat×FX T.E)) (ps:List (FuncId×FL T.E)):Env:=
 ⟨T,ti,eqs,λ f=>Ae f fs,λ _=>none,λ _=>none,λ f=>Ae f ps,false,0,λ f as=>Bw1 f as xs⟩
theorem Caz {T:Tab} {ti:TypeId->Option (TI T.E)} {eqs:TypeId->Bool} {fs:List (FuncId×FS T.E)} {xs:List (FuncId×List Nat×FX T.E)} {ps:List (FuncId×FL T.E)}:∀(l m:List (Av T.E)),eqL (B9n T ti eqs fs xs ps) l m=eqL (Az3 T ti eqs []) l m:=by
 intro l
 induction l with
 |nil=>intro m;cases m<;>simp[eqL]
 |cons a l ih=>
  intro m
  cases m with
  |nil=>cases a<;>simp[eqL]
  |cons b m=>cases a<;>cases b<;>simp[eqL,ih]
theorem B9j {T:Tab} {ti:TypeId->Option (TI T.E)} {eqs:TypeId->Bool} {P:Program} {fs:List (FuncId×FS T.E)} {xs:List (FuncId×List Nat×FX T.E)} {ps:List (FuncId×FL T.E)} (B:Bqm T ti eqs P) (h:Al8 T ti eqs P fs) (hx:Aza T P xs) (hp:Axr T P ps):
 Bs (B9n T ti eqs fs xs ps) P:=
 ⟨B.tab,λ t i hi=>by obtain⟨info,d,z,I⟩:=B.types t i hi;exact⟨info,d,z,I.inf,I.under,I.kind,I.size,I.bytes,I.ty,I.pos,I.bpos,I.zero,I.zeros,I.zcells,I.zagg⟩,
  λ t ht i hi bx β ok w' l m b c d hl h=>B.eqs t ht i hi bx β ok w' l m b c d hl (by rw[<-h];exact(Caz l m).symm),⟨λ _ _ hS=>Aro h hS,(λ _ _ hS=>by cases hS),(λ _ _ hS=>by cases hS),(λ _ _ hS=>Aww hp hS),λ _ _ _ hS=>Azx hx hS⟩,B.mixed⟩
inductive Kt {V:Env} {P:Program} (G:Bs V P) (C:Ctx) (F:FT) (n:Nat) (own:List Nat):Prop
 |mk
section
variable {V:Env} {P:Program} {G:Bs V P} {C:Ctx} {F:FT} {ρ τ σ:Type} {n:Nat} {own:List Nat}
abbrev Ok (_:Kt G C F n own) (X:ρ->Prop) (p:Pc V ρ):Prop:=Bnk V P n C F X p
abbrev Lz (_:Kt G C F n own) (k:List Item) (l:List (Tk V.E)) (XL:τ->Prop):HV V.E l⊕τ->Prop:=LX V P n C F k l XL
abbrev Gz (_:Kt G C F n own) (k:List Item) (l:List (Tk V.E)) (x:HV V.E l):Prop:=GE V P n C F k l x
abbrev Ez (_:Kt G C F n own) (fn:Func) (S:FS V.E) (y:HL V.E S.res):Prop:=En V C F fn S y
abbrev Ex (_:Kt G C F n own) (fn:Func) (X:FX V.E) (y:HV V.E X.outs):Prop:=Bj0 V C F fn.results.toList X y
theorem pz (k:Kt G C F n own) {X:ρ->Prop} {p:Pc V ρ} {cuts:HV V.E p.l->List (Pc V ρ)} {fin:St V.E->Option ρ} (hf:Anz V C F fin X) (sc:Sc) (hc:∀v,Ant V P n C F X (cuts v))
 (e:∀v,dn V own n (cuts v) fin sc p.k [] (p.st n v)=p.val v:=by intro v;kernel_rfl) (ha:∀v,(arr sc p.k).map (Ahq (cuts v))=arr sc p.k:=by intro v;kernel_rfl):Ok k X p:=
 λ v _ h hX=>Ah1 G (hc v) hf hX sc p.k [] _ ((e v).trans h) (λ _ _ h=>by cases h) (Xv (ha v))
theorem lz (k:Kt G C F n own) {k':List Item} {l:List (Tk V.E)} {body:HV V.E l->Option (HV V.E l⊕τ)} {XK:τ->Option ρ} {X:ρ->Prop} {XL:τ->Prop} (hb:Ok k (Lz k k' l XL) ⟨k',l,body⟩) (hx:∀r o,XK r=some o->X o->XL r):
 Ok k X ⟨k',l,λ v=>Option.bind (iter body v) XK⟩:=lk hb hx
theorem fz (_:Kt G C F n own) (fn:Func) (S:FS V.E) (cv:HL V.E S.res->ρ) {X:ρ->Prop} (h:∀y,X (cv y)->En V C F fn S y):Anz V C F (B53 V fn.results.toList S.resOwn S.res cv) X:=fS fn S cv h
theorem fx (_:Kt G C F n own) (fn:Func) (X:FX V.E) (cv:HV V.E X.outs->ρ) {Y:ρ->Prop} (h:∀y,Y (cv y)->Bj0 V C F fn.results.toList X y):Anz V C F (B9i V fn.results.toList X cv) Y:=fX fn X cv h
end
theorem mz {V:Env} {P:Program} (G:Bs V P) (f:FuncId) (fn:Func) (S:FS V.E) (own:List Nat) {cuts:HL V.E S.args->List (Pc V S.ρ)} {fin:St V.E->Option S.ρ}
 (hf:∀{C F},Kt G C F fn.ntmps own->Anz V C F fin (λ z=>En V C F fn S (S.out z))) (sc:Sc) (hc:∀{C F},Kt G C F fn.ntmps own->∀x,Ant V P fn.ntmps C F (λ z=>En V C F fn S (S.out z)) (cuts x))
 (e:∀x,dn V own fn.ntmps (cuts x) fin sc [.code (fn.body.getD .skip)] [] (As5 V fn.ntmps S x)=S.g x:=by intro v;kernel_rfl) (ha:∀x,(arr sc [.code (fn.body.getD .skip)]).map (Ahq (cuts x))=arr sc [.code (fn.body.getD .skip)]:=by intro v;kernel_rfl)
 (h0:V.t0=false:=by kernel_rfl) (h1:P.funcs[f]?=some fn:=by kernel_rfl) (h2:fn.body=some (fn.body.getD .skip):=by kernel_rfl) (h3:(fn.name== "runtime.NumGoroutine")=false:=by kernel_rfl) (h4:(Nat.ble S.args.length fn.ntmps&&Nat.ble S.args.length 1000000)=true:=by kernel_rfl):Ue V.T V.ti V.eqs P f S:=
 show E1 V P f ⟨S.args,S.res,S.argOwn,S.resOwn,S.ρ,S.g,S.out⟩from md G (λ _ C F x _ h hE=>Ah1 G (hc .mk x) (hf .mk) hE sc _ [] _ ((e x).trans h) (λ _ _ h=>by cases h) (Xv (ha x))) h0 h1 h2 h3 h4
theorem mw {V:Env} {P:Program} (G:Bs V P) (f:FuncId) (fn:Func) (S:FX V.E) (own:List Nat) {cuts:HV V.E S.ins->List (Pc V S.ρ)} {fin:St V.E->Option S.ρ}
 (hf:∀{C F},Kt G C F fn.ntmps own->Anz V C F fin (λ z=>Bj0 V C F fn.results.toList S (S.out z))) (sc:Sc) (hc:∀{C F},Kt G C F fn.ntmps own->∀x,Ant V P fn.ntmps C F (λ z=>Bj0 V C F fn.results.toList S (S.out z)) (cuts x))
 (e:∀x,dn V own fn.ntmps (cuts x) fin sc [.code (fn.body.getD .skip)] [] (Bea V fn.ntmps S x)=S.g x:=by intro v;kernel_rfl) (ha:∀x,(arr sc [.code (fn.body.getD .skip)]).map (Ahq (cuts x))=arr sc [.code (fn.body.getD .skip)]:=by intro v;kernel_rfl)
 (h0:V.t0=false:=by kernel_rfl) (h1:P.funcs[f]?=some fn:=by kernel_rfl) (h2:fn.body=some (fn.body.getD .skip):=by kernel_rfl) (h3:(fn.name== "runtime.NumGoroutine")=false:=by kernel_rfl)
 (h4:∀x as,Blt (mkS V.T S.ins x).2.1=some as->(Nat.ble as.length fn.ntmps&&Nat.ble as.length 1000000)=true:=by intro x as h;cases h;kernel_rfl):Agj V.T P f S:=
 mx G (λ _ C F x _ h hE=>Ah1 G (hc .mk x) (hf .mk) hE sc _ [] _ ((e x).trans h) (λ _ _ h=>by cases h) (Xv (ha x))) h0 h1 h2 h3 h4
end Go.Ab
