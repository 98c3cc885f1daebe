/- How the abstract values of the own layer lie in memory, and what keeps them. When an abstract state tells a frame and the memory; and that it does so still when other things turn. The boxes that leaves name, and that they are there. How the memory of an abstract state may turn: the general step, and its cases; what is known of the program's types. Conditions: none beyond those that each theorem names. -/
import Derived.Test.YtgngflkahbpecaaGreatDoorP00
import Derived.Below
import Derived.Laws.Sem
import Derived.Laws.AppendOwn
import Derived.Laws.MakeOwn
import Derived.Laws.Entries
set_option linter.unusedSimpArgs false
set_option linter.unusedVariables false
namespace Go.Ab
open Go
def Mem (ok:Nat->Prop) (w:World) (blk off:Nat) (cs:List Value):Prop:=
 ok blk/\∀j v,cs[j]?=some v->w.cell? ⟨blk,off+j,none⟩=some v
mutual
def Bl (ok:Nat->Prop) (w:World):AV->List Value->Prop
 | .int k n,cs=>cs=[.int k n]
 | .bool b,cs=>cs=[.bool b]
 | .str s,cs=>cs=[.string ⟨s.toArray⟩]
 | .sl esz st xs,cs=>∃a cap,cs=[.slice a xs.length cap]/\xs.length<=cap/\(a=none->cap=0)/\(st=true->xs=[]->a=none)/\
  ∀ad,a=some ad->(xs≠[]->ad.spot=none)/\Fp ok w esz xs ad.block ad.off
 | .ag xs,cs=>Lo ok w xs cs
def Fp (ok:Nat->Prop) (w:World) (esz:Nat):List AV->Nat->Nat->Prop
 |[],_,_=>True
 |x::xs,blk,off=>(∃cs,Bl ok w x cs/\cs.length=esz/\Mem ok w blk off cs)/\Fp ok w esz xs blk (off+esz)
def Lo (ok:Nat->Prop) (w:World):List AV->List Value->Prop
 |[],cs=>cs=[]
 |x::xs,cs=>∃c1 c2,cs=c1++c2/\Bl ok w x c1/\Lo ok w xs c2
end
structure Dd (ok:Nat->Prop) (w:World) (ok':Nat->Prop) (w':World):Prop where
 may:∀b,ok b->ok' b
 heap:∀b,ok b->w'.heap[b]?=w.heap[b]?
theorem Dd.refl (ok:Nat->Prop) (w:World):Dd ok w ok w:=⟨λ _ h=>h,λ _ _=>rfl⟩
theorem Dd.trans {o1 o2 o3:Nat->Prop} {w1 w2 w3:World} (h:Dd o1 w1 o2 w2) (k:Dd o2 w2 o3 w3):Dd o1 w1 o3 w3:=
 ⟨λ b hb=>k.may b (h.may b hb),λ b hb=>(k.heap b (h.may b hb)).trans (h.heap b hb)⟩
theorem Bkt {w w':World} {b:Nat} (h:w'.heap[b]?=w.heap[b]?) (o:Nat):w'.cell? ⟨b,o,none⟩=w.cell? ⟨b,o,none⟩:=by
 unfold World.cell?;simp only[h]
section
variable {ok ok':Nat->Prop} {w w':World}
theorem Mem.later (L:Dd ok w ok' w') {blk off:Nat} {cs:List Value} (h:Mem ok w blk off cs):Mem ok' w' blk off cs:=
 ⟨L.may _ h.1,λ j v hv=>by rw[Bkt (L.heap _ h.1)];exact h.2 j v hv⟩
mutual
theorem Bl.later (L:Dd ok w ok' w'):∀(x:AV) (cs:List Value),Bl ok w x cs->Bl ok' w' x cs
 | .int _ _,_,h=>h
 | .bool _,_,h=>h
 | .str _,_,h=>h
 | .sl esz st xs,cs,h=>by
   obtain⟨a,cap,h1,h2,h3,h4,h5⟩:=h
   exact⟨a,cap,h1,h2,h3,h4,λ ad had=>⟨(h5 ad had).1,Fp.later L esz xs _ _ (h5 ad had).2⟩⟩
 | .ag xs,cs,h=>Lo.later L xs cs h
theorem Fp.later (L:Dd ok w ok' w') (esz:Nat):∀(xs:List AV) (blk off:Nat),Fp ok w esz xs blk off->Fp ok' w' esz xs blk off
 |[],_,_,_=>trivial
 |x::xs,blk,off,h=>by
  obtain⟨⟨cs,h1,h2,h3⟩,h4⟩:=h
  exact⟨⟨cs,Bl.later L x cs h1,h2,h3.later L⟩,Fp.later L esz xs blk _ h4⟩
theorem Lo.later (L:Dd ok w ok' w'):∀(xs:List AV) (cs:List Value),Lo ok w xs cs->Lo ok' w' xs cs
 |[],_,h=>h
 |x::xs,cs,h=>by
  obtain⟨c1,c2,h1,h2,h3⟩:=h
  exact⟨c1,c2,h1,Bl.later L x c1 h2,Lo.later L xs c2 h3⟩
end
theorem Fp.get {esz:Nat}:∀(xs:List AV) (blk off:Nat),Fp ok w esz xs blk off->∀i x,xs[i]?=some x->
 ∃cs,Bl ok w x cs/\cs.length=esz/\Mem ok w blk (off+i*esz) cs
 |[],_,_,_,i,x,h=>by simp at h
 |y::ys,blk,off,h,0,x,hx=>by
  simp at hx;subst hx
  obtain⟨cs,h1,h2,h3⟩:=h.1
  exact⟨cs,h1,h2,by simpa using h3⟩
 |y::ys,blk,off,h,i+1,x,hx=>by
  obtain⟨cs,h1,h2,h3⟩:=Fp.get ys blk (off+esz) h.2 i x (by simpa using hx)
  refine⟨cs,h1,h2, ?_⟩
  have:off+(i+1)*esz=off+esz+i*esz:=by rw[Nat.add_mul];omega
  rw[this];exact h3
theorem Fp.mk {esz:Nat}:∀(xs:List AV) (blk off:Nat),(∀i x,xs[i]?=some x->∃cs,Bl ok w x cs/\cs.length=esz/\Mem ok w blk (off+i*esz) cs)->
 Fp ok w esz xs blk off
 |[],_,_,_=>trivial
 |y::ys,blk,off,h=>by
  refine⟨?_,Fp.mk ys blk (off+esz) λ i x hx=> ?_⟩
  ·obtain⟨cs,h1,h2,h3⟩:=h 0 y (by simp)
   exact⟨cs,h1,h2,by simpa using h3⟩
  ·obtain⟨cs,h1,h2,h3⟩:=h (i+1) x (by simpa using hx)
   refine⟨cs,h1,h2, ?_⟩
   have:off+(i+1)*esz=off+esz+i*esz:=by rw[Nat.add_mul];omega
   rw[<-this];exact h3
inductive Ba {α β:Type} (R:α->β->Prop):List α->List β->Prop where
 |nil:Ba R [] []
 |cons {a b l m}:R a b->Ba R l m->Ba R (a::l) (b::m)
namespace Ba
variable {α β:Type} {R S:α->β->Prop}
theorem length:∀{l:List α} {m:List β},Ba R l m->l.length=m.length
 |_,_,.nil=>rfl
 |_,_,.cons _ h=>by simp[h.length]
theorem imp (f:∀a b,R a b->S a b):∀{l:List α} {m:List β},Ba R l m->Ba S l m
 |_,_,.nil=> .nil
 |_,_,.cons h t=> .cons (f _ _ h) (t.imp f)
theorem imp_mem:∀{l:List α} {m:List β},(∀a b,a∈l->R a b->S a b)->Ba R l m->Ba S l m
 |_,_,_,.nil=> .nil
 |_,_,f,.cons h t=> .cons (f _ _ (by simp) h) (t.imp_mem λ a b ha=>f a b (by simp[ha]))
theorem imp_mem':∀{l:List α} {m:List β},(∀a b,b∈m->R a b->S a b)->Ba R l m->Ba S l m
 |_,_,_,.nil=> .nil
 |_,_,f,.cons h t=> .cons (f _ _ (by simp) h) (t.imp_mem' λ a b ha=>f a b (by simp[ha]))
theorem append:∀{l l':List α} {m m':List β},Ba R l m->Ba R l' m'->Ba R (l++l') (m++m')
 |_,_,_,_,.nil,k=>k
 |_,_,_,_,.cons h t,k=> .cons h (t.append k)
theorem take:∀{l:List α} {m:List β} (n:Nat),Ba R l m->Ba R (l.take n) (m.take n)
 |_,_,0,_=>by simp;exact .nil
 |_,_,n+1,.nil=>by simp;exact .nil
 |_,_,n+1,.cons h t=>by simpa using .cons h (t.take n)
theorem drop:∀{l:List α} {m:List β} (n:Nat),Ba R l m->Ba R (l.drop n) (m.drop n)
 |_,_,0,h=>by simpa using h
 |_,_,n+1,.nil=>by simp;exact .nil
 |_,_,n+1,.cons h t=>by simpa using t.drop n
theorem get:∀{l:List α} {m:List β},Ba R l m->∀(i:Nat) a,l[i]?=some a->∃b,m[i]?=some b/\R a b
 |_,_,.nil,i,a,h=>by simp at h
 |_,_,.cons h t,0,a,e=>by simp at e;subst e;exact⟨_,by simp,h⟩
 |_,_,.cons h t,i+1,a,e=>by
  obtain⟨b,hb,r⟩:=t.get i a (by simpa using e)
  exact⟨b,by simpa using hb,r⟩
theorem get':∀{l:List α} {m:List β},Ba R l m->∀(i:Nat) b,m[i]?=some b->∃a,l[i]?=some a/\R a b
 |_,_,.nil,i,a,h=>by simp at h
 |_,_,.cons h t,0,a,e=>by simp at e;subst e;exact⟨_,by simp,h⟩
 |_,_,.cons h t,i+1,a,e=>by
  obtain⟨b,hb,r⟩:=t.get' i a (by simpa using e)
  exact⟨b,by simpa using hb,r⟩
theorem split:∀{l l':List α} {m:List β},Ba R (l++l') m->∃m1 m2,m=m1++m2/\Ba R l m1/\Ba R l' m2
 |[],l',m,h=>⟨[],m,rfl,.nil,h⟩
 |a::l,l',_,.cons h t=>by
  obtain⟨m1,m2,rfl,h1,h2⟩:=t.split
  exact⟨_::m1,m2,rfl,.cons h h1,h2⟩
end Ba
theorem Lo.iff:∀(xs:List AV) (cs:List Value),Lo ok w xs cs↔∃css:List (List Value),cs=css.flatten/\Ba (Bl ok w) xs css
 |[],cs=>by
  constructor
  ·intro h;exact⟨[],by simpa [Lo]using h,.nil⟩
  ·rintro⟨css,rfl,h⟩;cases h;simp[Lo]
 |x::xs,cs=>by
  constructor
  ·rintro⟨c1,c2,rfl,h1,h2⟩
   obtain⟨css,rfl,h3⟩:=(Lo.iff xs c2).1 h2
   exact⟨c1::css,by simp,.cons h1 h3⟩
  ·rintro⟨css,rfl,h⟩
   cases h with
   |cons h1 h2=>exact⟨_,_,by simp,h1,(Lo.iff xs _).2 ⟨_,rfl,h2⟩⟩
end
structure BI where
 blk:Nat
 hdr:Value
 own:List Nat
 rows:List Value
section
variable (T:Tab)
def Arb (ok:Nat->Prop) (w:World) (t:Ty) (st:Bool) (xs:List (t.den T.E)) (v:Value):Prop:=
 Bl ok w (.sl (t.sz T) st (xs.map (t.av T))) [v]
mutual
def Ad (bx:List (Nat×Box T.E)) (β:Nat->BI) (ok:Nat->Prop) (w:World):Av T.E->Value->Prop
 | .int k n,v=>v= .int k n
 | .bool b,v=>v= .bool b
 | .str s,v=>v= .string ⟨s.toArray⟩
 | .sl t st xs,v=>Arb T ok w t st xs v
 | .ar id ver,v=>v.oneCell'=true/\match Ae id bx with
   |some (.arr _ _ _ ver' _)=>ver<=ver'/\(ver=ver'->v=(β id).hdr)
   |some (.rows _ _ _ _ ver' _ _)=>ver<=ver'/\(ver=ver'->v=(β id).hdr)
   |some _=>True
   |none=>False
 | .row id ver rv i,v=>v.oneCell'=true/\match Ae id bx with
   |some (.rows _ _ _ xss ver' rv' _)=>ver<=ver'/\(ver=ver'->rv<=rv'/\(rv=rv'->0<=i/\i<xss.length/\(β id).rows[i.toNat]?=some v))
   |some _=>True
   |none=>False
 | .ptr id off,v=>v.oneCell'=true/\match Ae id bx with
   |some (.cells _)=>v= .pointer (some ⟨(β id).blk,off,none⟩)
   |some _=>True
   |none=>False
 | .ep id ver i off,v=>v.oneCell'=true/\match Ae id bx with
   |some (.arr _ t xs ver' _)=>ver<=ver'/\(ver=ver'->0<=i/\i<xs.length/\∃b n cap,(β id).hdr= .slice (some ⟨b,0,none⟩) n cap/\v= .pointer (some ⟨b,i.toNat*t.sz T+off,none⟩))
   |some (.rows _ _ _ xss ver' _ _)=>ver<=ver'/\(ver=ver'->0<=i/\i<xss.length/\∃b n cap,(β id).hdr= .slice (some ⟨b,0,none⟩) n cap/\v= .pointer (some ⟨b,i.toNat+off,none⟩))
   |some _=>True
   |none=>False
 | .rp id ver rv i k off,v=>v.oneCell'=true/\match Ae id bx with
   |some (.rows _ _ t xss ver' rv' _)=>ver<=ver'/\(ver=ver'->rv<=rv'/\(rv=rv'->0<=i/\i<xss.length/\0<=k/\k<(xss.getD i.toNat []).length/\
    ∃b n cap,(β id).rows[i.toNat]?=some (.slice (some ⟨b,0,none⟩) n cap)/\v= .pointer (some ⟨b,k.toNat*t.sz T+off,none⟩)))
   |some _=>True
   |none=>False
 | .win id ver i n,v=>v.oneCell'=true/\match Ae id bx with
   |some (.arr _ t xs ver' _)=>ver<=ver'/\(ver=ver'->0<=i/\0<=n/\i+n<=xs.length/\∃b cap,(β id).hdr= .slice (some ⟨b,0,none⟩) xs.length cap/\i.toNat<=cap/\v= .slice (some ⟨b,i.toNat*t.sz T,none⟩) n.toNat (cap-i.toNat))
   |some _=>True
   |none=>False
 | .cp t x off,v=>∃b o cs,v= .pointer (some ⟨b,o+off,none⟩)/\Bl ok w (t.av T x) cs/\Mem ok w b o cs
 | .bs ls,v=>∃b vs c e,v= .slice (some ⟨b,0,none⟩) ls.length ls.length/\ok b/\w.heap[b]?=some (.cells c e (0,0))/\c.toList=vs/\A9 bx β ok w ls vs
 | .clo f caps,v=>∃vs,v= .func (.func f) #[] vs/\A9 bx β ok w caps vs.toList
 | .mp id,v=>v.oneCell'=true/\match Ae id bx with
   |some (.map ..)=>v= .map (some (β id).blk)
   |some _=>True
   |none=>False
 | .nptr,v=>v= .pointer none
 | .nfn,v=>v= .nilFunc
 | .nmp,v=>v= .map none
 | .nif,v=>v= .nilIface
def A9 (bx:List (Nat×Box T.E)) (β:Nat->BI) (ok:Nat->Prop) (w:World):List (Av T.E)->List Value->Prop
 |[],vs=>vs=[]
 |l::ls,vs=>∃v r,vs=v::r/\Ad bx β ok w l v/\A9 bx β ok w ls r
end
theorem A9.iff {bx:List (Nat×Box T.E)} {β:Nat->BI} {ok:Nat->Prop} {w:World}:
 ∀(ls:List (Av T.E)) (vs:List Value),A9 T bx β ok w ls vs↔Ba (Ad T bx β ok w) ls vs
 |[],vs=>by
  constructor
  ·intro h;simp only[A9]at h;subst h;exact .nil
  ·intro h;cases h;simp[A9]
 |l::ls,vs=>by
  constructor
  ·intro h
   simp only[A9]at h
   obtain⟨v,r,rfl,h1,h2⟩:=h
   exact .cons h1 ((A9.iff ls r).1 h2)
  ·intro h
   cases h with
   |cons h1 h2=>simp only[A9];exact⟨_,_,rfl,h1,(A9.iff ls _).2 h2⟩
variable {T}
theorem Ayt {bx:List (Nat×Box T.E)} {β:Nat->BI} {ok:Nat->Prop} {w:World} {l:Av T.E} {x:AV} (h:Av.av T l=some x) (v:Value):
 Ad T bx β ok w l v↔Bl ok w x [v]:=by
 cases l<;>simp[Av.av]at h
 all_goals subst h
 all_goals simp[Ad,Bl,Arb]
theorem A2u {bx:List (Nat×Box T.E)} {β:Nat->BI} {ok:Nat->Prop} {w:World}:∀{ls:List (Av T.E)} {xs:List AV},ls.map (Av.av T)=xs.map some->
 ∀cs:List Value,Ba (Ad T bx β ok w) ls cs↔Lo ok w xs cs
 |[],[],_,cs=>by
  constructor
  ·intro h;cases h;simp[Lo]
  ·intro h;simp only[Lo]at h;subst h;exact .nil
 |[],x::xs,h,_=>by simp at h
 |l::ls,[],h,_=>by simp at h
 |l::ls,x::xs,h,cs=>by
  simp only[List.map_cons,List.cons.injEq]at h
  have hx:=λ v=>Ayt (bx:=bx) (β:=β) (ok:=ok) (w:=w) h.1 v
  have one:∀c,Bl ok w x c->∃v,c=[v]:=by
   intro c hc
   cases l<;>simp[Av.av]at h
   all_goals obtain⟨rfl,_⟩:=h
   all_goals simp only[Bl]at hc
   ·exact⟨_,hc⟩
   ·exact⟨_,hc⟩
   ·exact⟨_,hc⟩
   ·obtain⟨a,cap,hc,_⟩:=hc;exact⟨_,hc⟩
  constructor
  ·intro k
   cases k with
   |cons k1 k2=>
    exact⟨[_],_,rfl,(hx _).1 k1,(A2u h.2 _).1 k2⟩
  ·rintro⟨c1,c2,rfl,k1,k2⟩
   obtain⟨v,rfl⟩:=one c1 k1
   exact .cons ((hx v).2 k1) ((A2u h.2 _).2 k2)
theorem T0 (HT:T.Ok) {bx:List (Nat×Box T.E)} {β:Nat->BI} {ok:Nat->Prop} {w:World} (t:Ty) (x:t.den T.E) (cs:List Value):
 Ba (Ad T bx β ok w) (t.toL T x) cs↔Bl ok w (t.av T x) cs:=by
 have one:∀(l:Av T.E) (y:AV),Av.av T l=some y->(∀c,Bl ok w y c->∃v,c=[v])->(Ba (Ad T bx β ok w) [l] cs↔Bl ok w y cs):=by
  intro l y hl h1
  constructor
  ·intro k
   cases k with
   |cons k1 k2=>cases k2;exact(Ayt hl _).1 k1
  ·intro k
   obtain⟨v,rfl⟩:=h1 _ k
   exact .cons ((Ayt hl v).2 k) .nil
 cases t with
 |int k=>exact one _ _ rfl (λ c hc=>⟨_,hc⟩)
 |bool=>exact one _ _ rfl (λ c hc=>⟨_,hc⟩)
 |str=>exact one _ _ rfl (λ c hc=>⟨_,hc⟩)
 |sl t=>
  refine one _ (.sl (t.sz T) false (x.map (t.av T))) rfl ?_
  intro c hc
  obtain⟨a,cap,hc,_⟩:=hc
  exact⟨_,hc⟩
 |nm n=>exact A2u (HT.av n x) cs
theorem Amo (HT:T.Ok) (t:Ty) (x:t.den T.E):(t.toL T x).length=t.sz T:=by
 cases t with
 |nm n=>exact HT.len _ _
 |_=>rfl
theorem A8f {bx:List (Nat×Box T.E)} {β:Nat->BI} {ok:Nat->Prop} {w:World} {a b:Av T.E} (h:B99 a b) {v:Value} (k:Ad T bx β ok w a v):Ad T bx β ok w b v:=by
 rcases h with rfl|⟨t,st,st',xs,rfl,rfl,h⟩
 ·exact k
 ·simp only[Ad,Arb,Bl]at k ⊢
  obtain⟨a,cap,h1,h2,h3,h4,h5⟩:=k
  refine⟨a,cap,h1,h2,h3,λ hs hx=> ?_,h5⟩
  rcases h hs with h|h
  ·exact h4 h hx
  ·exact absurd (List.map_eq_nil_iff.1 hx) h
theorem Af0 {bx:List (Nat×Box T.E)} {β:Nat->BI} {ok:Nat->Prop} {w:World}:∀{l m:List (Av T.E)},Coe l m->∀{vs:List Value},Ba (Ad T bx β ok w) l vs->Ba (Ad T bx β ok w) m vs
 |_,_,.nil,_,k=>k
 |_,_,.cons h t,_,.cons k1 k2=> .cons (A8f h k1) (Af0 t k2)
theorem Amj (HT:T.Ok) {t:Ty} {ls:List (Av T.E)} {x:t.den T.E} (h:t.ofL T ls=some x):Coe ls (t.toL T x):=by
 cases t with
 |nm n=>exact HT.ofL n ls x h
 |int k=>
  simp only[Ty.ofL]at h
  split at h
  ·split at h
   ·rename_i e;subst e;cases h;exact .cons (.inl rfl) .nil
   ·cases h
  ·cases h
 |bool=>
  simp only[Ty.ofL]at h
  split at h
  ·cases h;exact .cons (.inl rfl) .nil
  ·cases h
 |str=>
  simp only[Ty.ofL]at h
  split at h
  ·cases h;exact .cons (.inl rfl) .nil
  ·cases h
 |sl t=>
  simp only[Ty.ofL]at h
  split at h
  ·split at h
   ·rename_i e;subst e;cases h;exact .cons (.inr ⟨_,_,_,_,rfl,rfl,λ h=>by cases h⟩) .nil
   ·cases h
  ·cases h
end
structure U1 (w w':World):Prop where
 os:w'.os=w.os
 tape:w'.tape=w.tape
 output:w'.output=w.output
 size:w.heap.size<=w'.heap.size
 heap:∀b,b<w.heap.size->w'.heap[b]?=w.heap[b]?
theorem U1.refl (w:World):U1 w w:=⟨rfl,rfl,rfl,Nat.le_refl _,λ _ _=>rfl⟩
theorem U1.trans {a b c:World} (h:U1 a b) (k:U1 b c):U1 a c:=
 ⟨k.os.trans h.os,k.tape.trans h.tape,k.output.trans h.output,Nat.le_trans h.size k.size,λ x hx=>(k.heap x (Nat.lt_of_lt_of_le hx h.size)).trans (h.heap x hx)⟩
theorem U1.alloc (w:World) (o:Obj):U1 w (w.alloc o):=
 ⟨rfl,rfl,rfl,by simp,λ b hb=>by rw[World.alloc,Array.getElem?_push];simp[Nat.ne_of_lt hb]⟩
theorem U1.drew (w:World):U1 w {w with drawn:=w.drawn+1}:=⟨rfl,rfl,rfl,Nat.le_refl _,λ _ _=>rfl⟩
structure Ctx where
 P:Program
 okp:Nat->Prop
 B:Nat
 chg:Nat->Prop
 W:World
 v0:Value
 outs:List (Array Value)
def Uz (C:Ctx) (tmps:Array Value) (k:Nat):Value:=
 match Nat.blt k 1000000 with
 |true=>tmps.getD k undef
 |false=>(C.outs.getD (k/1000000-1) #[]).getD (k%1000000) undef
structure Cc0 (C:Ctx) (w:World):Prop where
 os:w.os=C.W.os
 tape:w.tape=C.W.tape
 output:w.output=C.W.output
 size:C.B<=w.heap.size
 heap:∀b,b<C.B->¬C.chg b->w.heap[b]?=C.W.heap[b]?
def A2 (C:Ctx) (β:Nat->BI) (w:World) (b:Nat):Prop:=
 b<w.heap.size/\(C.okp b\/C.B<=b\/C.chg b)/\∀id,b∉(β id).own
section
variable (T:Tab)
def Lh (ok:Nat->Prop) (w:World) (e:TypeId) (t:Ty) (xs:List (t.den T.E)) (hdr:Value):Prop:=
 ∃css:List (List Value),w.ownsRow 0 e (t.sz T) hdr xs.length css.flatten/\Ba (λ x cs=>Bl ok w (t.av T x) cs/\cs.length=t.sz T) xs css
def Zd (ok:Nat->Prop) (w:World) (e e2:TypeId) (t:Ty) (xss:List (List (t.den T.E))) (i:BI):Prop:=
 w.ownsRow 0 e 1 i.hdr xss.length i.rows/\i.own=i.hdr.ownBlock.toList++i.rows.flatMap (λ v=>v.ownBlock.toList)/\
 Ba (λ xs v=>Lh T ok w e2 t xs v) xss i.rows
def Bnx (ok:Nat->Prop) (w:World) (e e2:TypeId) (t:Ty) (xss:List (List (t.den T.E))) (i:BI) (a b:Int):Prop:=
 0<=a/\a<xss.length/\0<=b/\b<xss.length/\∃rb,i.rows[b.toNat]?=some rb/\w.ownsRow 0 e 1 i.hdr xss.length (i.rows.set a.toNat rb)/\
  i.own=i.hdr.ownBlock.toList++i.rows.flatMap (λ v=>v.ownBlock.toList)/\Ba (λ xs v=>Lh T ok w e2 t xs v) xss i.rows
def U0 (ok:Nat->Prop) (w:World) (t:Ty) (x:t.den T.E) (v:Value):Prop:=
 if Ux t then∃cs,v= .agg cs/\Bl ok w (t.av T x) cs.toList else Bl ok w (t.av T x) [v]
def Bl6 (ok:Nat->Prop) (w:World) (k t:Ty) (l:List (k.den T.E×t.den T.E)) (b:Nat):Prop:=
 ∃es clock,w.heap[b]?=some (.map es clock)/\Ba (λ (x:k.den T.E×t.den T.E) (e:MapEntry)=>U0 T ok w k x.1 e.key/\U0 T ok w t x.2 e.val) l es.toList
def Dc (bx:List (Nat×Box T.E)) (β:Nat->BI) (ok:Nat->Prop) (w:World) (id:Nat):Box T.E->Prop
 | .cells ls=>∃c e,(β id).own=[(β id).blk]/\w.heap[(β id).blk]?=some (.cells c e (0,0))/\Ba (Ad T bx β ok w) ls c.toList
 | .arr e t xs _ false=>(β id).own=(β id).hdr.ownBlock.toList/\Lh T ok w e t xs (β id).hdr
 | .arr _ t xs _ true=>(β id).own=[]/\Arb T ok w t false xs (β id).hdr/\(xs≠[]->∃b cap,(β id).hdr= .slice (some ⟨b,0,none⟩) xs.length cap)
 | .rows e e2 t xss _ _ .opn=>Zd T ok w e e2 t xss (β id)
 | .rows _ _ t xss _ _ .shut=>(β id).own=[]/\Arb T ok w (.sl t) false xss (β id).hdr/\(xss≠[]->∃b cap,(β id).hdr= .slice (some ⟨b,0,none⟩) xss.length cap)
 | .rows e e2 t xss _ _ (.mix a b)=>Bnx T ok w e e2 t xss (β id) a b
 | .map k t l=>(β id).own=[(β id).blk]/\Bl6 T ok w k t l (β id).blk
 | .gone=>True
structure Bk (C:Ctx) (bx:List (Nat×Box T.E)) (β:Nat->BI) (w:World):Prop where
 boxes:∀id b,Ae id bx=some b->Dc T bx β (A2 C β w) w id b
 nones:∀id,Ae id bx=none->(β id).own=[]
 nodup:∀id,(β id).own.Nodup
 apart:∀id id' x,x∈(β id).own->x∈(β id').own->id=id'
 mine:∀id x,x∈(β id).own->x<w.heap.size/\(C.B<=x\/C.chg x)
 kept:Cc0 C w
def Ar (bx:List (Nat×Box T.E)) (β:Nat->BI) (ok:Nat->Prop) (w:World):CV T.E->Value->Prop
 | .one l,v=>Ad T bx β ok w l v
 | .ag ls,v=>∃cs,v= .agg cs/\Ba (Ad T bx β ok w) ls cs.toList
def Az (bx:List (Nat×Box T.E)) (β:Nat->BI) (ok:Nat->Prop) (w:World):SV T.E->Value->Prop
 | .cv c,v=>Ar T bx β ok w c v
 | .tup cs,v=>∃vs,v= .tuple vs/\Ba (Ar T bx β ok w) cs vs.toList
def Gu (i i':BI):Box T.E->Box T.E->Prop
 | .cells _,.cells _=>i'.blk=i.blk
 | .arr _ t xs v _,.arr _ t' xs' v' _=>t'=t/\v<=v'/\(v'=v->i'.hdr=i.hdr/\xs'.length=xs.length)
 | .rows _ _ t xss v rv _,.rows _ _ t' xss' v' rv' _=>t'=t/\v<=v'/\(v'=v->i'.hdr=i.hdr/\xss'.length=xss.length/\rv<=rv'/\
  (rv'=rv->i'.rows=i.rows/\∀k:Nat,(xss'.getD k []).length=(xss.getD k []).length))
 | .map k t _,.map k' t' _=>k'=k/\t'=t/\i'.blk=i.blk
 |_,.gone=>True
 |_,_=>False
theorem Gu.refl (i:BI) (b:Box T.E):Gu T i i b b:=by
 cases b<;>simp[Gu]
structure Ext (bx:List (Nat×Box T.E)) (β:Nat->BI) (ok:Nat->Prop) (w:World) (bx':List (Nat×Box T.E)) (β':Nat->BI) (ok':Nat->Prop) (w':World):Prop where
 later:Dd ok w ok' w'
 box:∀id b,Ae id bx=some b->∃b',Ae id bx'=some b'/\Gu T (β id) (β' id) b b'
variable {T}
variable {bx bx':List (Nat×Box T.E)} {β β':Nat->BI} {ok ok':Nat->Prop} {w w':World}
mutual
theorem Ad.ext (X:Ext T bx β ok w bx' β' ok' w'):∀(l:Av T.E) (v:Value),Ad T bx β ok w l v->Ad T bx' β' ok' w' l v
 | .int _ _,_,h=>h
 | .bool _,_,h=>h
 | .str _,_,h=>h
 | .sl t st xs,v,h=>Bl.later X.later _ _ h
 | .ar id ver,v,h=>by
   simp only[Ad]at h ⊢
   refine⟨h.1, ?_⟩
   have h2:=h.2
   cases hb:Ae id bx with
   |none=>rw[hb]at h2;exact h2.elim
   |some b=>
    obtain⟨b',hb',hc⟩:=X.box id b hb
    rw[hb]at h2;rw[hb']
    cases b<;>cases b'<;>simp only[Gu]at hc h2 ⊢
    ·obtain⟨_,hv,hc⟩:=hc
     refine⟨Nat.le_trans h2.1 hv,λ e=> ?_⟩
     have:=hc (by omega)
     rw[this.1];exact h2.2 (by omega)
    ·obtain⟨_,hv,hc⟩:=hc
     refine⟨Nat.le_trans h2.1 hv,λ e=> ?_⟩
     have:=hc (by omega)
     rw[this.1];exact h2.2 (by omega)
 | .row id ver rv i,v,h=>by
   simp only[Ad]at h ⊢
   refine⟨h.1, ?_⟩
   have h2:=h.2
   cases hb:Ae id bx with
   |none=>rw[hb]at h2;exact h2.elim
   |some b=>
    obtain⟨b',hb',hc⟩:=X.box id b hb
    rw[hb]at h2;rw[hb']
    cases b<;>cases b'<;>simp only[Gu]at hc h2 ⊢
    obtain⟨_,hv,hc⟩:=hc
    refine⟨Nat.le_trans h2.1 hv,λ e=> ?_⟩
    obtain⟨c1,c2,c3,c4⟩:=hc (by omega)
    obtain⟨k1,k2⟩:=h2.2 (by omega)
    refine⟨Nat.le_trans k1 c3,λ e2=> ?_⟩
    obtain⟨d1,d2⟩:=c4 (by omega)
    obtain⟨m1,m2,m3⟩:=k2 (by omega)
    exact⟨m1,by rw[c2];exact m2,by rw[d1];exact m3⟩
 | .ptr id off,v,h=>by
   simp only[Ad]at h ⊢
   refine⟨h.1, ?_⟩
   have h2:=h.2
   cases hb:Ae id bx with
   |none=>rw[hb]at h2;exact h2.elim
   |some b=>
    obtain⟨b',hb',hc⟩:=X.box id b hb
    rw[hb]at h2;rw[hb']
    cases b<;>cases b'<;>simp only[Gu]at hc h2 ⊢
    rw[hc];exact h2
 | .ep id ver i off,v,h=>by
   simp only[Ad]at h ⊢
   refine⟨h.1, ?_⟩
   have h2:=h.2
   cases hb:Ae id bx with
   |none=>rw[hb]at h2;exact h2.elim
   |some b=>
    obtain⟨b',hb',hc⟩:=X.box id b hb
    rw[hb]at h2;rw[hb']
    cases b<;>cases b'<;>simp only[Gu]at hc h2 ⊢
    ·obtain⟨rfl,hv,hc⟩:=hc
     refine⟨Nat.le_trans h2.1 hv,λ e=> ?_⟩
     obtain⟨c1,c2⟩:=hc (by omega)
     rw[c1,c2];exact h2.2 (by omega)
    ·obtain⟨rfl,hv,hc⟩:=hc
     refine⟨Nat.le_trans h2.1 hv,λ e=> ?_⟩
     obtain⟨c1,c2,_⟩:=hc (by omega)
     rw[c1,c2];exact h2.2 (by omega)
 | .win id ver i n,v,h=>by
   simp only[Ad]at h ⊢
   refine⟨h.1, ?_⟩
   have h2:=h.2
   cases hb:Ae id bx with
   |none=>rw[hb]at h2;exact h2.elim
   |some b=>
    obtain⟨b',hb',hc⟩:=X.box id b hb
    rw[hb]at h2;rw[hb']
    cases b<;>cases b'<;>simp only[Gu]at hc h2 ⊢
    obtain⟨rfl,hv,hc⟩:=hc
    refine⟨Nat.le_trans h2.1 hv,λ e=> ?_⟩
    obtain⟨c1,c2⟩:=hc (by omega)
    rw[c1,c2];exact h2.2 (by omega)
 | .rp id ver rv i k off,v,h=>by
   simp only[Ad]at h ⊢
   refine⟨h.1, ?_⟩
   have h2:=h.2
   cases hb:Ae id bx with
   |none=>rw[hb]at h2;exact h2.elim
   |some b=>
    obtain⟨b',hb',hc⟩:=X.box id b hb
    rw[hb]at h2;rw[hb']
    cases b<;>cases b'<;>simp only[Gu]at hc h2 ⊢
    obtain⟨rfl,hv,hc⟩:=hc
    refine⟨Nat.le_trans h2.1 hv,λ e=> ?_⟩
    obtain⟨c1,c2,c3,c4⟩:=hc (by omega)
    obtain⟨k1,k2⟩:=h2.2 (by omega)
    refine⟨Nat.le_trans k1 c3,λ e2=> ?_⟩
    obtain⟨d1,d2⟩:=c4 (by omega)
    rw[d1,d2,c2]
    exact k2 (by omega)
 | .cp t x off,v,h=>by
   simp only[Ad]at h ⊢
   obtain⟨b,o,cs,h1,h2,h3⟩:=h
   exact⟨b,o,cs,h1,Bl.later X.later _ _ h2,h3.later X.later⟩
 | .bs ls,v,h=>by
   simp only[Ad]at h ⊢
   obtain⟨b,vs,c,e,h1,h2,h3,h4,h5⟩:=h
   exact⟨b,vs,c,e,h1,X.later.may _ h2,by rw[X.later.heap _ h2];exact h3,h4,A9.ext X ls vs h5⟩
 | .clo f caps,v,h=>by
   simp only[Ad]at h ⊢
   obtain⟨vs,h1,h2⟩:=h
   exact⟨vs,h1,A9.ext X caps _ h2⟩
 | .mp id,v,h=>by
   simp only[Ad]at h ⊢
   refine⟨h.1, ?_⟩
   have h2:=h.2
   cases hb:Ae id bx with
   |none=>rw[hb]at h2;exact h2.elim
   |some b=>
    obtain⟨b',hb',hc⟩:=X.box id b hb
    rw[hb]at h2;rw[hb']
    cases b<;>cases b'<;>simp only[Gu]at hc h2 ⊢
    rw[hc.2.2];exact h2
 | .nptr,_,h=>h
 | .nfn,_,h=>h
 | .nmp,_,h=>h
 | .nif,_,h=>h
theorem A9.ext (X:Ext T bx β ok w bx' β' ok' w'):∀(ls:List (Av T.E)) (vs:List Value),A9 T bx β ok w ls vs->A9 T bx' β' ok' w' ls vs
 |[],_,h=>h
 |l::ls,vs,h=>by
  simp only[A9]at h ⊢
  obtain⟨v,r,rfl,h1,h2⟩:=h
  exact⟨v,r,rfl,Ad.ext X l v h1,A9.ext X ls r h2⟩
end
theorem Ba.ext (X:Ext T bx β ok w bx' β' ok' w') {ls:List (Av T.E)} {vs:List Value} (h:Ba (Ad T bx β ok w) ls vs):Ba (Ad T bx' β' ok' w') ls vs:=
 h.imp λ l v k=>Ad.ext X l v k
theorem Ar.ext (X:Ext T bx β ok w bx' β' ok' w') {c:CV T.E} {v:Value} (h:Ar T bx β ok w c v):Ar T bx' β' ok' w' c v:=by
 cases c with
 |one l=>exact Ad.ext X l v h
 |ag ls=>obtain⟨cs,rfl,h⟩:=h;exact⟨cs,rfl,Ba.ext X h⟩
theorem Az.ext (X:Ext T bx β ok w bx' β' ok' w') {c:SV T.E} {v:Value} (h:Az T bx β ok w c v):Az T bx' β' ok' w' c v:=by
 cases c with
 |cv c=>exact Ar.ext X h
 |tup cs=>obtain⟨vs,rfl,h⟩:=h;exact⟨vs,rfl,h.imp λ _ _ k=>Ar.ext X k⟩
theorem Bp2 {l:Av T.E} {v:Value} (h:Ad T bx β ok w l v):v.oneCell'=true:=by
 cases l<;>simp only[Ad]at h
 case sl=>obtain⟨a,cap,h,_⟩:=h;simp at h;subst h;rfl
 case cp=>obtain⟨b,o,cs,rfl,_⟩:=h;rfl
 case bs=>obtain⟨b,vs,c,e,rfl,_⟩:=h;rfl
 case clo=>obtain⟨vs,rfl,_⟩:=h;rfl
 all_goals first|exact h.1|(subst h;rfl)
theorem Asw {v:Value} (h:v.oneCell'=true):v.cells= #[v]:=by
 cases v<;>simp_all [Value.oneCell',Value.cells]
theorem Af1 {l:Av T.E} {v:Value} (h:Ad T bx β ok w l v):v.cells= #[v]:=Asw (Bp2 h)
theorem Ar.cells {c:CV T.E} {v:Value} (h:Ar T bx β ok w c v):Ba (Ad T bx β ok w) c.leaves v.cells.toList:=by
 cases c with
 |one l=>rw[Af1 h];exact .cons h .nil
 |ag ls=>obtain⟨cs,rfl,h⟩:=h;exact h
theorem Abs {agg:Bool} {ls:List (Av T.E)} {c:CV T.E} (h:B7 agg ls=some c) {vs:List Value} (k:Ba (Ad T bx β ok w) ls vs):
 (agg=true/\c= .ag ls/\Ar T bx β ok w c (.agg vs.toArray))\/(agg=false/\∃l v,ls=[l]/\c= .one l/\vs=[v]/\Ar T bx β ok w c v):=by
 cases agg with
 |true=>simp[B7]at h;subst h;exact .inl ⟨rfl,rfl,_,rfl,by simpa using k⟩
 |false=>
  match ls,h with
  |[l],h=>
   simp[B7]at h;subst h
   cases k with
   |cons k1 k2=>cases k2;exact .inr ⟨rfl,_,_,rfl,rfl,rfl,k1⟩
  |[],h=>simp[B7]at h
  |_::_::_,h=>simp[B7]at h
theorem Acn {base:Nat} {e:TypeId} {sz:Nat} {v:Value} {n:Nat} {xs:List Value} (h:w.ownsRow base e sz v n xs) (hh:∀b,v.ownBlock=some b->w'.heap[b]?=w.heap[b]?):
 w'.ownsRow base e sz v n xs:=by
 obtain⟨h1,h2⟩:=h
 refine⟨h1, ?_⟩
 rcases h2 with h2|⟨g,cap,cur,rfl,k1,k2,k3⟩
 ·exact .inl h2
 ·exact .inr ⟨g,cap,cur,rfl,k1,by rw[hh g rfl];exact k2,k3⟩
theorem Lh.later (L:Dd ok w ok' w') {e:TypeId} {t:Ty} {xs:List (t.den T.E)} {hdr:Value} (h:Lh T ok w e t xs hdr) (hh:∀b,hdr.ownBlock=some b->w'.heap[b]?=w.heap[b]?):
 Lh T ok' w' e t xs hdr:=by
 obtain⟨css,h1,h2⟩:=h
 exact⟨css,Acn h1 hh,h2.imp λ x cs k=>⟨Bl.later L _ _ k.1,k.2⟩⟩
theorem U0.later (L:Dd ok w ok' w') {t:Ty} {x:t.den T.E} {v:Value} (h:U0 T ok w t x v):U0 T ok' w' t x v:=by
 unfold U0 at h ⊢
 split
 ·rename_i hn;rw[if_pos hn]at h;obtain⟨cs,h1,h2⟩:=h;exact⟨cs,h1,Bl.later L _ _ h2⟩
 ·rename_i hn;rw[if_neg hn]at h;exact Bl.later L _ _ h
theorem Bl6.later (L:Dd ok w ok' w') {k t:Ty} {l:List (k.den T.E×t.den T.E)} {b:Nat} (h:Bl6 T ok w k t l b) (hh:w'.heap[b]?=w.heap[b]?):Bl6 T ok' w' k t l b:=by
 obtain⟨es,cl,h1,h2⟩:=h
 exact⟨es,cl,by rw[hh];exact h1,h2.imp λ x e k=>⟨k.1.later L,k.2.later L⟩⟩
theorem Dc.ext (X:Ext T bx β ok w bx' β' ok' w') {id:Nat} {b:Box T.E} (h:Dc T bx β ok w id b) (hβ:β' id=β id) (hh:∀x∈(β id).own,w'.heap[x]?=w.heap[x]?):
 Dc T bx' β' ok' w' id b:=by
 cases b with
 |cells ls=>
  obtain⟨c,e,h1,h2,h3⟩:=h
  refine⟨c,e,by rw[hβ];exact h1,by rw[hβ,hh _ (by rw[h1];simp)];exact h2,Ba.ext X h3⟩
 |arr e t xs v fz=>
  cases fz with
  |false=>
   obtain⟨h1,h2⟩:=h
   refine⟨by rw[hβ];exact h1, ?_⟩
   rw[hβ]
   exact h2.later X.later λ b hb=>hh b (by rw[h1,hb];simp)
  |true=>obtain⟨h1,h2,h3⟩:=h;exact⟨by rw[hβ];exact h1,by rw[hβ];exact Bl.later X.later _ _ h2,by rw[hβ];exact h3⟩
 |rows e e2 t xss v rv fz=>
  cases fz with
  |opn=>
   obtain⟨h1,h2,h3⟩:=h
   simp only[Dc,Zd]
   rw[hβ]
   refine⟨Acn h1 λ b hb=>hh b (by rw[h2,hb];simp),h2,Ba.imp_mem' (λ xs v hv k=>k.later X.later λ b hb=>hh b (by rw[h2];exact List.mem_append.2 (.inr (List.mem_flatMap.2 ⟨v,hv,by rw[hb];simp⟩)))) h3⟩
  |shut=>obtain⟨h1,h2,h3⟩:=h;exact⟨by rw[hβ];exact h1,by rw[hβ];exact Bl.later X.later _ _ h2,by rw[hβ];exact h3⟩
  |mix p q=>
   obtain⟨k1,k2,k3,k4,rb,k5,h1,h2,h3⟩:=h
   simp only[Dc,Bnx]
   rw[hβ]
   refine⟨k1,k2,k3,k4,rb,k5,Acn h1 λ b hb=>hh b (by rw[h2,hb];simp),h2,Ba.imp_mem' (λ xs v hv k=>k.later X.later λ b hb=>hh b (by rw[h2];exact List.mem_append.2 (.inr (List.mem_flatMap.2 ⟨v,hv,by rw[hb];simp⟩)))) h3⟩
 |map k t l=>
  obtain⟨h1,h2⟩:=h
  exact⟨by rw[hβ];exact h1,by rw[hβ];exact h2.later X.later (hh _ (by rw[h1];simp))⟩
 |gone=>trivial
end
section
variable {T:Tab} {C:Ctx} {bx bx':List (Nat×Box T.E)} {β β':Nat->BI} {ok ok':Nat->Prop} {w w':World}
mutual
def Co {E:Nat->Type}:Av E->List Nat
 | .ar id _| .row id _ _ _| .ptr id _| .ep id _ _ _| .rp id _ _ _ _ _| .win id _ _ _| .mp id=>[id]
 | .bs ls=>B5 ls
 | .clo _ ls=>B5 ls
 |_=>[]
def B5 {E:Nat->Type}:List (Av E)->List Nat
 |[]=>[]
 |l::ls=>Co l++B5 ls
end
def A40 {E:Nat->Type} (o o':Option (Box E)):Prop:=o'=o\/∃ls ls',o=some (.cells ls)/\o'=some (.cells ls')
mutual
theorem Ad.agree (L:Dd ok w ok' w'):∀(l:Av T.E) (v:Value),(∀id∈Co l,A40 (Ae id bx) (Ae id bx')/\β' id=β id)->Ad T bx β ok w l v->Ad T bx' β' ok' w' l v
 | .int _ _,_,_,h=>h
 | .bool _,_,_,h=>h
 | .str _,_,_,h=>h
 | .sl t st xs,v,_,h=>Bl.later L _ _ h
 | .ar id ver,v,A,h=>by
   obtain⟨a1,a2⟩:=A id (by simp[Co])
   simp only[Ad]at h ⊢;rw[a2]
   rcases a1 with a1|⟨ls,ls',a1,a3⟩
   ·rw[a1];exact h
   ·rw[a1]at h;rw[a3];exact h
 | .row id ver rv i,v,A,h=>by
   obtain⟨a1,a2⟩:=A id (by simp[Co])
   simp only[Ad]at h ⊢;rw[a2]
   rcases a1 with a1|⟨ls,ls',a1,a3⟩
   ·rw[a1];exact h
   ·rw[a1]at h;rw[a3];exact h
 | .ptr id off,v,A,h=>by
   obtain⟨a1,a2⟩:=A id (by simp[Co])
   simp only[Ad]at h ⊢;rw[a2]
   rcases a1 with a1|⟨ls,ls',a1,a3⟩
   ·rw[a1];exact h
   ·rw[a1]at h;rw[a3];exact h
 | .ep id ver i off,v,A,h=>by
   obtain⟨a1,a2⟩:=A id (by simp[Co])
   simp only[Ad]at h ⊢;rw[a2]
   rcases a1 with a1|⟨ls,ls',a1,a3⟩
   ·rw[a1];exact h
   ·rw[a1]at h;rw[a3];exact h
 | .rp id ver rv i k off,v,A,h=>by
   obtain⟨a1,a2⟩:=A id (by simp[Co])
   simp only[Ad]at h ⊢;rw[a2]
   rcases a1 with a1|⟨ls,ls',a1,a3⟩
   ·rw[a1];exact h
   ·rw[a1]at h;rw[a3];exact h
 | .win id ver i n,v,A,h=>by
   obtain⟨a1,a2⟩:=A id (by simp[Co])
   simp only[Ad]at h ⊢;rw[a2]
   rcases a1 with a1|⟨ls,ls',a1,a3⟩
   ·rw[a1];exact h
   ·rw[a1]at h;rw[a3];exact h
 | .mp id,v,A,h=>by
   obtain⟨a1,a2⟩:=A id (by simp[Co])
   simp only[Ad]at h ⊢;rw[a2]
   rcases a1 with a1|⟨ls,ls',a1,a3⟩
   ·rw[a1];exact h
   ·rw[a1]at h;rw[a3];exact h
 | .cp t x off,v,_,h=>by
   simp only[Ad]at h ⊢
   obtain⟨b,o,cs,h1,h2,h3⟩:=h
   exact⟨b,o,cs,h1,Bl.later L _ _ h2,h3.later L⟩
 | .bs ls,v,A,h=>by
   simp only[Ad]at h ⊢
   obtain⟨b,vs,c,e,h1,h2,h3,h4,h5⟩:=h
   exact⟨b,vs,c,e,h1,L.may _ h2,by rw[L.heap _ h2];exact h3,h4,A9.agree L ls vs (λ id hid=>A id (by simpa [Co]using hid)) h5⟩
 | .clo f caps,v,A,h=>by
   simp only[Ad]at h ⊢
   obtain⟨vs,h1,h2⟩:=h
   exact⟨vs,h1,A9.agree L caps _ (λ id hid=>A id (by simpa [Co]using hid)) h2⟩
 | .nptr,_,_,h=>h
 | .nfn,_,_,h=>h
 | .nmp,_,_,h=>h
 | .nif,_,_,h=>h
theorem A9.agree (L:Dd ok w ok' w'):∀(ls:List (Av T.E)) (vs:List Value),(∀id∈B5 ls,A40 (Ae id bx) (Ae id bx')/\β' id=β id)->A9 T bx β ok w ls vs->A9 T bx' β' ok' w' ls vs
 |[],_,_,h=>h
 |l::ls,vs,A,h=>by
  simp only[A9]at h ⊢
  obtain⟨v,r,rfl,h1,h2⟩:=h
  exact⟨v,r,rfl,Ad.agree L l v (λ id hid=>A id (by simp[B5,hid])) h1,A9.agree L ls r (λ id hid=>A id (by simp[B5,hid])) h2⟩
end
end
def SV.ids {E:Nat->Type}:SV E->List Nat
 | .cv c=>B5 c.leaves
 | .tup cs=>cs.flatMap λ c=>B5 c.leaves
section
variable {V:Env} {C:Ctx}
theorem Ar.agree {bx bx':List (Nat×Box V.E)} {β β':Nat->BI} {ok ok':Nat->Prop} {w w':World} (L:Dd ok w ok' w') {c:CV V.E} {v:Value} (A:∀id∈B5 c.leaves,A40 (Ae id bx) (Ae id bx')/\β' id=β id) (h:Ar V.T bx β ok w c v):Ar V.T bx' β' ok' w' c v:=by
 cases c with
 |one l=>exact Ad.agree L l v (λ id hid=>A id (by simpa [CV.leaves,B5]using hid)) h
 |ag ls=>
  obtain⟨cs,rfl,h⟩:=h
  exact⟨cs,rfl,(A9.iff V.T ls _).1 (A9.agree L ls _ A ((A9.iff V.T ls _).2 h))⟩
theorem Az.agree {bx bx':List (Nat×Box V.E)} {β β':Nat->BI} {ok ok':Nat->Prop} {w w':World} (L:Dd ok w ok' w') {c:SV V.E} {v:Value} (A:∀id∈c.ids,A40 (Ae id bx) (Ae id bx')/\β' id=β id) (h:Az V.T bx β ok w c v):Az V.T bx' β' ok' w' c v:=by
 cases c with
 |cv c=>exact Ar.agree L A h
 |tup cs=>
  obtain⟨vs,rfl,h⟩:=h
  exact⟨vs,rfl,h.imp_mem λ c v hc k=>Ar.agree L (λ id hid=>A id (List.mem_flatMap.2 ⟨c,hc,hid⟩)) k⟩
theorem Dc.agree {bx bx':List (Nat×Box V.E)} {β β':Nat->BI} {ok ok':Nat->Prop} {w:World} (L:Dd ok w ok' w) {id id':Nat} (hβ:β' id'=β id) {b:Box V.E} (A:∀ls,b= .cells ls->∀i∈B5 ls,A40 (Ae i bx) (Ae i bx')/\β' i=β i)
 (h:Dc V.T bx β ok w id b):Dc V.T bx' β' ok' w id' b:=by
 cases b with
 |cells ls=>
  obtain⟨c,e,h1,h2,h3⟩:=h
  refine⟨c,e,by rw[hβ];exact h1,by rw[hβ];exact h2, ?_⟩
  exact(A9.iff V.T ls _).1 (A9.agree L ls _ (A ls rfl) ((A9.iff V.T ls _).2 h3))
 |arr e t xs v fz=>
  cases fz with
  |false=>obtain⟨h1,h2⟩:=h;refine⟨by rw[hβ];exact h1, ?_⟩;rw[hβ];exact h2.later L λ _ _=>rfl
  |true=>obtain⟨h1,h2,h3⟩:=h;exact⟨by rw[hβ];exact h1,by rw[hβ];exact Bl.later L _ _ h2,by rw[hβ];exact h3⟩
 |rows e e2 t xss v rv fz=>
  cases fz with
  |opn=>
   obtain⟨h1,h2,h3⟩:=h
   simp only[Dc,Zd]
   rw[hβ]
   exact⟨h1,h2,h3.imp λ _ _ k=>k.later L λ _ _=>rfl⟩
  |shut=>obtain⟨h1,h2,h3⟩:=h;exact⟨by rw[hβ];exact h1,by rw[hβ];exact Bl.later L _ _ h2,by rw[hβ];exact h3⟩
  |mix p q=>
   obtain⟨k1,k2,k3,k4,rb,k5,h1,h2,h3⟩:=h
   simp only[Dc,Bnx]
   rw[hβ]
   exact⟨k1,k2,k3,k4,rb,k5,h1,h2,h3.imp λ _ _ k=>k.later L λ _ _=>rfl⟩
 |map k t l=>obtain⟨h1,h2⟩:=h;exact⟨by rw[hβ];exact h1,by rw[hβ];exact h2.later L rfl⟩
 |gone=>trivial
end
section
variable {T:Tab} {C:Ctx}
mutual
theorem Ad.here {bx:List (Nat×Box T.E)} {β:Nat->BI} {ok:Nat->Prop} {w:World}:∀(l:Av T.E) (v:Value),Ad T bx β ok w l v->∀id∈Co l,∃b,Ae id bx=some b
 | .int _ _,_,_,id,h=>by simp[Co]at h
 | .bool _,_,_,id,h=>by simp[Co]at h
 | .str _,_,_,id,h=>by simp[Co]at h
 | .sl _ _ _,_,_,id,h=>by simp[Co]at h
 | .cp _ _ _,_,_,id,h=>by simp[Co]at h
 | .nptr,_,_,id,h=>by simp[Co]at h
 | .nfn,_,_,id,h=>by simp[Co]at h
 | .nmp,_,_,id,h=>by simp[Co]at h
 | .nif,_,_,id,h=>by simp[Co]at h
 | .ar i ver,v,k,id,h=>by
   simp only[Co,List.mem_singleton]at h;subst h
   simp only[Ad]at k
   cases hb:Ae id bx with
   |none=>rw[hb]at k;exact k.2.elim
   |some b=>exact⟨b,rfl⟩
 | .row i _ _ _,v,k,id,h=>by
   simp only[Co,List.mem_singleton]at h;subst h
   simp only[Ad]at k
   cases hb:Ae id bx with
   |none=>rw[hb]at k;exact k.2.elim
   |some b=>exact⟨b,rfl⟩
 | .ptr i _,v,k,id,h=>by
   simp only[Co,List.mem_singleton]at h;subst h
   simp only[Ad]at k
   cases hb:Ae id bx with
   |none=>rw[hb]at k;exact k.2.elim
   |some b=>exact⟨b,rfl⟩
 | .ep i _ _ _,v,k,id,h=>by
   simp only[Co,List.mem_singleton]at h;subst h
   simp only[Ad]at k
   cases hb:Ae id bx with
   |none=>rw[hb]at k;exact k.2.elim
   |some b=>exact⟨b,rfl⟩
 | .rp i _ _ _ _ _,v,k,id,h=>by
   simp only[Co,List.mem_singleton]at h;subst h
   simp only[Ad]at k
   cases hb:Ae id bx with
   |none=>rw[hb]at k;exact k.2.elim
   |some b=>exact⟨b,rfl⟩
 | .win i _ _ _,v,k,id,h=>by
   simp only[Co,List.mem_singleton]at h;subst h
   simp only[Ad]at k
   cases hb:Ae id bx with
   |none=>rw[hb]at k;exact k.2.elim
   |some b=>exact⟨b,rfl⟩
 | .mp i,v,k,id,h=>by
   simp only[Co,List.mem_singleton]at h;subst h
   simp only[Ad]at k
   cases hb:Ae id bx with
   |none=>rw[hb]at k;exact k.2.elim
   |some b=>exact⟨b,rfl⟩
 | .bs ls,v,k,id,h=>by
   simp only[Ad]at k
   obtain⟨b,vs,c,e,h1,h2,h3,h4,h5⟩:=k
   exact A9.here ls vs h5 id (by simpa [Co]using h)
 | .clo f caps,v,k,id,h=>by
   simp only[Ad]at k
   obtain⟨vs,h1,h2⟩:=k
   exact A9.here caps _ h2 id (by simpa [Co]using h)
theorem A9.here {bx:List (Nat×Box T.E)} {β:Nat->BI} {ok:Nat->Prop} {w:World}:∀(ls:List (Av T.E)) (vs:List Value),A9 T bx β ok w ls vs->∀id∈B5 ls,∃b,Ae id bx=some b
 |[],_,_,id,h=>by simp[B5]at h
 |l::ls,vs,k,id,h=>by
  simp only[A9]at k
  obtain⟨v,r,rfl,h1,h2⟩:=k
  simp only[B5,List.mem_append]at h
  rcases h with h|h
  ·exact Ad.here l v h1 id h
  ·exact A9.here ls r h2 id h
end
theorem Ar.here {bx:List (Nat×Box T.E)} {β:Nat->BI} {ok:Nat->Prop} {w:World} {c:CV T.E} {v:Value} (k:Ar T bx β ok w c v):∀id∈B5 c.leaves,∃b,Ae id bx=some b:=by
 intro id h
 cases c with
 |one l=>exact Ad.here l v k id (by simpa [CV.leaves,B5]using h)
 |ag ls=>obtain⟨cs,rfl,k⟩:=k;exact A9.here ls _ ((A9.iff T ls _).2 k) id h
theorem Ba.mem {α β:Type} {R:α->β->Prop}:∀{l:List α} {m:List β},Ba R l m->∀a∈l,∃b∈m,R a b
 |_,_,.nil,a,h=>by simp at h
 |_,_,.cons h t,a,ha=>by
  rcases List.mem_cons.1 ha with rfl|ha
  ·exact⟨_,by simp,h⟩
  ·obtain⟨b,hb,r⟩:=t.mem a ha;exact⟨b,by simp[hb],r⟩
theorem Az.here {bx:List (Nat×Box T.E)} {β:Nat->BI} {ok:Nat->Prop} {w:World} {c:SV T.E} {v:Value} (k:Az T bx β ok w c v):∀id∈c.ids,∃b,Ae id bx=some b:=by
 intro id h
 cases c with
 |cv c=>exact Ar.here k id h
 |tup cs=>
  obtain⟨vs,rfl,k⟩:=k
  obtain⟨c,hc,hid⟩:=List.mem_flatMap.1 h
  obtain⟨v,_,r⟩:=k.mem c hc
  exact Ar.here r id hid
end
theorem Fi {a b:Nat} (h:a≠b):Nat.beq a b=false:=by
 cases hb:Nat.beq a b with
 |false=>rfl
 |true=>exact absurd (Nat.eq_of_beq_eq_true hb) h
theorem Ah {a b:Nat} (h:Nat.beq a b=true):a=b:=Nat.eq_of_beq_eq_true h
theorem Aw {α:Type} (k:Nat) (x:α):∀l:List (Nat×α),Ae k (put k x l)=some x
 |[]=>by simp[put,Ae]
 |(j,y)::r=>by
  unfold put
  split
  ·simp[Ae]
  ·split
   ·simp[Ae]
   ·rename_i h _
    have h':Nat.beq j k=false:=by cases hb:Nat.beq j k<;>simp_all
    unfold Ae
    simp only[h']
    exact Aw k x r
theorem Ay {α:Type} {k i:Nat} (h:i≠k) (x:α):∀l:List (Nat×α),Ae i (put k x l)=Ae i l
 |[]=>by simp[put,Ae,Fi (Ne.symm h)]
 |(j,y)::r=>by
  unfold put
  split
  ·rename_i e
   have:=Ah e;subst this
   simp[Ae,Fi (Ne.symm h)]
  ·split
   ·simp only[Ae,Fi (Ne.symm h)];simp
   ·unfold Ae
    rw[Ay h x r]
theorem Ary.{u} {α:Type u} {k:Nat} {x:α}:∀{l:List (Nat×α)},Ae k l=some x->(k,x)∈l
 |[],h=>by simp[Ae]at h
 |(j,y)::r,h=>by
  unfold Ae at h
  split at h
  ·rename_i e
   cases h;have:=Ah e;subst this;simp
  ·exact List.mem_cons_of_mem _ (Ary h)
section
variable {T:Tab} {C:Ctx} {bx bx':List (Nat×Box T.E)} {β β':Nat->BI} {w w':World}
theorem Bk.step (M:Bk T C bx β w) (S:Nat->Prop)
 (hos:w'.os=w.os) (htape:w'.tape=w.tape) (hout:w'.output=w.output) (hsize:w.heap.size<=w'.heap.size)
 (hβ:∀j,¬S j->β' j=β j/\Ae j bx'=Ae j bx)
 (hheap:∀x,x<w.heap.size->(∀j,S j->x∉(β j).own)->w'.heap[x]?=w.heap[x]?)
 (hown:∀j,S j->∀x∈(β' j).own,(∃j',S j'/\x∈(β j').own)\/(w.heap.size<=x/\x<w'.heap.size))
 (hnodup:∀j,S j->(β' j).own.Nodup)
 (hapart:∀j j' x,S j->S j'->x∈(β' j).own->x∈(β' j').own->j=j')
 (hnone:∀j,S j->Ae j bx'=none->(β' j).own=[])
 (hcompat:∀j b,S j->Ae j bx=some b->∃b',Ae j bx'=some b'/\Gu T (β j) (β' j) b b')
 (hrep:Ext T bx β (A2 C β w) w bx' β' (A2 C β' w') w'->∀j b,S j->Ae j bx'=some b->Dc T bx' β' (A2 C β' w') w' j b):
 Bk T C bx' β' w'/\Ext T bx β (A2 C β w) w bx' β' (A2 C β' w') w':=by
 have hX:Ext T bx β (A2 C β w) w bx' β' (A2 C β' w') w':=by
  refine⟨⟨λ b hb=>⟨Nat.lt_of_lt_of_le hb.1 hsize,hb.2.1,λ id hid=> ?_⟩,λ b hb=>hheap b hb.1 λ j _=>hb.2.2 j⟩,λ id b hb=> ?_⟩
  ·by_cases hS:S id
   ·rcases hown id hS b hid with⟨j',_,hj⟩|⟨h1,_⟩
    ·exact hb.2.2 j' hj
    ·have:=hb.1;omega
   ·rw[(hβ id hS).1]at hid;exact hb.2.2 id hid
  ·by_cases hS:S id
   ·exact hcompat id b hS hb
   ·refine⟨b,by rw[(hβ id hS).2];exact hb, ?_⟩
    rw[(hβ id hS).1];exact Gu.refl T _ _
 refine⟨⟨λ id b hb=> ?_,λ id hid=> ?_,λ id=> ?_,λ id id' x hx hx'=> ?_,λ id x hx=> ?_, ?_⟩,hX⟩
 ·by_cases hS:S id
  ·exact hrep hX id b hS hb
  ·have hb':Ae id bx=some b:=by rw[<-(hβ id hS).2];exact hb
   exact(M.boxes id b hb').ext hX (hβ id hS).1 λ x hx=>hheap x (M.mine id x hx).1 λ j hj hxj=>by
    have:=M.apart id j x hx hxj;subst this;exact hS hj
 ·by_cases hS:S id
  ·exact hnone id hS hid
  ·rw[(hβ id hS).1];exact M.nones id (by rw[<-(hβ id hS).2];exact hid)
 ·by_cases hS:S id
  ·exact hnodup id hS
  ·rw[(hβ id hS).1];exact M.nodup id
 ·have old:∀j k,S j->¬S k->x∈(β' j).own->x∈(β k).own->False:=by
   intro j k hj hk h1 h2
   rcases hown j hj x h1 with⟨j',hj',hx'⟩|⟨h3,_⟩
   ·have:=M.apart j' k x hx' h2;subst this;exact hk hj'
   ·have:=(M.mine k x h2).1;omega
  by_cases hS:S id<;>by_cases hS':S id'
  ·exact hapart id id' x hS hS' hx hx'
  ·rw[(hβ id' hS').1]at hx';exact(old id id' hS hS' hx hx').elim
  ·rw[(hβ id hS).1]at hx;exact(old id' id hS' hS hx' hx).elim
  ·rw[(hβ id hS).1]at hx;rw[(hβ id' hS').1]at hx';exact M.apart id id' x hx hx'
 ·by_cases hS:S id
  ·rcases hown id hS x hx with⟨j',_,hj⟩|⟨h1,h2⟩
   ·exact⟨Nat.lt_of_lt_of_le (M.mine j' x hj).1 hsize,(M.mine j' x hj).2⟩
   ·exact⟨h2,.inl (Nat.le_trans M.kept.size h1)⟩
  ·rw[(hβ id hS).1]at hx;exact⟨Nat.lt_of_lt_of_le (M.mine id x hx).1 hsize,(M.mine id x hx).2⟩
 ·refine⟨hos.trans M.kept.os,htape.trans M.kept.tape,hout.trans M.kept.output,Nat.le_trans M.kept.size hsize,λ b hb hc=> ?_⟩
  rw[hheap b (Nat.lt_of_lt_of_le hb M.kept.size) λ j _ hj=> ?_]
  ·exact M.kept.heap b hb hc
  ·rcases(M.mine j b hj).2 with h|h
   ·omega
   ·exact hc h
theorem Bk.grow (M:Bk T C bx β w) (G:U1 w w'):Bk T C bx β w'/\Ext T bx β (A2 C β w) w bx β (A2 C β w') w':=
 M.step (λ _=>False) G.os G.tape G.output G.size (λ _ _=>⟨rfl,rfl⟩) (λ x hx _=>G.heap x hx) (λ _ h=>h.elim) (λ _ h=>h.elim)
  (λ _ _ _ h=>h.elim) (λ _ h=>h.elim) (λ _ _ h=>h.elim) (λ _ _ _ h=>h.elim)
def upd (β:Nat->BI) (id:Nat) (i:BI):Nat->BI:=λ j=>if j=id then i else β j
@[simp] theorem A6 (β:Nat->BI) (id:Nat) (i:BI):upd β id i id=i:=by simp[upd]
theorem Di (β:Nat->BI) {id j:Nat} (i:BI) (h:j≠id):upd β id i j=β j:=by simp[upd,h]
theorem Bk.set (M:Bk T C bx β w) (id:Nat) (b':Box T.E) (i':BI)
 (hos:w'.os=w.os) (htape:w'.tape=w.tape) (hout:w'.output=w.output) (hsize:w.heap.size<=w'.heap.size)
 (hheap:∀x,x<w.heap.size->x∉(β id).own->w'.heap[x]?=w.heap[x]?)
 (hown:∀x∈i'.own,x∈(β id).own\/(w.heap.size<=x/\x<w'.heap.size)) (hnodup:i'.own.Nodup)
 (hcompat:∀b,Ae id bx=some b->Gu T (β id) i' b b')
 (hrep:Ext T bx β (A2 C β w) w (put id b' bx) (upd β id i') (A2 C (upd β id i') w') w'->Dc T (put id b' bx) (upd β id i') (A2 C (upd β id i') w') w' id b'):
 Bk T C (put id b' bx) (upd β id i') w'/\Ext T bx β (A2 C β w) w (put id b' bx) (upd β id i') (A2 C (upd β id i') w') w':=by
 refine M.step (λ j=>j=id) hos htape hout hsize (λ j hj=>⟨Di β i' hj,Ay hj _ _⟩) (λ x hx h=>hheap x hx (h id rfl)) ?_ ?_ ?_ ?_ ?_ ?_
 ·rintro j rfl x hx;rw[A6]at hx
  rcases hown x hx with h|h
  ·exact .inl ⟨_,rfl,h⟩
  ·exact .inr h
 ·rintro j rfl;rw[A6];exact hnodup
 ·rintro j j' x rfl rfl _ _;rfl
 ·rintro j rfl h;rw[Aw]at h;cases h
 ·rintro j b rfl h;exact⟨b',Aw _ _ _,by rw[A6];exact hcompat b h⟩
 ·rintro X j b rfl h;rw[Aw]at h;cases h;exact hrep X
theorem Bk.frozen (M:Bk T C bx β w) (id:Nat) (b b':Box T.E) (hb:Ae id bx=some b) (hc:Gu T (β id) {β id with own:=[]} b b')
 (hrep:Ext T bx β (A2 C β w) w (put id b' bx) (upd β id {β id with own:=[]}) (A2 C (upd β id {β id with own:=[]}) w) w->
  Dc T (put id b' bx) (upd β id {β id with own:=[]}) (A2 C (upd β id {β id with own:=[]}) w) w id b'):
 Bk T C (put id b' bx) (upd β id {β id with own:=[]}) w/\
  Ext T bx β (A2 C β w) w (put id b' bx) (upd β id {β id with own:=[]}) (A2 C (upd β id {β id with own:=[]}) w) w:=
 M.set id b' _ rfl rfl rfl (Nat.le_refl _) (λ _ _ _=>rfl) (λ x hx=>by simp at hx) (by simp) (λ b0 h0=>by rw[hb]at h0;cases h0;exact hc) hrep
end
def Gg:TK->TypeDesc->Bool
 | .int k,.int k'=>decide (k=k')
 | .bool,.bool=>true
 | .str,.string=>true
 | .slice e,.slice e'=>Nat.beq e e'
 | .struct fs,.struct fields=>decide (fields.toList.map (λ f=>(f.offset,f.type))=fs)
 | .array n e,.array n' e'=>Nat.beq n n'&&Nat.beq e e'
 | .ptr e,.pointer e'=>Nat.beq e e'
 | .map k e,.map k' e'=>Nat.beq k k'&&Nat.beq e e'
 | .func,.func .. =>true
 |_,_=>false
def zl {E:Nat->Type}:Av E->Value->Bool
 | .int k n,.int k' m=>decide (k=k')&&decide (n=m)
 | .bool b,.bool b'=>b==b'
 | .str s,.string s'=>s.isEmpty&&decide (s'.data.toList=[])
 | .sl _ true xs,.slice a l c=>xs.isEmpty&&a.isNone&&Nat.beq l 0&&Nat.beq c 0
 | .nptr,.pointer a=>a.isNone
 | .nfn,.nilFunc=>true
 | .nmp,.map a=>a.isNone
 |_,_=>false
def zls {E:Nat->Type}:List (Av E)->List Value->Bool
 |[],[]=>true
 |l::ls,v::vs=>zl l v&&zls ls vs
 |_,_=>false
def Blk:Value->Bool
 | .agg _=>true
 |_=>false
def B12 (V:Env) (P:Program) (t:TypeId) (i:TI V.E):Bool:=
 match P.info? t,P.underlying t with
 |some info,some d=>
  Gg i.kind d&&Nat.beq info.size i.size&&Nat.beq info.bytes i.bytes&&Nat.beq (i.ty.sz V.T) i.size&&Nat.blt 0 i.size&&Nat.blt 0 i.bytes&&
   (match info.zero with|some z=>zls i.zero z.cells.toList&&Nat.beq z.cells.size i.size&&(Blk z==i.kind.agg)|none=>false)
 |_,_=>false
structure Cw (V:Env) (P:Program) (t:TypeId) (i:TI V.E) (info:TypeInfo) (d:TypeDesc) (z:Value):Prop where
 inf:P.info? t=some info
 under:P.underlying t=some d
 kind:Gg i.kind d=true
 size:info.size=i.size
 bytes:info.bytes=i.bytes
 ty:i.ty.sz V.T=i.size
 pos:0<i.size
 bpos:0<i.bytes
 zero:info.zero=some z
 zeros:zls i.zero z.cells.toList=true
 zcells:z.cells.size=i.size
 zagg:Blk z=i.kind.agg
theorem Bz6 {V:Env} {P:Program} {t:TypeId} {i:TI V.E} (h:B12 V P t i=true):∃info d z,Cw V P t i info d z:=by
 unfold B12 at h
 split at h
 ·rename_i info d h1 h2
  simp only[Bool.and_eq_true]at h
  obtain⟨⟨⟨⟨⟨⟨k1,k2⟩,k3⟩,k4⟩,k5⟩,k7⟩,k6⟩:=h
  split at k6
  ·rename_i z hz
   simp only[Bool.and_eq_true]at k6
   exact⟨info,d,z,⟨h1,h2,k1,Ah k2,Ah k3,Ah k4,Nat.le_of_ble_eq_true k5,Nat.le_of_ble_eq_true k7,hz,k6.1.1,Ah k6.1.2,eq_of_beq k6.2⟩⟩
  ·cases k6
 ·cases h
def Auc (V:Env) (P:Program):Prop:=∀t i,V.ti t=some i->∃info d z,Cw V P t i info d z
theorem Bsv {V:Env} {P:Program} (tab:List (TypeId×TI V.E)) (hti:V.ti=λ t=>Ae t tab) (h:(tab.all λ x=>B12 V P x.1 x.2)=true):Auc V P:=by
 intro t i ht
 rw[hti]at ht
 have:=List.all_eq_true.1 h _ (Ary ht)
 exact Bz6 this
theorem B9o {T:Tab} {bx:List (Nat×Box T.E)} {β:Nat->BI} {ok:Nat->Prop} {w:World} {l:Av T.E} {v:Value} (h:zl l v=true):Ad T bx β ok w l v:=by
 unfold zl at h
 split at h
 ·simp only[Bool.and_eq_true,decide_eq_true_eq]at h;rw[h.1,h.2];simp only[Ad]
 ·simp at h;rw[h];simp only[Ad]
 ·rename_i s s'
  simp only[Bool.and_eq_true,List.isEmpty_iff,decide_eq_true_eq]at h
  obtain⟨rfl,h⟩:=h
  simp only[Ad]
  congr 1
  cases s' with
  |mk a=>simp at h;subst h;rfl
 ·rename_i t xs a l c
  simp only[Bool.and_eq_true,List.isEmpty_iff]at h
  obtain⟨⟨⟨rfl,h1⟩,h2⟩,h3⟩:=h
  have h1:=Option.isNone_iff_eq_none.1 h1
  have h2:=Ah h2
  have h3:=Ah h3
  subst h1 h2 h3
  simp only[Ad]
  exact⟨none,0,by simp,by simp,λ _=>rfl,λ _ _=>rfl,λ ad h=>by cases h⟩
 ·have:=Option.isNone_iff_eq_none.1 h;subst this;simp only[Ad]
 ·simp only[Ad]
 ·have:=Option.isNone_iff_eq_none.1 h;subst this;simp only[Ad]
 ·cases h
theorem Aie {T:Tab} {bx:List (Nat×Box T.E)} {β:Nat->BI} {ok:Nat->Prop} {w:World}:∀{ls:List (Av T.E)} {vs:List Value},zls ls vs=true->Ba (Ad T bx β ok w) ls vs
 |[],[],_=> .nil
 |[],_::_,h=>by simp[zls]at h
 |_::_,[],h=>by simp[zls]at h
 |l::ls,v::vs,h=>by
  simp only[zls,Bool.and_eq_true]at h
  exact .cons (B9o h.1) (Aie h.2)
theorem Btj {P:Program} {t:TypeId} {d:TypeDesc} {k:TK} (hu:P.underlying t=some d) (hk:Gg k d=true) (w:World):(isAgg t).run P w= .ok k.agg w:=by
 simp only[isAgg,Sem.run_bind,run_underlying hu,Result.andThen_ok]
 cases k<;>cases d<;>simp[Gg]at hk<;>rfl
section
variable {V:Env} {P:Program} {t:TypeId} {i:TI V.E} {info:TypeInfo} {d:TypeDesc} {z:Value} (I:Cw V P t i info d z) (w:World)
include I
theorem Cw.run_size:(sizeOf t).run P w= .ok i.size w:=by simp[sizeOf,typeInfo,I.inf,I.size]
theorem Cw.run_under:(underlying t).run P w= .ok d w:=run_underlying I.under w
theorem Cw.run_zero:(zeroValue t).run P w= .ok z w:=by simp[zeroValue,typeInfo,I.inf,I.zero]
theorem Cw.run_agg:(isAgg t).run P w= .ok i.kind.agg w:=Btj I.under I.kind w
end
end Go.Ab
