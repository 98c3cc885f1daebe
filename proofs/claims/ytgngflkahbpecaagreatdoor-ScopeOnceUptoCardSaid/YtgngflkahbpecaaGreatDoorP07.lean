/- A call of a function that is handed pointers. Abstract states told by a list of marks and the data that they leave open. A call of a function that is handed pointers: the whole. Conditions: none beyond those that each theorem names. -/
import Derived.Test.YtgngflkahbpecaaGreatDoorP06
import Derived.Test.YtgngflkahbpecaaGreatDoorP01
set_option linter.unusedSimpArgs false
set_option linter.unusedVariables false
namespace Go.Ab
open Go
section
variable {T:Tab} {bx tg:List (Nat×Box T.E)} {β γ:Nat->BI} {ok ok':Nat->Prop} {w:World} {src:List (Nat×Box T.E)} {m:A95}
structure A4f (T:Tab) (bx:List (Nat×Box T.E)) (β:Nat->BI) (tg:List (Nat×Box T.E)) (γ:Nat->BI) (src:List (Nat×Box T.E)) (m:A95):Prop where
 fr:∀a b,Ae a src=some b->Ae a bx=some b
 tgt:∀a i v b,Ae a m=some (i,v)->Ae a src=some b->∃b',Ada src m v b=some b'/\Ae i tg=some b'
 same:∀a i v b,Ae a m=some (i,v)->Ae a src=some b->γ i=β a
mutual
theorem Bwt (R:A4f T bx β tg γ src m) (L:Dd ok w ok' w):∀(l l':Av T.E) (v:Value),Aiy src m l=some l'->Ad T bx β ok w l v->Ad T tg γ ok' w l' v
 | .int _ _,_,_,e,h=>by simp only[Aiy,Option.some.injEq]at e;subst e;exact h
 | .bool _,_,_,e,h=>by simp only[Aiy,Option.some.injEq]at e;subst e;exact h
 | .str _,_,_,e,h=>by simp only[Aiy,Option.some.injEq]at e;subst e;exact h
 | .nptr,_,_,e,h=>by simp only[Aiy,Option.some.injEq]at e;subst e;exact h
 | .nfn,_,_,e,h=>by simp only[Aiy,Option.some.injEq]at e;subst e;exact h
 | .nmp,_,_,e,h=>by simp only[Aiy,Option.some.injEq]at e;subst e;exact h
 | .nif,_,_,e,h=>by simp only[Aiy,Option.some.injEq]at e;subst e;exact h
 | .sl t st xs,_,_,e,h=>by simp only[Aiy,Option.some.injEq]at e;subst e;exact Bl.later L _ _ h
 | .cp t x off,_,_,e,h=>by
   simp only[Aiy,Option.some.injEq]at e;subst e
   simp only[Ad]at h ⊢
   obtain⟨b,o,cs,h1,h2,h3⟩:=h
   exact⟨b,o,cs,h1,Bl.later L _ _ h2,h3.later L⟩
 | .ar id ver,l',v,e,h=>by
   simp only[Aiy]at e
   split at e
   ·rename_i e0 t xs v0 i nv hs hm
    split at e
    ·rename_i hv
     cases e
     obtain⟨b',h1,h2⟩:=R.tgt _ _ _ _ hm hs
     simp only[Ada,Option.some.injEq]at h1
     subst h1
     have:=Ah hv
     subst this
     simp only[Ad,R.fr _ _ hs]at h
     simp only[Ad,h2]
     exact⟨h.1,Nat.le_refl _,λ _=>by rw[R.same _ _ _ _ hm hs];exact h.2.2 trivial⟩
    ·cases e
   ·rename_i e0 e2 t xss v0 rv i nv hs hm
    split at e
    ·rename_i hv
     cases e
     obtain⟨b',h1,h2⟩:=R.tgt _ _ _ _ hm hs
     simp only[Ada,Option.some.injEq]at h1
     subst h1
     have:=Ah hv
     subst this
     simp only[Ad,R.fr _ _ hs]at h
     simp only[Ad,h2]
     exact⟨h.1,Nat.le_refl _,λ _=>by rw[R.same _ _ _ _ hm hs];exact h.2.2 trivial⟩
    ·cases e
   ·cases e
 | .ptr id off,l',v,e,h=>by
   simp only[Aiy]at e
   split at e
   ·rename_i ls i nv hs hm
    cases e
    obtain⟨b',h1,h2⟩:=R.tgt _ _ _ _ hm hs
    simp only[Ada]at h1
    split at h1
    ·cases h1
     simp only[Ad,R.fr _ _ hs]at h
     simp only[Ad,h2]
     exact⟨h.1,by rw[R.same _ _ _ _ hm hs];exact h.2⟩
    ·cases h1
   ·cases e
 | .mp id,l',v,e,h=>by
   simp only[Aiy]at e
   split at e
   ·rename_i k t l i nv hs hm
    cases e
    obtain⟨b',h1,h2⟩:=R.tgt _ _ _ _ hm hs
    simp only[Ada,Option.some.injEq]at h1
    subst h1
    simp only[Ad,R.fr _ _ hs]at h
    simp only[Ad,h2]
    exact⟨h.1,by rw[R.same _ _ _ _ hm hs];exact h.2⟩
   ·cases e
 | .clo f caps,l',v,e,h=>by
   simp only[Aiy]at e
   split at e
   ·rename_i cs hcs
    cases e
    simp only[Ad]at h ⊢
    obtain⟨vs,h1,h2⟩:=h
    exact⟨vs,h1,Bc4 R L caps cs _ hcs h2⟩
   ·cases e
 | .row _ _ _ _,_,_,e,_=>by simp[Aiy]at e
 | .ep _ _ _ _,_,_,e,_=>by simp[Aiy]at e
 | .rp _ _ _ _ _ _,_,_,e,_=>by simp[Aiy]at e
 | .bs _,_,_,e,_=>by simp[Aiy]at e
 | .win _ _ _ _,_,_,e,_=>by simp[Aiy]at e
theorem Bc4 (R:A4f T bx β tg γ src m) (L:Dd ok w ok' w):∀(ls ls':List (Av T.E)) (vs:List Value),A5h src m ls=some ls'->A9 T bx β ok w ls vs->A9 T tg γ ok' w ls' vs
 |[],_,_,e,h=>by simp only[A5h,Option.some.injEq]at e;subst e;exact h
 |l::ls,_,vs,e,h=>by
  simp only[A5h]at e
  split at e
  ·rename_i l' ls' h1 h2
   cases e
   simp only[A9]at h ⊢
   obtain⟨v,r,rfl,k1,k2⟩:=h
   exact⟨v,r,rfl,Bwt R L l l' v h1 k1,Bc4 R L ls ls' r h2 k2⟩
  ·cases e
end
theorem Bit (R:A4f T bx β tg γ src m) (L:Dd ok w ok' w) {ls ls':List (Av T.E)} {vs:List Value} (e:A5h src m ls=some ls') (h:Ba (Ad T bx β ok w) ls vs):Ba (Ad T tg γ ok' w) ls' vs:=
 (A9.iff T ls' vs).1 (Bc4 R L ls ls' vs e ((A9.iff T ls vs).2 h))
theorem B2g (R:A4f T bx β tg γ src m) (L:Dd ok w ok' w) {c c':CV T.E} {v:Value} (e:Bxu src m c=some c') (h:Ar T bx β ok w c v):Ar T tg γ ok' w c' v:=by
 cases c with
 |one l=>
  simp only[Bxu]at e
  split at e
  ·rename_i l' h1;cases e;exact Bwt R L l l' v h1 h
  ·cases e
 |ag ls=>
  simp only[Bxu]at e
  split at e
  ·rename_i ls' h1
   cases e
   obtain⟨cs,rfl,h⟩:=h
   exact⟨cs,rfl,Bit R L h1 h⟩
  ·cases e
theorem A04 (R:A4f T bx β tg γ src m) (L:Dd ok w ok' w):∀{cs cs':List (CV T.E)} {vs:List Value},A0u src m cs=some cs'->Ba (Ar T bx β ok w) cs vs->Ba (Ar T tg γ ok' w) cs' vs
 |_,_,_,e,.nil=>by simp only[A0u,Option.some.injEq]at e;subst e;exact .nil
 |c::cs,_,_,e,.cons h t=>by
  simp only[A0u]at e
  split at e
  ·rename_i c' cs' h1 h2
   cases e
   exact .cons (B2g R L h1 h) (A04 R L h2 t)
  ·cases e
theorem Bxe (R:A4f T bx β tg γ src m) (L:Dd ok w ok' w) {a i nv:Nat} {b b':Box T.E} (hm:Ae a m=some (i,nv)) (hs:Ae a src=some b) (e:Ada src m nv b=some b') (h:Dc T bx β ok w a b):Dc T tg γ ok' w i b':=by
 have hβ:=R.same _ _ _ _ hm hs
 cases b with
 |cells ls=>
  simp only[Ada]at e
  split at e
  ·rename_i ls' h1
   cases e
   obtain⟨c,e,k1,k2,k3⟩:=h
   exact⟨c,e,by rw[hβ];exact k1,by rw[hβ];exact k2,Bit R L h1 k3⟩
  ·cases e
 |arr e0 t xs v fz=>
  cases fz with
  |false=>
   simp only[Ada,Option.some.injEq]at e
   subst e
   obtain⟨h1,h2⟩:=h
   refine⟨by rw[hβ];exact h1, ?_⟩
   rw[hβ];exact h2.later L λ _ _=>rfl
  |true=>simp[Ada]at e
 |rows e0 e2 t xss v rv fz=>
  cases fz with
  |opn=>
   simp only[Ada,Option.some.injEq]at e
   subst e
   obtain⟨h1,h2,h3⟩:=h
   simp only[Dc,Zd]
   rw[hβ]
   exact⟨h1,h2,h3.imp λ _ _ k=>k.later L λ _ _=>rfl⟩
  |shut=>simp[Ada]at e
  |mix p q=>simp[Ada]at e
 |map k t l=>
  simp only[Ada,Option.some.injEq]at e
  subst e
  obtain⟨h1,h2⟩:=h
  exact⟨by rw[hβ];exact h1,by rw[hβ];exact h2.later L rfl⟩
 |gone=>simp[Ada]at e
theorem Bxc:∀{i:Nat} {l:List Nat},B2l i l=true↔i∈l
 |i,[]=>by simp[B2l]
 |i,j::r=>by
  simp only[B2l,Bool.or_eq_true,List.mem_cons,Bxc (l:=r)]
  constructor
  ·rintro(h|h)
   ·exact .inl (Ah h).symm
   ·exact .inr h
  ·rintro(h|h)
   ·subst h;exact .inl (Nat.beq_refl _)
   ·exact .inr h
theorem Aj0:∀{l:List Nat},A4x l=true->l.Nodup
 |[],_=>List.nodup_nil
 |i::r,h=>by
  simp only[A4x,Bool.and_eq_true,Bool.not_eq_true']at h
  refine List.nodup_cons.2 ⟨λ hm=> ?_,Aj0 h.2⟩
  rw[Bxc.2 hm]at h
  exact Bool.noConfusion h.1
theorem K5 {α:Type}:∀(l:List (Nat×α)),C9 l=l.map (·.1)
 |[]=>rfl
 |(k,x)::r=>by show k::C9 r=_;rw[K5 r];rfl
theorem Cx {α:Type}:∀{l:List (Nat×α)} {k:Nat} {x:α},Ae k l=some x->(k,x)∈l
 |[],_,_,h=>by simp[Ae]at h
 |(j,y)::r,k,x,h=>by
  unfold Ae at h
  split at h
  ·rename_i e;have:=Ah e;subst this;cases h;simp
  ·exact List.mem_cons_of_mem _ (Cx h)
theorem Jh {α:Type}:∀{l:List (Nat×α)} {k:Nat} {x:α},(C9 l).Nodup->(k,x)∈l->Ae k l=some x
 |[],_,_,_,h=>by simp at h
 |(j,y)::r,k,x,hd,h=>by
  have hd:(j::C9 r).Nodup:=hd
  rw[List.nodup_cons]at hd
  unfold Ae
  rcases List.mem_cons.1 h with h|h
  ·cases h;rw[if_pos (Nat.beq_refl _)]
  ·have:j≠k:=by
    rintro rfl
    exact hd.1 (by rw[K5];exact List.mem_map.2 ⟨_,h,rfl⟩)
   rw[if_neg (by rw[Fi this];simp)]
   exact Jh hd.2 h
theorem Asv:∀{l out:List (Nat×Box T.E)},Aj7 src m l=some out->∀{i:Nat} {b':Box T.E},(i,b')∈out->∃a nv b,(a,b)∈l/\Ae a m=some (i,nv)/\Ada src m nv b=some b'
 |[],out,e,i,b',h=>by simp only[Aj7,Option.some.injEq]at e;subst e;simp at h
 |(a,b)::l,out,e,i,b',h=>by
  simp only[Aj7]at e
  split at e
  ·rename_i j nv hm
   split at e
   ·rename_i b1 r h1 h2
    cases e
    rcases List.mem_cons.1 h with h|h
    ·cases h;exact⟨a,nv,b,by simp,hm,h1⟩
    ·obtain⟨a',nv',b2,k1,k2,k3⟩:=Asv h2 h
     exact⟨a',nv',b2,List.mem_cons_of_mem _ k1,k2,k3⟩
   ·cases e
  ·cases e
theorem Aqp:∀{l out:List (Nat×Box T.E)},Aj7 src m l=some out->∀{a:Nat} {b:Box T.E},(a,b)∈l->∃i nv b',Ae a m=some (i,nv)/\Ada src m nv b=some b'/\(i,b')∈out
 |[],out,e,a,b,h=>by simp at h
 |(a0,b0)::l,out,e,a,b,h=>by
  simp only[Aj7]at e
  split at e
  ·rename_i j nv hm
   split at e
   ·rename_i b1 r h1 h2
    cases e
    rcases List.mem_cons.1 h with h|h
    ·cases h;exact⟨j,nv,b1,hm,h1,by simp⟩
    ·obtain⟨i,nv',b',k1,k2,k3⟩:=Aqp h2 h
     exact⟨i,nv',b',k1,k2,List.mem_cons_of_mem _ k3⟩
   ·cases e
  ·cases e
theorem Bbt (hinj:∀a a' i v v',Ae a m=some (i,v)->Ae a' m=some (i,v')->a=a'):∀{l out:List (Nat×Box T.E)},Aj7 src m l=some out->(C9 l).Nodup->(C9 out).Nodup
 |[],out,e,_=>by simp only[Aj7,Option.some.injEq]at e;subst e;exact List.nodup_nil
 |(a,b)::l,out,e,hd=>by
  simp only[Aj7]at e
  split at e
  ·rename_i j nv hm
   split at e
   ·rename_i b1 r h1 h2
    cases e
    have hd:(a::C9 l).Nodup:=hd
    rw[List.nodup_cons]at hd
    show(j::C9 r).Nodup
    rw[List.nodup_cons]
    refine⟨λ hj=> ?_,Bbt hinj h2 hd.2⟩
    rw[K5]at hj
    obtain⟨⟨i,b'⟩,hmem,rfl⟩:=List.mem_map.1 hj
    obtain⟨a',nv',b2,k1,k2,_⟩:=Asv h2 hmem
    have:=hinj _ _ _ _ _ hm k2
    subst this
    exact hd.1 (by rw[K5];exact List.mem_map.2 ⟨_,k1,rfl⟩)
   ·cases e
  ·cases e
theorem Auv:∀{m:List (Nat×Nat)} {a i v:Nat},(a,i,v)∈K4 m↔(a,i)∈m/\v=0
 |[],a,i,v=>by simp[K4]
 |(x,y)::r,a,i,v=>by
  simp only[K4,List.mem_cons,Prod.mk.injEq,Auv (m:=r)]
  constructor
  ·rintro(⟨h1,h2,h3⟩|⟨h1,h2⟩)
   ·exact⟨.inl ⟨h1,h2⟩,h3⟩
   ·exact⟨.inr h1,h2⟩
  ·rintro⟨h1|h1,h2⟩
   ·exact .inl ⟨h1.1,h1.2,h2⟩
   ·exact .inr ⟨h1,h2⟩
theorem A4z:∀(m:List (Nat×Nat)),C9 (K4 m)=C9 m
 |[]=>rfl
 |(x,y)::r=>by show x::C9 (K4 r)=x::C9 r;rw[A4z r]
theorem Bwd:∀{m:List (Nat×Nat)} {j i:Nat},inv j m=some i->(i,j)∈m
 |[],_,_,h=>by simp[inv]at h
 |(a,b)::r,j,i,h=>by
  unfold inv at h
  split at h
  ·rename_i e;have:=Ah e;subst this;cases h;simp
  ·exact List.mem_cons_of_mem _ (Bwd h)
theorem Bme:∀{m:List (Nat×Nat)} {j i:Nat},(A1o m).Nodup->(i,j)∈m->inv j m=some i
 |[],_,_,_,h=>by simp at h
 |(a,b)::r,j,i,hd,h=>by
  have hd:(b::A1o r).Nodup:=hd
  rw[List.nodup_cons]at hd
  unfold inv
  rcases List.mem_cons.1 h with h|h
  ·cases h;rw[if_pos (Nat.beq_refl _)]
  ·have key:∀(r:List (Nat×Nat)),(i,j)∈r->j∈A1o r:=by
    intro r
    induction r with
    |nil=>intro h;simp at h
    |cons p r ih=>
     obtain⟨x,y⟩:=p
     intro h
     show j∈y::A1o r
     rcases List.mem_cons.1 h with h|h
     ·cases h;simp
     ·exact List.mem_cons_of_mem _ (ih h)
   have:b≠j:=by rintro rfl;exact hd.1 (key r h)
   rw[if_neg (by rw[Fi this];simp)]
   exact Bme hd.2 h
theorem A3h {E:Nat->Type}:∀(cs:List (CV E)) (i:Nat),Blt (B2a i cs)=some cs
 |[],_=>rfl
 |c::cs,i=>by show(match Blt (B2a (i+1) cs)with|some q=>some (c::q)|none=>none)=_;rw[A3h cs (i+1)]
theorem A9s (out:List (Nat×Box T.E)):∀(l:List (Nat×Box T.E)) (i:Nat),Ae i (Axk out l)=(Ae i l).map λ _=>(Ae i out).getD .gone
 |[],i=>rfl
 |(j,b)::r,i=>by
  show(if Nat.beq j i=true then some ((Ae j out).getD .gone)else Ae i (Axk out r))=(if Nat.beq j i=true then some b else Ae i r).map _
  by_cases h:Nat.beq j i=true
  ·have:=Ah h;subst this;rw[if_pos h,if_pos h];rfl
  ·rw[if_neg h,if_neg h];exact A9s out r i
theorem Bb1 (out:List (Nat×Box T.E)):∀(l:List (Nat×Box T.E)),C9 (Axk out l)=C9 l
 |[]=>rfl
 |(j,b)::r=>by show j::C9 (Axk out r)=j::C9 r;rw[Bb1 out r]
def B4e {E:Nat->Type}:List (Nat×Box E)->List (Nat×Box E)->List (Nat×Box E)
 |[],bx=>bx
 |(i,b)::r,bx=>B4e r (put i b bx)
theorem Bjf {E:Nat->Type}:∀(l bx:List (Nat×Box E)) (i:Nat),(C9 l).Nodup->Ae i (B4e l bx)=match Ae i l with|some b=>some b|none=>Ae i bx
 |[],bx,i,_=>rfl
 |(j,b)::r,bx,i,hd=>by
  have hd:(j::C9 r).Nodup:=hd
  rw[List.nodup_cons]at hd
  show Ae i (B4e r (put j b bx))=match(if Nat.beq j i=true then some b else Ae i r)with|some b=>some b|none=>Ae i bx
  rw[Bjf r _ i hd.2]
  by_cases h:Nat.beq j i=true
  ·have:=Ah h;subst this
   rw[if_pos h]
   have:Ae j r=none:=by
    cases hl:Ae j r with
    |none=>rfl
    |some c=>exact(hd.1 (by rw[K5];exact List.mem_map.2 ⟨_,Cx hl,rfl⟩)).elim
   rw[this,Aw]
  ·rw[if_neg h,Ay (by rintro rfl;exact h (Nat.beq_refl _))]
theorem Bqk {m:List (Nat×Nat)} {src:List (Nat×Box T.E)}:∀{n:Nat} {l:List (Nat×Box T.E)} {mb:A95},Bdz m src n l=some mb->(C9 l).Nodup->C9 mb=C9 l/\∀{j b},(j,b)∈l->∃i nv,Ae j mb=some (i,nv)/\((inv j m=some i/\Qa (Ae i src) b=some nv)\/(inv j m=none/\Ae i src=none))
 |_,[],mb,e,_=>by simp only[Bdz,Option.some.injEq]at e;subst e;exact⟨rfl,λ h=>by simp at h⟩
 |n,(j0,b0)::r,mb,e,hd=>by
  have hd:(j0::C9 r).Nodup:=hd
  rw[List.nodup_cons]at hd
  have go:∀{i nv n' q},Bdz m src n' r=some q->((inv j0 m=some i/\Qa (Ae i src) b0=some nv)\/(inv j0 m=none/\Ae i src=none))->C9 ((j0,i,nv)::q)=C9 ((j0,b0)::r)/\∀{j b},(j,b)∈(j0,b0)::r->∃i' nv',Ae j ((j0,i,nv)::q)=some (i',nv')/\((inv j m=some i'/\Qa (Ae i' src) b=some nv')\/(inv j m=none/\Ae i' src=none)):=by
   intro i nv n' q h2 h1
   obtain⟨k1,k2⟩:=Bqk h2 hd.2
   refine⟨by show j0::C9 q=j0::C9 r;rw[k1],λ {j b} h=> ?_⟩
   rcases List.mem_cons.1 h with h|h
   ·cases h
    exact⟨i,nv,by unfold Ae;rw[if_pos (Nat.beq_refl _)],h1⟩
   ·obtain⟨i',nv',p1,p2⟩:=k2 h
    have:j0≠j:=by rintro rfl;exact hd.1 (by rw[K5];exact List.mem_map.2 ⟨_,h,rfl⟩)
    refine⟨i',nv', ?_,p2⟩
    unfold Ae
    rw[if_neg (by rw[Fi this];simp)]
    exact p1
  simp only[Bdz]at e
  split at e
  ·rename_i i hi
   split at e
   ·rename_i nv q h1 h2
    cases e
    exact go h2 (.inl ⟨hi,h1⟩)
   ·cases e
  ·rename_i hi
   split at e
   ·rename_i q h1 h2
    cases e
    exact go h2 (.inr ⟨hi,h1⟩)
   ·cases e
theorem Bki:∀{l out:List (Nat×Box T.E)},Aj7 src m l=some out->(C9 out).Nodup->(C9 l).Nodup->∀{a a':Nat} {b b':Box T.E} {i v v'},(a,b)∈l->(a',b')∈l->Ae a m=some (i,v)->Ae a' m=some (i,v')->a=a'
 |[],_,_,_,_,_,_,_,_,_,_,_,h,_,_,_=>by simp at h
 |(a0,b0)::l,out,e,hd,hl,a,a',b,b',i,v,v',h,h',k,k'=>by
  have hl:(a0::C9 l).Nodup:=hl
  rw[List.nodup_cons]at hl
  simp only[Aj7]at e
  split at e
  ·rename_i j nv hm
   split at e
   ·rename_i b1 r h1 h2
    cases e
    have hd:(j::C9 r).Nodup:=hd
    rw[List.nodup_cons]at hd
    have away:∀{a' b' i v'},(a',b')∈l->Ae a' m=some (i,v')->i≠j:=by
     intro a' b' i v' h' k'
     obtain⟨i',nv',c,p1,_,p3⟩:=Aqp h2 h'
     rw[k']at p1
     cases p1
     rintro rfl
     exact hd.1 (by rw[K5];exact List.mem_map.2 ⟨_,p3,rfl⟩)
    rcases List.mem_cons.1 h with h|h
    ·cases h
     rw[hm]at k
     cases k
     rcases List.mem_cons.1 h' with h'|h'
     ·cases h';rfl
     ·exact(away h' k' rfl).elim
    ·rcases List.mem_cons.1 h' with h'|h'
     ·cases h'
      rw[hm]at k'
      cases k'
      exact(away h k rfl).elim
     ·exact Bki h2 hd.2 hl.2 h h' k k'
   ·cases e
  ·cases e
theorem Awe {src:List (Nat×Box T.E)}:∀(l:List (Nat×Box T.E)) (i:Nat),Ae i (Bfd src l)=match Ae i src with|some _=>none|none=>Ae i l
 |[],i=>by cases h:Ae i src<;>simp[Bfd,Ae]
 |(j,b)::r,i=>by
  have ih:=Awe (src:=src) r i
  unfold Bfd
  by_cases h:Nat.beq j i=true
  ·have:=Ah h;subst this
   cases hs:Ae j src with
   |some c=>
    rw[hs]at ih
    simp only
    exact ih
   |none=>simp[Ae]
  ·have hn:Ae i ((j,b)::r)=Ae i r:=by show(if Nat.beq j i=true then some b else Ae i r)=_;rw[if_neg h]
   rw[hn,<-ih]
   cases hs:Ae j src with
   |some c=>rfl
   |none=>
    show(if Nat.beq j i=true then some b else Ae i (Bfd src r))=_
    rw[if_neg h]
end
section
variable {V:Env}
def H1:List (Tk V.E)->List (Av V.E)->List (CV V.E)->List (Nat×Nat)->List (Nat×Box V.E)->List (Nat×Box V.E)->List Nat->Option (List (Nat×Nat)×List (Nat×Box V.E)×List Nat)
 |[],_,_,m,src,_,rs=>some (m,src,rs)
 | .S _ _::r,_,c::cs,m,src,bx,rs=>H1 r c.leaves cs m src bx rs
 | .C j::r,_,cs,m,src,bx,rs=>match inv j m with
   |some i=>match Ae i bx with
    |some (.cells ls)=>H1 r ls cs m ((i,.cells ls)::src) bx (i::rs)
    |_=>none
   |none=>none
 | .A j _ _ _ _::r,_,cs,m,src,bx,rs=>match inv j m with
   |some i=>match Ae i bx with
    |some b=>H1 r [] cs m ((i,b)::src) bx (i::rs)
    |none=>none
   |none=>none
 | .R j _ _ _ _ _::r,_,cs,m,src,bx,rs=>match inv j m with
   |some i=>match Ae i bx with
    |some b=>H1 r [] cs m ((i,b)::src) bx (i::rs)
    |none=>none
   |none=>none
 | .M j _ _::r,_,cs,m,src,bx,rs=>match inv j m with
   |some i=>match Ae i bx with
    |some b=>H1 r [] cs m ((i,b)::src) bx (i::rs)
    |none=>none
   |none=>none
 | .k l::r,l'::ls,cs,m,src,bx,rs=>H1 r ls cs (B5r (prs l l') m) src bx rs
 | .s n::r,ls,cs,m,src,bx,rs=>H1 r (ls.drop (V.T.sz n)) cs m src bx rs
 | .v _::r,_::ls,cs,m,src,bx,rs=>H1 r ls cs m src bx rs
 | .n _::r,_::ls,cs,m,src,bx,rs=>H1 r ls cs m src bx rs
 | .r _ _ _::r,_::ls,cs,m,src,bx,rs=>H1 r ls cs m src bx rs
 | .p _ _::r,_::ls,cs,m,src,bx,rs=>H1 r ls cs m src bx rs
 | .e _ _ _::r,_::ls,cs,m,src,bx,rs=>H1 r ls cs m src bx rs
 |_,_,_,_,_,_,_=>none
theorem A48:∀(l:List (Tk V.E)) (ls:List (Av V.E)) (cs:List (CV V.E)) (m:List (Nat×Nat)) (src:List (Nat×Box V.E)) (k:List (Nat×Nat)->List (Nat×Box V.E)->B0 V.E) (bx:List (Nat×Box V.E)) (rs ws:List Nat),
 Ac V bx (Aox V l ls cs m src k) rs ws=match H1 l ls cs m src bx rs with|some (m,src,rs)=>Ac V bx (k m src) rs ws|none=>none:=by
 intro l
 induction l with
 |nil=>intro ls cs m src k bx rs ws;rfl
 |cons t r ih=>
  intro ls cs m src k bx rs ws
  cases t with
  |S a b=>
   cases cs with
   |nil=>rfl
   |cons c cs=>exact ih _ _ _ _ _ _ _ _
  |C j=>
   simp only[Aox,H1]
   cases inv j m with
   |none=>rfl
   |some i=>
    simp only[Ac]
    cases Ae i bx with
    |none=>rfl
    |some b=>cases b<;>first|rfl|exact ih _ _ _ _ _ _ _ _
  |A j a b c d=>
   simp only[Aox,H1]
   cases inv j m with
   |none=>rfl
   |some i=>
    simp only[Ac]
    cases Ae i bx with
    |none=>rfl
    |some b=>exact ih _ _ _ _ _ _ _ _
  |R j a b c d e=>
   simp only[Aox,H1]
   cases inv j m with
   |none=>rfl
   |some i=>
    simp only[Ac]
    cases Ae i bx with
    |none=>rfl
    |some b=>exact ih _ _ _ _ _ _ _ _
  |M j a b=>
   simp only[Aox,H1]
   cases inv j m with
   |none=>rfl
   |some i=>
    simp only[Ac]
    cases Ae i bx with
    |none=>rfl
    |some b=>exact ih _ _ _ _ _ _ _ _
  |s n=>exact ih _ _ _ _ _ _ _ _
  |q t x=>rfl
  |k a=>cases ls with
   |nil=>rfl
   |cons b ls=>exact ih _ _ _ _ _ _ _ _
  |v a=>cases ls with
   |nil=>rfl
   |cons b ls=>exact ih _ _ _ _ _ _ _ _
  |n a=>cases ls with
   |nil=>rfl
   |cons b ls=>exact ih _ _ _ _ _ _ _ _
  |r a b c=>cases ls with
   |nil=>rfl
   |cons b ls=>exact ih _ _ _ _ _ _ _ _
  |p a b=>cases ls with
   |nil=>rfl
   |cons b ls=>exact ih _ _ _ _ _ _ _ _
  |e a b c=>cases ls with
   |nil=>rfl
   |cons b ls=>exact ih _ _ _ _ _ _ _ _
theorem Bx6:∀(l:List (Tk V.E)) {ls:List (Av V.E)} {cs:List (CV V.E)} {m:List (Nat×Nat)} {src:List (Nat×Box V.E)} {bx:List (Nat×Box V.E)} {rs:List Nat} {m':List (Nat×Nat)} {src':List (Nat×Box V.E)} {rs':List Nat},
 H1 l ls cs m src bx rs=some (m',src',rs')->(∀i b,(i,b)∈src->Ae i bx=some b)->∀i b,(i,b)∈src'->Ae i bx=some b:=by
 intro l
 induction l with
 |nil=>intro ls cs m src bx rs m' src' rs' h hs;simp only[H1,Option.some.injEq,Prod.mk.injEq]at h;obtain⟨_,rfl,_⟩:=h;exact hs
 |cons t r ih=>
  intro ls cs m src bx rs m' src' rs' h hs
  have add:∀{i:Nat} {b:Box V.E},Ae i bx=some b->∀i' b',(i',b')∈(i,b)::src->Ae i' bx=some b':=by
   intro i b hb i' b' hm
   rcases List.mem_cons.1 hm with hm|hm
   ·cases hm;exact hb
   ·exact hs _ _ hm
  cases t with
  |S a b=>cases cs with
   |nil=>simp[H1]at h
   |cons c cs=>exact ih h hs
  |C j=>
   simp only[H1]at h
   split at h
   ·split at h
    ·rename_i hb;exact ih h (add hb)
    ·cases h
   ·cases h
  |A j a b c d=>
   simp only[H1]at h
   split at h
   ·split at h
    ·rename_i hb;exact ih h (add hb)
    ·cases h
   ·cases h
  |R j a b c d e=>
   simp only[H1]at h
   split at h
   ·split at h
    ·rename_i hb;exact ih h (add hb)
    ·cases h
   ·cases h
  |M j a b=>
   simp only[H1]at h
   split at h
   ·split at h
    ·rename_i hb;exact ih h (add hb)
    ·cases h
   ·cases h
  |s n=>exact ih h hs
  |q t x=>simp[H1]at h
  |k a=>cases ls with
   |nil=>simp[H1]at h
   |cons b ls=>exact ih h hs
  |v a=>cases ls with
   |nil=>simp[H1]at h
   |cons b ls=>exact ih h hs
  |n a=>cases ls with
   |nil=>simp[H1]at h
   |cons b ls=>exact ih h hs
  |r a b c=>cases ls with
   |nil=>simp[H1]at h
   |cons b ls=>exact ih h hs
  |p a b=>cases ls with
   |nil=>simp[H1]at h
   |cons b ls=>exact ih h hs
  |e a b c=>cases ls with
   |nil=>simp[H1]at h
   |cons b ls=>exact ih h hs
theorem Auk:∀(l:List (Nat×Box V.E)) (k:B0 V.E) (bx:List (Nat×Box V.E)) (rs ws:List Nat),∃ws',Ac V bx (Bmt V l k) rs ws=Ac V (B4e l bx) k rs ws'
 |[],k,bx,rs,ws=>⟨ws,rfl⟩
 |(i,b)::r,k,bx,rs,ws=>Auk r k (put i b bx) rs (i::ws)
end
section
variable (T:Tab)
theorem Cco {E:Nat->Type}:∀(t:Ty) (l:Av E) (x:t.den E),lv t l=some x->vl t x=l:=by
 intro t l x h
 cases t<;>cases l<;>simp only[lv]at h<;>try cases h
 ·split at h
  ·rename_i e;subst e;cases h;rfl
  ·cases h
 ·rfl
 ·rfl
 ·rename_i st xs
  cases st
  ·simp only at h
   split at h
   ·rename_i e;subst e;cases h;rfl
   ·cases h
  ·cases h
theorem Bow {E:Nat->Type}:∀(l m:List (Av E)),Bj5 l m=true->l=m
 |[],[],_=>rfl
 |[],_::_,h=>by simp[Bj5]at h
 |a::ls,m,h=>by
  cases a<;>cases m<;>first|(simp[Bj5]at h;done)|skip
  rename_i b ms
  cases b<;>simp[Bj5]at h
  rw[h.1,h.2.1,Bow _ _ h.2.2]
theorem Brw {E:Nat->Type} (l m:Av E) (h:Bo6 l m=true):l=m:=by
 cases l<;>cases m<;>simp[Bo6]at h<;>first|rfl|(rw[h];done)|(rw[h.1,h.2];done)|skip
 ·rename_i xs _ _ ys
  cases xs<;>cases ys<;>simp[Bo6]at h
  obtain⟨rfl,rfl⟩:=h;rfl
 ·rw[h.1,Bow _ _ h.2]
theorem Ar5 {E:Nat->Type}:∀{l m:List (Av E)},Coe l m->A0s l m=true->l=m
 |_,_,.nil,_=>rfl
 |_,_,.cons (a:=a) (b:=b) h t,hf=>by
  rcases h with rfl|⟨u,st,st',xs,rfl,rfl,_⟩
  ·cases a<;>simp only[A0s,Bool.and_eq_true]at hf<;>first|(rw[Ar5 t hf])|(rw[Ar5 t hf.2])
  ·simp only[A0s,Bool.and_eq_true,beq_iff_eq]at hf
   rw[hf.1,Ar5 t hf.2]
theorem Aou {a b:Nat} (h:Nat.beq a b=true):a=b:=Nat.eq_of_beq_eq_true h
theorem B58 {E:Nat->Type} (c:CV E):Cbw c.isAg c.leaves=c:=by cases c<;>rfl
theorem B3s (HT:T.Ok):∀(l:List (Tk T.E)) (ls:List (Av T.E)) (sl:List (Nat×Option (SV T.E))) (bx:List (Nat×Box T.E)) (h:HV T.E l),ofS T l ls sl bx=some h->mkS T l h=(ls,sl,bx):=by
 intro l
 induction l with
 |nil=>
  intro ls sl bx h e
  cases ls<;>cases sl<;>cases bx<;>simp[ofS]at e
  rfl
 |cons t r ih=>
  intro ls sl bx h e
  cases t with
  |v t=>
   cases ls with
   |nil=>simp[ofS]at e
   |cons a ls=>
   simp only[ofS]at e
   split at e
   ·rename_i x hx
    split at e
    ·rename_i h' hr
     cases e
     simp only[mkS,ih _ _ _ _ hr,Cco _ _ _ hx]
    ·cases e
   ·cases e
  |n u=>
   cases ls with
   |nil=>simp[ofS]at e
   |cons a ls=>
    cases a<;>first|(simp[ofS]at e;done)|skip
    rename_i u' st xs
    cases st
    ·simp[ofS]at e
    simp only[ofS]at e
    split at e
    ·rename_i q
     subst q
     split at e
     ·rename_i h' hr
      cases e
      simp only[mkS,ih _ _ _ _ hr];rfl
     ·cases e
    ·cases e
  |s m=>
   simp only[ofS]at e
   split at e
   ·rename_i x hx
    split at e
    ·rename_i hf
     split at e
     ·rename_i h' hr
      cases e
      have:=Ar5 (HT.ofL m _ _ hx) hf
      simp only[mkS,ih _ _ _ _ hr,<-this,List.take_append_drop]
     ·cases e
    ·cases e
   ·cases e
  |r id ver rv=>
   cases ls with
   |nil=>simp[ofS]at e
   |cons a ls=>
    cases a<;>simp only[ofS]at e<;>try cases e
    split at e
    ·rename_i hb
     simp only[Bool.and_eq_true]at hb
     split at e
     ·rename_i h' hr
      cases e
      simp only[mkS,ih _ _ _ _ hr,Aou hb.1,Aou hb.2.1,Aou hb.2.2]
     ·cases e
    ·cases e
  |p t off=>
   cases ls with
   |nil=>simp[ofS]at e
   |cons a ls=>
    cases a<;>simp only[ofS]at e<;>try cases e
    split at e
    ·rename_i q
     subst q
     split at e
     ·rename_i hb
      split at e
      ·rename_i h' hr
       cases e
       simp only[mkS,ih _ _ _ _ hr,Aou hb];rfl
      ·cases e
     ·cases e
    ·cases e
  |e id ver off=>
   cases ls with
   |nil=>simp[ofS]at e
   |cons a ls=>
    cases a<;>simp only[ofS]at e<;>try cases e
    split at e
    ·rename_i hb
     simp only[Bool.and_eq_true]at hb
     split at e
     ·rename_i h' hr
      cases e
      simp only[mkS,ih _ _ _ _ hr,Aou hb.1,Aou hb.2.1,Aou hb.2.2]
     ·cases e
    ·cases e
  |k l=>
   cases ls with
   |nil=>simp[ofS]at e
   |cons a ls=>
   simp only[ofS]at e
   split at e
   ·rename_i hb
    simp only[mkS,ih _ _ _ _ e,Brw _ _ hb]
   ·cases e
  |q t x=>simp[ofS]at e
  |S k ag=>
   cases ls with
   |cons a ls=>simp[ofS]at e
   |nil=>
    cases sl with
    |nil=>simp[ofS]at e
    |cons a sl=>
     obtain⟨k',c⟩:=a
     cases c with
     |none=>simp[ofS]at e
     |some c=>
      cases c with
      |tup _=>simp[ofS]at e
      |cv c=>
       simp only[ofS]at e
       split at e
       ·rename_i hb
        simp only[Bool.and_eq_true,beq_iff_eq]at hb
        simp only[mkS,ih _ _ _ _ e,Aou hb.1,hb.2,B58]
       ·cases e
  |C id=>
   cases ls with
   |cons a ls=>simp[ofS]at e
   |nil=>
    cases bx with
    |nil=>simp[ofS]at e
    |cons a bx=>
     obtain⟨k',c⟩:=a
     cases c<;>simp only[ofS]at e<;>try cases e
     split at e
     ·rename_i hb
      simp only[mkS,ih _ _ _ _ e,Aou hb]
     ·cases e
  |A id e2 t ver fz=>
   cases ls with
   |cons a ls=>simp[ofS]at e
   |nil=>
    cases bx with
    |nil=>simp[ofS]at e
    |cons a bx=>
     obtain⟨k',c⟩:=a
     cases c<;>simp only[ofS]at e<;>try cases e
     split at e
     ·rename_i q
      subst q
      split at e
      ·rename_i hb
       simp only[Bool.and_eq_true,beq_iff_eq]at hb
       split at e
       ·rename_i h' hr
        cases e
        simp only[mkS,ih _ _ _ _ hr,Aou hb.1,Aou hb.2.1,Aou hb.2.2.1,hb.2.2.2];rfl
       ·cases e
      ·cases e
     ·cases e
  |R id e1 e2 t ver rv=>
   cases ls with
   |cons a ls=>simp[ofS]at e
   |nil=>
    cases bx with
    |nil=>simp[ofS]at e
    |cons a bx=>
     obtain⟨k',c⟩:=a
     cases c<;>first|(simp[ofS]at e;done)|skip
     rename_i fz
     cases fz<;>first|(simp[ofS]at e;done)|skip
     simp only[ofS]at e
     split at e
     ·rename_i q
      subst q
      split at e
      ·rename_i hb
       simp only[Bool.and_eq_true]at hb
       split at e
       ·rename_i h' hr
        cases e
        simp only[mkS,ih _ _ _ _ hr,Aou hb.1,Aou hb.2.1,Aou hb.2.2.1,Aou hb.2.2.2.1,Aou hb.2.2.2.2];rfl
       ·cases e
      ·cases e
     ·cases e
  |M id k t=>
   cases ls with
   |cons a ls=>simp[ofS]at e
   |nil=>
    cases bx with
    |nil=>simp[ofS]at e
    |cons a bx=>
     obtain⟨k',c⟩:=a
     cases c<;>simp only[ofS]at e<;>try cases e
     split at e
     ·rename_i q
      subst q
      split at e
      ·rename_i q
       subst q
       split at e
       ·rename_i hb
        split at e
        ·rename_i h' hr
         cases e
         simp only[mkS,ih _ _ _ _ hr,Aou hb];rfl
        ·cases e
       ·cases e
      ·cases e
     ·cases e
abbrev QD (E:Nat->Type):=(t:Ty)×t.den E
@[reducible] def Ajv {E:Nat->Type}:List (Tk E)->List (Tk E)
 |[]=>[]
 | .q (.nm m) _::r=> .s m::Ajv r
 | .q t _::r=> .v t::Ajv r
 |a::r=>a::Ajv r
def tl {E:Nat->Type}:List (Tk E)->List (QD E)
 |[]=>[]
 | .q t x::r=>⟨t,x⟩::tl r
 |_::r=>tl r
def Cq {E:Nat->Type}:(l:List (Tk E))->HV E (Ajv l)->HV E l×List (QD E)
 |[],_=>((),[])
 | .q (.int k) _::r,(y,h)=>((Cq r h).1,⟨.int k,y⟩::(Cq r h).2)
 | .q .bool _::r,(y,h)=>((Cq r h).1,⟨.bool,y⟩::(Cq r h).2)
 | .q .str _::r,(y,h)=>((Cq r h).1,⟨.str,y⟩::(Cq r h).2)
 | .q (.sl t) _::r,(y,h)=>((Cq r h).1,⟨.sl t,y⟩::(Cq r h).2)
 | .q (.nm m) _::r,(y,h)=>((Cq r h).1,⟨.nm m,y⟩::(Cq r h).2)
 | .v _::r,(y,h)=>((y,(Cq r h).1),(Cq r h).2)
 | .n _::r,(y,h)=>((y,(Cq r h).1),(Cq r h).2)
 | .s _::r,(y,h)=>((y,(Cq r h).1),(Cq r h).2)
 | .r _ _ _::r,(y,h)=>((y,(Cq r h).1),(Cq r h).2)
 | .p _ _::r,(y,h)=>((y,(Cq r h).1),(Cq r h).2)
 | .e _ _ _::r,(y,h)=>((y,(Cq r h).1),(Cq r h).2)
 | .A _ _ _ _ _::r,(y,h)=>((y,(Cq r h).1),(Cq r h).2)
 | .R _ _ _ _ _ _::r,(y,h)=>((y,(Cq r h).1),(Cq r h).2)
 | .M _ _ _::r,(y,h)=>((y,(Cq r h).1),(Cq r h).2)
 | .S _ _::r,h=>Cq r h
 | .k _::r,h=>Cq r h
 | .C _::r,h=>Cq r h
theorem B07:∀(l:List (Tk T.E)) (h:HV T.E (Ajv l)),(Cq l h).2=tl l->mkS T (Ajv l) h=mkS T l (Cq l h).1:=by
 intro l
 induction l with
 |nil=>intro h _;rfl
 |cons t r ih=>
  intro h e
  cases t with
  |q t x=>
   cases t<;>(obtain⟨y,h⟩:=h;simp only[Cq,tl,List.cons.injEq]at e;obtain⟨e1,e2⟩:=e;cases e1;simp only[Ajv,mkS,Cq,ih h e2];rfl)
  |S k ag=>simp only[Ajv,mkS,Cq,ih h e]
  |k l=>simp only[Ajv,mkS,Cq,ih h e]
  |C id=>simp only[Ajv,mkS,Cq,ih h e]
  |_=>obtain⟨y,h⟩:=h;simp only[Ajv,mkS,Cq,ih h e]
end
section
variable {V:Env} {P:Program} {C:Ctx} {w:World}
variable {res:Option (SV V.E)} {cs:List Cd} {bx':List (Nat×Box V.E)} {ac:Acc}
theorem Bzn {α:Type} {l:List (Nat×α)} {k:Nat} {x:α} (h:Ae k l=some x):k∈C9 l:=by
 rw[K5];exact List.mem_map.2 ⟨_,Cx h,rfl⟩
theorem B9w {T:Tab} {bx:List (Nat×Box T.E)} {β:Nat->BI} {ok:Nat->Prop} {w:World}:∀(l:List (Tk T.E)) (cs:List (CV T.E)) (vs:List Value),Ba (Ar T bx β ok w) cs vs->Ba (Ar T bx β ok w) (Bo9 l cs) vs:=by
 intro l cs
 fun_induction Bo9 l cs with
 |case1 k ag u r t st xs cs ih=>
  intro vs h
  cases h with
  |cons h1 h2=>
   refine .cons ?_ (ih _ h2)
   have h1:Bl ok w (.sl (t.sz T) st (xs.map (t.av T))) [_]:=h1
   obtain⟨a,cap,q1,q2,q3,_,q5⟩:=h1
   exact⟨a,cap,q1,q2,q3,(by intro e;cases e),q5⟩
 |case2 k ag r c cs hn ih=>
  intro vs h
  cases h with
  |cons h1 h2=>exact .cons h1 (ih _ h2)
 |case3 t r cs _ _ ih=>exact ih
 |case4 cs=>exact λ vs h=>h
def βNil:BI:=⟨0,undef,[],[]⟩
theorem B2b (HT:V.T.Ok) {f:FuncId} {X:FX V.E} (HX:Agj V.T P f X) {bx:List (Nat×Box V.E)} {β:Nat->BI} (M:Bk V.T C bx β w) {args:List (CV V.E)} {vs:List Value} (ha:Ba (Ar V.T bx β (A2 C β w) w) args vs)
 {rs ws:List Nat} {dst:Nat} (h:Ac V bx (Asz V dst X args) rs ws=some (res,cs,bx',ac)):Asd V P C bx β w f vs res bx':=by
 unfold Asz at h
 rw[A48]at h
 split at h
 rotate_left
 ·cases h
 rename_i m src rs1 hg
 have hsrc:∀i b,(i,b)∈src->Ae i bx=some b:=Bx6 X.ins hg (λ _ _ hm=>by simp at hm)
 split at h
 rotate_left
 ·simp[Ac]at h
 rename_i x hx
 split at h
 rotate_left
 ·simp[Ac]at h
 rename_i z hz
 split at h
 rotate_left
 ·simp[Ac]at h
 rename_i res1 nw wr hl
 -- what is handed over
 unfold Bsz at hx
 split at hx
 rotate_left
 ·cases hx
 rename_i as bs hd has hbs
 simp only[Bool.and_eq_true]at hd
 have hdk:=Aj0 hd.1
 have hdv:=Aj0 hd.2.1
 have hds:=Aj0 hd.2.2
 have hmk:=B3s V.T HT _ _ _ _ _ hx
 -- what is left
 unfold Bs9 at hl
 split at hl
 rotate_left
 ·cases hl
 rename_i mb cs1 hmb hcs1
 split at hl
 rotate_left
 ·cases hl
 rename_i res2 out hres2 hout hdb
 split at hl
 rotate_left
 ·cases hl
 rename_i hdo
 cases hl
 have hdb:=Aj0 hdb
 have kout:=Aj0 hdo
 generalize hB1:(mkS V.T X.outs (X.out z)).2.2=bx1 at*
 obtain⟨hfn,hM⟩:=HX
 have hM:=hM x z hz (Bo9 X.ins as) cs1 (by rw[hmk];exact A3h (Bo9 X.ins as) 0) hcs1
 rw[hmk]at hM
 rw[hB1]at hM
 simp only at hM
 -- the numbers
 have zl:∀{a i v},Ae a (K4 m)=some (i,v)->(a,i)∈m/\v=0:=λ h=>Auv.1 (Cx h)
 have zo:∀{a i},(a,i)∈m->Ae a (K4 m)=some (i,0):=λ h=>Jh (by rw[A4z];exact hdk) (Auv.2 ⟨h,rfl⟩)
 have zinj:∀a a' i v v',Ae a (K4 m)=some (i,v)->Ae a' (K4 m)=some (i,v')->a=a':=by
  intro a a' i v v' h1 h2
  have e1:=Bme hdv (zl h1).1
  have e2:=Bme hdv (zl h2).1
  rw[e1]at e2;exact Option.some.inj e2
 have srcm:∀{a b},Ae a src=some b->(a,b)∈src.reverse:=λ h=>List.mem_reverse.2 (Cx h)
 have srcl:∀{a b},(a,b)∈src.reverse->Ae a src=some b:=λ h=>Jh hds (List.mem_reverse.1 h)
 have krev:(C9 src.reverse).Nodup:=by rw[K5,List.map_reverse];rw[K5]at hds;exact List.pairwise_reverse.2 (List.Pairwise.imp (λ h=>Ne.symm h) hds)
 have kbs:(C9 bs).Nodup:=Bbt zinj hbs krev
 -- what the callee's boxes are
 have hbsl:∀{j b'},Ae j bs=some b'->∃a nv b,Ae a src=some b/\Ae a (K4 m)=some (j,nv)/\Ada src (K4 m) nv b=some b':=by
  intro j b' h
  obtain⟨a,nv,b,h1,h2,h3⟩:=Asv hbs (Cx h)
  exact⟨a,nv,b,srcl h1,h2,h3⟩
 have hsbl:∀{a b},Ae a src=some b->∃j b',Ae a (K4 m)=some (j,0)/\Ada src (K4 m) 0 b=some b'/\Ae j bs=some b'/\inv j m=some a:=by
  intro a b h
  obtain⟨j,nv,b',h1,h2,h3⟩:=Aqp hbs (srcm h)
  obtain⟨h4,rfl⟩:=zl h1
  exact⟨j,b',h1,h2,Jh kbs h3,Bme hdv h4⟩
 let β0:Nat->BI:=λ j=>match Ae j bs,inv j m with|some _,some i=>β i|_,_=>βNil
 have β0s:∀{a b j},Ae a src=some b->Ae a (K4 m)=some (j,0)->β0 j=β a:=by
  intro a b j h1 h2
  obtain⟨j',b',k1,k2,k3,k4⟩:=hsbl h1
  rw[h2]at k1
  cases k1
  show(match Ae j bs,inv j m with|some _,some i=>β i|_,_=>βNil)=_
  rw[k3,k4]
 have β0n:∀{j},Ae j bs=none->β0 j=βNil:=by
  intro j h
  show(match Ae j bs,inv j m with|some _,some i=>β i|_,_=>βNil)=_
  rw[h]
 have β0c:∀{j},β0 j=βNil\/∃a b b',Ae a src=some b/\Ae a (K4 m)=some (j,0)/\Ae j bs=some b'/\β0 j=β a:=by
  intro j
  cases hj:Ae j bs with
  |none=>exact .inl (β0n hj)
  |some b'=>
   obtain⟨a,nv,b,h1,h2,h3⟩:=hbsl hj
   obtain⟨_,rfl⟩:=zl h2
   exact .inr ⟨a,b,b',h1,h2,rfl,β0s h1 h2⟩
 let C1:Ctx:=⟨P,A2 C β w,w.heap.size,λ x=>∃a b,Ae a src=some b/\x∈(β a).own,w,undef,[]⟩
 have L0:Dd (A2 C β w) w (A2 C1 β0 w) w:=by
  refine⟨λ b hb=>⟨hb.1,.inl hb,λ j hj=> ?_⟩,λ _ _=>rfl⟩
  rcases β0c (j:=j)with k|⟨a,_,_,_,_,_,k⟩
  ·rw[k]at hj;simp[βNil]at hj
  ·rw[k]at hj;exact hb.2.2 a hj
 have R0:A4f V.T bx β bs β0 src (K4 m):=by
  refine⟨λ a b h=>hsrc a b (Cx h),λ a i v b h1 h2=> ?_,λ a i v b h1 h2=> ?_⟩
  ·obtain⟨j,b',k1,k2,k3,_⟩:=hsbl h2
   rw[h1]at k1
   cases k1
   exact⟨b',k2,k3⟩
  ·obtain⟨_,rfl⟩:=zl h1
   exact β0s h2 h1
 have M0:Bk V.T C1 bs β0 w:=by
  refine⟨λ j b' hj=> ?_,λ j hj=>by rw[β0n hj];rfl,λ j=> ?_,λ j j' y hy hy'=> ?_,λ j y hy=> ?_,⟨rfl,rfl,rfl,Nat.le_refl _,λ _ _ _=>rfl⟩⟩
  ·obtain⟨a,nv,b,h1,h2,h3⟩:=hbsl hj
   exact Bxe R0 L0 h2 h1 h3 (M.boxes a b (R0.fr _ _ h1))
  ·rcases β0c (j:=j)with k|⟨a,_,_,_,_,_,k⟩
   ·rw[k];exact List.nodup_nil
   ·rw[k];exact M.nodup a
  ·rcases β0c (j:=j)with k|⟨a,_,_,_,q,_,k⟩
   ·rw[k]at hy;simp[βNil]at hy
   ·rcases β0c (j:=j')with k'|⟨a',_,_,_,q',_,k'⟩
    ·rw[k']at hy';simp[βNil]at hy'
    ·rw[k]at hy;rw[k']at hy'
     have:=M.apart a a' y hy hy'
     subst this
     rw[q]at q'
     cases q';rfl
  ·rcases β0c (j:=j)with k|⟨a,b,_,h1,_,_,k⟩
   ·rw[k]at hy;simp[βNil]at hy
   ·rw[k]at hy
    exact⟨(M.mine a y hy).1,.inr ⟨a,b,h1,hy⟩⟩
 refine⟨hfn,(hM C1 β0 w vs M0 (B9w X.ins as vs (A04 R0 L0 has ha))).mono ?_⟩
 rintro e w' ⟨β1,rv,rfl,M1,hrv,hstay⟩
 -- the caller's boxes then
 obtain⟨bxa,rsa,wsa,h,hfresh,hlka⟩:=A0v _ h
 obtain⟨ws1,hput⟩:=Auk (Axk out src) (Q8 V [] res1) bxa rsa wsa
 rw[hput]at h
 have hkg:(C9 (Axk out src)).Nodup:=by rw[Bb1];exact hds
 generalize hB2:B4e (Axk out src) bxa=bx2 at*
 have fresh:∀{i b'},Ae i src=none->Ae i out=some b'->Ae i bx=none:=by
  intro i b' h1 h2
  exact hfresh i b' (by rw[Awe,h1];exact h2)
 have lk2:∀i,Ae i bx2=match Ae i src with|some _=>some ((Ae i out).getD .gone)|none=>match Ae i out with|some b=>some b|none=>Ae i bx:=by
  intro i
  rw[<-hB2,Bjf _ _ _ hkg,A9s]
  cases hs:Ae i src with
  |some b=>rfl
  |none=>
   show Ae i bxa=_
   rw[hlka,Awe,hs]
   rfl
 obtain⟨hmbk,hmbo⟩:=Bqk hmb hdb
 have mbl:∀{j i nv},Ae j mb=some (i,nv)->∃b,Ae j bx1=some b/\((inv j m=some i/\Qa (Ae i src) b=some nv)\/(inv j m=none/\Ae i src=none)):=by
  intro j i nv h
  have hj:=Bzn h
  rw[hmbk,K5]at hj
  obtain⟨⟨j',b⟩,hmem,rfl⟩:=List.mem_map.1 hj
  obtain⟨i',nv',h1,h2⟩:=hmbo hmem
  rw[h]at h1
  cases h1
  exact⟨b,Jh hdb hmem,h2⟩
 have mbinj:∀a a' i v v',Ae a mb=some (i,v)->Ae a' mb=some (i,v')->a=a':=by
  intro a a' i v v' h1 h2
  obtain⟨b,p1,_⟩:=mbl h1
  obtain⟨b',p2,_⟩:=mbl h2
  exact Bki hout kout hdb (Cx p1) (Cx p2) h1 h2
 have outl:∀{i b'},Ae i out=some b'->∃j nv b,Ae j bx1=some b/\Ae j mb=some (i,nv)/\Ada bx1 mb nv b=some b'/\((inv j m=some i/\Qa (Ae i src) b=some nv/\Ae i (K4 m)=some (j,0))\/Ae i src=none):=by
  intro i b' h
  obtain⟨j,nv,b,h1,h2,h3⟩:=Asv hout (Cx h)
  obtain⟨b2,k2,k3⟩:=mbl h2
  have hb:=Jh hdb h1
  rw[hb]at k2
  cases k2
  refine⟨j,nv,b,hb,h2,h3, ?_⟩
  rcases k3 with k3|k3
  ·exact .inl ⟨k3.1,k3.2,zo (Bwd k3.1)⟩
  ·exact .inr k3.2
 let J:Nat->Nat:=λ i=>match mb.find? λ x=>Nat.beq x.2.1 i with
  |some x=>x.1
  |none=>0
 have Jis:∀{j i nv},Ae j mb=some (i,nv)->J i=j:=by
  intro j i nv h
  have hmem:=Cx h
  show(match mb.find? λ x=>Nat.beq x.2.1 i with|some x=>x.1|none=>0)=j
  cases hf:mb.find? λ x=>Nat.beq x.2.1 i with
  |none=>
   have:=List.find?_eq_none.1 hf _ hmem
   simp at this
  |some x=>
   obtain⟨a,i',v⟩:=x
   have h1:Nat.beq i' i=true:=List.find?_some (p:=λ x:Nat×Nat×Nat=>Nat.beq x.2.1 i) hf
   have h1:=Ah h1
   have h2:=List.mem_of_find?_eq_some hf
   have h3:Ae a mb=some (i',v):=Jh (by rw[hmbk];exact hdb) h2
   subst h1
   exact mbinj _ _ _ _ _ h3 h
 let β2:Nat->BI:=λ i=>match Ae i out with
  |some _=>β1 (J i)
  |none=>match Ae i src with
   |some _=>βNil
   |none=>β i
 have β2n:∀{i},Ae i src=none->Ae i out=none->β2 i=β i:=by
  intro i h h'
  show(match Ae i out with|some _=>β1 (J i)|none=>match Ae i src with|some _=>βNil|none=>β i)=_
  rw[h,h']
 have β2o:∀{i b' j v},Ae i out=some b'->Ae j mb=some (i,v)->β2 i=β1 j:=by
  intro i b' j v h2 h3
  show(match Ae i out with|some _=>β1 (J i)|none=>match Ae i src with|some _=>βNil|none=>β i)=_
  rw[h2]
  show β1 (J i)=_
  rw[Jis h3]
 have β2g:∀{i b},Ae i src=some b->Ae i out=none->β2 i=βNil:=by
  intro i b h1 h2
  show(match Ae i out with|some _=>β1 (J i)|none=>match Ae i src with|some _=>βNil|none=>β i)=_
  rw[h1,h2]
 let Sx:Nat->Prop:=λ i=>(∃b,Ae i src=some b)\/∃b,Ae i out=some b
 have β2c:∀{i},Sx i->β2 i=βNil\/∃j b' nv,Ae j mb=some (i,nv)/\Ae i out=some b'/\β2 i=β1 j:=by
  intro i h
  cases ho:Ae i out with
  |none=>
   rcases h with⟨b,hb⟩|⟨b,hb⟩
   ·exact .inl (β2g hb ho)
   ·rw[ho]at hb;cases hb
  |some b'=>
   obtain⟨j,nv,b1,h1,h2,h3,h4⟩:=outl ho
   exact .inr ⟨j,b',nv,h2,rfl,β2o ho h2⟩
 -- what may be read goes on
 have L2:Dd (A2 C1 β1 w') w' (A2 C β2 w') w':=by
  refine⟨λ b hb=>⟨hb.1, ?_,λ i hi=> ?_⟩,λ _ _=>rfl⟩
  ·rcases hb.2.1 with k|k|⟨a,b0,k1,k2⟩
   ·exact k.2.1
   ·exact .inr (.inl (Nat.le_trans M.kept.size k))
   ·rcases(M.mine a b k2).2 with k|k
    ·exact .inr (.inl k)
    ·exact .inr (.inr k)
  ·have inS:Sx i->False:=by
    intro hs
    rcases β2c hs with k|⟨j,b',_,_,_,k⟩
    ·rw[k]at hi;simp[βNil]at hi
    ·rw[k]at hi;exact hb.2.2 j hi
   cases ho:Ae i out with
   |some b'=>exact inS (.inr ⟨b',ho⟩)
   |none=>
    cases hs:Ae i src with
    |none=>
     rw[β2n hs ho]at hi
     rcases hb.2.1 with k|k|⟨a,b0,k1,k2⟩
     ·exact k.2.2 i hi
     ·have h1:=(M.mine i b hi).1
      have:w.heap.size<=b:=k
      omega
     ·have:=M.apart i a b hi k2
      subst this
      rw[hs]at k1;cases k1
    |some b0=>exact inS (.inl ⟨b0,hs⟩)
 have at2:∀{i b'},Ae i out=some b'->Ae i bx2=some b':=by
  intro i b' ho
  rw[lk2]
  cases hs:Ae i src with
  |some b0=>simp only[ho,Option.getD_some]
  |none=>simp only[ho]
 have R2:A4f V.T bx1 β1 bx2 β2 bx1 mb:=by
  refine⟨λ _ _ h=>h,λ j i v b h1 h2=> ?_,λ j i v b h1 h2=> ?_⟩
  ·obtain⟨i',nv,b',k1,k2,k3⟩:=Aqp hout (Cx h2)
   rw[h1]at k1
   cases k1
   exact⟨b',k2,at2 (Jh kout k3)⟩
  ·obtain⟨i',nv,b',k1,k2,k3⟩:=Aqp hout (Cx h2)
   rw[h1]at k1
   cases k1
   exact β2o (Jh kout k3) h1
 obtain⟨M2,X2⟩:=M.step (bx':=bx2) (β':=β2) (w':=w') Sx M1.kept.os M1.kept.tape M1.kept.output M1.kept.size
  (λ i hi=>by
   cases ho:Ae i out with
   |some b=>exact(hi (.inr ⟨b,ho⟩)).elim
   |none=>
    cases hs:Ae i src with
    |some b=>exact(hi (.inl ⟨b,hs⟩)).elim
    |none=>exact⟨β2n hs ho,by rw[lk2,hs];simp only[ho]⟩)
  (λ y hy hn=>M1.kept.heap y hy (λ ⟨a,b,h1,h2⟩=>hn a (.inl ⟨b,h1⟩) h2))
  (λ i hs y hy=>by
   rcases β2c hs with k|⟨j,b',_,_,_,k⟩
   ·rw[k]at hy;simp[βNil]at hy
   ·rw[k]at hy
    obtain⟨h1,h2⟩:=M1.mine j y hy
    rcases h2 with h2|⟨a,b0,h3,h4⟩
    ·exact .inr ⟨h2,h1⟩
    ·exact .inl ⟨a,.inl ⟨b0,h3⟩,h4⟩)
  (λ i hs=>by
   rcases β2c hs with k|⟨j,b',_,_,_,k⟩
   ·rw[k];exact List.nodup_nil
   ·rw[k];exact M1.nodup j)
  (λ i i' y hs hs' hy hy'=>by
   rcases β2c hs with k|⟨j,_,_,q,_,k⟩
   ·rw[k]at hy;simp[βNil]at hy
   ·rcases β2c hs' with k'|⟨j',_,_,q',_,k'⟩
    ·rw[k']at hy';simp[βNil]at hy'
    ·rw[k]at hy;rw[k']at hy'
     have:=M1.apart j j' y hy hy'
     subst this
     rw[q]at q'
     cases q';rfl)
  (λ i hs hn=>by
   rcases hs with⟨b,hs⟩|⟨b,ho⟩
   ·rw[lk2,hs]at hn;cases hn
   ·rw[at2 ho]at hn;cases hn)
  (λ i b hS hb=>by
   cases hs:Ae i src with
   |none=>
    rcases hS with⟨b0,h0⟩|⟨b0,h0⟩
    ·rw[hs]at h0;cases h0
    ·rw[fresh hs h0]at hb;cases hb
   |some b0=>
   rw[hsrc i b0 (Cx hs)]at hb
   cases hb
   rw[lk2,hs]
   refine⟨_,rfl, ?_⟩
   cases ho:Ae i out with
   |none=>cases b<;>simp[Gu]
   |some b'=>
    obtain⟨j,nv,b1,h1,h2,h3,h456⟩:=outl ho
    rw[hs]at h456
    rcases h456 with⟨h4,h5,h6⟩|h456
    rotate_left
    ·cases h456
    obtain⟨j',b2,p1,p2,p3,p4⟩:=hsbl hs
    rw[h6]at p1
    cases p1
    have hβ2:β2 i=β1 j:=β2o ho h2
    have hblk:A01 (some b2) (some b1)=true->(β2 i).blk=(β i).blk:=by
     intro q
     rw[hβ2,hstay j (by rw[p3,h1];exact q),β0s hs h6]
    show Gu V.T (β i) (β2 i) b b'
    cases b with
    |cells ls=>
     cases b1<;>simp only[Qa]at h5<;>try cases h5
     simp only[Ada]at h3 p2
     split at h3
     ·cases h3
      split at p2
      ·cases p2;exact hblk rfl
      ·cases p2
     ·cases h3
    |arr e0 t xs v fz=>
     cases fz<;>cases b1<;>simp only[Qa]at h5<;>try cases h5
     rename_i e1 t1 xs1 v1 fz1
     cases fz1<;>simp only[Qa]at h5
     ·split at h5
      ·rename_i ht
       cases h5
       simp only[Ada,Option.some.injEq]at h3
       subst h3
       exact⟨ht,by omega,λ e=>by omega⟩
      ·cases h5
     ·cases h5
    |rows e0 e2 t xss v rv fz=>
     cases fz<;>cases b1<;>simp only[Qa]at h5<;>try cases h5
     rename_i e1 e3 t1 xs1 v1 rv1 fz1
     cases fz1<;>simp only[Qa]at h5
     ·split at h5
      ·rename_i ht
       cases h5
       simp only[Ada,Option.some.injEq]at h3
       subst h3
       exact⟨ht,by omega,λ e=>by omega⟩
      ·cases h5
     ·cases h5
     ·cases h5
    |map k t l=>
     cases b1<;>simp only[Qa]at h5<;>try cases h5
     split at h5
     ·rename_i hk
      simp only[Ada,Option.some.injEq]at h3 p2
      subst h3;subst p2
      exact⟨hk.1,hk.2,hblk rfl⟩
     ·cases h5
    |gone=>simp[Qa]at h5)
  (λ _ i b hS hb=>by
   cases ho:Ae i out with
   |none=>
    rcases hS with⟨b0,hs⟩|⟨b0,h0⟩
    ·rw[lk2,hs,ho]at hb;cases hb;trivial
    ·rw[ho]at h0;cases h0
   |some b'=>
    rw[at2 ho]at hb
    cases hb
    obtain⟨j,nv,b1,h1,h2,h3,_⟩:=outl ho
    exact Bxe R2 L2 h2 h1 h3 (M1.boxes j b1 h1))
 have hres':=A04 R2 L2 hres2 hrv
 refine⟨_,rfl,β2, ?_⟩
 unfold Q8 at h
 split at h
 ·rename_i c0
  obtain⟨rfl,_,rfl⟩:=Aq h
  cases hres' with
  |cons q1 q2=>cases q2;exact⟨_,rfl,q1,M2,X2⟩
 ·rename_i hne
  obtain⟨rfl,_,rfl⟩:=Aq h
  refine⟨_,rfl, ?_,M2,X2⟩
  simp only[Az]
  refine⟨rv.toArray, ?_,by simpa using hres'⟩
  have hl:=hres'.length
  cases rv with
  |nil=>rfl
  |cons v rv=>
   cases rv with
   |cons _ _=>rfl
   |nil=>
    match res1,hl,hne with
    |[c],_,hne=>exact(hne c rfl).elim
end
end Go.Ab
