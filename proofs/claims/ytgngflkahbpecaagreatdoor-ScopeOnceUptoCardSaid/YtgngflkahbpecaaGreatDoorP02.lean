/- Each operation that only reads does in the model what the abstract one tells. More operations that only read or compute. Lengths, indexes, sums, comparisons, conversions, parts. Conditions: none beyond those that each theorem names. -/
import Derived.Test.YtgngflkahbpecaaGreatDoorP01
import Derived.Laws.Cells
import Derived.Laws.CopyRow
import Derived.Laws.Slices
import Derived.Laws.Strings
import Derived.Laws.Strings2
set_option linter.unusedSimpArgs false
set_option linter.unusedVariables false
namespace Go.Ab
open Go
theorem Q1 (b o n:Nat):(⟨b,o,none⟩:Addr).add n=⟨b,o+n,none⟩:=by
 unfold Addr.add;split<;>simp_all
theorem Brr {ad:Addr} (h:ad.spot=none) (n:Nat):ad.add n=⟨ad.block,ad.off+n,none⟩:=by
 cases ad;simp at h;subst h;exact Q1 _ _ _
def VOk (T:Tab) (C:Ctx) (bx:List (Nat×Box T.E)) (β:Nat->BI) (w:World) (res:Option (SV T.E)) (bx':List (Nat×Box T.E)) (r:Result Value):Prop:=
 ∃β' w' v x,res=some x/\r= .ok v w'/\Az T bx' β' (A2 C β' w') w' x v/\Bk T C bx' β' w'/\Ext T bx β (A2 C β w) w bx' β' (A2 C β' w') w'
theorem Ext.refl (T:Tab) (bx:List (Nat×Box T.E)) (β:Nat->BI) (ok:Nat->Prop) (w:World):Ext T bx β ok w bx β ok w:=
 ⟨Dd.refl _ _,λ _ b h=>⟨b,h,Gu.refl T _ _⟩⟩
theorem Ext.trans {T:Tab} {b1 b2 b3:List (Nat×Box T.E)} {β1 β2 β3:Nat->BI} {o1 o2 o3:Nat->Prop} {w1 w2 w3:World}
 (h:Ext T b1 β1 o1 w1 b2 β2 o2 w2) (k:Ext T b2 β2 o2 w2 b3 β3 o3 w3):Ext T b1 β1 o1 w1 b3 β3 o3 w3:=by
 refine⟨h.later.trans k.later,λ id b hb=> ?_⟩
 obtain⟨b',hb',c1⟩:=h.box id b hb
 obtain⟨b'',hb'',c2⟩:=k.box id b' hb'
 refine⟨b'',hb'', ?_⟩
 cases b<;>cases b'<;>simp only[Gu]at c1<;>cases b''<;>simp only[Gu]at c2 ⊢
 ·rw[c2,c1]
 ·obtain⟨rfl,v1,c1⟩:=c1
  obtain⟨rfl,v2,c2⟩:=c2
  refine⟨rfl,Nat.le_trans v1 v2,λ e=> ?_⟩
  have a1:=c1 (by omega)
  have a2:=c2 (by omega)
  exact⟨a2.1.trans a1.1,a2.2.trans a1.2⟩
 ·obtain⟨rfl,v1,c1⟩:=c1
  obtain⟨rfl,v2,c2⟩:=c2
  refine⟨rfl,Nat.le_trans v1 v2,λ e=> ?_⟩
  obtain⟨a1,a2,a3,a4⟩:=c1 (by omega)
  obtain⟨d1,d2,d3,d4⟩:=c2 (by omega)
  refine⟨d1.trans a1,d2.trans a2,Nat.le_trans a3 d3,λ e2=> ?_⟩
  have x1:=a4 (by omega)
  have x2:=d4 (by omega)
  exact⟨x2.1.trans x1.1,λ k=>(x2.2 k).trans (x1.2 k)⟩
 ·exact⟨c2.1.trans c1.1,c2.2.1.trans c1.2.1,c2.2.2.trans c1.2.2⟩
section
variable {T:Tab} {C:Ctx} {bx:List (Nat×Box T.E)} {β:Nat->BI} {w:World}
theorem VOk.pure (M:Bk T C bx β w) {x:SV T.E} {v:Value} (h:Az T bx β (A2 C β w) w x v):VOk T C bx β w (some x) bx (.ok v w):=
 ⟨β,w,v,x,rfl,rfl,h,M,Ext.refl _ _ _ _ _⟩
theorem VOk.grown (M:Bk T C bx β w) {w':World} (G:U1 w w') {x:SV T.E} {v:Value} (h:Bk T C bx β w'->Az T bx β (A2 C β w') w' x v):VOk T C bx β w (some x) bx (.ok v w'):=
 ⟨β,w',v,x,rfl,rfl,h (M.grow G).1,(M.grow G).1,(M.grow G).2⟩
end
section
variable {V:Env} {P:Program} {C:Ctx} {bx:List (Nat×Box V.E)} {β:Nat->BI} {w:World}
theorem Aq {bs:List (Nat×Box V.E)} {v v':Option (SV V.E)} {c c':List Cd} {bs':List (Nat×Box V.E)} {rs ws:List Nat} {a:Acc} (h:Ac V bs (.ret v c) rs ws=some (v',c',bs',a)):
 v=v'/\c=c'/\bs=bs':=by
 simp only[Ac,Option.some.injEq,Prod.mk.injEq]at h
 exact⟨h.1,h.2.1,h.2.2.1⟩
theorem Apa {t:TypeId} {i:TI V.E} {info:TypeInfo} {d:TypeDesc} {z:Value} (I:Cw V P t i info d z) (b o:Nat) (vs:List Value) (hl:vs.length=i.size)
 (hc:∀j v,vs[j]?=some v->w.cell? ⟨b,o+j,none⟩=some v):
 (i.kind.agg=true->(loadVar t ⟨b,o,none⟩).run P w= .ok (.agg vs.toArray) w)/\
 (i.kind.agg=false->∀v,vs=[v]->(loadVar t ⟨b,o,none⟩).run P w= .ok v w):=by
 constructor
 ·intro ha
  have hr:=run_loadCells_list (P:=P) (w:=w) ⟨b,o,none⟩ vs (λ j v h=>by rw[Q1];exact hc j v h)
  rw[hl]at hr
  simp only[loadVar,Sem.run_bind,I.run_agg,Result.andThen_ok,ha,if_true,I.run_size,hr,Sem.run_pure]
 ·rintro ha v rfl
  have h0:=hc 0 v rfl
  rw[Nat.add_zero]at h0
  simp only[loadVar,Sem.run_bind,I.run_agg,Result.andThen_ok,ha,Bool.false_eq_true,if_false,run_load,h0]
theorem Bdw {agg:Bool} {ls:List (Av V.E)} {res:Option (SV V.E)} {cs:List Cd} {bx':List (Nat×Box V.E)} {rs ws:List Nat} {a:Acc} (h:Ac V bx (tcv (B7 agg ls)) rs ws=some (res,cs,bx',a)):
 ∃c,B7 agg ls=some c/\res=some (.cv c)/\bx'=bx:=by
 cases hc:B7 agg ls with
 |none=>rw[hc]at h;simp[tcv,Ac]at h
 |some c=>
  rw[hc]at h
  simp only[tcv,B0.cv]at h
  obtain⟨h1,_,h3⟩:=Aq h
  exact⟨c,rfl,h1.symm,h3.symm⟩
theorem Amb {t:TypeId} {i:TI V.E} {info:TypeInfo} {d:TypeDesc} {z:Value} (I:Cw V P t i info d z) (M:Bk V.T C bx β w) {b o:Nat} {ls:List (Av V.E)} {vs:List Value}
 (hl:ls.length=i.size) (hr:Ba (Ad V.T bx β (A2 C β w) w) ls vs) (hc:∀j v,vs[j]?=some v->w.cell? ⟨b,o+j,none⟩=some v)
 {c:CV V.E} (h:B7 i.kind.agg ls=some c):VOk V.T C bx β w (some (.cv c)) bx ((loadVar t ⟨b,o,none⟩).run P w):=by
 obtain⟨h1,h2⟩:=Apa (w:=w) I b o vs (by rw[<-hr.length,hl]) hc
 rcases Abs h hr with⟨ha,rfl,k⟩|⟨ha,l,v,rfl,rfl,rfl,k⟩
 ·rw[h1 ha];exact .pure M k
 ·rw[h2 ha v rfl];exact .pure M k
theorem Axg {ok:Nat->Prop} {e:TypeId} {t:Ty} {xs:List (t.den V.E)} {hdr:Value} (h:Lh V.T ok w e t xs hdr) {i:Nat} (hi:i<xs.length):
 ∃b cap cur cs,hdr= .slice (some ⟨b,0,none⟩) xs.length cap/\w.heap[b]?=some (.cells cur e (0,0))/\Bl ok w (t.av V.T (xs.getD i (t.df V.T))) cs/\cs.length=t.sz V.T/\
  (i+1)*t.sz V.T<=cur.size/\∀j v,cs[j]?=some v->cur[i*t.sz V.T+j]?=some v:=by
 obtain⟨css,⟨h1,h2⟩,h3⟩:=h
 rcases h2 with⟨rfl,h0⟩|⟨b,cap,cur,rfl,_,k2,k3,k4,k5,k6⟩
 ·omega
 ·obtain⟨cs,hcs,h4,h5⟩:=h3.get i (xs.getD i (t.df V.T)) (by rw[List.getD_eq_getElem?_getD,List.getElem?_eq_getElem hi];rfl)
  have hle:(i+1)*t.sz V.T<=cur.size:=by
   rw[k5];exact Nat.mul_le_mul_right _ (by omega)
  refine⟨b,cap,cur,cs,rfl,k2,h4,h5,hle,λ j v hv=> ?_⟩
  have hj:j<t.sz V.T:=by
   rw[<-h5]
   exact(List.getElem?_eq_some_iff.1 hv).1
  have flat:∀(css:List (List Value)) (i:Nat) (cs:List Value),(∀c∈css,c.length=t.sz V.T)->css[i]?=some cs->∀j v,j<t.sz V.T->cs[j]?=some v->css.flatten[i*t.sz V.T+j]?=some v:=by
   intro css
   induction css with
   |nil=>intro i cs _ h;simp at h
   |cons c css ih=>
    intro i cs hall h j v hj hv
    have hc:=hall c (by simp)
    cases i with
    |zero=>
     simp at h;subst h
     rw[List.flatten_cons,Nat.zero_mul,Nat.zero_add,List.getElem?_append_left (by omega)];exact hv
    |succ i=>
     rw[List.flatten_cons,List.getElem?_append_right (by rw[hc,Nat.add_mul];omega),hc]
     have:(i+1)*t.sz V.T+j-t.sz V.T=i*t.sz V.T+j:=by rw[Nat.add_mul];omega
     rw[this]
     exact ih i cs (λ c hc=>hall c (by simp[hc])) (by simpa using h) j v hj hv
  have hall:∀c∈css,c.length=t.sz V.T:=by
   intro c hc
   obtain⟨n,hn⟩:=List.getElem?_of_mem hc
   obtain⟨_,_,hh⟩:=h3.get' n c hn
   exact hh.2
  have hf:=flat css i cs hall hcs j v hj hv
  rw[<-k6]at hf
  rw[List.getElem?_take]at hf
  split at hf
  ·rw[<-Array.getElem?_toList];exact hf
  ·cases hf
theorem C8 {b:Nat} {c:Array Value} {e:TypeId} {fr:Nat×Nat} (h:w.heap[b]?=some (.cells c e fr)) (j:Nat):w.cell? ⟨b,j,none⟩=c[j]?:=by
 simp[World.cell?,h]
theorem B54 (HT:V.T.Ok) (M:Bk V.T C bx β w) {t:TypeId} {i:TI V.E} {info:TypeInfo} {d:TypeDesc} {z:Value} (I:Cw V P t i info d z)
 {a:SV V.E} {va:Value} (ha:Az V.T bx β (A2 C β w) w a va) {res:Option (SV V.E)} {cs:List Cd} {bx':List (Nat×Box V.E)} {rs ws:List Nat} {ac:Acc}
 (h:Ac V bx (Ae1 V i a) rs ws=some (res,cs,bx',ac)):VOk V.T C bx β w res bx' ((Instr.loadAt t va).run P w):=by
 unfold Ae1 at h
 split at h
 ·-- a box of cells
  rename_i id off
  simp only[Az,Ar,Ad]at ha
  simp only[Ac]at h
  split at h
  ·rename_i ls hb
   rw[hb]at ha
   obtain⟨_,rfl⟩:=ha
   obtain⟨c,e,hown,hheap,hall⟩:=M.boxes id _ hb
   unfold part at h
   split at h
   ·rename_i hle
    have hle:=Nat.le_of_ble_eq_true hle
    obtain⟨cv,h1,rfl,rfl⟩:=Bdw h
    simp only[Instr.loadAt,Instr.sureAddr,Sem.run_bind,Sem.run_pure,Result.andThen_ok]
    refine Amb (vs:=(c.toList.drop off).take i.size) I M (by simp;omega) ((hall.drop off).take i.size) (λ j v hv=> ?_) h1
    rw[C8 hheap]
    rw[List.getElem?_take]at hv
    split at hv
    ·rw[List.getElem?_drop]at hv;simpa using hv
    ·cases hv
   ·simp[Ac]at h
  ·simp[Ac]at h
 ·-- memory that nobody writes
  rename_i u x off
  simp only[Az,Ar,Ad]at ha
  obtain⟨b,o,vs,rfl,h1,h2⟩:=ha
  split at h
  ·rename_i hle
   have hle:=Nat.le_of_ble_eq_true hle
   obtain⟨cv,h3,rfl,rfl⟩:=Bdw h
   have hall:=(T0 HT (bx:=bx') (β:=β) (ok:=A2 C β w) (w:=w) u x vs).2 h1
   simp only[Instr.loadAt,Instr.sureAddr,Sem.run_bind,Sem.run_pure,Result.andThen_ok]
   refine Amb (vs:=(vs.drop off).take i.size) I M (by have:=Amo HT u x;simp;omega) ((hall.drop off).take i.size) (λ j v hv=> ?_) h3
   rw[List.getElem?_take]at hv
   split at hv
   ·rw[List.getElem?_drop]at hv
    have:=h2.2 _ _ hv
    rw[<-Nat.add_assoc]at this;exact this
   ·cases hv
  ·simp[Ac]at h
 ·-- an element of a box
  rename_i id ver j off
  simp only[Az,Ar,Ad]at ha
  simp only[Ac]at h
  split at h
  ·rename_i e u xs v fz hb
   rw[hb]at ha
   obtain⟨_,hle,ha⟩:=ha
   split at h
   ·rename_i hc
    simp only[Bool.and_eq_true]at hc
    obtain⟨hv,hs⟩:=hc
    have hs:=Nat.le_of_ble_eq_true hs
    obtain⟨h0,hlt,b,n,cap,hh,rfl⟩:=ha (Ah hv)
    obtain⟨cv,h3,rfl,rfl⟩:=Bdw h
    have hB:=M.boxes id _ hb
    have hj:j.toNat<xs.length:=by omega
    have key:∃vs:List Value,Bl (A2 C β w) w (u.av V.T (xs.getD j.toNat (u.df V.T))) vs/\∀k v,vs[k]?=some v->w.cell? ⟨b,j.toNat*u.sz V.T+k,none⟩=some v:=by
     cases fz with
     |false=>
      obtain⟨_,hA⟩:=hB
      obtain⟨b',cap',cur,vs,e1,e2,e3,_,_,e6⟩:=Axg hA hj
      rw[hh]at e1;cases e1
      exact⟨vs,e3,λ k v hv=>by rw[C8 e2];exact e6 k v hv⟩
     |true=>
      obtain⟨_,⟨a,cap',e1,_,_,_,e5⟩,_⟩:=hB
      rw[hh]at e1;simp only[List.cons.injEq,Value.slice.injEq,and_true]at e1
      obtain⟨e1,_,_⟩:=e1
      obtain⟨_,e6⟩:=e5 _ e1.symm
      obtain⟨vs,k1,_,k3⟩:=Fp.get _ _ _ e6 j.toNat (u.av V.T (xs.getD j.toNat (u.df V.T))) (by rw[List.getElem?_map,List.getD_eq_getElem?_getD,List.getElem?_eq_getElem hj];rfl)
      refine⟨vs,k1,λ k v hv=> ?_⟩
      have:=k3.2 k v hv
      simpa using this
    obtain⟨vs,k1,k2⟩:=key
    have hall:=(T0 HT (bx:=bx') (β:=β) (ok:=A2 C β w) (w:=w) u _ vs).2 k1
    simp only[Instr.loadAt,Instr.sureAddr,Sem.run_bind,Sem.run_pure,Result.andThen_ok]
    refine Amb (vs:=(vs.drop off).take i.size) I M (by have:=Amo HT u (xs.getD j.toNat (u.df V.T));simp only[List.length_take,List.length_drop];omega) ((hall.drop off).take i.size) (λ k v hv=> ?_) h3
    rw[List.getElem?_take]at hv
    split at hv
    ·rw[List.getElem?_drop]at hv
     have:=k2 _ _ hv
     rw[<-Nat.add_assoc]at this;exact this
    ·cases hv
   ·simp[Ac]at h
  ·rename_i e e2 u xss v rv fz hb
   rw[hb]at ha
   obtain⟨_,hle,ha⟩:=ha
   split at h
   ·rename_i hc
    simp only[Bool.and_eq_true,Bool.not_eq_true']at hc
    obtain⟨⟨hv,h0⟩,hag⟩:=hc
    obtain⟨hj0,hlt,b,n,cap,hh,rfl⟩:=ha (Ah hv)
    obtain rfl:off=0:=(Ah h0)
    have hj:j.toNat<xss.length:=by omega
    have hB:=M.boxes id _ hb
    have hrun:∀x,w.cell? ⟨b,j.toNat,none⟩=some x->(Instr.loadAt t (.pointer (some ⟨b,j.toNat+0,none⟩))).run P w= .ok x w:=by
     intro x hx
     simp only[Instr.loadAt,Instr.sureAddr,loadVar,Sem.run_bind,Sem.run_pure,Result.andThen_ok,I.run_agg,hag,Bool.false_eq_true,if_false,run_load,Nat.add_zero,hx]
    cases fz with
    |mix p q=>simp[Ac]at h
    |shut=>
     simp only at h
     obtain⟨rfl,_,rfl⟩:=Aq h
     obtain⟨_,⟨a,cap',e1,_,_,_,e5⟩,_⟩:=hB
     rw[hh]at e1;simp only[List.cons.injEq,Value.slice.injEq,and_true]at e1
     obtain⟨e1,_,_⟩:=e1
     obtain⟨_,e6⟩:=e5 _ e1.symm
     obtain⟨vs,k1,k2,k3⟩:=Fp.get _ _ _ e6 j.toNat (.sl (u.sz V.T) false ((xss.getD j.toNat []).map (u.av V.T))) (by rw[List.getElem?_map,List.getD_eq_getElem?_getD,List.getElem?_eq_getElem hj];rfl)
     simp only[Ty.sz]at k2 k3
     obtain⟨x,rfl⟩:∃x,vs=[x]:=by
      match vs,k2 with
      |[x],_=>exact⟨x,rfl⟩
     have hx:=k3.2 0 x rfl
     simp only[Nat.mul_one,Nat.zero_add,Nat.add_zero]at hx
     rw[hrun x hx]
     exact .pure M k1
    |opn=>
     simp only at h
     obtain⟨rfl,_,rfl⟩:=Aq h
     obtain⟨⟨e1,e2⟩,_,e4⟩:=hB
     rcases e2 with⟨e2,_⟩|⟨g,cap',cur,e2,_,e5,_,_,_,e6⟩
     ·rw[hh]at e2;cases e2
     ·rw[hh]at e2;cases e2
      obtain⟨x,hx,hA⟩:=e4.get j.toNat (xss.getD j.toNat []) (by rw[List.getD_eq_getElem?_getD,List.getElem?_eq_getElem hj];rfl)
      have hx':w.cell? ⟨b,j.toNat,none⟩=some x:=by
       rw[C8 e5,<-Array.getElem?_toList]
       rw[<-e6,List.getElem?_take]at hx
       split at hx
       ·exact hx
       ·cases hx
      rw[hrun x hx']
      have hone:x.oneCell'=true:=by
       obtain⟨css,⟨_,q⟩,_⟩:=hA
       rcases q with⟨q,_⟩|⟨_,_,_,q,_⟩<;>rw[q]<;>rfl
      refine .pure M ⟨hone, ?_⟩
      rw[hb]
      have:=Ah hv
      exact⟨hle,λ _=>⟨Nat.le_refl _,λ _=>⟨hj0,hlt,hx⟩⟩⟩
   ·simp[Ac]at h
  ·simp[Ac]at h
 ·-- an element of a row
  rename_i id ver rv j k off
  simp only[Az,Ar,Ad]at ha
  simp only[Ac]at h
  split at h
  ·rename_i e e2 u xss v rv' hb
   rw[hb]at ha
   obtain⟨_,_,ha⟩:=ha
   split at h
   ·rename_i hc
    simp only[Bool.and_eq_true]at hc
    obtain⟨⟨hv,hrv⟩,hs⟩:=hc
    have hs:=Nat.le_of_ble_eq_true hs
    obtain⟨hj0,hjl,hk0,hkl,b,n,cap,hr,rfl⟩:=(ha (Ah hv)).2 (Ah hrv)
    obtain⟨cv,h3,rfl,rfl⟩:=Bdw h
    obtain⟨_,_,e4⟩:=M.boxes id _ hb
    have hj:j.toNat<xss.length:=by omega
    obtain⟨x,hx,hA⟩:=e4.get j.toNat (xss.getD j.toNat []) (by rw[List.getD_eq_getElem?_getD,List.getElem?_eq_getElem hj];rfl)
    rw[hr]at hx;cases hx
    obtain⟨b',cap',cur,vs,q1,q2,q3,_,_,q6⟩:=Axg hA (i:=k.toNat) (by omega)
    cases q1
    have hall:=(T0 HT (bx:=bx') (β:=β) (ok:=A2 C β w) (w:=w) u _ vs).2 q3
    simp only[Instr.loadAt,Instr.sureAddr,Sem.run_bind,Sem.run_pure,Result.andThen_ok]
    refine Amb (vs:=(vs.drop off).take i.size) I M (by have:=Amo HT u ((xss.getD j.toNat []).getD k.toNat (u.df V.T));simp only[List.length_take,List.length_drop];omega) ((hall.drop off).take i.size) (λ m v hv=> ?_) h3
    rw[List.getElem?_take]at hv
    split at hv
    ·rw[List.getElem?_drop]at hv
     have:=q6 _ _ hv
     rw[C8 q2,Nat.add_assoc];exact this
    ·cases hv
   ·simp[Ac]at h
  ·simp[Ac]at h
 ·simp[Ac]at h
end
def Fj:List Cd->Prop
 |[]=>True
 |c::ps=>c.p/\Fj ps
theorem Fj.append:∀{l m:List Cd},Fj (l++m)->Fj l/\Fj m
 |[],_,h=>⟨trivial,h⟩
 |_::_,_,h=>⟨⟨h.1,(Fj.append h.2).1⟩,(Fj.append h.2).2⟩
section
variable {V:Env} {P:Program} {C:Ctx} {bx:List (Nat×Box V.E)} {β:Nat->BI} {w:World}
variable {res:Option (SV V.E)} {cs:List Cd} {bx':List (Nat×Box V.E)} {rs ws:List Nat} {ac:Acc}
abbrev SR (V:Env) (C:Ctx) (bx:List (Nat×Box V.E)) (β:Nat->BI) (w:World):SV V.E->Value->Prop:=Az V.T bx β (A2 C β w) w
theorem Vh {s t:TypeId} {d:TypeDesc} {fs:List (Nat×TypeId)} {f off:Nat} {j:TI V.E} (hu:P.underlying s=some d) (hk:Gg (.struct fs) d=true)
 {info:TypeInfo} {d':TypeDesc} {z:Value} (J:Cw V P t j info d' z) (hf:fs[f]?=some (off,t)) (b o:Nat):
 (Instr.fieldAt s (.pointer (some ⟨b,o,none⟩)) f).run P w= .ok (.pointer (some ⟨b,o+off,none⟩)) w:=by
 cases d<;>simp[Gg]at hk
 rename_i fields
 subst hk
 rw[List.getElem?_map]at hf
 cases hfl:fields.toList[f]? with
 |none=>rw[hfl]at hf;simp at hf
 |some fl=>
  rw[hfl]at hf;simp at hf
  obtain⟨rfl,rfl⟩:=hf
  have hfa:fields[f]?=some fl:=by rw[<-hfl,Array.getElem?_toList]
  have hs:j.size≠0:=by have:=J.pos;omega
  simp[Instr.fieldAt,run_underlying hu,hfa,Instr.sureAddr,Go.fieldPlace,J.run_size,hs,Q1]
theorem Bnv (M:Bk V.T C bx β w) {s t:TypeId} {d:TypeDesc} {fs:List (Nat×TypeId)} {f off:Nat} {j:TI V.E} (hu:P.underlying s=some d) (hk:Gg (.struct fs) d=true)
 {info:TypeInfo} {d':TypeDesc} {z:Value} (J:Cw V P t j info d' z) (hf:fs[f]?=some (off,t)) {a:SV V.E} {va:Value} (ha:SR V C bx β w a va)
 (h:Ac V bx (Sf V off a) rs ws=some (res,cs,bx',ac)):VOk V.T C bx β w res bx' ((Instr.fieldAt s va f).run P w):=by
 unfold Sf at h
 split at h
 ·rename_i id o
  simp only[Ac]at h
  split at h
  ·rename_i ls hb
   obtain⟨rfl,_,rfl⟩:=Aq h
   simp only[SR,Az,Ar,Ad,hb]at ha
   obtain⟨_,rfl⟩:=ha
   rw[Vh hu hk J hf]
   refine .pure M ?_
   simp only[Az,Ar,Ad,hb]
   exact⟨rfl,trivial⟩
  ·simp[Ac]at h
 ·obtain⟨rfl,_,rfl⟩:=Aq h
  simp only[SR,Az,Ar,Ad]at ha
  obtain⟨b,o,vs,rfl,h1,h2⟩:=ha
  rw[Vh hu hk J hf]
  refine .pure M ?_
  simp only[Az,Ar,Ad]
  exact⟨b,o,vs,by rw[Nat.add_assoc],h1,h2⟩
 ·rename_i id ver i o
  simp only[Ac]at h
  split at h
  ·rename_i e u xs v fz hb
   split at h
   ·rename_i hv
    obtain⟨rfl,_,rfl⟩:=Aq h
    simp only[SR,Az,Ar,Ad,hb]at ha
    obtain⟨_,hle,ha⟩:=ha
    obtain⟨h0,hlt,b,n,cap,hh,rfl⟩:=ha (Ah hv)
    rw[Vh hu hk J hf]
    refine .pure M ?_
    simp only[Az,Ar,Ad,hb]
    exact⟨rfl,hle,λ _=>⟨h0,hlt,b,n,cap,hh,by rw[Nat.add_assoc]⟩⟩
   ·simp[Ac]at h
  ·simp[Ac]at h
 ·rename_i id ver rv i k o
  simp only[Ac]at h
  split at h
  ·rename_i e e2 u xss v rv' fz hb
   split at h
   ·rename_i hv
    simp only[Bool.and_eq_true]at hv
    obtain⟨rfl,_,rfl⟩:=Aq h
    simp only[SR,Az,Ar,Ad,hb]at ha
    obtain⟨_,hle,ha⟩:=ha
    obtain⟨hle2,ha⟩:=ha (Ah hv.1)
    obtain⟨h0,hlt,k0,klt,b,n,cap,hh,rfl⟩:=ha (Ah hv.2)
    rw[Vh hu hk J hf]
    refine .pure M ?_
    simp only[Az,Ar,Ad,hb]
    exact⟨rfl,hle,λ _=>⟨hle2,λ _=>⟨h0,hlt,k0,klt,b,n,cap,hh,by rw[Nat.add_assoc]⟩⟩⟩
   ·simp[Ac]at h
  ·simp[Ac]at h
 ·simp[Ac]at h
theorem O3 {t e:TypeId} {j:TI V.E} (hu:P.underlying t=some (.slice e)) {info:TypeInfo} {d':TypeDesc} {z:Value} (J:Cw V P e j info d' z)
 (b o len cap:Nat) (k:IntKind) (i:Int) (hi:0<=i/\i<len):
 (Instr.indexAt t (.slice (some ⟨b,o,none⟩) len cap) (.int k i)).run P w= .ok (.pointer (some ⟨b,o+i.toNat*j.size,none⟩)) w:=by
 simp[Instr.indexAt,asIntOf,run_underlying hu,hi,J.run_size,Q1]
theorem Aze {t e:TypeId} {n:Nat} {j:TI V.E} (hu:P.underlying t=some (.array n e)) {info:TypeInfo} {d':TypeDesc} {z:Value} (J:Cw V P e j info d' z)
 (b o:Nat) (k:IntKind) (i:Int) (hi:0<=i/\i<n):
 (Instr.indexAt t (.pointer (some ⟨b,o,none⟩)) (.int k i)).run P w= .ok (.pointer (some ⟨b,o+i.toNat*j.size,none⟩)) w:=by
 simp[Instr.indexAt,asIntOf,Instr.sureAddr,run_underlying hu,hi,J.run_size,Q1]
theorem Bvc (M:Bk V.T C bx β w) {t e:TypeId} {n:Nat} {j:TI V.E} (hu:P.underlying t=some (.array n e)) {info:TypeInfo} {d':TypeDesc} {z:Value} (J:Cw V P e j info d' z)
 {a ix:SV V.E} {va vi:Value} (ha:SR V C bx β w a va) (hi:SR V C bx β w ix vi)
 (h:Ac V bx (Aru V n j.size a ix) rs ws=some (res,cs,bx',ac)):VOk V.T C bx β w res bx' ((Instr.indexAt t va vi).run P w):=by
 unfold Aru at h
 split at h
 ·rename_i id o k i
  simp only[Ac]at h
  split at h
  ·rename_i ls hb
   split at h
   ·rename_i hr
    obtain⟨rfl,_,rfl⟩:=Aq h
    simp only[SR,Az,Ar,Ad,hb]at ha hi
    obtain⟨_,rfl⟩:=ha
    subst hi
    rw[Aze hu J _ _ _ _ hr]
    refine .pure M ?_
    simp only[Az,Ar,Ad,hb]
    exact⟨rfl,trivial⟩
   ·simp[Ac]at h
  ·simp[Ac]at h
 ·rename_i u x o k i
  split at h
  ·rename_i hr
   obtain⟨rfl,_,rfl⟩:=Aq h
   simp only[SR,Az,Ar,Ad]at ha hi
   obtain⟨b,o',vs,rfl,h1,h2⟩:=ha
   subst hi
   rw[Aze hu J _ _ _ _ hr]
   refine .pure M ?_
   simp only[Az,Ar,Ad]
   exact⟨b,o',vs,by rw[Nat.add_assoc],h1,h2⟩
  ·simp[Ac]at h
 ·simp[Ac]at h
theorem Bl7 (M:Bk V.T C bx β w) {t e:TypeId} {j:TI V.E} (hu:P.underlying t=some (.slice e)) {info:TypeInfo} {d':TypeDesc} {z:Value} (J:Cw V P e j info d' z)
 {a ix:SV V.E} {va vi:Value} (ha:SR V C bx β w a va) (hi:SR V C bx β w ix vi)
 (h:Ac V bx (Y2 V j.ty a ix) rs ws=some (res,cs,bx',ac)) (hc:Fj cs):VOk V.T C bx β w res bx' ((Instr.indexAt t va vi).run P w):=by
 unfold Y2 at h
 split at h
 ·rename_i u st xs k i
  split at h
  ·rename_i hu'
   obtain⟨rfl,rfl,rfl⟩:=Aq h
   have hc:=hc.1
   simp only[SR,Az,Ar,Ad]at ha hi
   subst hi
   obtain⟨ao,cap,hv,hcap,hn,_,hm⟩:=ha
   simp only[List.cons.injEq,and_true,List.length_map]at hv hcap
   subst hv
   obtain⟨h0,hlt⟩:=hc
   have hlt':i.toNat<xs.length:=by omega
   cases ao with
   |none=>have:=hn rfl;omega
   |some ad=>
    obtain⟨hs,hm2⟩:=hm ad rfl
    have hs:=hs (by intro h;have:=congrArg List.length h;simp only[List.length_map,List.length_nil]at this;omega)
    obtain⟨b,o,sp⟩:=ad
    simp only at hs hm2;subst hs
    obtain⟨vs,k1,k2,k3⟩:=Fp.get _ _ _ hm2 i.toNat (u.av V.T (xs.getD i.toNat (u.df V.T))) (by rw[List.getElem?_map,List.getD_eq_getElem?_getD,List.getElem?_eq_getElem hlt'];rfl)
    rw[O3 hu J _ _ _ _ _ _ ⟨h0,hlt⟩]
    refine .pure M ?_
    simp only[Az,Ar,Ad]
    have hsz:u.sz V.T=j.size:=by rw[hu'];exact J.ty
    exact⟨b,_,vs,by rw[Nat.add_zero,<-hsz],k1,k3⟩
  ·simp[Ac]at h
 ·rename_i id ver k i
  simp only[SR,Az,Ar,Ad]at ha hi
  subst hi
  simp only[Ac]at h
  split at h
  ·rename_i e' u xs v fz hb
   split at h
   ·rename_i hv
    simp only[Bool.and_eq_true,decide_eq_true_eq]at hv
    obtain⟨hv,rfl⟩:=hv
    obtain⟨rfl,rfl,rfl⟩:=Aq h
    have hc:=hc.1
    rw[hb]at ha
    obtain⟨_,hle,ha⟩:=ha
    have ha:=ha (Ah hv)
    obtain⟨h0,hlt⟩:=hc
    have hB:=M.boxes id _ hb
    have key:∃b cap,(β id).hdr= .slice (some ⟨b,0,none⟩) xs.length cap:=by
     cases fz with
     |false=>
      obtain⟨_,hA⟩:=hB
      obtain⟨b',cap',_,_,e1,_⟩:=Axg hA (i:=i.toNat) (by omega)
      exact⟨b',cap',e1⟩
     |true=>exact hB.2.2 (by rintro rfl;simp at hlt;omega)
    obtain⟨b,cap,hh⟩:=key
    rw[ha,hh,O3 hu J _ _ _ _ _ _ ⟨h0,hlt⟩]
    refine .pure M ?_
    simp only[Az,Ar,Ad,hb]
    exact⟨rfl,hle,λ _=>⟨h0,hlt,b,_,cap,hh,by rw[Nat.zero_add,Nat.add_zero,J.ty]⟩⟩
   ·simp[Ac]at h
  ·rename_i e' e2 u xss v rv fz hb
   split at h
   ·rename_i hv
    simp only[Bool.and_eq_true]at hv
    obtain⟨hv,hs1⟩:=hv
    obtain⟨rfl,rfl,rfl⟩:=Aq h
    have hc:=hc.1
    rw[hb]at ha
    obtain⟨_,hle,ha⟩:=ha
    have ha:=ha (Ah hv)
    obtain⟨h0,hlt⟩:=hc
    have hB:=M.boxes id _ hb
    have key:∃b cap,(β id).hdr= .slice (some ⟨b,0,none⟩) xss.length cap:=by
     cases fz with
     |opn=>
      obtain⟨⟨_,e2⟩,_,_⟩:=hB
      rcases e2 with⟨_,e2⟩|⟨g,cap',cur,e2,_⟩
      ·omega
      ·exact⟨g,cap',e2⟩
     |shut=>exact hB.2.2 (by rintro rfl;simp at hlt;omega)
     |mix p q=>
      obtain⟨_,_,_,_,_,_,⟨_,e2⟩,_,_⟩:=hB
      rcases e2 with⟨_,e2⟩|⟨g,cap',cur,e2,_⟩
      ·omega
      ·exact⟨g,cap',e2⟩
    obtain⟨b,cap,hh⟩:=key
    have hs1:j.size=1:=J.ty▸Ah hs1
    rw[ha,hh,O3 hu J _ _ _ _ _ _ ⟨h0,hlt⟩]
    refine .pure M ?_
    simp only[Az,Ar,Ad,hb]
    exact⟨rfl,hle,λ _=>⟨h0,hlt,b,_,cap,hh,by rw[hs1];simp⟩⟩
   ·simp[Ac]at h
  ·simp[Ac]at h
 ·rename_i id ver o n k i
  simp only[SR,Az,Ar,Ad]at ha hi
  subst hi
  simp only[Ac]at h
  split at h
  ·rename_i e' u xs v fz hb
   split at h
   ·rename_i hv
    simp only[Bool.and_eq_true,decide_eq_true_eq]at hv
    obtain⟨hv,rfl⟩:=hv
    obtain⟨rfl,rfl,rfl⟩:=Aq h
    obtain⟨c1,c2,_⟩:=hc
    rw[hb]at ha
    obtain⟨_,hle,ha⟩:=ha
    obtain⟨i0,n0,hin,b,cap,hh,hic,rfl⟩:=ha (Ah hv)
    rw[O3 hu J _ _ _ _ _ _ ⟨c1,by omega⟩]
    refine .pure M ?_
    simp only[Az,Ar,Ad,hb]
    exact⟨rfl,hle,λ _=>⟨by omega,by omega,b,_,cap,hh,by rw[Nat.add_zero,J.ty,Int.toNat_add i0 c1,Nat.add_mul]⟩⟩
   ·simp[Ac]at h
  ·simp[Ac]at h
 ·rename_i id ver rv jj k i
  simp only[SR,Az,Ar,Ad]at ha hi
  subst hi
  simp only[Ac]at h
  split at h
  ·rename_i e' e2 u xss v rv' hb
   split at h
   ·rename_i hv
    simp only[Bool.and_eq_true,decide_eq_true_eq]at hv
    obtain⟨⟨hv,hrv⟩,rfl⟩:=hv
    obtain⟨rfl,rfl,rfl⟩:=Aq h
    have hc:=hc.1
    rw[hb]at ha
    obtain⟨_,hle,ha⟩:=ha
    obtain⟨hle2,ha⟩:=ha (Ah hv)
    obtain⟨j0,jl,hr⟩:=ha (Ah hrv)
    obtain⟨h0,hlt⟩:=hc
    obtain⟨_,_,e4⟩:=M.boxes id _ hb
    have hj:jj.toNat<xss.length:=by omega
    obtain⟨x,hx,hA⟩:=e4.get jj.toNat (xss.getD jj.toNat []) (by rw[List.getD_eq_getElem?_getD,List.getElem?_eq_getElem hj];rfl)
    rw[hr]at hx;cases hx
    obtain⟨b',cap',cur,vs,q1,_⟩:=Axg hA (i:=i.toNat) (by omega)
    subst q1
    rw[O3 hu J _ _ _ _ _ _ ⟨h0,hlt⟩]
    refine .pure M ?_
    simp only[Az,Ar,Ad,hb]
    exact⟨rfl,hle,λ _=>⟨hle2,λ _=>⟨j0,jl,h0,hlt,b',_,cap',hr,by rw[Nat.zero_add,Nat.add_zero,J.ty]⟩⟩⟩
   ·simp[Ac]at h
  ·simp[Ac]at h
 ·simp[Ac]at h
end
section
variable {V:Env} {P:Program} {C:Ctx} {bx:List (Nat×Box V.E)} {β:Nat->BI} {w:World}
variable {res:Option (SV V.E)} {cs:List Cd} {bx':List (Nat×Box V.E)} {rs ws:List Nat} {ac:Acc}
theorem B6b (M:Bk V.T C bx β w) {id:Nat} {e:TypeId} {u:Ty} {xs:List (u.den V.E)} {v:Nat} {fz:Bool} (hb:Ae id bx=some (.arr e u xs v fz)):
 ∃a cap,(β id).hdr= .slice a xs.length cap:=by
 have hB:=M.boxes id _ hb
 cases fz with
 |false=>
  obtain⟨_,css,⟨_,h⟩,_⟩:=hB
  rcases h with⟨h,h2⟩|⟨g,cap,cur,h,_⟩
  ·exact⟨_,_,by rw[h,h2]⟩
  ·exact⟨_,_,h⟩
 |true=>obtain⟨_,⟨a,cap,h,_⟩,_⟩:=hB;simp at h;exact⟨a,cap,h⟩
theorem B29 (M:Bk V.T C bx β w) {id:Nat} {e e2:TypeId} {u:Ty} {xss:List (List (u.den V.E))} {v rv:Nat} {fz:RS} (hb:Ae id bx=some (.rows e e2 u xss v rv fz)):
 ∃a cap,(β id).hdr= .slice a xss.length cap:=by
 have hB:=M.boxes id _ hb
 cases fz with
 |opn=>
  obtain⟨⟨_,h⟩,_,_⟩:=hB
  rcases h with⟨h,h2⟩|⟨g,cap,cur,h,_⟩
  ·exact⟨_,_,by rw[h,h2]⟩
  ·exact⟨_,_,h⟩
 |shut=>obtain⟨_,⟨a,cap,h,_⟩,_⟩:=hB;simp at h;exact⟨a,cap,h⟩
 |mix p q=>
  obtain⟨_,_,_,_,_,_,⟨_,h⟩,_,_⟩:=hB
  rcases h with⟨h,h2⟩|⟨g,cap,cur,h,_⟩
  ·exact⟨_,_,by rw[h,h2]⟩
  ·exact⟨_,_,h⟩
theorem Car (M:Bk V.T C bx β w) {t:TypeId} {i:TI V.E} {info:TypeInfo} {d:TypeDesc} {z:Value} (I:Cw V P t i info d z) (r:List TypeId)
 {a:SV V.E} {va:Value} (ha:SR V C bx β w a va) (h:Ac V bx (A8j V i.kind a) rs ws=some (res,cs,bx',ac)) (ty:TypeId):
 VOk V.T C bx β w res bx' ((Builtin.len_ (t::r).toArray ty #[va]).run P w):=by
 have hu:=I.under
 have hk:=I.kind
 have slen:∀a n c e,i.kind= .slice e->(Builtin.len_ (t::r).toArray ty #[.slice a n c]).run P w= .ok (.int .i64 n) w:=by
  intro a n c e he
  rw[he]at hk
  cases d<;>simp[Gg]at hk
  simp[Builtin.len_,run_underlying hu,goInt]
 unfold A8j at h
 split at h
 ·rename_i s he
  obtain⟨rfl,_,rfl⟩:=Aq h
  simp only[SR,Az,Ar,Ad]at ha
  subst ha
  rw[he]at hk
  cases d<;>simp[Gg]at hk
  have:(Builtin.len_ (t::r).toArray ty #[.string ⟨s.toArray⟩]).run P w= .ok (.int .i64 s.length) w:=by
   have hsz:ByteArray.size ⟨s.toArray⟩=s.length:=List.size_toArray
   simp[Builtin.len_,run_underlying hu,goInt,hsz]
  rw[this]
  exact .pure M rfl
 ·rename_i u st xs e he
  obtain⟨rfl,_,rfl⟩:=Aq h
  simp only[SR,Az,Ar,Ad]at ha
  obtain⟨a,cap,hv,_⟩:=ha
  simp only[List.cons.injEq,and_true,List.length_map]at hv
  subst hv
  rw[slen _ _ _ _ he]
  exact .pure M rfl
 ·rename_i e id ver he
  simp only[SR,Az,Ar,Ad]at ha
  simp only[Ac]at h
  split at h
  ·rename_i e' u xs v fz hb
   split at h
   ·rename_i hv
    obtain⟨rfl,_,rfl⟩:=Aq h
    rw[hb]at ha
    have ha:=ha.2.2 (Ah hv)
    obtain⟨a,cap,hh⟩:=B6b M hb
    rw[ha,hh,slen _ _ _ _ he]
    exact .pure M rfl
   ·simp[Ac]at h
  ·rename_i e' e2 u xss v rv fz hb
   split at h
   ·rename_i hv
    obtain⟨rfl,_,rfl⟩:=Aq h
    rw[hb]at ha
    have ha:=ha.2.2 (Ah hv)
    obtain⟨a,cap,hh⟩:=B29 M hb
    rw[ha,hh,slen _ _ _ _ he]
    exact .pure M rfl
   ·simp[Ac]at h
  ·simp[Ac]at h
 ·rename_i e id ver o n he
  simp only[SR,Az,Ar,Ad]at ha
  simp only[Ac]at h
  split at h
  ·rename_i e' u xs v fz hb
   split at h
   ·rename_i hv
    obtain⟨rfl,_,rfl⟩:=Aq h
    rw[hb]at ha
    obtain⟨i0,n0,hin,b,cap,hh,hic,rfl⟩:=ha.2.2 (Ah hv)
    rw[slen _ _ _ _ he,Int.toNat_of_nonneg n0]
    exact .pure M rfl
   ·simp[Ac]at h
  ·simp[Ac]at h
 ·rename_i e id ver rv j he
  simp only[SR,Az,Ar,Ad]at ha
  simp only[Ac]at h
  split at h
  ·rename_i e' e2 u xss v rv' hb
   split at h
   ·rename_i hv
    simp only[Bool.and_eq_true]at hv
    obtain⟨rfl,_,rfl⟩:=Aq h
    rw[hb]at ha
    obtain⟨j0,jl,hr⟩:=(ha.2.2 (Ah hv.1)).2 (Ah hv.2)
    obtain⟨_,_,e4⟩:=M.boxes id _ hb
    have hj:j.toNat<xss.length:=by omega
    obtain⟨x,hx,css,⟨_,hA⟩,_⟩:=e4.get j.toNat (xss.getD j.toNat []) (by rw[List.getD_eq_getElem?_getD,List.getElem?_eq_getElem hj];rfl)
    rw[hr]at hx;cases hx
    have:∃a cap,va= .slice a (xss.getD j.toNat []).length cap:=by
     rcases hA with⟨h,h2⟩|⟨g,cap,cur,h,_⟩
     ·exact⟨_,_,by rw[h,h2]⟩
     ·exact⟨_,_,h⟩
    obtain⟨a,cap,rfl⟩:=this
    rw[slen _ _ _ _ he]
    exact .pure M rfl
   ·simp[Ac]at h
  ·simp[Ac]at h
 ·simp[Ac]at h
theorem B16 (M:Bk V.T C bx β w) {t:TypeId} (hu:P.underlying t=some .string) (s:List UInt8) (k:IntKind) (i:Int) (hi:Af i s.length):
 VOk V.T C bx β w (some (.cv (.one (.int .u8 (s.getD i.toNat 0).toNat)))) bx ((Instr.index t (.string ⟨s.toArray⟩) (.int k i)).run P w):=by
 obtain⟨h0,h1⟩:=hi
 have hlt:i.toNat<s.length:=by omega
 have:(⟨s.toArray⟩:ByteArray)[i.toNat]?=some (s.getD i.toNat 0):=by
  have hsz:i.toNat<(⟨s.toArray⟩:ByteArray).size:=by
   have:ByteArray.size ⟨s.toArray⟩=s.length:=List.size_toArray
   omega
  rw[getElem?_pos (⟨s.toArray⟩:ByteArray) i.toNat hsz]
  rw[List.getD_eq_getElem?_getD,List.getElem?_eq_getElem hlt]
  rfl
 have hr:(Instr.index t (.string ⟨s.toArray⟩) (.int k i)).run P w= .ok (.int .u8 (s.getD i.toNat 0).toNat) w:=by
  simp only[Instr.index,asIntOf,Sem.run_bind,Sem.run_pure,Result.andThen_ok,run_underlying hu,h0,if_true,this]
 rw[hr]
 exact .pure M rfl
theorem B0o (M:Bk V.T C bx β w) (op:BinOp) (t:TypeId) (k:IntKind) (a b:Int)
 (h:Ac V bx (Bne V op k a b) rs ws=some (res,cs,bx',ac)) (hc:Fj cs):VOk V.T C bx β w res bx' ((binOp op t (.int k a) (.int k b)).run P w):=by
 have fin:∀{l:Av V.E} {p:List Cd} {v:Value},Ac V bx (.one l p) rs ws=some (res,cs,bx',ac)->Ad V.T bx β (A2 C β w) w l v->(Fj p->(binOp op t (.int k a) (.int k b)).run P w= .ok v w)->
  VOk V.T C bx β w res bx' ((binOp op t (.int k a) (.int k b)).run P w):=by
  intro l p v h1 hv h2
  obtain⟨rfl,rfl,rfl⟩:=Aq h1
  rw[h2 hc]
  exact .pure M hv
 unfold Bne at h
 split at h
 ·exact fin h (v:= .int k (k.wrap (a+b))) rfl λ _=>by simp[binOp,Op.intArith]
 ·exact fin h (v:= .int k (k.wrap (a-b))) rfl λ _=>by simp[binOp,Op.intArith]
 ·exact fin h (v:= .int k (k.wrap (a*b))) rfl λ _=>by simp[binOp,Op.intArith]
 ·exact fin h (v:= .int k (k.wrap (a.tdiv b))) rfl λ hp=>by simp[binOp,Op.intDiv,show b≠0 from hp.1]
 ·exact fin h (v:= .int k (a.tmod b)) rfl λ hp=>by simp[binOp,Op.intDiv,show b≠0 from hp.1]
 ·exact fin h (v:= .int k (k.wrap (BitVec.ofInt k.bits a&&& BitVec.ofInt k.bits b).toNat)) rfl λ _=>by simp[binOp,Op.intBits]
 ·exact fin h (v:= .int k (k.wrap (BitVec.ofInt k.bits a|||BitVec.ofInt k.bits b).toNat)) rfl λ _=>by simp[binOp,Op.intBits]
 ·exact fin h (v:= .int k (k.wrap (BitVec.ofInt k.bits a^^^BitVec.ofInt k.bits b).toNat)) rfl λ _=>by simp[binOp,Op.intBits]
 ·exact fin h (v:= .bool (decide (a=b))) rfl λ _=>by simp[binOp,Op.intCmp];rfl
 ·exact fin h (v:= .bool (!decide (a=b))) rfl λ _=>by simp[binOp,Op.intCmp];rfl
 ·exact fin h (v:= .bool (decide (a<b))) rfl λ _=>by simp[binOp,Op.intCmp]
 ·exact fin h (v:= .bool (decide (a<=b))) rfl λ _=>by simp[binOp,Op.intCmp]
 ·exact fin h (v:= .bool (decide (b<a))) rfl λ _=>by simp[binOp,Op.intCmp]
 ·exact fin h (v:= .bool (decide (b<=a))) rfl λ _=>by simp[binOp,Op.intCmp]
 ·simp[Ac]at h
theorem Byf (M:Bk V.T C bx β w) (op:BinOp) (t:TypeId) (a b:List UInt8)
 (h:Ac V bx (Bmj V op a b) rs ws=some (res,cs,bx',ac)) (hc:Fj cs):VOk V.T C bx β w res bx' ((binOp op t (.string ⟨a.toArray⟩) (.string ⟨b.toArray⟩)).run P w):=by
 have fin:∀{l:Av V.E} {p:List Cd} {v:Value},Ac V bx (.one l p) rs ws=some (res,cs,bx',ac)->Ad V.T bx β (A2 C β w) w l v->(Fj p->(binOp op t (.string ⟨a.toArray⟩) (.string ⟨b.toArray⟩)).run P w= .ok v w)->
  VOk V.T C bx β w res bx' ((binOp op t (.string ⟨a.toArray⟩) (.string ⟨b.toArray⟩)).run P w):=by
  intro l p v h1 hv h2
  obtain⟨rfl,rfl,rfl⟩:=Aq h1
  rw[h2 hc]
  exact .pure M hv
 have hb:(a==b)=decide (a=b):=by rw[Bool.eq_iff_iff];simp
 have ta:(ByteArray.mk a.toArray).toList=a:=ByteArray.toList_mk a
 have tb:(ByteArray.mk b.toArray).toList=b:=ByteArray.toList_mk b
 unfold Bmj at h
 split at h
 ·refine fin h (v:= .string ⟨(a++b).toArray⟩) rfl λ hp=> ?_
  have hp:a.length+b.length<=At:=hp.1
  unfold At at hp
  have e1:ByteArray.size ⟨a.toArray⟩=a.length:=List.size_toArray
  have e2:ByteArray.size ⟨b.toArray⟩=b.length:=List.size_toArray
  have e3:(ByteArray.mk a.toArray++ByteArray.mk b.toArray)=ByteArray.mk (a++b).toArray:=by
   apply ByteArray.ext;simp
  have e4:¬(((a.length+b.length:Nat):Int)>IntKind.i64.max):=by
   have:IntKind.i64.max=9223372036854775807:=by decide
   rw[this];omega
  simp only[binOp,Op.stringOp,e1,e2,e3,if_neg e4,Sem.run_pure]
 ·exact fin h (v:= .bool (decide (a=b))) rfl λ _=>by simp only[binOp,Op.stringOp,ta,tb,hb];rfl
 ·exact fin h (v:= .bool (!decide (a=b))) rfl λ _=>by simp only[binOp,Op.stringOp,ta,tb,hb];rfl
 ·exact fin h (v:= .bool (Op.bytesLess a b)) rfl λ _=>by simp only[binOp,Op.stringOp,ta,tb];rfl
 ·exact fin h (v:= .bool (Op.bytesLess a b||decide (a=b))) rfl λ _=>by simp only[binOp,Op.stringOp,ta,tb,hb];rfl
 ·exact fin h (v:= .bool !(Op.bytesLess a b||decide (a=b))) rfl λ _=>by simp only[binOp,Op.stringOp,ta,tb,hb];rfl
 ·exact fin h (v:= .bool !(Op.bytesLess a b)) rfl λ _=>by simp only[binOp,Op.stringOp,ta,tb];rfl
 ·simp[Ac]at h
end
end Go.Ab
