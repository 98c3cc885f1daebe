/- Stores. Made slices, appends, what is frozen. What append comes to, with the block that it leaves. Appends to arrays of one's own. Conditions: none beyond those that each theorem names. -/
import Derived.Test.YtgngflkahbpecaaGreatDoorP03
set_option linter.unusedSimpArgs false
set_option linter.unusedVariables false
namespace Go.Ab
open Go
section
variable {V:Env} {P:Program} {C:Ctx} {bx:List (Nat×Box V.E)} {β:Nat->BI} {w:World}
variable {res:Option (SV V.E)} {cs:List Cd} {bx':List (Nat×Box V.E)} {rs ws:List Nat} {ac:Acc}
theorem B4k (HT:V.T.Ok) (M:Bk V.T C bx β w) {t:TypeId} {i:TI V.E} {info:TypeInfo} {d:TypeDesc} {z:Value} (I:Cw V P t i info d z)
 {a v:SV V.E} {va vv:Value} (ha:SR V C bx β w a va) (hv:SR V C bx β w v vv)
 (h:Ac V bx (As0 V i a v) rs ws=some (res,cs,bx',ac)) (hc:Fj cs):UOk V.T C bx β w res bx' ((Instr.storeAt t va vv).run P w):=by
 unfold As0 at h
 split at h
 ·-- into a box of cells
  rename_i id off c
  simp only[Ac]at h
  split at h
  ·rename_i ls hb
   split at h
   ·rename_i hlen
    split at h
    ·rename_i ls' hs
     simp only[Ac,done,Option.some.injEq,Prod.mk.injEq]at h
     obtain⟨rfl,_,rfl,_⟩:=h
     have hlen:=Ah hlen
     simp only[SR,Az,Ar,Ad,hb]at ha
     obtain⟨_,rfl⟩:=ha
     have hvc:=Ar.cells hv
     obtain⟨cc,e,hown,hheap,hall⟩:=M.boxes id _ hb
     have hpos:0<c.leaves.length:=by rw[hlen];exact I.pos
     obtain⟨hnew,hle⟩:=A1v hall hvc hs hpos
     have hvl:vv.cells.toList.length=i.size:=by rw[<-hvc.length,hlen]
     have hvs:vv.cells.size=i.size:=by rw[<-Array.length_toList];exact hvl
     rw[Lg I hheap hvs (by rw[hvl]at hle;simpa using hle) (Bbl hvc)]
     obtain⟨M',X⟩:=M.set (w':=w.setRow (β id).blk (cc.toList.take off++vv.cells.toList++cc.toList.drop (off+vv.cells.toList.length)).toArray) id (.cells ls') (β id) rfl rfl rfl (by simp)
      (λ x _ hx=>setRow_other _ _ _ _ (by rintro rfl;rw[hown]at hx;simp at hx)) (λ x hx=> .inl hx) (M.nodup id)
      (λ b0 h0=>by rw[hb]at h0;cases h0;exact Bnb _ _ rfl _ _)
      (λ X=>⟨_,e,by rw[A6];exact hown,by rw[A6];exact setRow_heap _ _ _ _ _ _ hheap,Ba.ext X (by simpa using hnew)⟩)
     exact⟨_,_,rfl,rfl,M',X⟩
    ·simp[Ac]at h
   ·simp[Ac]at h
  ·simp[Ac]at h
 ·-- into an element of a box
  rename_i id ver j off c
  simp only[Ac]at h
  split at h
  ·rename_i e u xs v hb
   split at h
   ·rename_i hlen
    simp only[Bool.and_eq_true]at hlen
    split at h
    ·rename_i ls' hs
     split at h
     ·rename_i y hy
      simp only[Ac,done,Option.some.injEq,Prod.mk.injEq]at h
      obtain⟨rfl,_,rfl,_⟩:=h
      have hl:=Ah hlen.2
      simp only[SR,Az,Ar,Ad,hb]at ha
      obtain⟨_,hle,ha⟩:=ha
      obtain⟨h0,hlt,b,n,cap,hh,rfl⟩:=ha (Ah hlen.1)
      have hvc:=Ar.cells hv
      obtain⟨hown,hA⟩:=M.boxes id _ hb
      have hbo:b∈(β id).own:=by rw[hown,hh];simp[Value.ownBlock]
      have hpos:0<c.leaves.length:=by rw[hl];exact I.pos
      have hvl:vv.cells.toList.length=i.size:=by rw[<-hvc.length,hl]
      have hvs:vv.cells.size=i.size:=by rw[<-Array.length_toList];exact hvl
      obtain⟨cc,hheap,hsz,fin⟩:=Bke HT hA (i:=j.toNat) (by omega) hh hpos hvc hs hy
      rw[Lg I hheap hvs (by rw[hvl]at hsz;exact hsz) (Bbl hvc)]
      obtain⟨M',X⟩:=M.set (w':=w.setRow b (cc.toList.take (j.toNat*u.sz V.T+off)++vv.cells.toList++cc.toList.drop (j.toNat*u.sz V.T+off+vv.cells.toList.length)).toArray)
       id (.arr e u (xs.set j.toNat y) v false) (β id) rfl rfl rfl (by simp)
       (λ x _ hx=>setRow_other _ _ _ _ (by rintro rfl;exact hx hbo)) (λ x hx=> .inl hx) (M.nodup id)
       (λ b0 h0=>by rw[hb]at h0;cases h0;exact⟨rfl,Nat.le_refl _,λ _=>⟨rfl,by simp⟩⟩)
       (λ X=>⟨by rw[A6];exact hown,by rw[A6];exact fin _ _ X.later (setRow_heap _ _ _ _ _ _ hheap)⟩)
      exact⟨_,_,rfl,rfl,M',X⟩
     ·simp[Ac]at h
    ·simp[Ac]at h
   ·simp[Ac]at h
  ·-- a row
   rename_i e e2 u xss v rv hb
   split at h
   ·rename_i id2 ver2
    simp only[Ac]at h
    split at h
    ·rename_i e3 u2 ys v2 hb2
     split at h
     ·rename_i hlen
      simp only[Bool.and_eq_true,Bool.not_eq_true']at hlen
      obtain⟨⟨⟨⟨⟨q1,q2⟩,q3⟩,q4⟩,q5⟩,q6⟩:=hlen
      have q3:=Ah q3
      have q5:=Ah q5
      have q6:=Ah q6
      have hne:id≠id2:=by rintro rfl;simp at q4
      subst q3 q5
      split at h
      ·rename_i hu
       subst hu
       simp only[Ac,done,Wf,Option.some.injEq,Prod.mk.injEq]at h
       obtain⟨rfl,_,rfl,_⟩:=h
       simp only[SR,Az,Ar,Ad,hb]at ha
       simp only[SR,Az,Ar,Ad,hb2]at hv
       obtain⟨_,hle,ha⟩:=ha
       obtain⟨h0,hlt,b,n,cap,hh,rfl⟩:=ha (Ah q1)
       have hvv:=hv.2.2 (Ah q2)
       obtain⟨hown2,hA2⟩:=M.boxes id2 _ hb2
       exact Bkc M I q6 hb hne h0 hlt hh hv.1 (by intro b' hb';rw[hown2,<-hvv,hb'];simp) (by rw[hvv];exact hA2)
      ·simp[Ac]at h
     ·simp[Ac]at h
    ·simp[Ac]at h
   ·-- a row of rows
    rename_i id2 ver2 rv2 k
    split at h
    ·rename_i hlen
     simp only[Bool.and_eq_true]at hlen
     obtain⟨⟨q1,q3⟩,q6⟩:=hlen
     have q3:=Ah q3
     have q6:=Ah q6
     subst q3
     simp only[SR,Az,Ar,Ad,hb]at ha
     obtain⟨_,hle,ha⟩:=ha
     obtain⟨h0,hlt,b,n,cap,hh,rfl⟩:=ha (Ah q1)
     split at h
     ·rename_i hid
      have hid:=Ah hid
      subst hid
      split at h
      ·rename_i hr
       simp only[Bool.and_eq_true]at hr
       simp only[Ac,done,Option.some.injEq,Prod.mk.injEq]at h
       obtain⟨rfl,_,rfl,_⟩:=h
       simp only[SR,Az,Ar,Ad,hb]at hv
       obtain⟨hv1,_,hv⟩:=hv
       obtain⟨_,hv⟩:=hv (Ah hr.1)
       obtain⟨k0,klt,hk⟩:=hv (Ah hr.2)
       exact Btb M I q6 hb h0 hlt hh hv1 k0 klt hk
      ·simp[Ac]at h
     ·rename_i hid
      have hne:id≠id2:=by rintro rfl;simp at hid
      simp only[Ac]at h
      split at h
      ·rename_i e3 e4 u2 yss v2 rv3 hb2
       split at h
       ·rename_i hlen2
        simp only[Bool.and_eq_true]at hlen2
        obtain⟨⟨p1,p2⟩,p3⟩:=hlen2
        have p3:=Ah p3
        subst p3
        split at h
        ·rename_i hu
         subst hu
         simp only[Ac,done,Wf,Option.some.injEq,Prod.mk.injEq]at h
         obtain⟨rfl,_,rfl,_⟩:=h
         simp only[SR,Az,Ar,Ad,hb2]at hv
         obtain⟨hv1,_,hv⟩:=hv
         obtain⟨_,hv⟩:=hv (Ah p1)
         obtain⟨k0,klt,hk⟩:=hv (Ah p2)
         obtain⟨_,hown2,hA2⟩:=M.boxes id2 _ hb2
         obtain⟨x',hx',hr⟩:=hA2.get k.toNat (yss.getD k.toNat []) (Alq (by omega) _)
         rw[hk]at hx';cases hx'
         exact Bkc M I q6 hb hne h0 hlt hh hv1 (λ b' hb'=>by rw[hown2];exact List.mem_append.2 (.inr (List.mem_flatMap.2 ⟨vv,List.mem_of_getElem? hk,by rw[hb'];simp⟩))) hr
        ·simp[Ac]at h
       ·simp[Ac]at h
      ·simp[Ac]at h
    ·simp[Ac]at h
   ·simp[Ac]at h
  ·-- the second of two rows that turn places
   rename_i e e2 u xss v rv p q hb
   split at h
   ·rename_i id2 ver2 rv2 k
    split at h
    ·rename_i hlen
     simp only[Bool.and_eq_true]at hlen
     obtain⟨⟨⟨⟨⟨q1,q2⟩,q3⟩,q4⟩,q5⟩,q6⟩:=hlen
     have q3:=Ah q3
     have q4:=Ah q4
     have q6:=Ah q6
     subst q3 q4
     simp only[Ac,Option.some.injEq,Prod.mk.injEq]at h
     obtain⟨rfl,rfl,rfl,_⟩:=h
     obtain⟨c1,c2,_⟩:=hc
     subst c1 c2
     simp only[SR,Az,Ar,Ad,hb]at ha hv
     obtain⟨_,hle,ha⟩:=ha
     obtain⟨h0,hlt,b,n,cap,hh,rfl⟩:=ha (Ah q1)
     obtain⟨hv1,_,hv⟩:=hv
     obtain⟨_,hv⟩:=hv (Ah q2)
     obtain⟨k0,klt,hk⟩:=hv (Ah q5)
     exact Bu5 M I q6 hb hh hv1 hk
    ·simp[Ac]at h
   ·simp[Ac]at h
  ·simp[Ac]at h
 ·-- into an element of a row
  rename_i id ver rv j k off c
  simp only[Ac]at h
  split at h
  ·rename_i e e2 u xss v rv' hb
   split at h
   ·rename_i hlen
    simp only[Bool.and_eq_true]at hlen
    split at h
    ·rename_i ls' hs
     split at h
     ·rename_i y hy
      simp only[Ac,done,Option.some.injEq,Prod.mk.injEq]at h
      obtain⟨rfl,_,rfl,_⟩:=h
      have hl:=Ah hlen.2
      simp only[SR,Az,Ar,Ad,hb]at ha
      obtain⟨_,hle,ha⟩:=ha
      obtain⟨hle2,ha⟩:=ha (Ah hlen.1.1)
      obtain⟨j0,jl,k0,kl,b,n,cap,hh,rfl⟩:=ha (Ah hlen.1.2)
      have hvc:=Ar.cells hv
      obtain⟨hO,hown,hA⟩:=M.boxes id _ hb
      have hj:j.toNat<xss.length:=by omega
      obtain⟨x,hx,hrow⟩:=hA.get j.toNat (xss.getD j.toNat []) (by rw[List.getD_eq_getElem?_getD,List.getElem?_eq_getElem hj];rfl)
      rw[hh]at hx;cases hx
      have hbo:b∈(β id).own:=by
       rw[hown]
       exact List.mem_append.2 (.inr (List.mem_flatMap.2 ⟨_,List.mem_of_getElem? hh,by simp[Value.ownBlock]⟩))
      have hpos:0<c.leaves.length:=by rw[hl];exact I.pos
      have hvl:vv.cells.toList.length=i.size:=by rw[<-hvc.length,hl]
      have hvs:vv.cells.size=i.size:=by rw[<-Array.length_toList];exact hvl
      obtain⟨cc,hheap,hsz,fin⟩:=Bke HT hrow (i:=k.toNat) (by omega) rfl hpos hvc hs hy
      rw[Lg I hheap hvs (by rw[hvl]at hsz;exact hsz) (Bbl hvc)]
      have hnd:=M.nodup id
      rw[hown]at hnd
      have hnd1:=List.nodup_append.1 hnd
      have hbnot:∀b',(β id).hdr.ownBlock=some b'->b'≠b:=by
       intro b' hb' e
       subst e
       exact hnd1.2.2 b' (by rw[hb'];simp) b' (List.mem_flatMap.2 ⟨_,List.mem_of_getElem? hh,by simp[Value.ownBlock]⟩) rfl
      have hrows:∀m x,m≠j.toNat->(β id).rows[m]?=some x->∀b',x.ownBlock=some b'->b'≠b:=by
       intro m x hm hx b' hb' e
       subst e
       exact hm (Bka hnd1.2.1 m j.toNat x _ b' hx hh hb' rfl)
      obtain⟨M',X⟩:=M.set (w':=w.setRow b (cc.toList.take (k.toNat*u.sz V.T+off)++vv.cells.toList++cc.toList.drop (k.toNat*u.sz V.T+off+vv.cells.toList.length)).toArray)
       id (.rows e e2 u (xss.set j.toNat ((xss.getD j.toNat []).set k.toNat y)) v rv .opn) (β id) rfl rfl rfl (by simp)
       (λ x _ hx=>setRow_other _ _ _ _ (by rintro rfl;exact hx hbo)) (λ x hx=> .inl hx) (M.nodup id)
       (λ b0 h0=>by
        rw[hb]at h0;cases h0
        have e':=Ah hlen.1.2
        refine⟨rfl,Nat.le_refl _,λ _=>⟨rfl,by simp,by omega,λ _=>⟨rfl,λ m=> ?_⟩⟩⟩
        by_cases hm:m=j.toNat
        ·subst hm
         rw[List.getD_eq_getElem?_getD,List.getElem?_set_self hj];simp
        ·rw[List.getD_eq_getElem?_getD,List.getElem?_set_ne (by omega),<-List.getD_eq_getElem?_getD])
       (λ X=>by
        refine⟨?_,by rw[A6];exact hown, ?_⟩
        ·rw[A6,List.length_set]
         exact Acn hO λ b' hb'=>setRow_other _ _ _ _ (hbnot b' hb')
        ·rw[A6]
         refine Ba.of_get (by rw[List.length_set];exact hA.length) λ m xs x hm hx=> ?_
         by_cases hmj:m=j.toNat
         ·subst hmj
          rw[List.getElem?_set_self hj]at hm;cases hm
          rw[hh]at hx;cases hx
          exact fin _ _ X.later (setRow_heap _ _ _ _ _ _ hheap)
         ·rw[List.getElem?_set_ne (by omega)]at hm
          obtain⟨x',hx',hr⟩:=hA.get m xs hm
          rw[hx]at hx';cases hx'
          exact hr.later X.later λ b' hb'=>setRow_other _ _ _ _ (hrows m x hmj hx b' hb'))
      have e':=Ah hlen.1.2
      subst e'
      exact⟨_,_,rfl,rfl,M',X⟩
     ·simp[Ac]at h
    ·simp[Ac]at h
   ·simp[Ac]at h
  ·simp[Ac]at h
 ·simp[Ac]at h
end
section
variable {V:Env} {P:Program} {C:Ctx} {bx:List (Nat×Box V.E)} {β:Nat->BI} {w:World}
variable {res:Option (SV V.E)} {cs:List Cd} {bx':List (Nat×Box V.E)} {rs ws:List Nat} {ac:Acc}
theorem B3p {ok:Nat->Prop} {e:TypeId} {t:Ty} {xs:List (t.den V.E)} {hdr:Value} (h:Lh V.T ok w e t xs hdr) (hok:∀b,hdr.ownBlock=some b->ok b):
 Arb V.T ok w t false xs hdr/\(xs≠[]->∃b cap,hdr= .slice (some ⟨b,0,none⟩) xs.length cap):=by
 have h':=h
 obtain⟨css,⟨h1,h2⟩,h3⟩:=h
 rcases h2 with⟨rfl,h0⟩|⟨b,cap,cur,rfl,k1,k2,k3,k4,k5,k6⟩
 ·have:xs=[]:=List.eq_nil_of_length_eq_zero h0
  subst this
  exact⟨⟨none,0,by simp,by simp,λ _=>rfl,λ _ _=>rfl,λ ad h=>by cases h⟩,λ h=>(h rfl).elim⟩
 ·refine⟨⟨some ⟨b,0,none⟩,cap,by simp,by simpa using k3,(λ h=>by cases h),(λ h=>by cases h),λ ad had=> ?_⟩,λ _=>⟨b,cap,rfl⟩⟩
  cases had
  refine⟨λ _=>rfl,Fp.mk _ _ _ λ i x hx=> ?_⟩
  rw[List.getElem?_map]at hx
  have hi:i<xs.length:=by
   rcases Nat.lt_or_ge i xs.length with h|h
   ·exact h
   ·rw[List.getElem?_eq_none h]at hx;simp at hx
  rw[Alq hi (t.df V.T)]at hx
  simp at hx;subst hx
  obtain⟨b',cap',cur',cz,e1,e2,e3,e4,_,e6⟩:=Axg h' hi
  cases e1
  rw[k2]at e2;cases e2
  exact⟨cz,e3,e4,hok b rfl,λ j v hv=>by rw[Nat.zero_add,C8 k2];exact e6 j v hv⟩
theorem A9e (M:Bk V.T C bx β w) {id:Nat} {x:Nat} (hx:x∈(β id).own) (i':BI) (hi:i'.own=[]):A2 C (upd β id i') w x:=by
 obtain⟨h1,h2⟩:=M.mine id x hx
 refine⟨h1, ?_,λ j hj=> ?_⟩
 ·rcases h2 with h|h
  ·exact .inr (.inl h)
  ·exact .inr (.inr h)
 ·by_cases hji:j=id
  ·subst hji;rw[A6,hi]at hj;simp at hj
  ·rw[Di _ _ hji]at hj;exact hji (M.apart j id x hj hx)
theorem Bou (M:Bk V.T C bx β w) {id:Nat} {e:TypeId} {t:Ty} {xs:List (t.den V.E)} {v:Nat} (hb:Ae id bx=some (.arr e t xs v false)):
 ∃β',Bk V.T C (put id (.arr e t xs v true) bx) β' w/\Ext V.T bx β (A2 C β w) w (put id (.arr e t xs v true) bx) β' (A2 C β' w) w/\(β' id).hdr=(β id).hdr/\∀j,j≠id->β' j=β j:=by
 obtain⟨hown,hA⟩:=M.boxes id _ hb
 obtain⟨M',X⟩:=M.frozen id _ (.arr e t xs v true) hb ⟨rfl,Nat.le_refl _,λ _=>⟨rfl,rfl⟩⟩ λ X=>by
  refine⟨by rw[A6], ?_⟩
  rw[A6]
  exact B3p (hA.later X.later λ _ _=>rfl) λ b hb=>A9e M (by rw[hown,hb];simp) _ rfl
 exact⟨_,M',X,by rw[A6],λ j hj=>Di _ _ hj⟩
theorem Bni (M:Bk V.T C bx β w) {id:Nat} {e e2:TypeId} {t:Ty} {xss:List (List (t.den V.E))} {v rv:Nat} (hb:Ae id bx=some (.rows e e2 t xss v rv .opn)):
 ∃β',Bk V.T C (put id (.rows e e2 t xss v rv .shut) bx) β' w/\Ext V.T bx β (A2 C β w) w (put id (.rows e e2 t xss v rv .shut) bx) β' (A2 C β' w) w/\(β' id).hdr=(β id).hdr/\∀j,j≠id->β' j=β j:=by
 obtain⟨hO,hown,hA⟩:=M.boxes id _ hb
 obtain⟨M',X⟩:=M.frozen id _ (.rows e e2 t xss v rv .shut) hb ⟨rfl,Nat.le_refl _,λ _=>⟨rfl,rfl,Nat.le_refl _,λ _=>⟨rfl,λ _=>rfl⟩⟩⟩ λ X=>by
  refine⟨by rw[A6], ?_⟩
  rw[A6]
  show Arb V.T _ w (.sl t) false xss (β id).hdr/\_
  obtain⟨l1,l2⟩:=hO
  rcases l2 with⟨l2,l3⟩|⟨g,cap,cur,l2,_,l3,l4,l5,l6,l7⟩
  ·have:xss=[]:=List.eq_nil_of_length_eq_zero l3
   subst this
   rw[l2]
   exact⟨⟨none,0,by simp,by simp,λ _=>rfl,λ _ _=>rfl,λ ad h=>by cases h⟩,λ h=>(h rfl).elim⟩
  ·refine⟨⟨some ⟨g,0,none⟩,cap,by rw[l2];simp,by simpa using l4,(λ h=>by cases h),(λ h=>by cases h),λ ad had=> ?_⟩,λ _=>⟨g,cap,l2⟩⟩
   cases had
   refine⟨λ _=>rfl,Fp.mk _ _ _ λ i x hx=> ?_⟩
   rw[List.getElem?_map]at hx
   cases hxs:xss[i]? with
   |none=>rw[hxs]at hx;simp at hx
   |some xs=>
    rw[hxs]at hx;simp at hx;subst hx
    obtain⟨y,hy,hr⟩:=hA.get i xs hxs
    refine⟨[y],(B3p (hr.later X.later λ _ _=>rfl) λ b hb=>A9e M (by rw[hown];exact List.mem_append.2 (.inr (Y3.2 ⟨y,List.mem_of_getElem? hy,hb⟩))) _ rfl).1,rfl,A9e M (by rw[hown,l2];simp[Value.ownBlock]) _ rfl,λ j u hu=> ?_⟩
    have hj:j=0:=by
     have:=(List.getElem?_eq_some_iff.1 hu).1;simp at this;exact this
    subst hj
    simp at hu;subst hu
    show w.cell? ⟨g,0+i*1+0,none⟩=some y
    rw[C8 l3]
    rw[<-l7,List.getElem?_take]at hy
    split at hy
    ·rw[<-Array.getElem?_toList];simpa using hy
    ·cases hy
 exact⟨_,M',X,by rw[A6],λ j hj=>Di _ _ hj⟩
theorem Az5 {bx bx1:List (Nat×Box V.E)} {β β1:Nat->BI} (X:Ext V.T bx β (A2 C β w) w bx1 β1 (A2 C β1 w) w) {t:Ty} {st:Bool} {xs:List (t.den V.E)} {v:Value} (h:Arb V.T (A2 C β w) w t st xs v):
 Ad V.T bx1 β1 (A2 C β1 w) w (.sl t st xs) v:=Bl.later X.later _ _ h
def Ajp (bx:List (Nat×Box V.E)) (β:Nat->BI) (bx1:List (Nat×Box V.E)) (β1:Nat->BI):Prop:=
 ∀j,Ae j bx=some .gone->Ae j bx1=some .gone/\β1 j=β j
theorem Xs:∀(ls:List (Av V.E)) (vs:List Value) (bx:List (Nat×Box V.E)) (β:Nat->BI),Bk V.T C bx β w->Ba (Ad V.T bx β (A2 C β w) w) ls vs->
 ∀(k:List (Av V.E)->B0 V.E) (rs ws:List Nat),Ac V bx (frz V ls k) rs ws=some (res,cs,bx',ac)->
 ∃bx1 β1 ls' rs' ws',Bk V.T C bx1 β1 w/\Ext V.T bx β (A2 C β w) w bx1 β1 (A2 C β1 w) w/\Ba (Ad V.T bx1 β1 (A2 C β1 w) w) ls' vs/\
  Ac V bx1 (k ls') rs' ws'=some (res,cs,bx',ac)/\Ajp bx β bx1 β1
 |[],_,bx,β,M,.nil,k,rs,ws,h=>⟨bx,β,[],rs,ws,M,Ext.refl _ _ _ _ _,.nil,h,λ j hj=>⟨hj,rfl⟩⟩
 |l::ls,x::vs,bx,β,M,.cons h1 h2,k,rs,ws,h=>by
  have plain:∀(h:Ac V bx (frz V ls λ r=>k (l::r)) rs ws=some (res,cs,bx',ac)),∃bx1 β1 ls' rs' ws',Bk V.T C bx1 β1 w/\Ext V.T bx β (A2 C β w) w bx1 β1 (A2 C β1 w) w/\Ba (Ad V.T bx1 β1 (A2 C β1 w) w) ls' (x::vs)/\
   Ac V bx1 (k ls') rs' ws'=some (res,cs,bx',ac)/\Ajp bx β bx1 β1:=by
   intro h
   obtain⟨bx1,β1,ls',rs',ws',M1,X1,R1,I1,G1⟩:=Xs ls _ bx β M h2 _ _ _ h
   exact⟨bx1,β1,l::ls',rs',ws',M1,X1,.cons (Ad.ext X1 _ _ h1) R1,I1,G1⟩
  have kept:∀{id:Nat} {b b':Box V.E} {β2:Nat->BI} {bx1:List (Nat×Box V.E)} {β1:Nat->BI},Ae id bx=some b->b≠ .gone->(∀j,j≠id->β2 j=β j)->Ajp (put id b' bx) β2 bx1 β1->Ajp bx β bx1 β1:=by
   intro id b b' β2 bx1 β1 hb hng hβ G j hj
   have hne:j≠id:=by rintro rfl;rw[hb]at hj;exact hng (by cases hj;rfl)
   obtain⟨g1,g2⟩:=G j (by rw[Ay hne];exact hj)
   exact⟨g1,by rw[g2,hβ j hne]⟩
  cases l with
  |ar id ver=>
   simp only[frz,Ac]at h
   split at h
   ·rename_i e t xs v fz hb
    split at h
    ·rename_i hv
     have h1':=h1
     simp only[Ad,hb]at h1'
     have hh:=h1'.2.2 (Ah hv)
     subst hh
     split at h
     ·rename_i hf
      subst hf
      obtain⟨bx1,β1,ls',rs',ws',M1,X1,R1,I1,G1⟩:=Xs ls _ bx β M h2 _ _ _ h
      obtain⟨_,hB,_⟩:=M.boxes id _ hb
      exact⟨bx1,β1,_,rs',ws',M1,X1,.cons (Az5 X1 hB) R1,I1,G1⟩
     ·rename_i hf
      simp only[Bool.not_eq_true]at hf
      subst hf
      simp only[Ac]at h
      obtain⟨β2,M2,X2,e2,e3⟩:=Bou M hb
      obtain⟨bx1,β1,ls',rs',ws',M1,X1,R1,I1,G1⟩:=Xs ls _ _ β2 M2 (Ba.ext X2 h2) _ _ _ h
      obtain⟨_,hB,_⟩:=M2.boxes id _ (Aw _ _ _)
      rw[e2]at hB
      exact⟨bx1,β1,_,rs',ws',M1,X2.trans X1,.cons (Az5 X1 hB) R1,I1,kept hb (by simp) e3 G1⟩
    ·simp[Ac]at h
   ·rename_i e e2 t xss v rv fz hb
    split at h
    ·rename_i hv
     have h1':=h1
     simp only[Ad,hb]at h1'
     have hh:=h1'.2.2 (Ah hv)
     subst hh
     split at h
     ·obtain⟨bx1,β1,ls',rs',ws',M1,X1,R1,I1,G1⟩:=Xs ls _ bx β M h2 _ _ _ h
      obtain⟨_,hB,_⟩:=M.boxes id _ hb
      exact⟨bx1,β1,_,rs',ws',M1,X1,.cons (Az5 X1 hB) R1,I1,G1⟩
     ·simp only[Ac]at h
      obtain⟨β2,M2,X2,e2,e3⟩:=Bni M hb
      obtain⟨bx1,β1,ls',rs',ws',M1,X1,R1,I1,G1⟩:=Xs ls _ _ β2 M2 (Ba.ext X2 h2) _ _ _ h
      obtain⟨_,hB,_⟩:=M2.boxes id _ (Aw _ _ _)
      rw[e2]at hB
      exact⟨bx1,β1,_,rs',ws',M1,X2.trans X1,.cons (Az5 X1 hB) R1,I1,kept hb (by simp) e3 G1⟩
     ·simp[Ac]at h
    ·simp[Ac]at h
   ·simp[Ac]at h
  |_=>exact plain h
theorem B6n (HT:V.T.Ok) {t:TypeId} {i:TI V.E} {info:TypeInfo} {d:TypeDesc} {z:Value} (I:Cw V P t i info d z) {x:i.ty.den V.E} (hx:i.ty.ofL V.T i.zero=some x) (ok:Nat->Prop) (w:World):
 Bl ok w (i.ty.av V.T x) z.cells.toList:=by
 have h1:=Aie (T:=V.T) (bx:=[]) (β:=λ _=>⟨0,.nilIface,[],[]⟩) (ok:=ok) (w:=w) I.zeros
 exact(T0 HT _ _ _).1 (Af0 (Amj HT hx) h1)
theorem Agb {α β:Type} {R:α->β->Prop} {a:α} {b:β} (h:R a b):∀n,Ba R (List.replicate n a) (List.replicate n b)
 |0=> .nil
 |n+1=> .cons h (Agb h n)
theorem B46 (n:Nat):obs (List.replicate n (.slice none 0 0))=[]:=by
 induction n with
 |zero=>rfl
 |succ n ih=>rw[List.replicate_succ];exact ih
theorem B6d {ty:Ty} {u:Ty} (hty:ty= .sl u) {x:ty.den V.E} {zz:List (u.den V.E)} (hz:HEq x zz) {zero:List (Av V.E)} (h:ty.ofL V.T zero=some x) {zs:List Value} (hzs:zls zero zs=true):zz=[]:=by
 subst hty
 have:=eq_of_heq hz;subst this
 simp only[Ty.ofL]at h
 split at h
 ·rename_i t' st xs
  split at h
  ·rename_i e;subst e
   cases h
   cases zs with
   |nil=>simp[zls]at hzs
   |cons v vs=>
    simp only[zls,Bool.and_eq_true]at hzs
    obtain⟨hz,_⟩:=hzs
    cases st<;>cases v<;>simp[zl]at hz
    simp[Wf,hz.1.1.1]
  ·cases h
 ·cases h
theorem B2u {ty:Ty} {u:Ty} (hty:ty= .sl u) {x:ty.den V.E} {zero:List (Av V.E)} (h:ty.ofL V.T zero=some x) {zs:List Value} (hzs:zls zero zs=true):zs=[.slice none 0 0]:=by
 subst hty
 simp only[Ty.ofL]at h
 split at h
 ·rename_i t' st xs
  cases zs with
  |nil=>simp[zls]at hzs
  |cons v vs=>
   simp only[zls,Bool.and_eq_true]at hzs
   obtain⟨hz,hr⟩:=hzs
   cases vs with
   |cons _ _=>simp[zls]at hr
   |nil=>
    cases st<;>cases v<;>simp[zl]at hz
    obtain⟨⟨⟨_,rfl⟩,rfl⟩,rfl⟩:=hz
    rfl
 ·cases h
theorem Bk.newR (M:Bk V.T C bx β w) {id:Nat} (hid:Ae id bx=none) (b:Box V.E) (o:Obj) (hdr:Value) (rows:List Value)
 (hrep:Ext V.T bx β (A2 C β w) w (put id b bx) (upd β id ⟨w.heap.size,hdr,[w.heap.size],rows⟩) (A2 C (upd β id ⟨w.heap.size,hdr,[w.heap.size],rows⟩) (w.alloc o)) (w.alloc o)->
  Dc V.T (put id b bx) (upd β id ⟨w.heap.size,hdr,[w.heap.size],rows⟩) (A2 C (upd β id ⟨w.heap.size,hdr,[w.heap.size],rows⟩) (w.alloc o)) (w.alloc o) id b):
 Bk V.T C (put id b bx) (upd β id ⟨w.heap.size,hdr,[w.heap.size],rows⟩) (w.alloc o)/\
  Ext V.T bx β (A2 C β w) w (put id b bx) (upd β id ⟨w.heap.size,hdr,[w.heap.size],rows⟩) (A2 C (upd β id ⟨w.heap.size,hdr,[w.heap.size],rows⟩) (w.alloc o)) (w.alloc o):=by
 have G:=U1.alloc w o
 refine M.set id b _ G.os G.tape G.output G.size (λ x hx _=>G.heap x hx) ?_ (by simp) ?_ hrep
 ·intro x hx;simp at hx;subst hx;exact .inr ⟨Nat.le_refl _,by simp⟩
 ·intro b0 h0;rw[hid]at h0;cases h0
theorem B6h (HT:V.T.Ok) (M:Bk V.T C bx β w) {t e:TypeId} (hu:P.underlying t=some (.slice e)) {i:TI V.E} {info:TypeInfo} {d:TypeDesc} {z:Value} (I:Cw V P e i info d z)
 {dst:Nat} {own:Bool} {kl kc:IntKind} {l c:Int} (h:Ac V bx (Bbr V dst e i own l c) rs ws=some (res,cs,bx',ac)) (hc:Fj cs):
 VOk V.T C bx β w res bx' ((Instr.makeSlice t (.int kl l) (.int kc c)).run P w):=by
 have bound:0<=l->l<=c->c*i.bytes<=At->(Instr.makeSlice t (.int kl l) (.int kc c)).run P w= .ok (.slice (some ⟨w.heap.size,0,none⟩) l.toNat c.toNat) (w.alloc (.cells (madeCells z.cells (c.toNat*i.size)) e))/\c.toNat<=maxLen:=by
  intro h0 h1 h2
  unfold At at h2
  have hb:=I.bpos
  have hc0:0<=c:=by omega
  have h3:c<=c*i.bytes:=by
   have:c*1<=c*(i.bytes:Int):=Int.mul_le_mul_of_nonneg_left (by omega) hc0
   omega
  have:=run_make (P:=P) w t e info z hu I.inf I.zero kl kc l c h0 h1 (by rw[I.bytes,Int.mul_comm];omega) (by omega)
  rw[I.size]at this
  exact⟨this,by unfold maxLen;omega⟩
 unfold Bbr at h
 split at h
 ·rename_i x hx
  split at h
  ·rename_i e2 u zz hk hty hz
   have hz0:zz=[]:=B6d hty hz hx I.zeros
   subst hz0
   obtain⟨hid,rs',ws',h⟩:=Lc h
   obtain⟨rfl,rfl,rfl⟩:=Aq h
   obtain⟨c1,c2,c3,_⟩:=hc
   obtain⟨hrun,hml⟩:=bound c1 c2 c3
   rw[hrun]
   have hsz:i.size=1:=by rw[<-I.ty,hty];rfl
   have hzv:z.cells.toList=[.slice none 0 0]:=B2u hty hx I.zeros
   have hzs:z.cells.size=1:=by rw[I.zcells,hsz]
   have hrows:(madeCells z.cells (c.toNat*i.size)).toList.take l.toNat=List.replicate l.toNat (.slice none 0 0):=by
    rw[<-I.zcells,Adq _ (by rw[hzs];omega),hzv]
    obtain⟨m,hm⟩:∃m,c.toNat=l.toNat+m:=⟨c.toNat-l.toNat,by omega⟩
    rw[hm,<-List.replicate_append_replicate,List.flatten_append,List.take_left' (by simp)]
    simp[List.flatten_replicate_singleton]
   obtain⟨M',X⟩:=M.newR hid (.rows e e2 u (List.replicate l.toNat []) 0 0 .opn) (.cells (madeCells z.cells (c.toNat*i.size)) e) (.slice (some ⟨w.heap.size,0,none⟩) l.toNat c.toNat) (List.replicate l.toNat (.slice none 0 0)) λ X=>by
    refine⟨?_, ?_, ?_⟩
    ·rw[A6]
     refine⟨by simp,.inr ⟨w.heap.size,c.toNat,_,by simp,Nat.zero_le _,heap_alloc_new _ _,by simp;omega,hml, ?_, ?_⟩⟩
     ·rw[size_madeCells,hsz]
     ·rw[List.length_replicate,Nat.mul_one];exact hrows
    ·rw[A6]
     show[w.heap.size]=[w.heap.size]++obs (List.replicate l.toNat (.slice none 0 0))
     rw[B46];rfl
    ·rw[A6]
     exact Agb ⟨[],⟨by simp,.inl ⟨rfl,rfl⟩⟩,.nil⟩ _
   refine⟨_,_,_,_,rfl,rfl, ?_,M',X⟩
   simp only[Az,Ar,Ad,Aw,A6]
   exact⟨rfl,Nat.le_refl _,λ _=>trivial⟩
  ·rename_i x _
   obtain⟨hid,rs',ws',h⟩:=Lc h
   obtain⟨rfl,rfl,rfl⟩:=Aq h
   obtain⟨c1,c2,c3,_⟩:=hc
   obtain⟨hrun,hml⟩:=bound c1 c2 c3
   rw[hrun]
   have hzs:z.cells.size=i.ty.sz V.T:=by rw[I.zcells,I.ty]
   obtain⟨M',X⟩:=M.new hid (.arr e i.ty (List.replicate l.toNat x) 0 false) (.cells (madeCells z.cells (c.toNat*i.size)) e) (.slice (some ⟨w.heap.size,0,none⟩) l.toNat c.toNat) [w.heap.size] (.inl rfl) λ X=>by
    refine⟨by rw[A6];rfl, ?_⟩
    rw[A6]
    refine⟨List.replicate l.toNat z.cells.toList,⟨?_,.inr ⟨w.heap.size,c.toNat,_,by simp,Nat.zero_le _,heap_alloc_new _ _,by simp;omega,hml, ?_, ?_⟩⟩, ?_⟩
    ·simp[hzs]
    ·rw[size_madeCells,I.ty]
    ·rw[<-I.zcells,Adq _ (by rw[I.zcells];exact I.pos),List.length_replicate,<-hzs]
     obtain⟨m,hm⟩:∃m,c.toNat=l.toNat+m:=⟨c.toNat-l.toNat,by omega⟩
     rw[hm,<-List.replicate_append_replicate,List.flatten_append,List.take_left' (by simp)]
    ·exact Agb ⟨B6n HT I hx _ _,by rw[Array.length_toList];exact hzs⟩ _
   refine⟨_,_,_,_,rfl,rfl, ?_,M',X⟩
   simp only[Az,Ar,Ad,Aw,A6]
   exact⟨rfl,Nat.le_refl _,λ _=>trivial⟩
 ·simp[Ac]at h
end
section
variable {P:Program} (w:World)
theorem Am6 (t t2 ty e e2:TypeId) (i:TypeInfo) (z:Value) (ht:P.underlying t=some (.slice e)) (ht2:P.underlying t2=some (.slice e2)) (hi:P.info? e=some i) (hz:i.zero=some z)
 (hzs:z.cells.size=i.size) (v:Value) (n:Nat) (xs:List Value) (hown:w.ownsRow 0 e i.size v n xs)
 (ao:Option Addr) (m c:Nat) (news:List Value) (hnil:ao=none->m=0) (hl:news.length=m*i.size) (hnews:∀a,ao=some a->∀j u,news[j]?=some u->w.cell? (a.add j)=some u)
 (h1:∀u∈news,u.oneCell'=true) (hbytes:(n+m)*i.bytes<=140737488355328) (hbp:0<i.bytes):
 ∃v' w',(Builtin.append_ #[t,t2] ty #[v,.slice ao m c]).run P w= .ok v' w'/\w'.ownsRow 0 e i.size v' (n+m) (xs++news)/\w.grownBy w' v.ownBlock/\
  (v'.ownBlock=v.ownBlock\/(v'.ownBlock=some w.heap.size/\w.heap.size<w'.heap.size)):=by
 have h63:n+m<=140737488355328:=Nat.le_trans (Nat.le_mul_of_pos_right _ hbp) hbytes
 have h63':n+m<=maxLen:=by unfold maxLen;omega
 have hlen:(xs++news).length=(n+m)*i.size:=by rw[List.length_append,hown.1,hl,Nat.add_mul]
 cases ao with
 |none=>
  obtain rfl:=hnil rfl
  have hn:news=[]:=List.eq_nil_of_length_eq_zero (by simpa using hl)
  subst hn
  have hv:∃a cap,v= .slice a n cap/\n<=cap:=by
   rcases hown.2 with⟨rfl,rfl⟩|⟨g,cap,cur,rfl,_,_,h,_⟩
   ·exact⟨_,_,rfl,Nat.le_refl _⟩
   ·exact⟨_,_,rfl,h⟩
  obtain⟨a,cap,rfl,hcap⟩:=hv
  refine⟨.slice a n cap,w, ?_,by simpa using hown,⟨rfl,rfl,rfl,Nat.le_refl _,λ _ _ _=>rfl⟩,.inl rfl⟩
  cases a<;>simp[Builtin.append_,run_underlying ht,run_underlying ht2,sizeOf,typeInfo,hi,Builtin.lenOf,Builtin.firstCells,hcap,storeCells]
 |some ad=>
  have hnews:=hnews ad rfl
  have grown:∀(old:Nat),old<n+m->∀(row:Option Nat),
   (w.drew.alloc (.cells (xs.toArray++news.toArray++Builtin.zeroCells z.cells (grownCap w (n+m) old e-(n+m))) e)).ownsRow 0 e i.size
    (.slice (some ⟨w.heap.size,0,none⟩) (n+m) (grownCap w (n+m) old e)) (n+m) (xs++news)/\
   w.grownBy (w.drew.alloc (.cells (xs.toArray++news.toArray++Builtin.zeroCells z.cells (grownCap w (n+m) old e-(n+m))) e)) row:=by
   intro old ho row
   have hge:=grownCap_ge w (n+m) old e
   have hcm:grownCap w (n+m) old e<=maxLen:=grownCap_le_maxLen w (n+m) old e h63'
   refine⟨⟨hlen,.inr ⟨w.heap.size,_,_,rfl,Nat.zero_le _,heap_alloc_new w.drew _,hge,hcm, ?_, ?_⟩⟩,⟨rfl,rfl,rfl,by simp,λ k hk _=>heap_alloc_old w.drew _ k hk⟩⟩
   ·simp only[Array.size_append,List.size_toArray,size_zeroCells,hzs,hown.1,hl,<-Nat.add_mul]
    congr 1
    omega
   ·simp only[Array.toList_append,List.append_assoc]
    rw[<-List.append_assoc,<-hlen]
    exact List.take_left
  have hfresh:∀o:Obj,w.heap.size<(w.drew.alloc o).heap.size:=by intro o;simp
  have hf:=run_firstCells_some (P:=P) w i.size m ad m c news hl hnews
  have hf':=run_firstCells_some (P:=P) w.drew i.size m ad m c news hl (by simpa using hnews)
  rcases hown.2 with⟨rfl,rfl⟩|⟨g,cap,cur,rfl,hbg,hg,hnc,hcm,hcs,htake⟩
  ·have hx:xs=[]:=List.eq_nil_of_length_eq_zero (by simpa using hown.1)
   subst hx
   by_cases hm:m=0
   ·subst hm
    have hn:news=[]:=List.eq_nil_of_length_eq_zero (by simpa using hl)
    subst hn
    refine⟨.slice none 0 0,w, ?_,World.ownsRow_nil w 0 e i.size,⟨rfl,rfl,rfl,Nat.le_refl _,λ _ _ _=>rfl⟩,.inl rfl⟩
    simp[Builtin.append_,run_underlying ht,run_underlying ht2,sizeOf,typeInfo,hi,Builtin.lenOf,Builtin.firstCells,loadCells,loadCellsFrom]
   ·have h63'':¬(9223372036854775807<(m:Int)):=by omega
    have h48':¬(281474976710656<Builtin.nextslicecap m 0*i.bytes):=by rw[nextslicecap_zero (by omega)];simp only[Nat.zero_add]at hbytes;omega
    have hr:(Builtin.append_ #[t,t2] ty #[.slice none 0 0,.slice (some ad) m c]).run P w=
     .ok (.slice (some ⟨w.heap.size,0,none⟩) m (grownCap w m 0 e)) (w.drew.alloc (.cells (news.toArray++Builtin.zeroCells z.cells (grownCap w m 0 e-m)) e)):=by
     simp[Builtin.append_,run_underlying ht,run_underlying ht2,sizeOf,typeInfo,zeroValue,hi,hz,Builtin.lenOf,hm,h63'',h48',Question.forced,run_firstCells_none,hf',newRow,grownCap]
    have hgr:=grown 0 (by omega) (Value.ownBlock (.slice none 0 0))
    simp only[Nat.zero_add,List.nil_append,Array.empty_append]at hgr ⊢
    exact⟨_,_,hr,hgr.1,hgr.2,.inr ⟨rfl,hfresh _⟩⟩
  ·by_cases hroom:n+m<=cap
   ·have hfit:n*i.size+news.length<=cur.size:=by rw[hl,hcs,<-Nat.add_mul];exact Nat.mul_le_mul_right _ hroom
    have hst:=run_storeCells_at (P:=P) g (n*i.size) e news 0 cur w hg (by simpa using hfit) h1
    simp only[Nat.add_zero]at hst
    have hr:(Builtin.append_ #[t,t2] ty #[.slice (some ⟨g,0,none⟩) n cap,.slice (some ad) m c]).run P w=
     .ok (.slice (some ⟨g,0,none⟩) (n+m) cap) (w.setRow g (cur.toList.take (n*i.size)++news++cur.toList.drop (n*i.size+news.length)).toArray):=by
     simp[Builtin.append_,run_underlying ht,run_underlying ht2,sizeOf,typeInfo,hi,Builtin.lenOf,hroom,hf,Addr.add_lit,hst]
    refine⟨_,_,hr,⟨hlen,.inr ⟨g,cap,_,rfl,hbg,setRow_heap w g cur _ e _ hg,hroom,hcm, ?_, ?_⟩⟩,⟨rfl,rfl,rfl,by simp,λ k _ hk=>setRow_other w g k _ (λ e=>hk (by simp[Value.ownBlock,e]))⟩,.inl rfl⟩
    ·simp only[List.size_toArray,List.length_append,List.length_take,List.length_drop,Array.length_toList]
     omega
    ·rw[htake,<-hlen]
     exact List.take_left
   ·have holds:∀j u,xs[j]?=some u->w.cell? ((⟨g,0,none⟩:Addr).add j)=some u:=hown.cells (g:=g) rfl
    have hn:¬(n+m<=cap):=hroom
    have h63'':¬(9223372036854775807<((n:Int)+(m:Int))):=by omega
    have h48':¬(281474976710656<Builtin.nextslicecap (n+m) cap*i.bytes):=by have:=growslice_fits (need:=n+m) (old:=cap) (bytes:=i.bytes) (by omega) hbytes;omega
    have hfo:=run_firstCells_some (P:=P) w.drew i.size n ⟨g,0,none⟩ n cap xs hown.1 (by simpa using holds)
    have hr:∃cells,(Builtin.append_ #[t,t2] ty #[.slice (some ⟨g,0,none⟩) n cap,.slice (some ad) m c]).run P w=
     .ok (.slice (some ⟨w.heap.size,0,none⟩) (n+m) (grownCap w (n+m) cap e)) (w.drew.alloc (.cells cells e))/\
     cells=xs.toArray++news.toArray++Builtin.zeroCells z.cells (grownCap w (n+m) cap e-(n+m)):=by
     refine⟨_, ?_,rfl⟩
     simp[Builtin.append_,run_underlying ht,run_underlying ht2,sizeOf,typeInfo,zeroValue,hi,hz,Builtin.lenOf,hn,h63'',h48',Question.forced,hf',hfo,newRow,grownCap]
     congr 2
     apply Array.ext'
     simp
    obtain⟨cells,hr,hcells⟩:=hr
    subst hcells
    have hgr:=grown cap (by omega) (Value.ownBlock (.slice (some ⟨g,0,none⟩) n cap))
    exact⟨_,_,hr,hgr.1,hgr.2,.inr ⟨rfl,hfresh _⟩⟩
end
mutual
theorem Bl.one {ok:Nat->Prop} {w:World}:∀(x:AV) (cs:List Value),Bl ok w x cs->∀v∈cs,v.oneCell'=true
 | .int _ _,cs,h,v,hv=>by simp only[Bl]at h;subst h;simp at hv;subst hv;rfl
 | .bool _,cs,h,v,hv=>by simp only[Bl]at h;subst h;simp at hv;subst hv;rfl
 | .str _,cs,h,v,hv=>by simp only[Bl]at h;subst h;simp at hv;subst hv;rfl
 | .sl _ _ _,cs,h,v,hv=>by simp only[Bl]at h;obtain⟨a,cap,h,_⟩:=h;subst h;simp at hv;subst hv;rfl
 | .ag xs,cs,h,v,hv=>Lo.one xs cs h v hv
theorem Lo.one {ok:Nat->Prop} {w:World}:∀(xs:List AV) (cs:List Value),Lo ok w xs cs->∀v∈cs,v.oneCell'=true
 |[],cs,h,v,hv=>by simp only[Lo]at h;subst h;simp at hv
 |x::xs,cs,h,v,hv=>by
  simp only[Lo]at h
  obtain⟨c1,c2,rfl,h1,h2⟩:=h
  rcases List.mem_append.1 hv with hv|hv
  ·exact Bl.one x c1 h1 v hv
  ·exact Lo.one xs c2 h2 v hv
end
section
variable {V:Env} {P:Program} {C:Ctx} {bx:List (Nat×Box V.E)} {β:Nat->BI} {w:World}
variable {res:Option (SV V.E)} {cs:List Cd} {bx':List (Nat×Box V.E)} {rs ws:List Nat} {ac:Acc}
theorem Bkj {ok:Nat->Prop} {t:Ty}:∀(xs:List (t.den V.E)) (blk off:Nat),Fp ok w (t.sz V.T) (xs.map (t.av V.T)) blk off->
 ∃css:List (List Value),Ba (λ x cs=>Bl ok w (t.av V.T x) cs/\cs.length=t.sz V.T) xs css/\∀j u,css.flatten[j]?=some u->w.cell? ⟨blk,off+j,none⟩=some u
 |[],_,_,_=>⟨[],.nil,λ j u h=>by simp at h⟩
 |x::xs,blk,off,h=>by
  obtain⟨⟨cs,h1,h2,h3⟩,h4⟩:=h
  obtain⟨css,k1,k2⟩:=Bkj xs blk (off+t.sz V.T) h4
  refine⟨cs::css,.cons ⟨h1,h2⟩ k1,λ j u hj=> ?_⟩
  rw[List.flatten_cons]at hj
  by_cases hl:j<cs.length
  ·rw[List.getElem?_append_left hl]at hj;exact h3.2 j u hj
  ·rw[List.getElem?_append_right (by omega)]at hj
   have:=k2 _ _ hj
   rw[show off+t.sz V.T+(j-cs.length)=off+j by omega]at this
   exact this
theorem Bsm {ok:Nat->Prop} {t:Ty} {st:Bool} {xs:List (t.den V.E)} {v:Value} (h:Arb V.T ok w t st xs v):
 ∃ao c css,v= .slice ao xs.length c/\(ao=none->xs.length=0)/\Ba (λ x cs=>Bl ok w (t.av V.T x) cs/\cs.length=t.sz V.T) xs css/\
  ∀a,ao=some a->∀j u,css.flatten[j]?=some u->w.cell? (a.add j)=some u:=by
 obtain⟨a,cap,hv,hcap,hn,_,hm⟩:=h
 simp only[List.cons.injEq,and_true,List.length_map]at hv hcap
 subst hv
 cases a with
 |none=>
  have hx:xs=[]:=List.eq_nil_of_length_eq_zero (by have:=hn rfl;omega)
  subst hx
  exact⟨none,cap,[],rfl,λ _=>rfl,.nil,λ a h=>by cases h⟩
 |some ad=>
  obtain⟨hs,hm2⟩:=hm ad rfl
  obtain⟨css,k1,k2⟩:=Bkj xs _ _ hm2
  refine⟨some ad,cap,css,rfl,(λ h=>by cases h),k1,λ a ha j u hj=> ?_⟩
  cases ha
  rw[Brr (hs λ h=> ?_)]
  ·exact k2 j u hj
  ·have hx:xs=[]:=by simpa using h
   subst hx
   cases k1
   simp at hj
theorem A99 {t:Ty} {ok:Nat->Prop}:∀{xs:List (t.den V.E)} {css:List (List Value)},Ba (λ x cs=>Bl ok w (t.av V.T x) cs/\cs.length=t.sz V.T) xs css->css.flatten.length=xs.length*t.sz V.T
 |_,_,.nil=>by simp
 |_,_,.cons h k=>by rw[List.flatten_cons,List.length_append,A99 k,h.2,List.length_cons,Nat.add_mul];omega
theorem Bo7 {t:Ty} {ok:Nat->Prop} {xs:List (t.den V.E)} {css:List (List Value)} (h:Ba (λ x cs=>Bl ok w (t.av V.T x) cs/\cs.length=t.sz V.T) xs css):∀u∈css.flatten,u.oneCell'=true:=by
 intro u hu
 obtain⟨cs,hcs,hu⟩:=List.mem_flatten.1 hu
 obtain⟨n,hn⟩:=List.getElem?_of_mem hcs
 obtain⟨x,_,hx⟩:=h.get' n cs hn
 exact Bl.one _ _ hx.1 u hu
theorem Bk.appended (M:Bk V.T C bx β w) {id:Nat} (b':Box V.E) {w':World} (hg:w.grownBy w' (β id).hdr.ownBlock) (hown:∀x,(β id).hdr.ownBlock=some x->x∈(β id).own)
 (i':BI) (hi:∀x∈i'.own,x∈(β id).own\/(w.heap.size<=x/\x<w'.heap.size)) (hnd:i'.own.Nodup)
 (hcompat:∀b,Ae id bx=some b->Gu V.T (β id) i' b b')
 (hrep:Ext V.T bx β (A2 C β w) w (put id b' bx) (upd β id i') (A2 C (upd β id i') w') w'->Dc V.T (put id b' bx) (upd β id i') (A2 C (upd β id i') w') w' id b'):
 Bk V.T C (put id b' bx) (upd β id i') w'/\Ext V.T bx β (A2 C β w) w (put id b' bx) (upd β id i') (A2 C (upd β id i') w') w':=
 M.set id b' i' hg.os hg.tape hg.output hg.size (λ x hx hn=>hg.block x hx (λ e=>hn (hown x e.symm))) hi hnd hcompat hrep
theorem Amt (v:Value):v.ownBlock.toList.Nodup:=by cases v.ownBlock<;>simp
theorem Bjn (M:Bk V.T C bx β w) {t u e e':TypeId} (hu:P.underlying t=some (.slice e)) (hu2:P.underlying u=some (.slice e')) {i:TI V.E} {info:TypeInfo} {d:TypeDesc} {z:Value} (I:Cw V P e i info d z)
 {dst:Nat} {a b:SV V.E} {va vb:Value} (ha:SR V C bx β w a va) (hb:SR V C bx β w b vb) (ty:TypeId)
 (h:Ac V bx (Amf V dst e i a b) rs ws=some (res,cs,bx',ac)) (hc:Fj cs):
 VOk V.T C bx β w res bx' ((Builtin.append_ #[t,u] ty #[va,vb]).run P w):=by
 have hzs:z.cells.size=info.size:=by rw[I.zcells,I.size]
 unfold Amf at h
 split at h
 ·-- nothing yet,and a slice
  rename_i t0 t1 st ys
  split at h
  ·rename_i ht
   subst ht
   split at h
   ·rename_i hty
    obtain⟨hid,rs',ws',h⟩:=Lc h
    obtain⟨rfl,rfl,rfl⟩:=Aq h
    have hc:=hc.1
    simp only[SR,Az,Ar,Ad]at ha hb
    obtain⟨a0,cap0,hv,_,hn0,hs0,_⟩:=ha
    have:=hs0 rfl (by simp)
    subst this
    have:=hn0 rfl
    subst this
    simp only[List.map_nil,List.length_nil,List.cons.injEq,and_true]at hv
    subst hv
    obtain⟨ao,c,css,rfl,k1,k2,k3⟩:=Bsm hb
    have hsz:t1.sz V.T=info.size:=by rw[hty,I.ty,I.size]
    obtain⟨v',w',hr,ho,hg,hf⟩:=Am6 (P:=P) w t u ty e e' info z hu hu2 I.inf I.zero hzs (.slice none 0 0) 0 [] (World.ownsRow_nil w 0 e info.size) ao ys.length c css.flatten k1
     (by rw[A99 k2,hsz]) k3 (Bo7 k2) (by rw[Nat.zero_add,I.bytes];exact hc) (by rw[I.bytes];exact I.bpos)
    rw[hr]
    simp only[List.nil_append,Nat.zero_add]at ho
    have hlt:∀x,v'.ownBlock=some x->w.heap.size<=x/\x<w'.heap.size:=by
     intro x hx
     rcases hf with hf|⟨hf,hlt⟩
     ·rw[hf]at hx;cases hx
     ·rw[hf]at hx;cases hx;exact⟨Nat.le_refl _,hlt⟩
    have hnone:(β dst).own=[]:=M.nones dst hid
    obtain⟨M',X⟩:=M.set dst (.arr e t1 (Wf rfl ys) 0 false) ⟨0,v',v'.ownBlock.toList,[]⟩ hg.os hg.tape hg.output hg.size (λ x hx _=>hg.block x hx (by simp[Value.ownBlock]))
     (λ x hx=> .inr (hlt x (by simpa using hx))) (Amt _) (λ b0 h0=>by rw[hid]at h0;cases h0)
     (λ X=>⟨by rw[A6],by
      rw[A6]
      refine⟨css, ?_,k2.imp λ x cs q=>⟨Bl.later X.later _ _ q.1,q.2⟩⟩
      rw[hsz];exact ho⟩)
    refine⟨_,_,_,_,rfl,rfl, ?_,M',X⟩
    simp only[Az,Ar,Ad,Aw,A6]
    refine⟨?_,Nat.le_refl _,λ _=>trivial⟩
    obtain⟨_,q⟩:=ho
    rcases q with⟨q,_⟩|⟨_,_,_,q,_⟩<;>rw[q]<;>rfl
   ·simp[Ac]at h
  ·simp[Ac]at h
 ·-- an array,and a slice
  rename_i id ver t1 st ys
  simp only[Ac]at h
  split at h
  ·rename_i e0 t0 xs v hb0
   split at h
   ·rename_i hv
    simp only[Bool.and_eq_true,decide_eq_true_eq]at hv
    obtain⟨⟨hv1,hv2⟩,hty⟩:=hv
    have hv2:=Ah hv2
    subst hv2
    split at h
    ·rename_i ht
     subst ht
     simp only[Ac,B0.one,Option.some.injEq,Prod.mk.injEq]at h
     obtain⟨rfl,rfl,rfl,_⟩:=h
     have hc:=hc.1
     simp only[SR,Az,Ar,Ad]at ha hb
     rw[hb0]at ha
     have hva:=ha.2.2 (Ah hv1)
     obtain⟨hown,css0,hO,hA⟩:=M.boxes id _ hb0
     obtain⟨ao,c,css,rfl,k1,k2,k3⟩:=Bsm hb
     have hsz:t1.sz V.T=info.size:=by rw[hty,I.ty,I.size]
     rw[hsz]at hO
     obtain⟨v',w',hr,ho,hg,hf⟩:=Am6 (P:=P) w t u ty e0 e' info z hu hu2 I.inf I.zero hzs va xs.length css0.flatten (by rw[hva];exact hO) ao ys.length c css.flatten k1
      (by rw[A99 k2,hsz]) k3 (Bo7 k2) (by rw[I.bytes];exact hc) (by rw[I.bytes];exact I.bpos)
     rw[hr]
     obtain⟨M',X⟩:=M.appended (id:=id) (.arr e0 t1 (xs++Wf rfl ys) (v+1) false) (by rw[<-hva];exact hg) (λ x hx=>by rw[hown,hx];simp) ⟨0,v',v'.ownBlock.toList,[]⟩
      (λ x hx=>by
       have hx:v'.ownBlock=some x:=by simpa using hx
       rcases hf with hf|⟨hf,hlt⟩
       ·left;rw[hown,<-hva,<-hf,hx];simp
       ·right;rw[hf]at hx;cases hx;exact⟨Nat.le_refl _,hlt⟩) (Amt _)
      (λ b0 h0=>by rw[hb0]at h0;cases h0;exact⟨rfl,by omega,λ e=>by omega⟩)
      (λ X=>⟨by rw[A6],by
       rw[A6]
       refine⟨css0++css, ?_,Ba.append (hA.imp λ x cs q=>⟨Bl.later X.later _ _ q.1,q.2⟩) (k2.imp λ x cs q=>⟨Bl.later X.later _ _ q.1,q.2⟩)⟩
       rw[hsz,List.flatten_append,List.length_append];exact ho⟩)
     refine⟨_,_,_,_,rfl,rfl, ?_,M',X⟩
     simp only[Az,Ar,Ad,Aw,A6]
     refine⟨?_,Nat.le_refl _,λ _=>trivial⟩
     obtain⟨_,q⟩:=ho
     rcases q with⟨q,_⟩|⟨_,_,_,q,_⟩<;>rw[q]<;>rfl
    ·simp[Ac]at h
   ·simp[Ac]at h
  ·simp[Ac]at h
 ·-- rows,and one row more
  rename_i id ver id2 ver2
  simp only[Ac]at h
  split at h
  ·rename_i e0 e2 t0 xss v rv hb0
   simp only[Ac]at h
   split at h
   ·rename_i e3 t2 ys v2 hb2
    split at h
    ·rename_i hv
     simp only[Bool.and_eq_true,Bool.not_eq_true']at hv
     obtain⟨⟨⟨⟨⟨q1,q2⟩,q3⟩,q4⟩,q5⟩,q6⟩:=hv
     have q4:=Ah q4
     have q5:=Ah q5
     have q6:=Ah q6
     have hne:id≠id2:=by rintro rfl;simp at q3
     subst q4 q5
     split at h
     ·rename_i ht
      subst ht
      simp only[Ac,B0.one,Wf,Option.some.injEq,Prod.mk.injEq]at h
      obtain⟨rfl,rfl,rfl,_⟩:=h
      have hc:=hc.1
      simp only[SR,Az,Ar,Ad,A9]at ha hb
      rw[hb0]at ha
      have hva:=ha.2.2 (Ah q1)
      obtain⟨bb,vs,cc,ee,rfl,hokb,hheapb,hcc,vv,r,rfl,hvv,rfl⟩:=hb
      rw[hb2]at hvv
      obtain⟨hone,_,hvv⟩:=hvv
      have hvv:=hvv (Ah q2)
      obtain⟨hO,hown,hA⟩:=M.boxes id _ hb0
      obtain⟨hown2,hA2⟩:=M.boxes id2 _ hb2
      have hsz:info.size=1:=by rw[I.size,q6]
      obtain⟨v',w',hr,ho,hg,hf⟩:=Am6 (P:=P) w t u ty e0 e' info z hu hu2 I.inf I.zero hzs va xss.length (β id).rows (by rw[hva,hsz];exact hO) (some ⟨bb,0,none⟩) 1 1 [vv] (λ h=>by cases h)
       (by simp[hsz]) (λ a ha j x hx=>by
        cases ha
        rw[Q1,C8 hheapb,<-Array.getElem?_toList,hcc,Nat.zero_add];exact hx) (λ x hx=>by simp at hx;subst hx;exact hone) (by rw[I.bytes];exact hc) (by rw[I.bytes];exact I.bpos)
      simp only[List.length_cons,List.length_nil,Nat.zero_add]
      rw[hr]
      have hnd:=M.nodup id
      rw[hown]at hnd
      have hnd1:=List.nodup_append.1 hnd
      have fresh2:∀b',vv.ownBlock=some b'->b'∈(β id2).own:=by intro b' hb';rw[hown2,<-hvv,hb'];simp
      have hmemR:∀b',b'∈obs ((β id).rows++[vv])->b'∈obs (β id).rows\/vv.ownBlock=some b':=by
       intro b' hb'
       obtain⟨x,hx,hxb⟩:=Y3.1 hb'
       rcases List.mem_append.1 hx with hx|hx
       ·exact .inl (Y3.2 ⟨x,hx,hxb⟩)
       ·simp at hx;subst hx;exact .inr hxb
      have hobs:obs ((β id).rows++[vv])=obs (β id).rows++vv.ownBlock.toList:=by simp[obs]
      have hndR:(obs ((β id).rows++[vv])).Nodup:=by
       rw[hobs]
       refine List.nodup_append.2 ⟨hnd1.2.1,Amt _,λ x hx y hy e=> ?_⟩
       subst e
       exact hne (M.apart id id2 x (by rw[hown];exact List.mem_append.2 (.inr hx)) (fresh2 x (by simpa using hy)))
      let i':BI:=⟨0,v',v'.ownBlock.toList++obs ((β id).rows++[vv]),(β id).rows++[vv]⟩
      let β':Nat->BI:=upd (upd β id2 {β id2 with own:=[]}) id i'
      have hβid:β' id=i':=A6 _ _ _
      have hβid2:β' id2={β id2 with own:=[]}:=by rw[show β' id2=upd β id2 {β id2 with own:=[]} id2 from Di _ _ hne.symm,A6]
      have hlt:∀x,x∈(β id).own\/x∈(β id2).own->x<w.heap.size:=by
       rintro x (hx|hx)
       ·exact(M.mine _ x hx).1
       ·exact(M.mine _ x hx).1
      have hmem:∀x∈i'.own,(x∈(β id).own\/x∈(β id2).own)\/(w.heap.size<=x/\x<w'.heap.size):=by
       intro x hx
       rcases List.mem_append.1 hx with hx|hx
       ·have hx:v'.ownBlock=some x:=by simpa using hx
        rcases hf with hf|⟨hf,hl⟩
        ·left;left;rw[hown,<-hva,<-hf,hx];simp
        ·right;rw[hf]at hx;cases hx;exact⟨Nat.le_refl _,hl⟩
       ·rcases hmemR x hx with hx|hx
        ·left;left;rw[hown];exact List.mem_append.2 (.inr hx)
        ·left;right;exact fresh2 x hx
      have hdis:∀x,v'.ownBlock=some x->x∉obs ((β id).rows++[vv]):=by
       intro x hx hx2
       have hin:x∈(β id).own\/x∈(β id2).own:=by
        rcases hmemR x hx2 with h|h
        ·left;rw[hown];exact List.mem_append.2 (.inr h)
        ·right;exact fresh2 x h
       rcases hf with hf|⟨hf,_⟩
       ·have hxo:(β id).hdr.ownBlock=some x:=by rw[<-hva,<-hf,hx]
        rcases hmemR x hx2 with h|h
        ·exact hnd1.2.2 x (by rw[hxo];simp) x h rfl
        ·exact hne (M.apart id id2 x (by rw[hown,hxo];simp) (fresh2 x h))
       ·rw[hf]at hx;cases hx
        exact Nat.lt_irrefl _ (hlt _ hin)
      have hrowheap:∀b',b'∈obs ((β id).rows++[vv])->w'.heap[b']?=w.heap[b']?:=by
       intro b' hb'
       have hin:b'∈(β id).own\/b'∈(β id2).own:=by
        rcases hmemR b' hb' with h|h
        ·left;rw[hown];exact List.mem_append.2 (.inr h)
        ·right;exact fresh2 b' h
       refine hg.block b' (hlt _ hin) λ e=> ?_
       have hxo:(β id).hdr.ownBlock=some b':=by rw[<-hva];exact e.symm
       rcases hmemR b' hb' with h|h
       ·exact hnd1.2.2 b' (by rw[hxo];simp) b' h rfl
       ·exact hne (M.apart id id2 b' (by rw[hown,hxo];simp) (fresh2 b' h))
      obtain⟨M',X⟩:=M.step (bx':=put id (.rows e0 e3 t2 (xss++[ys]) (v+1) rv .opn) (put id2 .gone bx)) (β':=β') (w':=w') (λ m=>m=id\/m=id2) hg.os hg.tape hg.output hg.size
       (λ m hm=>⟨by
        rw[show β' m=upd β id2 {β id2 with own:=[]} m from Di _ _ (λ e=>hm (.inl e)),Di _ _ (λ e=>hm (.inr e))],
        by rw[Ay (λ e=>hm (.inl e)),Ay (λ e=>hm (.inr e))]⟩)
       (λ x hx hn=>hg.block x hx λ e=>hn id (.inl rfl) (by rw[hown,<-hva,<-e];simp))
       (λ m hm x hx=>by
        rcases hm with rfl|rfl
        ·rw[hβid]at hx
         rcases hmem x hx with(hx|hx)|hx
         ·exact .inl ⟨_,.inl rfl,hx⟩
         ·exact .inl ⟨_,.inr rfl,hx⟩
         ·exact .inr hx
        ·rw[hβid2]at hx;simp at hx)
       (λ m hm=>by
        rcases hm with rfl|rfl
        ·rw[hβid]
         refine List.nodup_append.2 ⟨Amt _,hndR,λ x hx y hy e=> ?_⟩
         subst e
         exact hdis x (by simpa using hx) hy
        ·rw[hβid2];simp)
       (λ m m' x hm hm' hx hx'=>by
        rcases hm with rfl|rfl<;>rcases hm' with rfl|rfl
        ·rfl
        ·rw[hβid2]at hx';simp at hx'
        ·rw[hβid2]at hx;simp at hx
        ·rfl)
       (λ m hm hn=>by
        rcases hm with rfl|rfl
        ·rw[Aw]at hn;cases hn
        ·rw[hβid2])
       (λ m b0 hm h0=>by
        rcases hm with rfl|rfl
        ·rw[hb0]at h0;cases h0
         refine⟨_,Aw _ _ _, ?_⟩
         exact⟨rfl,by omega,λ e=>by omega⟩
        ·rw[hb2]at h0;cases h0
         exact⟨.gone,by rw[Ay hne.symm,Aw],trivial⟩)
       (λ X m b0 hm h0=>by
        rcases hm with rfl|rfl
        ·rw[Aw]at h0;cases h0
         refine⟨?_,by rw[hβid];rfl, ?_⟩
         ·rw[hβid,List.length_append]
          rw[hsz]at ho
          exact ho
         ·rw[hβid]
          refine Ba.append (Ba.imp_mem' (λ xs x hx hr=>hr.later X.later λ b' hb'=>hrowheap b' (Y3.2 ⟨x,List.mem_append.2 (.inl hx),hb'⟩)) hA) (.cons ?_ .nil)
          rw[<-hvv]at hA2
          exact hA2.later X.later λ b' hb'=>hrowheap b' (Y3.2 ⟨vv,by simp,hb'⟩)
        ·rw[Ay hne.symm,Aw]at h0;cases h0
         trivial)
      refine⟨_,_,_,_,rfl,rfl, ?_,M',X⟩
      simp only[Az,Ar,Ad,Aw,hβid]
      refine⟨?_,Nat.le_refl _,λ _=>rfl⟩
      obtain⟨_,q⟩:=ho
      rcases q with⟨q,_⟩|⟨_,_,_,q,_⟩<;>rw[q]<;>rfl
     ·simp[Ac]at h
    ·simp[Ac]at h
   ·simp[Ac]at h
  ·simp[Ac]at h
 ·simp[Ac]at h
end
end Go.Ab
