/- That the classes' validation ends. That names are resolved and that the walk of a class's bases ends. That modifiers are put and copied. That a whole class is made, by its parts. Conditions: none beyond those that each theorem names. -/
import Derived.Test.YtgngflkahbpecaaGreatDoorP32
set_option linter.unusedSimpArgs false
namespace Go.Ab
open Go
set_option linter.unusedVariables false
theorem Ahs {s:List UInt8} (h:Bpm s=true):s.length<=60:=N0 false (Bkf s) h
def Bro (l:List Ak):Prop:=∀m∈l,m.Type_.length<=60
theorem Byv (l:List Ak) (hl:l.length<9223372036854775807) (h:∀j,Tx (l.getD j A3).Path):Al (Gj l) λ b=>b=true->Bro l:=by
 unfold Gj
 simp only[gv]
 refine Bc l.length hl (λ i _=>∀j,j<i->(l.getD j A3).Type_.length<=60) (λ j hj=>by omega) λ i _ hi hI=> ?_
 unfold Pm Ih P2 O1
 simp only[gv,A5l (h i),Afw,Ak7]
 refine⟨λ h=>⟨by simp,λ _=>⟨λ _=>⟨by simp,λ h1=>⟨by simp,λ _=>⟨h,Eu hI (Ahs (nn h1))⟩⟩⟩,λ h1=>⟨by simp,λ _=>⟨h,Eu hI ?_⟩⟩⟩⟩,λ h _=>T7 (z:=A3) λ j hj=>hI j (by omega)⟩
 rw[show(l.getD i A3).Type_=[]from Decidable.byContradiction h1];simp
theorem Apo {l:List Ak} (hl:l.length<9223372036854775807) (h:∀j,Tx (l.getD j A3).Path) (hb:Bsf l=true):Bro l:=N0 false (Byv l hl h) hb
def MB (l:List Ak):Prop:=l.length<4611686018427387904/\∀m∈l,Tx m.Path/\EB m.Value
theorem MB.nil:MB []:=⟨by simp,by simp⟩
theorem MB.len {l:List Ak} (h:MB l):l.length<9223372036854775807:=by have:=h.1;omega
theorem MB.at {l:List Ak} (h:MB l) (j:Nat):Tx (l.getD j A3).Path/\EB (l.getD j A3).Value:=Pi (P:=λ m:Ak=>Tx m.Path/\EB m.Value) ⟨by show 0<_;omega,EB.z⟩ h.2 j
theorem MB.tx {l:List Ak} (h:MB l) (j:Nat):Tx (l.getD j A3).Path:=(h.at j).1
def XB (x:Ax):Prop:=MB x.Mods/\EB x.Cond/\EB x.Value
structure CB (c:Aa):Prop where
 bl:c.Bases.length<4611686018427387904
 bs:∀b∈c.Bases,MB b.Mods
 cl:c.Comps.length<4611686018427387904
 cs:∀x∈c.Comps,XB x
 el:c.Eqs.length<4611686018427387904
 es:∀q∈c.Eqs,EB q.L/\EB q.R
 ll:c.Links.length<4611686018427387904
 wl:c.Whens.length<4611686018427387904
 ws:∀w∈c.Whens,EB w.C/\w.Sets.length<4611686018427387904/\∀s∈w.Sets,EB s.E
theorem CB.z:CB Ag:=⟨by show 0<_;omega,λ _ h=>(nomatch h),by show 0<_;omega,λ _ h=>(nomatch h),by show 0<_;omega,λ _ h=>(nomatch h),by show 0<_;omega,by show 0<_;omega,λ _ h=>(nomatch h)⟩
theorem CB.bat {c:Aa} (h:CB c) (j:Nat):MB (c.Bases.getD j Cl).Mods:=Pi (P:=λ b:Qv=>MB b.Mods) MB.nil h.bs j
theorem CB.cat {c:Aa} (h:CB c) (j:Nat):XB (c.Comps.getD j An):=Pi ⟨MB.nil,EB.z,EB.z⟩ h.cs j
theorem CB.eat {c:Aa} (h:CB c) (j:Nat):EB (c.Eqs.getD j Aeq).L/\EB (c.Eqs.getD j Aeq).R:=Pi (P:=λ q:Wo=>EB q.L/\EB q.R) ⟨EB.z,EB.z⟩ h.es j
theorem CB.wat {c:Aa} (h:CB c) (j:Nat):EB (c.Whens.getD j Bz).C/\(c.Whens.getD j Bz).Sets.length<4611686018427387904/\∀s∈(c.Whens.getD j Bz).Sets,EB s.E:=Pi (P:=λ w:G5=>EB w.C/\w.Sets.length<4611686018427387904/\∀s∈w.Sets,EB s.E) ⟨EB.z,by show 0<_;omega,λ _ h=>(by cases h)⟩ h.ws j
theorem Ag4 (x:Ax):B1 x=x:=by cases x;simp only[B1,Bg]
def Bta (x:Ax):Prop:=x.Type_.length<=60/\Bro x.Mods
theorem Bsp (x:Ax) (h:XB x):Al (Us x) λ b=>b=true->Bta x:=by
 have hm:=h.1
 have j2:x.Type_.length<=60->Bro x.Mods->Al (R9 x ()) λ b=>b=true->Bta x:=by
  intro h1 h2
  have j3:Al (Sb x ()) λ b=>b=true->Bta x:=by
   unfold Sb
   simp only[gv,Ak7]
   exact⟨λ _=>⟨λ _ _=>⟨h1,h2⟩,λ _ _=>⟨h1,h2⟩⟩,λ _=>⟨λ _=>⟨λ _=>⟨λ _ _=>⟨h1,h2⟩,λ _ _=>⟨h1,h2⟩⟩,λ _ _=>⟨h1,h2⟩⟩,λ _ _=>⟨h1,h2⟩⟩⟩
  unfold R9
  simp only[gv,Bls]
  exact⟨λ _=>⟨λ _ _=>⟨h1,h2⟩,λ _=>j3⟩,λ _=>j3⟩
 unfold Us B8
 simp only[gv,Aqa,Afw,Bbj hm.len hm.tx]
 refine⟨by simp,λ _=>⟨λ _=>⟨by simp,λ h1=>⟨by simp,λ _=>⟨by simp,λ _=>⟨by simp,λ _=>⟨by simp,λ _=>⟨by simp,λ _=>⟨by simp,λ _=>⟨by simp,λ h2=>j2 (Ahs (nn h1)) (Apo hm.len hm.tx (nn h2))⟩⟩⟩⟩⟩⟩⟩⟩,λ h1=>⟨by simp,λ _=>⟨by simp,λ _=>⟨by simp,λ _=>⟨by simp,λ _=>⟨by simp,λ _=>⟨by simp,λ _=>⟨by simp,λ h2=>j2 ?_ (Apo hm.len hm.tx (nn h2))⟩⟩⟩⟩⟩⟩⟩⟩⟩
 rw[show x.Type_=[82,101,97,108]from Decidable.byContradiction h1];simp
noncomputable def Bvz (x:Ax):Bool:=(Us x).getD false
theorem Bym {x:Ax} (h:XB x):Us x=some (Bvz x):=eqD _ (Bsp x h)
theorem Bs8 {x:Ax} (h:XB x) (hb:Bvz x=true):Bta x:=N0 false (Bsp x h) hb
structure CD (c:Aa):Prop where
 name:c.Name.length<=60
 bs:∀b∈c.Bases,b.Name.length<=60/\Bro b.Mods
 cs:∀x∈c.Comps,Bta x
theorem Bgk (c:Aa) (h:CB c):Al (Qk c) λ b=>b=true->CD c:=by
 unfold Qk Iv
 simp only[gv,Afw]
 refine⟨by simp,λ h0=>⟨by simp,λ _=>⟨by simp,λ _=> ?_⟩⟩⟩
 have h0:=Ahs (nn h0)
 refine Bc c.Bases.length (by have:=h.bl;omega) (λ i _=>∀j,j<i->(c.Bases.getD j Cl).Name.length<=60/\Bro (c.Bases.getD j Cl).Mods) (λ j hj=>by omega) λ i _ hi hI=> ?_
 unfold L8 L3
 simp only[gv,Afw,Bbj (h.bat i).len (h.bat i).tx]
 refine⟨λ h1=>⟨by simp,λ h2=>⟨by simp,λ h3=>⟨h1,Eu hI ⟨Ahs (nn h2),Apo (h.bat i).len (h.bat i).tx (nn h3)⟩⟩⟩⟩,λ h1=> ?_⟩
 have hbs:=T7 (l:=c.Bases) (z:=Cl) (P:=λ b:Qv=>b.Name.length<=60/\Bro b.Mods) λ j hj=>hI j (by omega)
 unfold Mc
 simp only[gv]
 refine Bc c.Comps.length (by have:=h.cl;omega) (λ i _=>∀j,j<i->Bta (c.Comps.getD j An)) (λ j hj=>by omega) λ i _ hi hI=> ?_
 unfold Mu
 simp only[gv,Ag4,Bym (h.cat i)]
 refine⟨λ h1=>⟨by simp,λ h2=>⟨h1,Eu hI (Bs8 (h.cat i) (nn h2))⟩⟩,λ h1=> ?_⟩
 have hcs:=T7 (l:=c.Comps) (z:=An) (P:=Bta) λ j hj=>hI j (by omega)
 unfold Mf
 simp only[gv]
 refine Bc c.Links.length (by have:=h.ll;omega) (λ i _=>True) trivial λ i _ hi hI=> ?_
 unfold L5 Is
 simp only[gv,Bp7]
 refine⟨λ h1=>⟨by simp,λ h2=>⟨by simp,λ h3=>⟨by simp,λ _=>h1⟩⟩⟩,λ h1=> ?_⟩
 unfold Ms
 simp only[gv]
 refine Bc c.Whens.length (by have:=h.wl;omega) (λ i _=>True) trivial λ i _ hi hI=> ?_
 unfold Kq Kl
 simp only[gv]
 refine⟨λ h1=> ?_,λ h1 _=>⟨h0,hbs,hcs⟩⟩
 refine Cf (λ k (_:Unit)=>(((c.Whens.getD i Bz).Sets.length:Int),k,())) (c.Whens.getD i Bz).Sets.length (by have:=(h.wat i).2.1;omega) (λ i _=>True) (s:=()) trivial λ k _ hk hI=> ?_
 unfold Km Kj
 simp only[gv,Bp7,Ee]
 exact⟨λ h2=>⟨by simp,λ h3=>⟨h2,(),trivial⟩⟩,λ h2=>⟨h1,(),trivial⟩⟩
def PB (l:List A5):Prop:=∀p∈l,EB p.e
theorem PB.app {l m:List A5} (h:PB l) (k:PB m):PB (l++m):=λ p hp=>(List.mem_append.1 hp).elim (h p) (k p)
theorem PB.one {e:Am} {b:Bool} (h:EB e):PB [⟨e,b⟩]:=λ p hp=>by rw[List.mem_singleton.1 hp];exact h
theorem Azf (l:List Ak) (h:MB l) (out:List A5) (ho:PB out) (hl:out.length+l.length<=1000000):Al (Wn l out) λ r=>PB r/\r.length<=out.length+l.length:=by
 unfold Wn
 simp only[gv]
 refine Bc l.length h.len (λ i (s:List A5×Unit)=>PB s.1/\s.1.length<=out.length+i) ⟨ho,by simp⟩ λ i s hi hI=> ?_
 obtain⟨v,_⟩:=s
 obtain⟨h1,h2⟩:=hI
 simp only at h1 h2
 unfold U8 Wr
 simp only[gv,Bg]
 refine⟨λ h3=>⟨λ _=>⟨by unfold At;simp only[List.length_singleton];omega,h3,h1.app (PB.one (h.at i).2),by simp only[List.length_append,List.length_singleton];omega⟩,λ _=>⟨h3,h1,by omega⟩⟩,λ _=>⟨h1,by omega⟩⟩
theorem Brf (c:Aa) (h:CB c) (b1:c.Bases.length<=6) (b2:∀j,(c.Bases.getD j Cl).Mods.length<=8) (c1:c.Comps.length<=40) (c2:∀j,(c.Comps.getD j An).Mods.length<=8) (e1:c.Eqs.length<=40) (w1:c.Whens.length<=40) (w2:∀j,(c.Whens.getD j Bz).Sets.length<=6):Al (Alf c) λ r=>PB r/\r.length<=10000:=by
 unfold Alf
 simp only[gv]
 refine Bc c.Bases.length (by omega) (λ i (s:List A5×Unit)=>PB s.1/\s.1.length<=8*i) ⟨λ _ h=>(by cases h),by simp⟩ λ i s hi hI=> ?_
 obtain⟨v,_⟩:=s
 obtain⟨h1,h2⟩:=hI
 simp only at h1 h2
 unfold Abp
 simp only[gv]
 refine⟨λ h3=>(Azf _ (h.bat i) v h1 (by have:=b2 i;omega)).mono λ r hr=>⟨h3,hr.1,by have:=hr.2;have:=b2 i;omega⟩,λ h3=> ?_⟩
 have h2:v.length<=48:=by omega
 unfold Ab3
 simp only[gv]
 refine Bc c.Comps.length (by omega) (λ i (s:List A5×Unit)=>PB s.1/\s.1.length<=48+10*i) ⟨h1,by simpa using h2⟩ λ i s hi hI=> ?_
 obtain⟨v,_⟩:=s
 obtain⟨h1,h2⟩:=hI
 simp only at h1 h2
 unfold Ab0
 simp only[gv,Bg,Ak7]
 have hx:=h.cat i
 have hm:=c2 i
 refine⟨λ h3=>(Azf _ hx.1 v h1 (by omega)).mono λ r hr=> ?_,λ h3=> ?_⟩
 ·have j4:∀u:List A5,PB u->u.length<=v.length+9->Al (Wm c (i:Int) (u,())) (Az1 Prod.mk c.Comps.length i (λ i (s:List A5×Unit)=>PB s.1/\s.1.length<=48+10*i) λ r=>Al (Vn c r) λ r=>PB r/\r.length<=10000):=by
   intro u hu1 hu2
   unfold Wm Adb
   simp only[gv,Bg,Ak7]
   exact⟨λ _=>⟨by unfold At;simp only[List.length_singleton];omega,h3,hu1.app (PB.one hx.2.1),by simp only[List.length_append,List.length_singleton];omega⟩,λ _=>⟨h3,hu1,by omega⟩⟩
  have hr2:=hr.2
  exact⟨λ _=>⟨by unfold At;simp only[List.length_singleton];omega,j4 _ (hr.1.app (PB.one hx.2.2)) (by simp only[List.length_append,List.length_singleton];omega)⟩,λ _=>j4 _ hr.1 (by omega)⟩
 have h2:v.length<=448:=by omega
 unfold Vn
 simp only[gv]
 refine Bc c.Eqs.length (by omega) (λ i (s:List A5×Unit)=>PB s.1/\s.1.length<=448+2*i) ⟨h1,by simpa using h2⟩ λ i s hi hI=> ?_
 obtain⟨v,_⟩:=s
 obtain⟨h1,h2⟩:=hI
 simp only at h1 h2
 unfold Abz
 simp only[gv,Bg]
 refine⟨λ h3=>⟨by unfold At;simp only[List.length_cons,List.length_nil];omega,h3,h1.app ((PB.one (h.eat i).1:PB [_]).app (PB.one (h.eat i).2)),by simp only[List.length_append,List.length_cons,List.length_nil];omega⟩,λ h3=> ?_⟩
 have h2:v.length<=528:=by omega
 unfold Abr
 simp only[gv]
 refine Bc c.Whens.length (by omega) (λ i (s:List A5×Unit)=>PB s.1/\s.1.length<=528+7*i) ⟨h1,by simpa using h2⟩ λ i s hi hI=> ?_
 obtain⟨v,_⟩:=s
 obtain⟨h1,h2⟩:=hI
 simp only at h1 h2
 unfold Ab4 Y6
 simp only[gv,Bg]
 have hw:=h.wat i
 have hws:=w2 i
 refine⟨λ h3=>⟨by unfold At;simp only[List.length_singleton];omega, ?_⟩,λ h3=>⟨h1,by omega⟩⟩
 refine Cf (λ k (o:List A5)=>(((c.Whens.getD i Bz).Sets.length:Int),k,o,())) (c.Whens.getD i Bz).Sets.length (by omega) (λ k o=>PB o/\o.length<=v.length+1+k) ⟨h1.app (PB.one hw.1),by simp⟩ λ k o hk hJ=> ?_
 unfold Y5 Yv
 simp only[gv,Ee,Bg]
 refine⟨λ h4=>⟨by unfold At;simp only[List.length_singleton];omega,h4,_,rfl,hJ.1.app (PB.one (hw.2.2 _ (Fc Ab8 h4))),by simp only[List.length_append,List.length_singleton];omega⟩,λ h4=>⟨h3,(_,()),rfl,hJ.1,by simp only;omega⟩⟩
structure VS (c:Aa):Prop where
 d:CD c
 bl:c.Bases.length<=6
 cl:c.Comps.length<=40
 el:c.Eqs.length<=40
 ll:c.Links.length<=40
 wl:c.Whens.length<=40
 bm:∀b∈c.Bases,b.Mods.length<=8
 cm:∀b∈c.Comps,b.Mods.length<=8
 wm:∀b∈c.Whens,b.Sets.length<=6
theorem Bp5 (c:Aa) (h:CB c):Al (Yr c) λ r=>r=0->VS c:=by
 unfold Yr
 simp only[gv]
 refine(Boz c (by have:=h.bl;omega) (by have:=h.cl;omega) (by have:=h.wl;omega)).mono λ y1 h1=>⟨λ a b=>absurd b a,λ e1=> ?_⟩
 obtain⟨s1,s2,s3,s4,s5,s6,s7,s8⟩:=h1 (Decidable.byContradiction e1)
 refine(Bgk c h).mono λ y2 h2=>⟨by simp,λ e2=> ?_⟩
 have hd:=h2 (nn e2)
 refine(B45 c (by omega) (by omega) (λ j=>(h.bat j).len) (λ j=>(h.cat j).1.len)).mono λ y3 _=>⟨λ a b=>absurd b a,λ e3=> ?_⟩
 have hv:VS c:=⟨hd,s1,s2,s3,s4,s5,s6,s7,s8⟩
 refine(Brf c h s1 (Pi (P:=λ b:Qv=>b.Mods.length<=8) (by decide) s6) s2 (Pi (P:=λ b:Ax=>b.Mods.length<=8) (by decide) s7) s3 s5 (Pi (P:=λ b:G5=>b.Sets.length<=6) (by decide) s8)).mono λ l ⟨l1,l2⟩=> ?_
 have hE:∀j,EB (l.getD j T4).e:=Pi (P:=λ p:A5=>EB p.e) EB.z l1
 refine Cf (λ i (_:Unit)=>(l,l,(l.length:Int),i,())) l.length (by omega) (λ i _=>∀j,j<i->EN (l.getD j T4).e) (s:=()) (λ j hj=>by omega) λ i _ hi hI=> ?_
 unfold Tt
 simp only[gv,Ee,Bg]
 refine⟨λ h3=>(A89 _ (hE i)).mono λ r hr=>⟨λ a b=>absurd b a,λ e=>⟨h3,(),Eu hI (hr (Decidable.byContradiction e))⟩⟩,λ h3=> ?_⟩
 unfold Ta
 simp only[gv]
 refine Bc l.length (by omega) (λ i _=>True) trivial λ i _ hi _=> ?_
 unfold Tc
 simp only[gv,Bg]
 refine⟨λ h4=>(Bzb _ (hE i) (hI i (by omega))).mono λ r hr=>⟨by simp,λ _=>h4⟩,λ h4=> ?_⟩
 unfold Tg
 simp only[gv]
 refine Bc l.length (by omega) (λ i _=>True) trivial λ i _ hi _=> ?_
 unfold S9 Tv
 simp only[gv,Bg,Bes]
 exact⟨λ h5=>⟨by simp,λ _=>h5⟩,λ _ _=>hv⟩
theorem Bhs (l:List Aa) (h:∀c∈l,CB c):Al (P6 l) λ r=>r=0->l.length<=60/\∀c∈l,VS c:=by
 unfold P6
 simp only[gv]
 refine⟨by simp,λ hl=> ?_⟩
 refine Bc l.length (by omega) (λ i _=>∀j,j<i->VS (l.getD j Ag)) (λ j hj=>by omega) λ i _ hi hI=> ?_
 unfold Lq
 simp only[gv]
 refine⟨λ h1=>(Bp5 _ (Pi CB.z h i)).mono λ r hr=>⟨λ a b=>absurd b a,λ e=>⟨h1,Eu hI (hr (Decidable.byContradiction e))⟩⟩,λ h1=> ?_⟩
 have hv:=T7 (l:=l) (z:=Ag) (P:=VS) λ j hj=>hI j (by omega)
 unfold Lx
 simp only[gv]
 refine Bc l.length (by omega) (λ i _=>True) trivial λ i _ hi _=> ?_
 unfold Lv Mn
 simp only[gv]
 refine⟨λ h2=> ?_,λ _ _=>⟨by omega,hv⟩⟩
 refine Bc i (by omega) (λ i _=>True) trivial λ k _ hk _=> ?_
 unfold L6 Md
 simp only[gv]
 refine⟨λ h3=>⟨h2,by omega,by simp,λ _=>h3⟩,λ _=>h2⟩
theorem Aad {p:Nat->Bool}:∀{n a i:Nat},a<=i->i<a+n->p i=true->(∀j,a<=j->j<i->p j=false)->fst p a n=some i
 |0,_,_,_,h,_,_=>by omega
 |n+1,a,i,h1,h2,h3,h4=>by
  unfold fst
  by_cases hp:p a=true
  ·rw[if_pos hp]
   rcases Nat.lt_or_eq_of_le h1 with h|rfl
   ·rw[h4 a (Nat.le_refl _) h]at hp;cases hp
   ·rfl
  ·rw[if_neg hp]
   have:a≠i:=by rintro rfl;exact hp h3
   exact Aad (by omega) (by omega) h3 λ j hj=>h4 j (by omega)
theorem Ahk {p:Nat->Bool}:∀{n a:Nat},(∀j,a<=j->j<a+n->p j=false)->fst p a n=none
 |0,_,_=>rfl
 |n+1,a,h=>by
  unfold fst
  rw[if_neg (by rw[h a (Nat.le_refl _) (by omega)];simp)]
  exact Ahk λ j hj hj2=>h j (by omega) (by omega)
theorem Bt7 {p:Nat->Bool}:∀{n a i:Nat},fst p a n=some i->a<=i/\i<a+n/\p i=true/\∀j,a<=j->j<i->p j=false
 |0,_,_,h=>by cases h
 |n+1,a,i,h=>by
  unfold fst at h
  split at h
  ·cases h;exact⟨Nat.le_refl _,by omega,by assumption,λ j h1 h2=>by omega⟩
  ·rename_i hp
   obtain⟨h1,h2,h3,h4⟩:=Bt7 h
   refine⟨by omega,by omega,h3,λ j h5 h6=> ?_⟩
   rcases Nat.lt_or_eq_of_le h5 with h|rfl
   ·exact h4 j h h6
   ·simpa using hp
def Bqe (l:List Aa) (s:List UInt8) (j:Nat):Bool:=decide ((l.getD j Ag).Name=s)
def cls (l:List Aa) (s:List UInt8):Option Nat:=fst (Bqe l s) 0 l.length
theorem Ak1 (l:List Aa) (s:List UInt8) (h:l.length<9223372036854775807):Gc l s=some (Aa5 (cls l s)):=by
 refine Al.eq ?_
 unfold Gc Kv
 simp only[gv]
 refine Bc l.length h (λ i (v:List UInt8×Unit)=>v.1=s/\∀j,0<=j->j<i->Bqe l s j=false) ⟨rfl,λ j _ hj=>by omega⟩ λ i v hi hI=> ?_
 obtain⟨v,_⟩:=v
 obtain⟨h1,h2⟩:=hI
 simp only at h1
 subst h1
 unfold Fx F1 Ald
 simp only[gv]
 refine⟨λ h3=>⟨λ h4=> ?_,λ h4=>⟨h3,λ j a b=> ?_⟩⟩,λ h3=> ?_⟩
 ·unfold cls;rw[Aad (Nat.zero_le i) (by omega) (decide_eq_true h4) h2];rfl
 ·rcases Nat.lt_or_eq_of_le (Nat.lt_succ_iff.1 b)with b|rfl
  ·exact h2 j a b
  ·exact decide_eq_false h4
 ·unfold cls;rw[Ahk λ j a b=>h2 j a (by omega)];rfl
theorem Ajo {l:List Aa} {s:List UInt8} {k:Nat} (h:cls l s=some k):k<l.length/\(l.getD k Ag).Name=s:=by
 obtain⟨_,h2,h3,_⟩:=Bt7 h
 exact⟨by omega,by simpa [Bqe]using h3⟩
theorem B4s {l:List Aa} {s:List UInt8} {k:Nat} (hk:k<l.length) (h:(l.getD k Ag).Name=s):∃j,cls l s=some j:=by
 cases h':cls l s with
 |some j=>exact⟨j,rfl⟩
 |none=>
  exfalso
  have:∀{n a:Nat},fst (Bqe l s) a n=none->∀j,a<=j->j<a+n->Bqe l s j=false:=by
   intro n
   induction n with
   |zero=>intro a _ j h1 h2;omega
   |succ n ih=>
    intro a h j h1 h2
    unfold fst at h
    split at h
    ·cases h
    ·rename_i hp
     rcases Nat.lt_or_eq_of_le h1 with h3|rfl
     ·exact ih h j h3 (by omega)
     ·simpa using hp
  have:=this h' k (Nat.zero_le _) (by omega)
  rw[Bqe,h]at this
  simp at this
theorem A8u {o:Option Nat}:0<=Aa5 o↔∃k,o=some k:=by cases o<;>simp[Aa5]
def LV (l:List Aa):Prop:=l.length<=60/\∀c∈l,VS c
theorem VS.z:VS Ag:=⟨⟨by decide,λ _ h=>(by cases h),λ _ h=>(by cases h)⟩,by decide,by decide,by decide,by decide,by decide,λ _ h=>(by cases h),λ _ h=>(by cases h),λ _ h=>(by cases h)⟩
theorem LV.at {l:List Aa} (h:LV l) (j:Nat):VS (l.getD j Ag):=Pi VS.z h.2 j
theorem LV.len {l:List Aa} (h:LV l):l.length<9223372036854775807:=by have:=h.1;omega
theorem A5x (l:List Aa) (h:∀c∈l,CB c) (ns:List (List UInt8)) (hn:ns.length<9223372036854775807):Al (Ae9 l ns) λ r=>r=0->LV l/\∀s∈ns,∃k,cls l s=some k:=by
 unfold Ae9
 simp only[gv]
 refine(Bhs l h).mono λ y hy=>⟨λ a b=>absurd b a,λ e=> ?_⟩
 have hv:LV l:=hy (Decidable.byContradiction e)
 refine Bc ns.length hn (λ i _=>∀j,j<i->∃k,cls l (ns.getD j [])=some k) (λ j hj=>by omega) λ i _ hi hI=> ?_
 unfold Ac0 Adc
 simp only[gv,Ak1 _ _ hv.len]
 refine⟨λ h1=>⟨by simp,λ h2=>⟨h1,Eu hI (A8u.1 (by omega))⟩⟩,λ h1 _=>⟨hv,T7 (z:=[]) λ j hj=>hI j (by omega)⟩⟩
theorem Bg0 (s:List UInt8) (hl:s.length<9223372036854775807) (c:Int):Al (Je s c) λ r=> -1<=r/\r<s.length:=by
 unfold Je Ig
 simp only[gv]
 rw[Dh (by omega) (by omega)]
 refine Ci (λ v:Int×Unit=> -1<=v.1/\v.1<s.length) (λ v=>(v.1+1).toNat) (by simp only;omega) ?_
 rintro⟨v,_⟩ ⟨h1,h2⟩
 simp only at h1 h2
 unfold Ej Ei
 simp only[gv]
 refine⟨λ h3=>⟨⟨h3,h2⟩,λ _=>⟨h1,h2⟩,λ _=> ?_⟩,λ h3=>by omega⟩
 rw[Dh (by omega) (by omega)]
 omega
def B6q (l:List Aa) (k:Nat) (s:List UInt8):Prop:=(l.getD k Ag).Name=s\/∃p,(l.getD k Ag).Name=p++[46]++s
theorem Sg (l:List Aa) (hl:l.length<9223372036854775807) (a s:List UInt8) (ha:a.length+s.length<140737488355328):Al (D0 l a s) λ r=>0<=r->∃k:Nat,r=(k:Int)/\k<l.length/\B6q l k s:=by
 unfold D0
 simp only[gv]
 refine Ci (λ v:List UInt8×Unit=>v.1.length<=a.length) (λ v=>v.1.length) (Nat.le_refl _) ?_
 rintro⟨v,_⟩ hv
 simp only at hv
 unfold U2
 simp only[gv,Ak1 _ _ hl]
 refine⟨by unfold At;simp only[List.length_singleton];omega,by unfold At;simp only[List.length_append,List.length_singleton];omega,λ h=>λ _=> ?_,λ h=> ?_⟩
 ·obtain⟨k,hk⟩:=A8u.1 h
  rw[hk]
  exact⟨k,rfl,(Ajo hk).1,.inr ⟨v,(Ajo hk).2⟩⟩
 ·refine(Bg0 v (by omega) 46).mono λ y hy=>⟨λ _ h=> ?_,λ h=>⟨by decide,by omega,by omega, ?_, ?_⟩⟩
  ·obtain⟨k,hk⟩:=A8u.1 h
   rw[hk]
   exact⟨k,rfl,(Ajo hk).1,.inl (Ajo hk).2⟩
  ·simp only[List.length_take,List.length_drop];omega
  ·simp only[List.length_take,List.length_drop];omega
theorem Aq0:∀(n:Nat) (l:List Int),l.Nodup->(∀x∈l,0<=x/\x<n)->l.length<=n
 |0,[],_,_=>Nat.le_refl _
 |0,x::r,_,h=>by have:=h x (List.mem_cons_self ..);omega
 |n+1,l,hd,h=>by
  have h1:=Aq0 n (l.erase (n:Int)) (hd.erase _) λ x hx=>by
   have h2:=(List.Nodup.mem_erase_iff hd).1 hx
   have h3:=h x h2.2
   have:x≠n:=h2.1
   omega
  have h2:=List.length_erase (a:=(n:Int)) (l:=l)
  split at h2<;>omega
def Ja {α β:Type} (l:List (α×β)):List α:=l.map Prod.fst
def B2x {α:Type} (l:List (α×Bool)):Prop:=∀p∈l,p.2=true
theorem Axh {α:Type} {eq:α->α->Bool} (he:∀a b,eq a b=true↔a=b) {x:α}:∀{l:List (α×Bool)},B2x l->((Option.getD (Kh eq x l) false=true)↔x∈Ja l)
 |[],_=>by simp[Kh,Ja]
 |(y,v)::r,h=>by
  have hv:v=true:=h (y,v) (List.mem_cons_self ..)
  have ih:=Axh he (x:=x) (l:=r) λ p hp=>h p (List.mem_cons_of_mem _ hp)
  unfold Kh
  by_cases e:eq x y=true
  ·rw[if_pos e];simp[hv,Ja,(he x y).1 e]
  ·rw[if_neg e,ih]
   have:x≠y:=λ q=>e ((he x y).2 q)
   simp[Ja,this]
theorem Ayj {α β:Type} {eq:α->α->Bool} (he:∀a b,eq a b=true↔a=b) {x:α} {v:β}:∀{l:List (α×β)},x∉Ja l->Hc eq x v l=l++[(x,v)]
 |[],_=>rfl
 |(y,w)::r,h=>by
  simp only[Ja,List.map_cons,List.mem_cons,not_or]at h
  unfold Hc
  rw[if_neg (by rw[he];exact h.1),Ayj he h.2]
  rfl
theorem Bwk (a b:Int):kqI a b=true↔a=b:=by simp[kqI]
structure MK (n:Nat) (m:List (Int×Bool)):Prop where
 nd:(Ja m).Nodup
 rg:∀x∈Ja m,0<=x/\x<n
 tr:B2x m
theorem MK.le {n:Nat} {m:List (Int×Bool)} (h:MK n m):m.length<=n:=by
 have:=Aq0 n (Ja m) h.nd h.rg
 simpa [Ja]using this
theorem MK.put {n:Nat} {m:List (Int×Bool)} (h:MK n m) {x:Int} (hx:x∉Ja m) (h0:0<=x) (h1:x<n):MK n (m++[(x,true)]) where
 nd:=by
  simp only[Ja,List.map_append,List.map_cons,List.map_nil]
  refine List.nodup_append.2 ⟨h.nd,by simp,λ a ha b hb=> ?_⟩
  rw[List.mem_singleton.1 hb]
  rintro rfl
  exact hx ha
 rg:=by
  intro y hy
  simp only[Ja,List.map_append,List.map_cons,List.map_nil]at hy
  rcases List.mem_append.1 hy with hy|hy
  ·exact h.rg y hy
  ·rw[List.mem_singleton.1 hy];exact⟨h0,h1⟩
 tr:=by
  intro p hp
  rcases List.mem_append.1 hp with hp|hp
  ·exact h.tr p hp
  ·rw[List.mem_singleton.1 hp]
theorem Aq7 (l:List Int) (hl:l.length<9223372036854775807) (x:Int):Al (Et l x) λ r=>r=true↔x∈l:=by
 unfold Et Ph
 simp only[gv]
 refine Bc l.length hl (λ i _=>∀j,j<i->l.getD j 0≠x) (λ j hj=>by omega) λ i _ hi hI=> ?_
 unfold Hw H0
 simp only[gv]
 refine⟨λ h=>⟨λ h1=> ?_,λ h1=>⟨h,Eu hI λ e=>h1 e.symm⟩⟩,λ h=> ?_⟩
 ·rw[h1]
  exact⟨λ _=>Fc 0 h,λ _=>by omega⟩
 ·refine⟨λ h=>by simp at h,λ h2=> ?_⟩
  exact absurd rfl (T7 (l:=l) (z:=0) (P:=λ y=>y≠x) (λ j hj=>hI j (by omega)) x h2)
structure SB (l:List Aa) (s:Ai):Prop where
 c0:0<=s.class_
 c1:s.class_<l.length
 b0:0<=s.by_
 b1:s.by_<l.length
 k0:0<=s.base
 k1:s.base<(l.getD s.by_.toNat Ag).Bases.length
def BR (l:List Aa) (q:Nat):Prop:=∀b∈(l.getD q Ag).Bases,∃z,D0 l (l.getD q Ag).Name b.Name=some z/\0<=z
theorem Al.self {α:Type} {o:Option α} {Q:α->Prop} (h:Al o Q):Al o λ r=>Q r/\o=some r:=by obtain⟨r,h1,h2⟩:=h;exact⟨r,h1,h2,h1⟩
theorem Bv7 (l:List Aa) (hv:LV l):∀(k:Nat) (s:Ai) (path:List Int) (m:List (Int×Bool)) (out:List Ai),0<=s.class_->s.class_<l.length->path.Nodup->(∀x∈path,0<=x/\x<l.length)->MK l.length m->out.length<=m.length->l.length+1<=k+path.length->
 Al (Uh k l s path m out) λ r=>r.1=0->MK l.length r.2.1/\r.2.2.length<=r.2.1.length/\(∀x∈path,x∈Ja r.2.1->x∈Ja m)/\∃nw,r.2.2=out++nw/\∀t∈nw,(t=s\/SB l t)/\BR l t.class_.toNat
 |0,s,path,m,out,_,_,hp,hr,_,_,hk=>by
  have:=Aq0 l.length path hp hr
  omega
 |k+1,s,path,m,out,hc0,hc1,hp,hr,hm,ho,hk=>by
  have hpl:=Aq0 l.length path hp hr
  have hn:=hv.1
  unfold Uh Avu Dq
  simp only[gv]
  refine(Aq7 path (by omega) s.class_).mono λ y hy=>⟨λ _=>by simp,λ h1=>⟨λ _ _=>⟨hm,ho,λ x _ h=>h,[],by simp,by simp⟩,λ h2=>⟨by omega,by unfold At;simp only[List.length_singleton];omega,⟨hc0,hc1⟩, ?_⟩⟩⟩
  have hnp:s.class_∉path:=λ h=>h1 (hy.2 h)
  have hnm:s.class_∉Ja m:=λ h=>h2 ((Axh Bwk hm.tr).2 h)
  have hp':(path++[s.class_]).Nodup:=List.nodup_append.2 ⟨hp,by simp,λ a ha b hb=>by rw[List.mem_singleton.1 hb];rintro rfl;exact hnp ha⟩
  have hr':∀x∈path++[s.class_],0<=x/\x<l.length:=λ x hx=>(List.mem_append.1 hx).elim (hr x) λ h=>by rw[List.mem_singleton.1 h];exact⟨hc0,hc1⟩
  obtain⟨c,hc⟩:=Int.eq_ofNat_of_zero_le hc0
  have hcl:c<l.length:=by omega
  have hcv:=hv.at c
  rw[hc]
  simp only[Int.toNat_natCast]
  rw[hc]at hnp hnm hp' hr'
  refine Cf (λ i (v:List (Int×Bool)×List Ai)=>(path++[(c:Int)],((l.getD c Ag).Bases.length:Int),i,v.1,v.2,())) (l.getD c Ag).Bases.length (by have:=hcv.bl;omega)
   (λ i v=>MK l.length v.1/\v.2.length<=v.1.length/\(∀x∈path++[(c:Int)],x∈Ja v.1->x∈Ja m)/\(∀j,j<i->∃z,D0 l (l.getD c Ag).Name ((l.getD c Ag).Bases.getD j Cl).Name=some z/\0<=z)/\∃nw,v.2=out++nw/\∀t∈nw,SB l t/\BR l t.class_.toNat) (s:=(m,out)) ⟨hm,ho,λ x _ h=>h,λ j hj=>absurd hj (Nat.not_lt_zero j),[],by simp,by simp⟩ λ i v hi hI=> ?_
  obtain⟨v1,v2⟩:=v
  obtain⟨i1,i2,i3,i6,nw,i4,i5⟩:=hI
  simp only at i1 i2 i3 i4
  unfold Abq Aby
  simp only[gv,Ee,hc]
  refine⟨λ h3=>⟨hcl, ?_⟩,λ h3=> ?_⟩
  ·have hb:=hcv.d.bs _ (Fc Cl h3)
   have hcn:=hcv.d.name
   refine(Sg l hv.len _ _ (by omega)).self.mono λ z ⟨hz,hze⟩=>⟨λ _=>by simp,λ h4=> ?_⟩
   obtain⟨q,rfl,hq,_⟩:=hz (by omega)
   refine(Bv7 l hv k ⟨(q:Int),(c:Int),(i:Int)⟩ (path++[(c:Int)]) v1 v2 (Int.natCast_nonneg q) (Int.ofNat_lt.2 hq) hp' hr' i1 i2 (by simp only[List.length_append,List.length_singleton];omega)).mono λ r hr=>⟨λ a b=>absurd b a,λ h5=> ?_⟩
   obtain⟨r1,r2,r3,nw',r4,r5⟩:=hr (Decidable.byContradiction h5)
   refine⟨h3,(r.2.1,r.2.2),rfl,r1,r2,λ x hx hk=>i3 x hx (r3 x hx hk),Eu i6 ⟨_,hze,Int.natCast_nonneg q⟩,nw++nw',by simp only;rw[r4,i4,List.append_assoc],λ t ht=> ?_⟩
   rcases List.mem_append.1 ht with ht|ht
   ·exact i5 t ht
   ·rcases r5 t ht with⟨rfl|h,hR⟩
    ·exact⟨⟨Int.natCast_nonneg q,Int.ofNat_lt.2 hq,Int.natCast_nonneg c,Int.ofNat_lt.2 hcl,Int.natCast_nonneg i,by simp only[Int.toNat_natCast];omega⟩,hR⟩
    ·exact⟨h,hR⟩
  ·have hcm:(c:Int)∉Ja v1:=λ h=>hnm (i3 _ (by simp) h)
   have hle:=i1.le
   rw[Ayj Bwk hcm]
   refine⟨by unfold At;simp only[List.length_singleton];omega,λ _=>⟨i1.put hcm (by omega) (by omega),by simp only[List.length_append,List.length_singleton];omega,λ x hx hk=> ?_,nw++[s],by rw[i4,List.append_assoc],λ t ht=> ?_⟩⟩
   ·simp only[Ja,List.map_append,List.map_cons,List.map_nil]at hk
    rcases List.mem_append.1 hk with hk|hk
    ·exact i3 x (List.mem_append_left _ hx) hk
    ·rw[List.mem_singleton.1 hk]at hx;exact absurd hx hnp
   ·rcases List.mem_append.1 ht with ht|ht
    ·exact⟨.inr (i5 t ht).1,(i5 t ht).2⟩
    ·have ht:=List.mem_singleton.1 ht
     refine⟨.inl ht, ?_⟩
     rw[ht,hc]
     exact T7 (l:=(l.getD c Ag).Bases) (z:=Cl) (P:=λ b:Qv=>∃z,D0 l (l.getD c Ag).Name b.Name=some z/\0<=z) λ j hj=>i6 j (by omega)
structure BS (l:List Aa) (c:Nat) (r:List Ai):Prop where
 len:r.length<=l.length
 shape:∃nw,r=nw++[⟨(c:Int), -1, -1⟩]/\∀t∈nw,SB l t
 res:∀t∈r,BR l t.class_.toNat
theorem A47 (l:List Aa) (hv:LV l) (c:Nat) (hc:c<l.length):Al (U7 l (c:Int)) λ r=>(r.2≠0->r.1=[])/\(r.2=0->BS l c r.1/\((l.getD c Ag).Bases=[]->r.1=[⟨(c:Int), -1, -1⟩])):=by
 have hn:=hv.1
 have hcv:=hv.at c
 unfold U7 Au4 Dq
 simp only[gv]
 refine(Aq7 [] (by decide) (c:Int)).mono λ y hy=>⟨λ h=>by have:=hy.1 h;simp at this,λ _=>⟨λ h=>by simp[Kh]at h,λ _=>⟨by decide,by unfold At;simp,hc, ?_⟩⟩⟩
 refine Cf (λ i (v:List Ai×List (Int×Bool))=>([]++[(c:Int)],((l.getD c Ag).Bases.length:Int),i,v.1,v.2,())) (l.getD c Ag).Bases.length (by have:=hcv.bl;omega)
  (λ i v=>MK l.length v.2/\v.1.length<=v.2.length/\(∀x∈[(c:Int)],x∈Ja v.2->False)/\(∀t∈v.1,SB l t/\BR l t.class_.toNat)/\(∀j,j<i->∃z,D0 l (l.getD c Ag).Name ((l.getD c Ag).Bases.getD j Cl).Name=some z/\0<=z)/\(i=0->v.1=[])) (s:=([],[])) ⟨⟨by simp[Ja],by simp[Ja],λ _ h=>(by cases h)⟩,Nat.le_refl _,λ x _ h=>(by cases h),λ _ h=>(by cases h),λ j hj=>absurd hj (Nat.not_lt_zero j),λ _=>rfl⟩ λ i v hi hI=> ?_
 obtain⟨v1,v2⟩:=v
 obtain⟨i1,i2,i3,i4,i6,i5⟩:=hI
 simp only at i1 i2 i3 i4 i5
 unfold Aci Adk
 simp only[gv,Ee,Int.toNat_natCast]
 refine⟨λ h3=>⟨hc, ?_⟩,λ h3=> ?_⟩
 ·have hb:=hcv.d.bs _ (Fc Cl h3)
  have hcn:=hcv.d.name
  refine(Sg l hv.len _ _ (by omega)).self.mono λ z ⟨hz,hze⟩=>⟨λ _=>by simp,λ h4=> ?_⟩
  obtain⟨q,rfl,hq,_⟩:=hz (by omega)
  unfold Asp
  refine(Bv7 l hv _ ⟨(q:Int),(c:Int),(i:Int)⟩ ([]++[(c:Int)]) v2 v1 (Int.natCast_nonneg q) (Int.ofNat_lt.2 hq) (by simp) (by intro x hx;simp at hx;omega) i1 i2 (by simp)).mono λ r hr=>⟨λ h h'=>absurd h' h,λ h5=> ?_⟩
  obtain⟨r1,r2,r3,nw',r4,r5⟩:=hr (Decidable.byContradiction h5)
  refine⟨h3,(r.2.2,r.2.1),rfl,r1,r2,λ x hx hk=>i3 x hx (r3 x (by simpa using hx) hk),λ t ht=> ?_,Eu i6 ⟨_,hze,Int.natCast_nonneg q⟩,λ h=>by omega⟩
  simp only at ht
  rw[r4]at ht
  rcases List.mem_append.1 ht with ht|ht
  ·exact i4 t ht
  ·rcases r5 t ht with⟨rfl|h,hR⟩
   ·exact⟨⟨Int.natCast_nonneg q,Int.ofNat_lt.2 hq,Int.natCast_nonneg c,Int.ofNat_lt.2 hc,Int.natCast_nonneg i,by simp only[Int.toNat_natCast];omega⟩,hR⟩
   ·exact⟨h,hR⟩
 ·have hle:=i1.le
  have hcm:(c:Int)∉Ja v2:=λ h=>i3 _ (by simp) h
  have hle2:=(i1.put hcm (by omega) (by omega)).le
  simp only[List.length_append,List.length_singleton]at hle2
  refine⟨by unfold At;simp only[List.length_singleton];omega,λ h=>absurd rfl h,λ _=>⟨⟨by simp only[List.length_append,List.length_singleton];omega,⟨v1,rfl,λ t ht=>(i4 t ht).1⟩,λ t ht=> ?_⟩,λ h=> ?_⟩⟩
  ·rcases List.mem_append.1 ht with ht|ht
   ·exact(i4 t ht).2
   ·rw[List.mem_singleton.1 ht]
    exact T7 (l:=(l.getD c Ag).Bases) (z:=Cl) (P:=λ b:Qv=>∃z,D0 l (l.getD c Ag).Name b.Name=some z/\0<=z) λ j hj=>i6 j (by omega)
  rw[h]at hi
  have:i=0:=Nat.le_zero.1 hi
  rw[i5 this];rfl
theorem Bpy (l:List Ak) (hl:l.length<9223372036854775807) (m:Ak):Al (G7 l m) λ r=>r.2=m/\r.1<l.length:=by
 unfold G7
 simp only[gv,Ack]
 refine Bc l.length hl (λ i (v:Ak×Unit)=>v.1=m) rfl λ i v hi hI=> ?_
 obtain⟨v,_⟩:=v
 simp only at hI
 subst hI
 unfold F3 Fu Alt
 simp only[gv,Ack]
 exact⟨λ h=>⟨λ _=>h,λ _=>h⟩,λ _=>by omega⟩
theorem A5f (o i:List Ak) (ho:o.length<=1000000) (hi:i.length<=1000000):Al (Xd o i) λ r=>r.length<=i.length+o.length/\∀m∈r,m∈o\/m∈i:=by
 unfold Xd
 simp only[gv]
 refine Bc i.length (by omega) (λ k (v:List (List UInt8×Bool)×List Ak×Unit)=>v.2.1.length<=k/\∀m∈v.2.1,m∈o\/m∈i) ⟨by simp,by simp⟩ λ k v hk hI=> ?_
 obtain⟨u,w,_⟩:=v
 obtain⟨h1,h2⟩:=hI
 simp only at h1 h2
 unfold W3 Vg
 simp only[gv,Ack]
 refine⟨λ h=>(Bpy o (by omega) _).mono λ r hr=>⟨λ h3=>⟨⟨h3,hr.2⟩,by unfold At;simp only[List.length_singleton];omega,h,by simp only[List.length_append,List.length_singleton];omega,λ m hm=> ?_⟩,λ h3=>⟨by unfold At;simp only[List.length_singleton];omega,h,by simp only[List.length_append,List.length_singleton];omega,λ m hm=> ?_⟩⟩,λ h=> ?_⟩
 ·rcases List.mem_append.1 hm with hm|hm
  ·exact h2 m hm
  ·rw[List.mem_singleton.1 hm];exact .inl (Fc _ (by have:=hr.2;omega))
 ·rcases List.mem_append.1 hm with hm|hm
  ·exact h2 m hm
  ·rw[List.mem_singleton.1 hm,hr.1];exact .inr (Fc _ h)
 have h1:w.length<=i.length:=by omega
 unfold Ww
 simp only[gv]
 refine Bc o.length (by omega) (λ k (v:List (List UInt8×Bool)×List Ak×Unit)=>v.2.1.length<=i.length+k/\∀m∈v.2.1,m∈o\/m∈i) ⟨by simpa using h1,h2⟩ λ k v hk hI=> ?_
 obtain⟨u,w,_⟩:=v
 obtain⟨h1,h2⟩:=hI
 simp only at h1 h2
 unfold U9 Vs W6
 simp only[gv,Ack]
 refine⟨λ h=>⟨λ _=>⟨by unfold At;simp only[List.length_singleton];omega,h,by simp only[List.length_append,List.length_singleton];omega,λ m hm=> ?_⟩,λ _=>⟨h,by omega,h2⟩⟩,λ _=>⟨by omega,h2⟩⟩
 rcases List.mem_append.1 hm with hm|hm
 ·exact h2 m hm
 ·rw[List.mem_singleton.1 hm];exact .inl (Fc _ h)
theorem Aea {α:Type} (l:List α) (i:Nat) (z:α) (h:i<l.length):l.take (i+1)=l.take i++[l.getD i z]:=by
 rw[List.take_add_one,List.getD_eq_getElem?_getD,List.getElem?_eq_getElem h];rfl
theorem Brz:∀(k:Nat) (e:Am),SizeOf.sizeOf e<k->EB e->Al (I5 k e) λ r=>r=e
 |0,_,h,_=>by omega
 |k+1,e,h,hb=>by
  have hlen:e.Kids.length<1099511627776:=by cases hb;assumption
  unfold I5 Afl Arg
  simp only[gv,Bg]
  refine⟨λ h0=> ?_,λ h0=> ?_⟩
  ·have:e.Kids=[]:=List.length_eq_zero_iff.1 (by omega)
   cases e;simp only at this;rw[this]
  ·refine Bc e.Kids.length hb.len (λ i (v:Am×List Am×Unit)=>v.2.1=e.Kids.take i) (by simp) λ i v hi hI=> ?_
   obtain⟨u,w,_⟩:=v
   simp only at hI
   subst hI
   unfold Qg P8
   simp only[gv,Bg]
   refine⟨λ h1=>(Brz k _ (by have:=Ber h1;omega) (hb.at i)).mono λ r hr=>⟨by unfold At;simp only[List.length_singleton,List.length_take];omega,h1, ?_⟩,λ h1=> ?_⟩
   ·rw[hr,Aea _ _ D4 h1]
   ·rw[List.take_of_length_le (by omega)];cases e;rfl
theorem Agd {e:Am} (h:EB e):Nm e=some e:=by
 refine Al.eq ?_
 unfold Nm Yx
 simp only[gv,Bg]
 exact Brz _ e (by omega) h
theorem B4w {α:Type} (l:List α) (i:Nat) (z:α):l.set i (l.getD i z)=l:=by
 rcases Nat.lt_or_ge i l.length with h|h
 ·rw[List.getD_eq_getElem?_getD,List.getElem?_eq_getElem h];simp
 ·exact List.set_eq_of_length_le h
theorem Bob {l:List Ak} (h:MB l) (hl:l.length<=1000000):Xf l=some l:=by
 refine Al.eq ?_
 unfold Xf
 simp only[gv]
 refine⟨by omega,by omega,by unfold At;omega,by simp, ?_⟩
 refine Bc l.length (by omega) (λ i (v:List Ak×Unit)=>v.1=l) rfl λ i v hi hI=> ?_
 obtain⟨v,_⟩:=v
 simp only at hI
 subst hI
 unfold P7 Qi
 simp only[gv,Bg,Agd (h.at i).2]
 exact λ h1=>B4w v i A3
def TM (l:List Aa) (m:Ak):Prop:=m.Type_=[]\/∃k,cls l m.Type_=some k
def PM (l:List Aa) (ms:List Ak):Prop:=∀m∈ms,Tx m.Path/\EB m.Value/\TM l m
theorem PM.nil {l:List Aa}:PM l []:=λ _ h=>nomatch h
theorem A1u (l:List Aa) (hv:LV l) (a:List UInt8) (ha:a.length<=60) (ms:List Ak) (h:MB ms) (hl:ms.length<=8) (ht:Bro ms):Al (Aj9 l a ms) λ r=>r.2=true->PM l r.1/\r.1.length<=8:=by
 unfold Aj9
 simp only[gv,Bob h (by omega)]
 refine Cf (λ i (v:List Ak)=>((ms.length:Int),i,v,())) ms.length (by omega) (λ i v=>v.length=ms.length/\∀j,Tx (v.getD j A3).Path/\EB (v.getD j A3).Value/\(j<i->TM l (v.getD j A3))/\(v.getD j A3).Type_.length<=60) ⟨rfl,λ j=>⟨(h.at j).1,(h.at j).2,λ hj=>absurd hj (Nat.not_lt_zero j),Pi (P:=λ m:Ak=>m.Type_.length<=60) (by simp[A3]) ht j⟩⟩ λ i v hi hI=> ?_
 obtain⟨h1,h2⟩:=hI
 unfold Alb Aly
 simp only[gv,Ee,Bg]
 refine⟨λ h3=>⟨by omega,λ h4=>⟨h3,v,rfl,h1,λ j=>⟨(h2 j).1,(h2 j).2.1,λ hj=> ?_,(h2 j).2.2.2⟩⟩,λ h4=> ?_⟩,λ h3 _=>⟨?_,by omega⟩⟩
 ·rcases Nat.lt_or_eq_of_le (Nat.lt_succ_iff.1 hj)with hj|rfl
  ·exact(h2 j).2.2.1 hj
  ·exact .inl h4
 ·have h6:=(h2 i).2.2.2
  refine(Sg l hv.len a _ (by omega)).mono λ z hz=>⟨λ _ h=>(by cases h),λ h5=> ?_⟩
  obtain⟨k,rfl,hk,_⟩:=hz (by omega)
  refine⟨⟨by omega,by omega⟩,by omega,h3,_,rfl,by rw[List.length_set];exact h1,λ j=> ?_⟩
  simp only[Int.toNat_natCast]
  by_cases hj:j=i
  ·subst hj
   have e:(v.set j ⟨(v.getD j A3).Path,(l.getD k Ag).Name,(v.getD j A3).Value⟩).getD j A3=⟨(v.getD j A3).Path,(l.getD k Ag).Name,(v.getD j A3).Value⟩:=by
    rw[List.getD_eq_getElem?_getD,List.getElem?_set_self (by omega)];rfl
   rw[e]
   exact⟨(h2 j).1,(h2 j).2.1,λ _=> .inr (B4s hk rfl),(hv.at k).d.name⟩
  ·have e:(v.set i ⟨(v.getD i A3).Path,(l.getD k Ag).Name,(v.getD i A3).Value⟩).getD j A3=v.getD j A3:=by
    rw[List.getD_eq_getElem?_getD,List.getElem?_set_ne (λ h=>hj h.symm),<-List.getD_eq_getElem?_getD]
   rw[e]
   exact⟨(h2 j).1,(h2 j).2.1,λ h=>(h2 j).2.2.1 (by omega),(h2 j).2.2.2⟩
 ·exact T7 (z:=A3) λ j hj=>⟨(h2 j).1,(h2 j).2.1,(h2 j).2.2.1 (by omega)⟩
structure WC (l:List Aa) (c:Ax) (ms:List Ak) (r:Ax):Prop where
 name:r.Name=c.Name
 ty:r.Type_=c.Type_\/∃k,cls l r.Type_=some k
 own:ms=[]->r.Type_=c.Type_
 cond:EB r.Cond
 value:EB r.Value
 pm:PM l r.Mods
 len:r.Mods.length<=ms.length+c.Mods.length
theorem Bvg (l:List Aa) (c:Ax) (hc:EB c.Cond) (hval:EB c.Value) (hm0:PM l c.Mods) (hml:c.Mods.length<=8) (ms:List Ak) (h:PM l ms) (hl:ms.length<=1000):Al (Aic c ms) (WC l c ms):=by
 unfold Aic
 simp only[gv,Ag4]
 refine Bc ms.length (by omega) (λ i (v:Ax×Ax×List Ak×Unit)=>v.1.Name=c.Name/\(v.1.Type_=c.Type_\/∃k,cls l v.1.Type_=some k)/\(i=0->v.1.Type_=c.Type_)/\EB v.1.Cond/\EB v.1.Value/\v.1.Mods=c.Mods/\PM l v.2.2.1/\v.2.2.1.length<=i) ⟨rfl,.inl rfl,λ _=>rfl,hc,hval,rfl,PM.nil,by simp⟩ λ i v hi hI=> ?_
 obtain⟨v1,v2,v3,_⟩:=v
 obtain⟨i1,i2,i3,i4,i5,i6,i7,i8⟩:=hI
 simp only at i1 i2 i3 i4 i5 i6 i7 i8
 unfold Za Nt
 simp only[gv,Ag4,Bg]
 refine⟨λ h1=> ?_,λ h1=> ?_⟩
 ·have hx:=h _ (Fc A3 h1)
  have hxp:(ms.getD i A3).Path.length<4294967281:=hx.1
  refine(Akp _ 46 (by omega)).mono λ y hy=>⟨λ _=>⟨h1,i1,i2,λ h=>by omega,i4,i5,i6,i7,by omega⟩,λ _=>⟨λ _=>⟨by unfold At;simp only[List.length_singleton];omega,h1,i1,i2,λ h=>by omega,i4,i5,i6,λ m hm=> ?_,by simp only[List.length_append,List.length_singleton];omega⟩,λ _=>⟨λ h2=>⟨h1,i1, ?_,λ h=>by omega,i4,i5,i6,i7,by omega⟩,λ _=>⟨h1,i1,i2,λ h=>by omega,i4,hx.2.1,i6,i7,by omega⟩⟩⟩⟩
  ·rcases List.mem_append.1 hm with hm|hm
   ·exact i7 m hm
   ·rw[List.mem_singleton.1 hm]
    exact⟨by unfold Tx;have:=hy.2;simp only;omega,hx.2.1,hx.2.2⟩
  ·rcases hx.2.2 with h3|h3
   ·exact absurd h3 h2
   ·exact .inr h3
 ·unfold Yh
  simp only[gv,Bg]
  refine(A5f v3 v1.Mods (by omega) (by rw[i6];omega)).mono λ r hr=>⟨i1,i2,λ h=>i3 (by rw[h]at hi;exact Nat.le_zero.1 hi),i4,i5,λ m hm=> ?_, ?_⟩
  ·rcases hr.2 m hm with h2|h2
   ·exact i7 m h2
   ·rw[i6]at h2;exact hm0 m h2
  ·have:=hr.1;rw[i6]at this;simp only;omega
def A90:List UInt8:=[82,101,97,108]
def TR (l:List Aa) (c:Ax):Prop:=c.Type_=A90\/∃k,cls l c.Type_=some k
structure CC (l:List Aa) (c:Ax):Prop where
 cond:EB c.Cond
 value:EB c.Value
 pm:PM l c.Mods
 ty:TR l c
def nr (c:Ax):List UInt8×Bool:=(c.Name,decide (c.Type_=A90))
def GEq (v:List Wo) (n:Nat):Prop:=v.length<=n/\∀q∈v,EB q.L/\EB q.R
def GWh (v:List G5) (n:Nat):Prop:=v.length<=n/\∀w∈v,EB w.C/\w.Sets.length<=6/\∀s∈w.Sets,EB s.E
abbrev MM:=List (Int×List Ak)
abbrev RwS:=MM×List Ax×List Wo×List Mi×List G5×List Ax×Unit
theorem B19 (e:Am):(⟨e.Op,e.Name,⟨e.N.N,e.N.D⟩,e.Kids⟩:Am)=e:=by rcases e with⟨a,b,⟨c,d⟩,f⟩;rfl
theorem B3b {l:List Aa} {k:Int} {L:List Ai} {i:Nat} (hi:i<=60) {c:Aa} (hc:CB c) (hv:VS c) {M:MM} {C P:List Ax} {E:List Wo} {K:List Mi} {W:List G5} (hW:GWh W (40*i))
 {S:H (Fq l k L)⊕(H (Gp l k)⊕(Aa×Aa×Int))->Prop} (fin:∀W',GWh W' (40*(i+1))->Al (O6 l k L i (M,C,E,K,W',P,())) S):
 Al (iter (Zt l k L i c) (0,M,C,E,K,W,P,())) λ r=>Al (O6 l k L i r) S:=by
 refine Bc c.Whens.length (by have:=hv.wl;omega) (λ j (v:RwS)=>v.1=M/\v.2.1=C/\v.2.2.1=E/\v.2.2.2.1=K/\GWh v.2.2.2.2.1 (40*i+j)/\v.2.2.2.2.2.1=P) ⟨rfl,rfl,rfl,rfl,hW,rfl⟩ λ j v hj hI=> ?_
 obtain⟨v1,v2,v3,v4,W',v6,_⟩:=v
 obtain⟨i1,i2,i3,i4,hW',i6⟩:=hI
 simp only at i1 i2 i3 i4 hW' i6
 subst i1 i2 i3 i4 i6
 have hw:=hc.wat j
 have hwl:=hv.wl
 have hW1:=hW'.1
 unfold Zt
 simp only[gv,Bg,Agd hw.1]
 refine⟨λ h1=> ?_,λ h1=>fin _ ⟨by omega,hW'.2⟩⟩
 have hw6:=hv.wm _ (Fc Bz h1)
 refine Cf (λ t (v:List Aan)=>(((c.Whens.getD j Bz).Sets.length:Int),t,(c.Whens.getD j Bz).C.Op,(c.Whens.getD j Bz).C.Name,(c.Whens.getD j Bz).C.N.N,(c.Whens.getD j Bz).C.N.D,(c.Whens.getD j Bz).C.Kids,v1,v2,v3,v4,W',v6,v,())) (c.Whens.getD j Bz).Sets.length (by omega) (λ t v=>v.length<=t/\∀s∈v,EB s.E) ⟨by simp,by simp⟩ λ t v ht hJ=> ?_
 unfold Ail
 simp only[gv,Ee,Bg]
 refine⟨λ h2=> ?_,λ h2=> ?_⟩
 ·have he:=hw.2.2 _ (Fc Ab8 h2)
  rw[Agd he]
  have hJ1:=hJ.1
  simp only[gv]
  refine⟨by unfold At;simp only[List.length_singleton];omega,h2,_,rfl,by simp only[List.length_append,List.length_singleton];omega,λ s hs=> ?_⟩
  rcases List.mem_append.1 hs with hs|hs
  ·exact hJ.2 s hs
  ·rw[List.mem_singleton.1 hs];exact he
 ·have hJ1:=hJ.1
  unfold Aid
  simp only[gv,Ee,B19]
  refine⟨by unfold At;simp only[List.length_singleton];omega,h1,_,rfl,rfl,rfl,rfl,rfl,⟨by simp only[List.length_append,List.length_singleton];omega,λ w hw'=> ?_⟩,rfl⟩
  rcases List.mem_append.1 hw' with hw'|hw'
  ·exact hW'.2 w hw'
  ·rw[List.mem_singleton.1 hw'];exact⟨hw.1,by simp only;omega,hJ.2⟩
theorem B9h {l:List Aa} {k:Int} {L:List Ai} {i:Nat} (hi:i<=60) {c:Aa} (hc:CB c) (hv:VS c) {M:MM} {C P:List Ax} {E:List Wo} {K:List Mi} {W:List G5} (hE:GEq E (40*i)) (hK:K.length<=40*i) (hW:GWh W (40*i))
 {S:H (Fq l k L)⊕(H (Gp l k)⊕(Aa×Aa×Int))->Prop} (fin:∀E' K' W',GEq E' (40*(i+1))->K'.length<=40*(i+1)->GWh W' (40*(i+1))->Al (O6 l k L i (M,C,E',K',W',P,())) S):
 Al (Zv l k L i (c,M,C,E,K,W,P,())) S:=by
 unfold Zv
 simp only[gv]
 refine Bc c.Eqs.length (by have:=hv.el;omega) (λ j (v:RwS)=>v.1=M/\v.2.1=C/\GEq v.2.2.1 (40*i+j)/\v.2.2.2.1=K/\v.2.2.2.2.1=W/\v.2.2.2.2.2.1=P) ⟨rfl,rfl,hE,rfl,rfl,rfl⟩ λ j v hj hI=> ?_
 obtain⟨v1,v2,E',v4,v5,v6,_⟩:=v
 obtain⟨i1,i2,hE',i4,i5,i6⟩:=hI
 simp only at i1 i2 hE' i4 i5 i6
 subst i1 i2 i4 i5 i6
 have he:=hc.eat j
 have hel:=hv.el
 have hE1:=hE'.1
 unfold Ag8
 simp only[gv,Bg,Agd he.1,Agd he.2]
 refine⟨λ h1=>⟨by unfold At;simp only[List.length_singleton];omega,h1,by simp only[List.length_append,List.length_singleton];omega,λ q hq=> ?_⟩,λ h1=> ?_⟩
 ·rcases List.mem_append.1 hq with hq|hq
  ·exact hE'.2 q hq
  ·rw[List.mem_singleton.1 hq];exact he
 ·have hll:=hv.ll
  unfold Ah2
  simp only[gv]
  exact⟨by unfold At;omega,B3b hi hc hv hW λ W' hW'=>fin _ _ _ ⟨by omega,hE'.2⟩ (by simp only[List.length_append];omega) hW'⟩
end Go.Ab
