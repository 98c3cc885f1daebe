/- Built structs and slices, the lesser and the greater one, function values. Built slices, the lesser and the greater one, function values. Keys that are arrays of ints: checked, compared, found. Maps: made, looked up, written. A slice, copied over the whole of an array; an array, added to another. Conditions: none beyond those that each theorem names. -/
import Derived.Test.YtgngflkahbpecaaGreatDoorP04
import Derived.WideKeyRuns
import Derived.MapKept
import Derived.Laws.CopyOwn
set_option linter.unusedSimpArgs false
set_option linter.unusedVariables false
namespace Go.Ab
open Go
section
variable {V:Env} {P:Program} {C:Ctx} {bx:List (Nat×Box V.E)} {β:Nat->BI} {w:World}
variable {res:Option (SV V.E)} {cs:List Cd} {bx':List (Nat×Box V.E)} {rs ws:List Nat} {ac:Acc}
abbrev A7w (V:Env) (C:Ctx) (bx:List (Nat×Box V.E)) (β:Nat->BI) (w:World):List (Option (SV V.E))->List Value->Prop:=
 Ba λ o v=>∀x,o=some x->SR V C bx β w x v
theorem B0g (cells:Array Value) (off:Nat):∀(vs:List Value) (k:Nat),off+k+vs.length<=cells.size->
 ((vs.zipIdx k).foldl (λ cs (x:Value×Nat)=>cs.setIfInBounds (off+x.2) x.1) cells).toList=cells.toList.take (off+k)++vs++cells.toList.drop (off+k+vs.length):=by
 intro vs
 induction vs generalizing cells with
 |nil=>intro k _;simp
 |cons v vs ih=>
  intro k hk
  simp only[List.zipIdx_cons,List.foldl_cons]
  rw[ih _ (k+1) (by simp at hk ⊢;omega)]
  have e:=list_seg_step cells.toList (off+k) v vs (by simp at hk ⊢;omega)
  simpa [Array.toList_setIfInBounds,Nat.add_assoc]using e
theorem A8l {place:Nat->Option (Nat×Nat)}:∀(ps:List (Nat×Operand)) (vs:List (Option (SV V.E))) (ds:List Value) (ls:List (Av V.E)) (cells:Array Value) (ls':List (Av V.E)),
 A7w V C bx β w vs ds->vs.length=ps.length->Ba (Ad V.T bx β (A2 C β w) w) ls cells.toList->Anv place ls (Rm V ps vs)=some ls'->
 (∀i off size,place i=some (off,size)->0<size)->
 ∃cells',Instr.fill place cells ((ps.map (·.1)).zip ds)=some cells'/\Ba (Ad V.T bx β (A2 C β w) w) ls' cells'.toList/\cells'.size=cells.size
 |[],[],ds,ls,cells,ls',hv,_,hr,h,_=>by
  cases hv
  simp only[Rm,Anv,Option.some.injEq]at h
  subst h
  exact⟨cells,by simp[Instr.fill],hr,rfl⟩
 |[],_::_,_,_,_,_,_,h,_,_,_=>by simp at h
 |_::_,[],_,_,_,_,_,h,_,_,_=>by simp at h
 |(i,o)::ps,v::vs,d::ds,ls,cells,ls',.cons hv hvs,hl,hr,h,hpos=>by
  simp only[Rm]at h
  match v,hv,h with
  |some (.cv c),hv,h=>
   simp only[Anv]at h
   split at h
   ·rename_i off size hp
    split at h
    ·rename_i hsz
     have hsz:=Ah hsz
     split at h
     ·rename_i ls1 hs
      have hc:=Ar.cells (hv _ rfl)
      have hpz:=hpos i off size hp
      obtain⟨hnew,hle⟩:=A1v hr hc hs (by omega)
      have hcl:d.cells.toList.length=size:=by rw[<-hc.length,hsz]
      have hcl':d.cells.size=size:=by rw[<-Array.length_toList];exact hcl
      have hle':off+size<=cells.size:=by rw[<-Array.length_toList,<-hcl];exact hle
      have e:=B0g cells off d.cells.toList 0 (by rw[hcl];omega)
      simp only[Nat.add_zero]at e
      rw[<-e]at hnew
      have hz:(d.cells.zipIdx.foldl (λ cs (x:Value×Nat)=>cs.setIfInBounds (off+x.2) x.1) cells)=(d.cells.toList.zipIdx 0).foldl (λ cs (x:Value×Nat)=>cs.setIfInBounds (off+x.2) x.1) cells:=by
       rw[<-Array.foldl_toList,Array.toList_zipIdx]
      rw[<-hz]at hnew
      obtain⟨cells',h1,h2,h3⟩:=A8l ps vs ds ls1 _ ls' hvs (by simpa using hl) hnew h hpos
      refine⟨cells', ?_,h2, ?_⟩
      ·simp only[List.map_cons,List.zip_cons_cons,Instr.fill,hp]
       rw[if_neg (by simp[hcl'];omega)]
       exact h1
      ·rw[h3,<-Array.length_toList,hz,e]
       simp only[List.length_append,List.length_take,List.length_drop,Array.length_toList]
       omega
     ·cases h
    ·cases h
   ·cases h
  |some (.tup _),_,h=>simp[Anv]at h
  |none,_,h=>simp[Anv]at h
theorem Baa (ρ:Operand->Value) (ps:List (Nat×Operand)):(ps.map λ x=>(x.1,ρ x.2))=(ps.map (·.1)).zip (ps.map λ x=>ρ x.2):=by
 induction ps with
 |nil=>rfl
 |cons p ps ih=>simp[ih]
theorem Ani {α γ:Type} (f:α->Sem γ) (g:α->γ):∀(l:List α) (acc:Array γ),(∀x∈l,(f x).run P w= .ok (g x) w)->
 (l.foldlM (λ bs a=>bs.push<$>f a) acc:Sem (Array γ)).run P w= .ok (acc++(l.map g).toArray) w
 |[],acc,_=>by simp
 |x::l,acc,h=>by
  simp only[List.foldlM_cons,Sem.run_bind,Sem.run_map,h x (by simp),Result.andThen_ok]
  rw[Ani f g l _ (λ y hy=>h y (by simp[hy]))]
  simp
theorem B3r {α γ:Type} (f:α->Sem γ) (g:α->γ) (l:Array α) (h:∀x∈l.toList,(f x).run P w= .ok (g x) w):(l.mapM f).run P w= .ok (l.map g) w:=by
 rw[Array.mapM_eq_foldlM,<-Array.foldlM_toList,Ani f g _ _ h]
 congr 1
 apply Array.ext'
 simp
theorem B0z (HE:Auc V P) (M:Bk V.T C bx β w) {t:TypeId} {i:TI V.E} {info:TypeInfo} {d:TypeDesc} {z:Value} (I:Cw V P t i info d z) {fs:List (Nat×TypeId)} (hk:i.kind= .struct fs)
 (hall:fs.all (λ x=>(V.ti x.2).isSome)=true) (ρ:Operand->Value) (ps:Array (Nat×Operand)) {vs:List (Option (SV V.E))} (hv:A7w V C bx β w vs (ps.toList.map λ x=>ρ x.2))
 {ls:List (Av V.E)} (h:Anv (fieldPlace V fs) i.zero (Rm V ps.toList vs)=some ls):
 VOk V.T C bx β w (some (.cv (.ag ls))) bx ((Instr.build t (ps.map λ x=>(x.1,ρ x.2))).run P w):=by
 have hkd:=I.kind
 rw[hk]at hkd
 cases d<;>simp[Gg]at hkd
 rename_i fields
 subst hkd
 let g:Field->Nat×Nat:=λ f=>(f.offset,((V.ti f.type).map (·.size)).getD 0)
 have hm:=B3r (P:=P) (w:=w) (λ f:Field=>(do pure (f.offset,<-sizeOf f.type):Sem (Nat×Nat))) g fields λ f hf=>by
  have h1:=List.all_eq_true.1 hall (f.offset,f.type) (List.mem_map.2 ⟨f,hf,rfl⟩)
  obtain⟨j,hj⟩:=Option.isSome_iff_exists.1 h1
  obtain⟨_,_,_,J⟩:=HE _ _ hj
  simp only[Sem.run_bind,J.run_size,Result.andThen_ok,Sem.run_pure,g,hj,Option.map_some,Option.getD_some]
 have hplace:∀n:Nat,(fields.map g)[n]?=fieldPlace V (fields.toList.map λ f=>(f.offset,f.type)) n:=by
  intro n
  unfold fieldPlace
  rw[Array.getElem?_map,List.getElem?_map,<-Array.getElem?_toList]
  cases hn:fields.toList[n]? with
  |none=>rfl
  |some f=>
   have h1:=List.all_eq_true.1 hall (f.offset,f.type) (List.mem_map.2 ⟨f,List.mem_of_getElem? hn,rfl⟩)
   obtain⟨j,hj⟩:=Option.isSome_iff_exists.1 h1
   simp[g,hj]
 have hpos:∀n off size,fieldPlace V (fields.toList.map λ f=>(f.offset,f.type)) n=some (off,size)->0<size:=by
  intro n off size hn
  unfold fieldPlace at hn
  split at hn
  ·split at hn
   ·rename_i j hj
    obtain⟨_,_,_,J⟩:=HE _ _ hj
    cases hn
    exact J.pos
   ·cases hn
  ·cases hn
 obtain⟨cells',h1,h2,h3⟩:=A8l (w:=w) ps.toList vs _ i.zero z.cells ls hv (by rw[hv.length,List.length_map]) (Aie I.zeros) h hpos
 have hr:(Instr.build t (ps.map λ x=>(x.1,ρ x.2))).run P w= .ok (.agg cells') w:=by
  unfold Instr.build
  simp only[Sem.run_bind,I.run_zero,Result.andThen_ok,I.run_under,hm]
  have:(λ n=>(fields.map g)[n]?)=fieldPlace V (fields.toList.map λ f=>(f.offset,f.type)):=funext hplace
  rw[this,Array.toList_map,Baa,h1]
  simp
 rw[hr]
 exact .pure M ⟨cells',rfl,h2⟩
theorem Bpj (M:Bk V.T C bx β w) {t e:TypeId} {n:Nat} {i:TI V.E} {info:TypeInfo} {d:TypeDesc} {z:Value} (I:Cw V P t i info d z) (hu:P.underlying t=some (.array n e))
 {j:TI V.E} {info':TypeInfo} {d':TypeDesc} {z':Value} (J:Cw V P e j info' d' z') (ρ:Operand->Value) (ps:Array (Nat×Operand)) {vs:List (Option (SV V.E))} (hv:A7w V C bx β w vs (ps.toList.map λ x=>ρ x.2))
 {ls:List (Av V.E)} (h:Anv (λ k=>some (k*j.size,j.size)) i.zero (Rm V ps.toList vs)=some ls):
 VOk V.T C bx β w (some (.cv (.ag ls))) bx ((Instr.build t (ps.map λ x=>(x.1,ρ x.2))).run P w):=by
 obtain⟨cells',h1,h2,h3⟩:=A8l (w:=w) ps.toList vs _ i.zero z.cells ls hv (by rw[hv.length,List.length_map]) (Aie I.zeros) h (λ n off size hn=>by cases hn;exact J.pos)
 have hr:(Instr.build t (ps.map λ x=>(x.1,ρ x.2))).run P w= .ok (.agg cells') w:=by
  unfold Instr.build
  simp only[Sem.run_bind,I.run_zero,Result.andThen_ok,run_underlying hu,J.run_size]
  rw[Array.toList_map,Baa,h1]
  simp
 rw[hr]
 exact .pure M ⟨cells',rfl,h2⟩
end
section
variable {V:Env} {P:Program} {C:Ctx} {bx:List (Nat×Box V.E)} {β:Nat->BI} {w:World}
variable {res:Option (SV V.E)} {cs:List Cd} {bx':List (Nat×Box V.E)} {rs ws:List Nat} {ac:Acc}
theorem Bae {R:Av V.E->Value->Prop} {l:List (Av V.E)} {vs:List Value} (h:Ba R l vs):∀n,Ba R (repeatL l n) (List.replicate n vs).flatten
 |0=>by simp[repeatL];exact .nil
 |n+1=>by rw[repeatL,List.replicate_succ,List.flatten_cons];exact h.append (Bae h n)
theorem A2r (HT:V.T.Ok) {t:Ty} {sz:Nat} (hsz:t.sz V.T=sz):∀(n:Nat) (ls:List (Av V.E)) (vs:List Value) (xs:List (t.den V.E)),Avc V t sz n ls=some xs->Ba (Ad V.T bx β (A2 C β w) w) ls vs->
 xs.length=n/\∃css:List (List Value),vs=css.flatten/\Ba (λ x cs=>Bl (A2 C β w) w (t.av V.T x) cs/\cs.length=t.sz V.T) xs css
 |0,[],_,xs,h,.nil=>by
  simp only[Avc,Option.some.injEq]at h
  subst h
  exact⟨rfl,[],rfl,.nil⟩
 |0,_::_,_,xs,h,_=>by simp[Avc]at h
 |n+1,ls,vs,xs,h,hr=>by
  simp only[Avc]at h
  split at h
  ·rename_i x hx
   split at h
   ·rename_i r hrr
    cases h
    obtain⟨h1,css,h2,h3⟩:=A2r HT hsz n _ _ r hrr (hr.drop sz)
    have hc:=Amj HT hx
    have hrep:=Af0 hc (hr.take sz)
    have hl:=hrep.length
    rw[Amo HT]at hl
    refine⟨by simp[h1],vs.take sz::css, ?_,.cons ⟨(T0 HT t x _).1 hrep,hl.symm⟩ h3⟩
    rw[List.flatten_cons,<-h2,List.take_append_drop]
   ·cases h
  ·cases h
theorem A42 {ok:Nat->Prop} {t:Ty} {b:Nat} {c:Array Value} {e:TypeId} (hok:ok b) (hh:w.heap[b]?=some (.cells c e (0,0))):∀(xs:List (t.den V.E)) (css:List (List Value)) (pre:List Value),
 c.toList=pre++css.flatten->Ba (λ x cs=>Bl ok w (t.av V.T x) cs/\cs.length=t.sz V.T) xs css->Fp ok w (t.sz V.T) (xs.map (t.av V.T)) b pre.length
 |[],_,_,_,.nil=>trivial
 |x::xs,cs::css,pre,hc,.cons h1 h2=>by
  refine⟨⟨cs,h1.1,h1.2,hok,λ j v hj=> ?_⟩, ?_⟩
  ·rw[C8 hh,<-Array.getElem?_toList,hc,List.flatten_cons,List.getElem?_append_right (by omega),Nat.add_sub_cancel_left]
   rw[List.getElem?_append_left (List.getElem?_eq_some_iff.1 hj).1];exact hj
  ·have:=A42 hok hh xs css (pre++cs) (by rw[hc,List.flatten_cons,List.append_assoc]) h2
   rw[List.length_append,h1.2]at this
   exact this
theorem Az2 {t e:TypeId} (hu:P.underlying t=some (.slice e)) {i:TI V.E} {info:TypeInfo} {d:TypeDesc} {z:Value} (I:Cw V P e i info d z) (n:Nat) (hn:n*i.size<=16777216) (parts:Array (Nat×Value)) {cells:Array Value}
 (h:Instr.fill (λ k=>some (k*i.size,i.size)) (madeCells z.cells (n*i.size)) parts.toList=some cells):
 (Instr.buildSlice t n parts).run P w= .ok (.slice (some ⟨w.heap.size,0,none⟩) n n) (w.alloc (.cells cells e)):=by
 unfold Instr.buildSlice
 simp only[Sem.run_bind,run_underlying hu,Result.andThen_ok,I.run_size]
 rw[if_neg (by omega)]
 by_cases hz:n*i.size=0
 ·have h1:(Array.range (n*i.size)).map (λ x=>(#[]:Array Value)[x%(#[]:Array Value).size]!)=madeCells z.cells (n*i.size):=by rw[hz];simp[madeCells]
  rw[if_pos hz]
  simp only[Sem.run_bind,Sem.run_pure,Result.andThen_ok,h1,h]
  rfl
 ·rw[if_neg hz]
  have h1:(Array.range (n*i.size)).map (λ x=>z.cells[x%z.cells.size]!)=madeCells z.cells (n*i.size):=rfl
  simp only[Sem.run_bind,I.run_zero,Sem.run_pure,Result.andThen_ok,h1,h]
  rfl
theorem Bgz (HT:V.T.Ok) (M:Bk V.T C bx β w) {t e:TypeId} (hu:P.underlying t=some (.slice e)) {i:TI V.E} {info:TypeInfo} {d:TypeDesc} {z:Value} (I:Cw V P e i info d z)
 (n:Nat) (hn:Nat.ble (n*i.size) 16777216=true) (ρ:Operand->Value) (ps:Array (Nat×Operand)) {vs:List (Option (SV V.E))} (hv:A7w V C bx β w vs (ps.toList.map λ x=>ρ x.2))
 {ls:List (Av V.E)} (hf:Anv (λ k=>some (k*i.size,i.size)) (repeatL i.zero n) (Rm V ps.toList vs)=some ls) (q:Orc V.E) {dst:Nat}
 (h:Ac V bx (A19 V dst e i n q ls) rs ws=some (res,cs,bx',ac)):
 VOk V.T C bx β w res bx' ((Instr.buildSlice t n (ps.map λ x=>(x.1,ρ x.2))).run P w):=by
 have hz:=Bae (Aie (T:=V.T) (bx:=bx) (β:=β) (ok:=A2 C β w) (w:=w) I.zeros) n
 rw[<-Adq _ (by rw[I.zcells];exact I.pos),I.zcells]at hz
 obtain⟨cells',h1,h2,h3⟩:=A8l (w:=w) ps.toList vs _ _ (madeCells z.cells (n*i.size)) ls hv (by rw[hv.length,List.length_map]) hz hf (λ _ _ _ h=>by cases h;exact I.pos)
 rw[Az2 hu I n (Nat.le_of_ble_eq_true hn) _ (by rw[Array.toList_map,Baa];exact h1)]
 rw[size_madeCells]at h3
 have later:∀{bx1:List (Nat×Box V.E)} {β1:Nat->BI},Bk V.T C bx1 β1 w->Bk V.T C bx1 β1 (w.alloc (.cells cells' e))/\Ext V.T bx1 β1 (A2 C β1 w) w bx1 β1 (A2 C β1 (w.alloc (.cells cells' e))) (w.alloc (.cells cells' e))/\
  A2 C β1 (w.alloc (.cells cells' e)) w.heap.size:=by
  intro bx1 β1 M1
  obtain⟨M2,X2⟩:=M1.grow (U1.alloc w (.cells cells' e))
  exact⟨M2,X2,by simp,.inr (.inl M1.kept.size),λ id hid=>Nat.lt_irrefl _ (M1.mine id _ hid).1⟩
 unfold A19 at h
 split at h
 ·rename_i l
  obtain⟨rfl,_,rfl⟩:=Aq h
  obtain⟨M2,X2,hok⟩:=later M
  have hn1:n=1:=by
   have hl:=h2.length
   simp[h3]at hl
   exact Nat.eq_one_of_mul_eq_one_right hl.symm
  subst hn1
  refine⟨β,_,_,_,rfl,rfl, ?_,M2,X2⟩
  simp only[Az,Ar,Ad]
  exact⟨w.heap.size,cells'.toList,cells',e,rfl,hok,heap_alloc_new _ _,rfl,(A9.iff V.T _ _).2 (Ba.ext X2 h2)⟩
 ·rename_i ls
  obtain⟨bx1,β1,ls',rs',ws',M1,X1,R1,h,_⟩:=Xs _ _ bx β M h2 _ _ _ h
  split at h
  ·rename_i xs hx
   obtain⟨hid,rs1,ws1,h⟩:=Lc h
   obtain⟨rfl,_,rfl⟩:=Aq h
   have hnm:n<=maxLen:=by
    have h1:=Nat.le_of_ble_eq_true hn
    have h2:n*1<=n*i.size:=Nat.mul_le_mul_left _ I.pos
    unfold maxLen;omega
   obtain⟨M',X⟩:=M1.new hid (.arr e i.ty xs 0 false) (.cells cells' e) (.slice (some ⟨w.heap.size,0,none⟩) n n) [w.heap.size] (.inl rfl) λ X=>by
    obtain⟨hxl,css,hcss,hA⟩:=A2r HT I.ty n _ _ xs hx (Ba.ext X R1)
    refine⟨by rw[A6];rfl, ?_⟩
    rw[A6]
    refine⟨css,⟨?_,.inr ⟨w.heap.size,n,_,by rw[hxl],Nat.zero_le _,heap_alloc_new _ _,by rw[hxl];exact Nat.le_refl _,hnm, ?_, ?_⟩⟩,hA⟩
    ·rw[<-hcss,hxl,Array.length_toList,h3,I.ty]
    ·rw[h3,I.ty]
    ·rw[hxl,hcss,I.ty]
     exact List.take_of_length_le (by rw[<-hcss,Array.length_toList,h3];exact Nat.le_refl _)
   refine⟨_,_,_,_,rfl,rfl, ?_,M',X1.trans X⟩
   simp only[Az,Ar,Ad,Aw,A6]
   exact⟨rfl,Nat.le_refl _,λ _=>trivial⟩
  ·simp[Ac]at h
 ·obtain⟨bx1,β1,ls',rs',ws',M1,X1,R1,h,_⟩:=Xs _ _ bx β M h2 _ _ _ h
  split at h
  ·rename_i xs hx
   obtain⟨rfl,_,rfl⟩:=Aq h
   obtain⟨M2,X2,hok⟩:=later M1
   obtain⟨hxl,css,hcss,hA⟩:=A2r HT I.ty n _ _ xs hx (Ba.ext X2 R1)
   refine⟨β1,_,_,_,rfl,rfl, ?_,M2,X1.trans X2⟩
   simp only[Az,Ar,Ad]
   refine⟨some ⟨w.heap.size,0,none⟩,n,by rw[List.length_map,hxl],by rw[List.length_map,hxl];exact Nat.le_refl _,(λ h=>by cases h),(λ h=>by cases h),λ ad had=> ?_⟩
   cases had
   exact⟨λ _=>rfl,A42 hok (heap_alloc_new _ _) xs css [] (by simpa using hcss) hA⟩
  ·simp[Ac]at h
theorem B92 (M:Bk V.T C bx β w) (ats:Array TypeId) (ty:TypeId) (k:IntKind) (a b:Int):
 VOk V.T C bx β w (some (.cv (.one (.int k (if b<a then b else a))))) bx ((Builtin.min_ ats ty #[.int k a,.int k b]).run P w):=by
 have:(Builtin.min_ ats ty #[.int k a,.int k b]).run P w= .ok (.int k (if b<a then b else a)) w:=by
  simp[Builtin.min_,Builtin.min2]
 rw[this];exact .pure M rfl
theorem B9s (M:Bk V.T C bx β w) (ats:Array TypeId) (ty:TypeId) (k:IntKind) (a b:Int):
 VOk V.T C bx β w (some (.cv (.one (.int k (if a<b then b else a))))) bx ((Builtin.max_ ats ty #[.int k a,.int k b]).run P w):=by
 have:(Builtin.max_ ats ty #[.int k a,.int k b]).run P w= .ok (.int k (if a<b then b else a)) w:=by
  simp[Builtin.max_,Builtin.max2]
 rw[this];exact .pure M rfl
theorem Biq:∀(vs:List (Option (SV V.E))) (ds:List Value) (ls:List (Av V.E)),A7w V C bx β w vs ds->Amk V vs=some ls->Ba (Ad V.T bx β (A2 C β w) w) ls ds
 |[],_,ls,.nil,h=>by simp only[Amk,Option.some.injEq]at h;subst h;exact .nil
 |v::vs,_,ls,.cons h1 h2,h=>by
  match v,h1,h with
  |some (.cv (.one l)),h1,h=>
   simp only[Amk]at h
   split at h
   ·rename_i r hr
    cases h
    exact .cons (h1 _ rfl) (Biq vs _ r h2 hr)
   ·cases h
  |some (.cv (.ag _)),_,h=>simp[Amk]at h
  |some (.tup _),_,h=>simp[Amk]at h
  |none,_,h=>simp[Amk]at h
theorem Bo1 (M:Bk V.T C bx β w) (f:FuncId) (ρ:Operand->Value) (fi ca:Array Operand) (hfi:fi.isEmpty=true) {vs:List (Option (SV V.E))} (hv:A7w V C bx β w vs ((fi++ca).toList.map ρ))
 {ls:List (Av V.E)} (h:Amk V vs=some ls):VOk V.T C bx β w (some (.cv (.one (.clo f ls)))) bx ((Instr.makeFunc (.func f) (fi.map ρ) (ca.map ρ)).run P w):=by
 have hfi:fi= #[]:=by simpa using hfi
 subst hfi
 have hr:(Instr.makeFunc (.func f) ((#[]:Array Operand).map ρ) (ca.map ρ)).run P w= .ok (.func (.func f) #[] (ca.map ρ)) w:=by
  simp[Instr.makeFunc]
 rw[hr]
 refine .pure M ?_
 simp only[Az,Ar,Ad]
 refine⟨_,rfl,(A9.iff V.T _ _).2 ?_⟩
 have:=Biq _ _ _ hv h
 simpa using this
end
def Zs (k:IntKind) (l:List Int):Value:= .agg (l.map (Value.int k)).toArray
section
variable {P:Program} {t e:TypeId} {n:Nat} {k:IntKind} {ie:TypeInfo}
theorem Bey (he:P.underlying e=some (.int k)) {vs:Array Value} {off:Nat} {v:Value} (hv:vs[off]?=some v) (w:World):(Go.part e vs off).run P w= .ok v w:=by
 simp[Go.part,isAgg,run_underlying he,hv]
theorem Bt4 {l:List Int} {j:Nat} (h:j<l.length):((l.map (Value.int k)).toArray)[j*1]?=some (.int k (l.getD j 0)):=by
 simp[h,List.getD_eq_getElem?_getD]
theorem Bz4 (ht:P.underlying t=some (.array n e)) (he:P.underlying e=some (.int k)) (hi:P.info? e=some ie) (hc:P.cellsOf e=1) {l:List Int} (hl:l.length=n) (em:Bool) (w:World):
 (Instr.checkKey em 10000 t (Zs k l)).run P w= .ok () w:=by
 rw[show(10000:Nat)=9999+1 from rfl,Instr.checkKey,Zs]
 simp only[Sem.run_bind,run_underlying ht,Result.andThen_ok]
 simp only[Std.Legacy.Range.forIn_eq_forIn_range',Std.Legacy.Range.size,Nat.sub_zero,Nat.add_one_sub_one,Nat.div_one]
 have each:∀j∈List.range' 0 n,j<l.length:=by intro j hj;rw[List.mem_range'_1]at hj;omega
 generalize List.range' 0 n=is at each
 induction is with
 |nil=>simp
 |cons j is ih=>
  have p1:=Bey he (Bt4 (k:=k) (each j (by simp))) w
  have p2:(Instr.checkKey em 9999 e (.int k (l.getD j 0))).run P w= .ok () w:=by
   rw[show(9999:Nat)=9998+1 from rfl,Instr.checkKey];simp[run_underlying he]
  simp only[List.forIn_cons,Sem.run_bind,run_sizeOf w hi,hc,Result.andThen_ok,p1,p2,Sem.run_pure]
  exact ih (λ y hy=>each y (by simp[hy]))
theorem Bjk (he:P.underlying e=some (.int k)) {a b:List Int} (w:World):∀(is:List Nat),(∀j∈is,j<a.length/\j<b.length)->
 (Op.eqItems 9999 e 1 (a.map (Value.int k)).toArray (b.map (Value.int k)).toArray is).run P w= .ok (is.all λ j=>a.getD j 0==b.getD j 0) w
 |[],_=>by simp[Op.eqItems]
 |j::is,h=>by
  have p1:=Bey he (Bt4 (k:=k) (h j (by simp)).1) w
  have p2:=Bey he (Bt4 (k:=k) (h j (by simp)).2) w
  have p3:(Op.equalIn 9999 e (.int k (a.getD j 0)) (.int k (b.getD j 0))).run P w= .ok (a.getD j 0==b.getD j 0) w:=by
   rw[show(9999:Nat)=9998+1 from rfl,Op.equalIn];simp[run_underlying he]
  simp only[Op.eqItems,Sem.run_bind,p1,p2,p3,Result.andThen_ok,List.all_cons]
  cases a.getD j 0==b.getD j 0 with
  |true=>simpa using Bjk he w is (λ y hy=>h y (by simp[hy]))
  |false=>simp
theorem Bkg (ht:P.underlying t=some (.array n e)) (he:P.underlying e=some (.int k)) (hi:P.info? e=some ie) (hc:P.cellsOf e=1) {a b:List Int} (ha:a.length=n) (hb:b.length=n) (w:World):
 (Op.equal t (Zs k a) (Zs k b)).run P w= .ok (decide (a=b)) w:=by
 unfold Op.equal Op.maxDepth Zs
 rw[show(10000:Nat)=9999+1 from rfl,run_equalIn_array w 9999 _ _ ht hi,hc,Bjk he w _ (λ j hj=>by rw[List.mem_range]at hj;omega)]
 congr 1
 refine Bool.eq_iff_iff.2 ?_
 simp only[List.all_eq_true,List.mem_range,beq_iff_eq,decide_eq_true_eq]
 constructor
 ·intro h
  refine List.ext_getElem (by omega) λ i h1 h2=> ?_
  have:=h i (by omega)
  simpa [List.getD_eq_getElem?_getD,h1,h2]using this
 ·rintro rfl j _;rfl
theorem Bxz (l:List Int) (w:World):(Instr.keyThatStays (Zs k l) (Zs k l)).run P w= .ok (Zs k l) w:=by
 have hs:Instr.sameBits 10000 (Zs k l) (Zs k l)=true:=by
  show Instr.sameBits (9999+1) (.agg _) (.agg _)=true
  simp only[Instr.sameBits,beq_self_eq_true,Bool.true_and,List.all_eq_true]
  intro p hp
  obtain⟨i,hi,e⟩:=List.getElem_of_mem hp
  rw[List.getElem_zip]at e
  rw[<-e]
  simp[Instr.sameBits]
 simp[Instr.keyThatStays,hs]
end
end Go.Ab
namespace Go.Ab
open Go Go.MapKept
section
variable {V:Env} {P:Program} {C:Ctx} {bx:List (Nat×Box V.E)} {β:Nat->BI} {w:World}
variable {res:Option (SV V.E)} {cs:List Cd} {bx':List (Nat×Box V.E)} {rs ws:List Nat} {ac:Acc}
theorem Bdq {t:TypeId} {i j:TI V.E} (h:Bjb V t=some (i,j)):
 ∃it k e,V.ti t=some it/\it.kind= .map k e/\V.ti k=some i/\V.ti e=some j/\A24 V i=true/\Ux j.ty=j.kind.agg:=by
 unfold Bjb at h
 split at h
 ·rename_i k e _ _ _ _ ht
  split at h
  ·rename_i i' j' h1 h2
   split at h
   ·rename_i hc
    simp only[Bool.and_eq_true,beq_iff_eq]at hc
    cases h
    exact⟨_,k,e,ht,rfl,h1,h2,hc.1,hc.2⟩
   ·cases h
  ·cases h
 ·cases h
theorem A87 {t:TypeId} {i:TI V.E} {info:TypeInfo} {d:TypeDesc} {z:Value} (I:Cw V P t i info d z) {k e:TypeId} (h:i.kind= .map k e):P.underlying t=some (.map k e):=by
 have hk:=I.kind
 rw[h]at hk
 have hu:=I.under
 cases d<;>simp[Gg]at hk
 obtain⟨rfl,rfl⟩:=hk
 exact hu
theorem Cag {ok:Nat->Prop} {T:Tab} {κ:TK} {k:Ty} {d:TypeDesc} (hk:V9 κ k=true) (hd:Gg κ d=true) {x:k.den T.E} {v:Value} (h:Bl ok w (k.av T x) [v]):IsKey d v:=by
 cases κ<;>cases k<;>simp[V9]at hk<;>cases d<;>simp[Gg]at hd<;>simp only[Ty.av,Bl,List.cons.injEq,and_true]at h<;>subst h<;>simp_all [IsKey]
theorem Bq0 {ok:Nat->Prop} {T:Tab} {κ:TK} {k:Ty} {d:TypeDesc} (hk:V9 κ k=true) (hd:Gg κ d=true) {x y:k.den T.E} {v u:Value} (h:Bl ok w (k.av T x) [v]) (h':Bl ok w (k.av T y) [u]):
 Instr.sameNow d v u=some (Nj T k x y):=by
 cases κ<;>cases k<;>simp[V9]at hk<;>cases d<;>simp[Gg]at hd<;>simp only[Ty.av,Bl,List.cons.injEq,and_true]at h h'<;>subst h h'
 ·simp[Instr.sameNow,Nj,kqI]
  exact Bool.eq_iff_iff.2 (by simp)
 ·rfl
 ·simp only[Instr.sameNow,Nj,kqS,Option.some.injEq]
  refine Bool.eq_iff_iff.2 ?_
  rw[bytes_beq]
  simp
theorem Cad {ok:Nat->Prop} {T:Tab} {κ:TK} {k:Ty} (hk:V9 κ k=true) {x y:k.den T.E} {v:Value} (h:Bl ok w (k.av T x) [v]) (he:Nj T k x y=true):Bl ok w (k.av T y) [v]:=by
 cases κ<;>cases k<;>simp[V9]at hk<;>simp[Nj,kqI,kqB,kqS]at he<;>subst he<;>exact h
def B4b (T:Tab) (ok:Nat->Prop) (w:World) (k t:Ty) (x:k.den T.E×t.den T.E) (e:MapEntry):Prop:=U0 T ok w k x.1 e.key/\U0 T ok w t x.2 e.val
theorem Bb2 {ok:Nat->Prop} {T:Tab} {k t:Ty} {x:k.den T.E} {v:Value} {Run:List MapEntry->Nat->Option (Nat×Value)->Prop} (R0:∀i,Run [] i none)
 (R1:∀y e,U0 T ok w k y e.key->Nj T k x y=true->e.key=v/\∀es i,Run (e::es) i (some (i,e.val))) (R2:∀y e,U0 T ok w k y e.key->Nj T k x y=false->∀es i r,Run es (i+1) r->Run (e::es) i r):
 ∀{l:List (k.den T.E×t.den T.E)} {es:List MapEntry},Ba (B4b T ok w k t) l es->∀i,
  (Kh (Nj T k) x l=none/\Run es i none/\∀y,Hc (Nj T k) x y l=l++[(x,y)])\/
  ∃j y e,Kh (Nj T k) x l=some y/\Run es i (some (i+j,e.val))/\es[j]?=some e/\U0 T ok w t y e.val/\e.key=v/\
   ∀(y':t.den T.E) (f:MapEntry->MapEntry),U0 T ok w k x (f e).key->U0 T ok w t y' (f e).val->Ba (B4b T ok w k t) (Hc (Nj T k) x y' l) (es.modify j f)
 |[],_,.nil,i=> .inl ⟨rfl,R0 i,λ _=>rfl⟩
 |(y,z)::l,e::es,.cons h1 h2,i=>by
  cases he:Nj T k x y with
  |true=>
   obtain⟨q1,q2⟩:=R1 y e h1.1 he
   refine .inr ⟨0,z,e,by simp[Kh,he],q2 es i,rfl,h1.2,q1,λ y' f g1 g2=> ?_⟩
   simp only[Hc,he,if_true,List.modify_zero_cons]
   exact .cons ⟨g1,g2⟩ h2
  |false=>
   rcases Bb2 R0 R1 R2 h2 (i+1)with⟨k1,k2,k3⟩|⟨j,y1,e1,k1,k2,k3,k4,k5,k6⟩
   ·exact .inl ⟨by simp[Kh,he,k1],R2 y e h1.1 he es i _ k2,λ q=>by simp[Hc,he,k3 q]⟩
   ·refine .inr ⟨j+1,y1,e1,by simp[Kh,he,k1], ?_,by simpa using k3,k4,k5,λ y' f g1 g2=> ?_⟩
    ·have:=R2 y e h1.1 he es i _ k2
     rwa [show i+(j+1)=i+1+j by omega]
    simp only[Hc,he,Bool.false_eq_true,if_false,List.modify_succ_cons]
    exact .cons h1 (k6 y' f g1 g2)
structure Ccm (T:Tab) (P:Program) (ok:Nat->Prop) (w:World) (kt:TypeId) (k:Ty) (x:k.den T.E) (v:Value):Prop where
 check:∀em,(Instr.checkKey em 10000 kt v).run P w= .ok () w
 stays:(Instr.keyThatStays v v).run P w= .ok v w
 find:∀{t:Ty} {l:List (k.den T.E×t.den T.E)} {es:List MapEntry},Ba (B4b T ok w k t) l es->
  (Kh (Nj T k) x l=none/\(Instr.findKey kt v es).run P w= .ok none w/\∀y,Hc (Nj T k) x y l=l++[(x,y)])\/
  ∃j y e,Kh (Nj T k) x l=some y/\(Instr.findKey kt v es).run P w= .ok (some (j,e.val)) w/\es[j]?=some e/\U0 T ok w t y e.val/\e.key=v/\
   ∀(y':t.den T.E) (f:MapEntry->MapEntry),U0 T ok w k x (f e).key->U0 T ok w t y' (f e).val->Ba (B4b T ok w k t) (Hc (Nj T k) x y' l) (es.modify j f)
theorem Azg {ok:Nat->Prop} {T:Tab} {κ:TK} {k:Ty} (hk:V9 κ k=true) {x:k.den T.E} {v:Value}:U0 T ok w k x v↔Bl ok w (k.av T x) [v]:=by
 cases κ<;>cases k<;>simp[V9]at hk<;>rfl
theorem Bv2 (HT:V.T.Ok) {ok:Nat->Prop} {s:Nat} {k:IntKind} {f:V.T.E s->List Int} (hf:V.T.kx s=some (k,f)) {x:(Ty.nm s).den V.E} {v:Value} (h:U0 V.T ok w (.nm s) x v):v=Zs k (f x)/\(f x).length=V.T.sz s:=by
 obtain⟨cs,rfl,h⟩:∃cs,v= .agg cs/\Bl ok w ((Ty.nm s).av V.T x) cs.toList:=h
 have e:=HT.kx s k f hf x
 have hl:=HT.len s x
 rw[e,List.length_map]at hl
 refine⟨?_,hl⟩
 have h2:=(T0 HT (bx:=[]) (β:=λ _=>⟨0,.nilFunc,[],[]⟩) (.nm s) x cs.toList).2 h
 have h3:Ba (Ad V.T [] (λ _=>⟨0,.nilFunc,[],[]⟩) ok w) ((f x).map (Av.int k)) cs.toList:=by rw[<-e];exact h2
 have key:∀(l:List Int) (vs:List Value),Ba (Ad V.T [] (λ _=>⟨0,.nilFunc,[],[]⟩) ok w) (l.map (Av.int k)) vs->vs=l.map (Value.int k):=by
  intro l
  induction l with
  |nil=>intro vs h;cases h;rfl
  |cons a l ih=>
   intro vs h
   cases h with
   |cons h1 h2=>simp only[Ad]at h1;subst h1;rw[ih _ h2];rfl
 unfold Zs
 rw[<-key _ _ h3]
theorem Brg (HT:V.T.Ok) (HE:∀t i,V.ti t=some i->∃info d z,Cw V P t i info d z) {ok:Nat->Prop} {kt:TypeId} {i:TI V.E} (hi:V.ti kt=some i) (hk:A24 V i=true) {x:i.ty.den V.E} {v:Value} (h:U0 V.T ok w i.ty x v):
 Ccm V.T P ok w kt i.ty x v:=by
 obtain⟨info,d,z,I⟩:=HE kt i hi
 unfold A24 at hk
 cases hkk:V9 i.kind i.ty with
 |true=>
  have h':=(Azg hkk).1 h
  have hik:=Cag hkk I.kind h'
  refine⟨λ em=>run_checkKey I.under hik em 9999,run_keyThatStays hik,λ hl=> ?_⟩
  have:=Bb2 (T:=V.T) (x:=x) (v:=v) (Run:=λ es i r=>Instr.findNow d v es i=some r) (λ _=>rfl) (λ y e hy he=> ?_) (λ y e hy he es i r hr=> ?_) hl 0
  ·rcases this with⟨k1,k2,k3⟩|⟨j,y,e,k1,k2,k3,k4,k5,k6⟩
   ·exact .inl ⟨k1,run_findKey I.under k2,k3⟩
   ·exact .inr ⟨j,y,e,k1,by rw[run_findKey I.under k2];simp,k3,k4,k5,k6⟩
  ·have hs:=Bq0 hkk I.kind h' ((Azg hkk).1 hy)
   refine⟨?_,λ es i=>by simp[Instr.findNow,hs,he]⟩
   have h2:=Cad hkk h' he
   have h3:=(Azg hkk).1 hy
   generalize hkd:i.kind=κ at hkk
   generalize hty:i.ty=k at*
   cases κ<;>cases k<;>simp[V9]at hkk<;>simp only[Ty.av,Bl,List.cons.injEq,and_true]at h2 h3<;>rw[h2,h3]
  ·have hs:=Bq0 hkk I.kind h' ((Azg hkk).1 hy)
   simp[Instr.findNow,hs,he,hr]
 |false=>
  rw[hkk,Bool.false_or]at hk
  unfold B3u at hk
  split at hk
  ·rename_i n e s hkd hty
   split at hk
   ·rename_i ie k f hie hkx
    simp only[Bool.and_eq_true,decide_eq_true_eq]at hk
    obtain⟨⟨k1,k2⟩,k3⟩:=hk
    have k2:=Ah k2;have k3:=Ah k3
    have ht:P.underlying kt=some (.array n e):=by
     have hkk:=I.kind;have hu:=I.under
     rw[hkd]at hkk
     cases d<;>simp[Gg]at hkk
     obtain⟨h1,h2⟩:=hkk
     rw[h1,h2];exact hu
    obtain⟨info2,d2,z2,I2⟩:=HE e ie hie
    have he:P.underlying e=some (.int k):=by
     have hkk:=I2.kind;have hu:=I2.under
     rw[k1]at hkk
     cases d2<;>simp[Gg]at hkk
     rw[hkk];exact hu
    have hc:P.cellsOf e=1:=by simp[Program.cellsOf,I2.inf,I2.size,k2]
    have key:∀{y:i.ty.den V.E} {u:Value},U0 V.T ok w i.ty y u->∃b:List Int,u=Zs k b/\b.length=n/\∀{y':i.ty.den V.E} {u':Value} {b':List Int},U0 V.T ok w i.ty y' u'->u'=Zs k b'->Nj V.T i.ty y y'=decide (b=b'):=by
     clear h x
     rw[hty]
     intro y u hy
     obtain⟨h1,h2⟩:=Bv2 HT hkx hy
     refine⟨f y,h1,by rw[h2];exact k3,λ {y' u' b'} hy' hb'=> ?_⟩
     obtain⟨h3,_⟩:=Bv2 HT hkx hy'
     have:f y'=b':=by
      rw[h3]at hb'
      unfold Zs at hb'
      have h1:(f y').map (Value.int k)=b'.map (Value.int k):=by simpa using hb'
      exact(List.map_inj_right (λ x y h=>by cases h;rfl)).1 h1
     simp only[Nj,hkx,kqA,this]
    obtain⟨a,rfl,ha,heq⟩:=key h
    refine⟨λ em=>Bz4 ht he I2.inf hc ha em w,Bxz a w,λ hl=> ?_⟩
    have:=Bb2 (T:=V.T) (x:=x) (v:=Zs k a) (Run:=λ es i r=>(Instr.findAsking kt (Zs k a) es i).run P w= .ok r w) (λ _=>by simp[Instr.findAsking]) (λ y e hy he2=> ?_) (λ y e hy he2 es i r hr=> ?_) hl 0
    ·have hw:(match P.underlying kt with|some (.array _ _)|some (.struct _)=>true|_=>false)=true:=by rw[ht]
     rcases this with⟨k1,k2,k3⟩|⟨j,y,e,k1,k2,k3,k4,k5,k6⟩
     ·exact .inl ⟨k1,by rw[run_findKey_eq w hw];exact k2,k3⟩
     ·exact .inr ⟨j,y,e,k1,by rw[run_findKey_eq w hw];simpa using k2,k3,k4,k5,k6⟩
    ·obtain⟨b,hb,hbl,_⟩:=key hy
     have hq:=heq hy hb
     rw[he2]at hq
     have hab:a=b:=of_decide_eq_true hq.symm
     refine⟨by rw[hb,hab],λ es i=> ?_⟩
     have q:=Bkg ht he I2.inf hc ha hbl w
     simp only[Instr.findAsking,Sem.run_bind,hb,q,Result.andThen_ok]
     simp[hab]
    ·obtain⟨b,hb,hbl,_⟩:=key hy
     have hq:=heq hy hb
     rw[he2]at hq
     have hab:a≠b:=of_decide_eq_false hq.symm
     have q:=Bkg ht he I2.inf hc ha hbl w
     simp only[Instr.findAsking,Sem.run_bind,hb,q,Result.andThen_ok]
     simpa [hab]using hr
   ·cases hk
  ·cases hk
theorem Bue (HT:V.T.Ok) {ok:Nat->Prop} {t:Ty} {ls:List (Av V.E)} {x:t.den V.E} (h:t.ofL V.T ls=some x) {vs:List Value} (k:Ba (Ad V.T bx β ok w) ls vs):Bl ok w (t.av V.T x) vs:=
 (T0 HT t x vs).1 (Af0 (Amj HT h) k)
theorem Bqr (HT:V.T.Ok) {ok:Nat->Prop} {t:Ty} {c:CV V.E} {v:Value} (hag:c.isAg=Ux t) (hc:Ar V.T bx β ok w c v) {x:t.den V.E} (hx:t.ofL V.T c.leaves=some x):U0 V.T ok w t x v:=by
 have q:=Bue HT hx (Ar.cells hc)
 unfold U0
 rw[<-hag]
 cases c with
 |one l0=>
  simp only[CV.isAg,Bool.false_eq_true,if_false]
  rw[Af1 (show Ad V.T bx β ok w l0 v from hc)]at q
  exact q
 |ag l0=>
  obtain⟨cs0,rfl,_⟩:=hc
  exact⟨cs0,rfl,q⟩
theorem Bus (M:Bk V.T C bx β w) {dst:Nat} {k t:Ty} {mt:TypeId} (h:Ac V bx (Rf V dst (.map k t []) (.one (.mp dst))) rs ws=some (res,cs,bx',ac)):
 VOk V.T C bx β w res bx' ((Instr.makeMap mt none).run P w):=by
 obtain⟨hid,rs',ws',h⟩:=Lc h
 obtain⟨rfl,_,rfl⟩:=Aq h
 have hr:(Instr.makeMap mt none).run P w= .ok (.map (some w.heap.size)) (w.alloc (.map #[] 0)):=by
  simp only[Instr.makeMap,Sem.run_bind,run_newObj,Result.andThen_ok,Sem.run_pure]
  rfl
 rw[hr]
 obtain⟨M',X⟩:=M.new hid (.map k t []) (.map #[] 0) .nilIface [w.heap.size] (.inl rfl) λ X=>by
  refine⟨by simp,#[],0, ?_,.nil⟩
  rw[A6];exact heap_alloc_new _ _
 refine⟨_,_,_,_,rfl,rfl, ?_,M',X⟩
 simp only[Az,Ar,Ad,Aw,A6]
 exact⟨rfl,trivial⟩
theorem B5u (HT:V.T.Ok) {ok:Nat->Prop} {t:Ty} {x:t.den V.E} {v:Value} (h:U0 V.T ok w t x v) {c:CV V.E} (hc:B7 (Ux t) (t.toL V.T x)=some c):Ar V.T bx β ok w c v:=by
 unfold U0 at h
 cases hn:Ux t with
 |true=>
  rw[hn]at h hc
  obtain⟨cs,rfl,h⟩:=h
  simp[B7]at hc;subst hc
  exact⟨cs,rfl,(T0 HT t x _).2 h⟩
 |false=>
  rw[hn]at h hc
  simp only[Bool.false_eq_true,if_false]at h
  have k:=(T0 HT (bx:=bx) (β:=β) t x _).2 h
  rcases Abs hc k with⟨h0,_⟩|⟨_,l,v',h1,rfl,h3,h4⟩
  ·cases h0
  ·cases h3;exact h4
theorem B97 {z:Value} (b:Bool) (h:Blk z=b):(b=true->z= .agg z.cells)/\(b=false->z.cells.size=1->z.cells.toList=[z]):=by
 cases z<;>simp[Blk]at h<;>subst h<;>simp[Value.cells]
theorem B0f (HT:V.T.Ok) (M:Bk V.T C bx β w) {i j:TI V.E} {mt kt et:TypeId} {ei:TypeInfo} {ed:TypeDesc} {ez:Value} (hm:P.underlying mt=some (.map kt et))
 (HE:∀t i,V.ti t=some i->∃info d z,Cw V P t i info d z) (hi:V.ti kt=some i) (J:Cw V P et j ei ed ez) (hk:A24 V i=true) (hj:Ux j.ty=j.kind.agg) {a x:SV V.E} {va vx:Value} (ha:SR V C bx β w a va) (hx:SR V C bx β w x vx) {ok:Bool}
 (h:Ac V bx (Avj V i j a x ok) rs ws=some (res,cs,bx',ac)):VOk V.T C bx β w res bx' ((Instr.lookup mt va vx ok).run P w):=by
 unfold Avj at h
 split at h
 ·rename_i id key
  simp only[Ac]at h
  split at h
  ·rename_i k t l hb
   split at h
   ·rename_i hkt
    simp only[Bool.and_eq_true,decide_eq_true_eq,beq_iff_eq]at hkt
    obtain⟨⟨rfl,rfl⟩,hag⟩:=hkt
    split at h
    ·rename_i kx z hkx hz
     split at h
     ·rename_i c hc
      have ha':=ha
      simp only[SR,Az,Ar,Ad,hb]at ha'
      obtain⟨_,rfl⟩:=ha'
      obtain⟨_,es,clock,h1,h2⟩:=M.boxes id _ hb
      have hx':Ar V.T bx β (A2 C β w) w key vx:=hx
      have hK:=Brg HT HE hi hk (Bqr HT hag hx' hkx)
      have hzv:U0 V.T (A2 C β w) w j.ty z ez:=by
       have hz':=Bue HT (w:=w) (ok:=A2 C β w) hz (Aie (bx:=bx) (β:=β) J.zeros)
       obtain⟨z1,z2⟩:=B97 _ J.zagg
       unfold U0
       rw[hj]
       cases hg:j.kind.agg with
       |true=>exact⟨ez.cells,z1 hg,hz'⟩
       |false=>
        simp only[Bool.false_eq_true,if_false]
        have hsz:ez.cells.size=1:=by
         rw[J.zcells,<-J.ty]
         rw[hg]at hj
         cases hty:j.ty<;>rw[hty]at hj<;>simp[Ux]at hj<;>rfl
        rw[z2 hg hsz]at hz'
        exact hz'
      have fin:∀(y:j.ty.den V.E) (v:Value) (b:Bool),U0 V.T (A2 C β w) w j.ty y v->B7 j.kind.agg (j.ty.toL V.T y)=some c->(Kh (Nj V.T i.ty) kx l).isSome=b->
       (Instr.lookup mt (.map (some (β id).blk)) vx ok).run P w= .ok (if ok then .tuple #[v,.bool b]else v) w->VOk V.T C bx β w res bx' ((Instr.lookup mt (.map (some (β id).blk)) vx ok).run P w):=by
       intro y v b hv hc' hb' hrun
       rw[hrun]
       rw[<-hj]at hc'
       have hcv:=B5u HT (bx:=bx) (β:=β) hv hc'
       cases ok with
       |true=>
        simp only[if_true]at h ⊢
        obtain⟨rfl,_,rfl⟩:=Aq h
        refine VOk.pure M ⟨_,rfl,.cons hcv (.cons ?_ .nil)⟩
        rw[hb'];rfl
       |false=>
        simp only[Bool.false_eq_true,if_false]at h ⊢
        obtain⟨rfl,_,rfl⟩:=Aq h
        exact VOk.pure M hcv
      rcases hK.find h2 with⟨k1,k2,_⟩|⟨jj,y,e,k1,k2,k3,k4,_⟩
      ·refine fin z ez false hzv (by rw[k1]at hc;exact hc) (by rw[k1];rfl) ?_
       cases ok<;>simp[Instr.lookup,run_underlying hm,MapKept.run_getObj_map h1,hK.check,k2,J.run_zero,Result.andThen]
      ·refine fin y e.val true k4 (by rw[k1]at hc;exact hc) (by rw[k1];rfl) ?_
       cases ok<;>simp[Instr.lookup,run_underlying hm,MapKept.run_getObj_map h1,hK.check,k2,Result.andThen]
     ·simp[Ac]at h
    ·simp[Ac]at h
   ·simp[Ac]at h
  ·simp[Ac]at h
 ·simp[Ac]at h
theorem Bkk (HT:V.T.Ok) (M:Bk V.T C bx β w) {i j:TI V.E} {mt kt et:TypeId} (hm:P.underlying mt=some (.map kt et))
 (HE:∀t i,V.ti t=some i->∃info d z,Cw V P t i info d z) (hi:V.ti kt=some i) (hk:A24 V i=true) (hj:Ux j.ty=j.kind.agg) {a x y:SV V.E} {va vx vy:Value} (ha:SR V C bx β w a va) (hx:SR V C bx β w x vx) (hy:SR V C bx β w y vy)
 (h:Ac V bx (Al4 V i j a x y) rs ws=some (res,cs,bx',ac)):UOk V.T C bx β w res bx' ((Instr.mapUpdate mt va vx vy).run P w):=by
 unfold Al4 at h
 split at h
 ·rename_i id key c
  have hcv:Ar V.T bx β (A2 C β w) w c vy:=hy
  obtain⟨bx1,β1,ls,rs1,ws1,M1,X1,R1,h,G1⟩:=Xs c.leaves _ bx β M (Ar.cells hcv) _ _ _ h
  simp only[Ac]at h
  split at h
  ·rename_i k t l hb
   split at h
   ·rename_i hkt
    simp only[Bool.and_eq_true,decide_eq_true_eq,beq_iff_eq]at hkt
    obtain⟨⟨⟨rfl,rfl⟩,hka⟩,hag⟩:=hkt
    split at h
    ·rename_i kx q hkx hq
     have ha':Ad V.T bx1 β1 (A2 C β1 w) w (.mp id) va:=Ad.ext X1 _ _ ha
     simp only[Ad,hb]at ha'
     obtain⟨_,rfl⟩:=ha'
     obtain⟨hown,es,clock,h1,h2⟩:=M1.boxes id _ hb
     have hx':Ar V.T bx1 β1 (A2 C β1 w) w key vx:=Ar.ext X1 hx
     have hkv:=Bqr HT hka hx' hkx
     have hK:=Brg HT HE hi hk hkv
     have hqv:=Bue HT hq R1
     have hv:U0 V.T (A2 C β1 w) w j.ty q vy:=by
      unfold U0
      rw[hj,<-hag]
      cases c with
      |one l0=>
       simp only[CV.isAg,Bool.false_eq_true,if_false]
       rw[Af1 (show Ad V.T bx β (A2 C β w) w l0 vy from hcv)]at hqv
       exact hqv
      |ag l0=>
       obtain⟨cs0,rfl,_⟩:=hcv
       exact⟨cs0,rfl,hqv⟩
     simp only[Ac,done]at h
     obtain⟨rfl,_,rfl⟩:=Aq h
     have key:∀(es':Array MapEntry) (cl':Nat),(Instr.mapUpdate mt (.map (some (β1 id).blk)) vx vy).run P w= .ok () {w with heap:=w.heap.setIfInBounds (β1 id).blk (.map es' cl')}->
      Ba (B4b V.T (A2 C β1 w) w i.ty j.ty) (Hc (Nj V.T i.ty) kx q l) es'.toList->
      UOk V.T C bx β w none (put id (.map i.ty j.ty (Hc (Nj V.T i.ty) kx q l)) bx1) ((Instr.mapUpdate mt (.map (some (β1 id).blk)) vx vy).run P w):=by
      intro es' cl' hrun hall
      rw[hrun]
      obtain⟨g1,g2⟩:=heap_set (o':= .map es' cl') h1
      obtain⟨M2,X2⟩:=M1.set (w':={w with heap:=w.heap.setIfInBounds (β1 id).blk (.map es' cl')}) id (.map i.ty j.ty (Hc (Nj V.T i.ty) kx q l)) (β1 id) rfl rfl rfl (by simp) (λ b hb1 hb2=>g2 b (by rintro rfl;exact hb2 (by rw[hown];simp)))
       (λ b hb=> .inl hb) (M1.nodup id) (λ b0 hb0=>by rw[hb]at hb0;cases hb0;exact⟨rfl,rfl,rfl⟩) (λ X=>by
        refine⟨by rw[A6];exact hown,es',cl',by rw[A6];exact g1, ?_⟩
        exact hall.imp λ p e hp=>⟨hp.1.later X.later,hp.2.later X.later⟩)
      exact⟨_,_,rfl,rfl,M2,X1.trans X2⟩
     rcases hK.find h2 with⟨k1,k2,k3⟩|⟨jj,y1,e,k1,k2,k3,k4,k5,k6⟩
     ·refine key (es.push {key:=vx,val:=vy,born:=clock}) (clock+1) ?_ ?_
      ·simp[Instr.mapUpdate,run_underlying hm,MapKept.run_getObj_map h1,hK.check,k2,MapKept.run_setObj_map _ h1,Result.andThen]
      ·rw[k3 q,Array.toList_push]
       exact h2.append (.cons ⟨hkv,hv⟩ .nil)
     ·have hjj:es[jj]?=some e:=by simpa using k3
      refine key (es.modify jj λ e=>{e with key:=vx,val:=vy}) clock ?_ ?_
      ·simp[Instr.mapUpdate,run_underlying hm,MapKept.run_getObj_map h1,hK.check,k2,hjj,k5,hK.stays,MapKept.run_setObj_map _ h1,Result.andThen]
      ·rw[Array.toList_modify]
       exact k6 q _ hkv hv
    ·simp[Ac]at h
   ·simp[Ac]at h
  ·simp[Ac]at h
 ·simp[Ac]at h
end
section
variable {V:Env} {P:Program} {C:Ctx} {bx:List (Nat×Box V.E)} {β:Nat->BI} {w:World}
variable {res:Option (SV V.E)} {cs:List Cd} {bx':List (Nat×Box V.E)} {rs ws:List Nat} {ac:Acc}
theorem Ba.of_map {α β γ:Type} {R:β->γ->Prop} {f:α->β}:∀{l:List α} {m:List γ},Ba R (l.map f) m->Ba (λ x c=>R (f x) c) l m
 |[],_,.nil=> .nil
 |_::_,_,.cons h t=> .cons h (Ba.of_map t)
theorem Bpf {dT sT ty elem:TypeId} {sz:Nat} (g dLen dCap:Nat) (a:Addr) (sCap:Nat) (cur:Array Value) (t:TypeId) (cs:List Value)
 (hu:P.underlying dT=some (.slice elem)) (hs:(P.info? elem).map (·.size)=some sz) (hg:w.heap[g]?=some (.cells cur t (0,0))) (hn:cs.length=dLen*sz)
 (hsrc:∀j v,cs[j]?=some v->w.cell? (a.add j)=some v) (hfit:cs.length<=cur.size) (h1:∀v∈cs,v.oneCell'=true):
 (Builtin.copy_ #[dT,sT] ty #[.slice (some ⟨g,0,none⟩) dLen dCap,.slice (some a) dLen sCap]).run P w= .ok (goInt dLen) (w.setRow g (cs++cur.toList.drop cs.length).toArray):=by
 have hl:=run_loadCells_list (P:=P) w a cs hsrc
 have hst:=run_storeCells_at P g 0 t cs 0 cur w hg (by simpa using hfit) h1
 cases hq:P.info? elem with
 |none=>simp[hq]at hs
 |some i=>
  have hi:i.size=sz:=by simpa [hq]using hs
  simp only[Nat.add_zero,List.take_zero,List.nil_append,Nat.zero_add]at hst
  simp[Builtin.copy_,run_underlying hu,Builtin.lenOf,Builtin.firstCells,sizeOf,typeInfo,hq,hi,<-hn,hl,hst]
theorem Aug {dT sT ty elem:TypeId} {sz:Nat} (d a:Option Addr) (dCap sCap:Nat) (hu:P.underlying dT=some (.slice elem)) (hs:(P.info? elem).map (·.size)=some sz):
 (Builtin.copy_ #[dT,sT] ty #[.slice d 0 dCap,.slice a 0 sCap]).run P w= .ok (goInt 0) w:=by
 cases hq:P.info? elem with
 |none=>simp[hq]at hs
 |some i=>
  have hl:∀a:Addr,(loadCells a 0).run P w= .ok #[] w:=λ a=>by
   have:=run_loadCells_list (P:=P) w a [] (by simp)
   simpa using this
  cases d<;>cases a<;>simp[Builtin.copy_,run_underlying hu,Builtin.lenOf,Builtin.firstCells,sizeOf,typeInfo,hq,hl,storeCells]
theorem Bql {ok:Nat->Prop} {sz:Nat}:∀{xs:List AV} {b o:Nat},Fp ok w sz xs b o->∃css:List (List Value),Ba (λ x c=>Bl ok w x c/\c.length=sz) xs css/\css.flatten.length=xs.length*sz/\
 (xs≠[]->ok b)/\∀j v,css.flatten[j]?=some v->w.cell? ⟨b,o+j,none⟩=some v
 |[],_,_,_=>⟨[],.nil,by simp,by simp,by simp⟩
 |x::xs,b,o,h=>by
  obtain⟨⟨c,h1,h2,h3⟩,h4⟩:=h
  obtain⟨css,k1,k2,_,k4⟩:=Bql h4
  refine⟨c::css,.cons ⟨h1,h2⟩ k1,by simp[h2,k2,Nat.add_mul];omega,λ _=>h3.1,λ j v hj=> ?_⟩
  rw[List.flatten_cons,List.getElem?_append]at hj
  split at hj
  ·exact h3.2 j v hj
  ·rename_i hlt
   have:=k4 (j-c.length) v hj
   rw[show o+sz+(j-c.length)=o+j by omega]at this
   exact this
theorem Bxh {ok:Nat->Prop}:∀(x:AV) (c:List Value),Bl ok w x c->∀v∈c,v.oneCell'=true
 | .int _ _,c,h,v,hv=>by simp only[Bl]at h;subst h;simp at hv;subst hv;rfl
 | .bool _,c,h,v,hv=>by simp only[Bl]at h;subst h;simp at hv;subst hv;rfl
 | .str _,c,h,v,hv=>by simp only[Bl]at h;subst h;simp at hv;subst hv;rfl
 | .sl _ _ _,c,h,v,hv=>by
   simp only[Bl]at h
   obtain⟨a,cap,h,_⟩:=h
   subst h;simp at hv;subst hv;rfl
 | .ag xs,c,h,v,hv=>all_one xs c h v hv
where all_one:∀(xs:List AV) (c:List Value),Lo ok w xs c->∀v∈c,v.oneCell'=true
 |[],c,h,v,hv=>by simp only[Lo]at h;subst h;simp at hv
 |x::xs,c,h,v,hv=>by
  simp only[Lo]at h
  obtain⟨c1,c2,rfl,h1,h2⟩:=h
  rcases List.mem_append.1 hv with hv|hv
  ·exact Bxh x c1 h1 v hv
  ·exact all_one xs c2 h2 v hv
theorem B6j (M:Bk V.T C bx β w) {t u e:TypeId} {i:TI V.E} {info:TypeInfo} {d:TypeDesc} {z:Value} (ht:P.underlying t=some (.slice e)) (I:Cw V P e i info d z) {a b:SV V.E} {va vb:Value}
 (ha:SR V C bx β w a va) (hb:SR V C bx β w b vb) (ty:TypeId) (h:Ac V bx (Bet V i a b) rs ws=some (res,cs,bx',ac)) (hc:Fj cs):
 VOk V.T C bx β w res bx' ((Builtin.copy_ #[t,u] ty #[va,vb]).run P w):=by
 unfold Bet at h
 split at h
 ·rename_i id ver l
  obtain⟨bx1,β1,ls',rs1,ws1,M1,X1,R1,h,_⟩:=Xs [l] [vb] bx β M (.cons hb .nil) _ _ _ h
  split at h
  ·rename_i t' st ys
   simp only[Ac]at h
   split at h
   ·rename_i e0 t0 xs v0 hbx
    split at h
    ·rename_i hv
     simp only[Bool.and_eq_true,decide_eq_true_eq]at hv
     obtain⟨hv,rfl⟩:=hv
     split at h
     ·rename_i hty
      subst hty
      simp only[Ac]at h
      obtain⟨rfl,rfl,rfl⟩:=Aq h
      have hlen:ys.length=xs.length:=hc.1
      have ha':Ad V.T bx1 β1 (A2 C β1 w) w (.ar id ver) va:=Ad.ext X1 _ _ ha
      simp only[Ad,hbx]at ha'
      have hva:=ha'.2.2 (Ah hv)
      obtain⟨hown,css,⟨hl,ho⟩,hx⟩:=M1.boxes id _ hbx
      cases R1 with
      |cons r1 _=>
       simp only[Ad,Arb,Bl,List.cons.injEq,and_true,List.length_map]at r1
       obtain⟨sa,scap,rfl,hcap,hnil,_,hmem⟩:=r1
       have hsz:(P.info? e).map (·.size)=some i.size:=by rw[I.inf];simp[I.size]
       have hty:i.ty.sz V.T=i.size:=I.ty
       rcases ho with⟨ho1,ho2⟩|⟨g,cap,cur,ho1,_,hg,hcap2,hmax,hcs,htake⟩
       ·have hx0:xs=[]:=List.length_eq_zero_iff.1 ho2
        have hy0:ys=[]:=List.length_eq_zero_iff.1 (by rw[hlen,ho2])
        subst hx0 hy0
        rw[hva,ho1]
        have hrun:=Aug (P:=P) (w:=w) (dT:=t) (sT:=u) (ty:=ty) (elem:=e) none sa 0 scap ht hsz
        have hput:put id (Box.arr e0 i.ty (Wf rfl []) v0 false) bx1=put id (Box.arr e0 i.ty [] v0 false) bx1:=rfl
        rw[hput]
        obtain⟨M2,X2⟩:=M1.set (w':=w) id (.arr e0 i.ty [] v0 false) (β1 id) rfl rfl rfl (Nat.le_refl _) (λ _ _ _=>rfl) (λ x hx=> .inl hx) (M1.nodup id)
         (λ b0 h0=>by rw[hbx]at h0;cases h0;exact⟨rfl,Nat.le_refl _,λ _=>⟨rfl,rfl⟩⟩)
         (λ X=>⟨by rw[A6];exact hown,by rw[A6];exact Lh.later X.later ⟨css,⟨hl,.inl ⟨ho1,ho2⟩⟩,hx⟩ λ _ _=>rfl⟩)
        exact⟨_,w,_,_,rfl,hrun,rfl,M2,X1.trans X2⟩
       ·have hkey:∃cy:List (List Value),Ba (λ x c=>Bl (A2 C β1 w) w (i.ty.av V.T x) c/\c.length=i.ty.sz V.T) ys cy/\cy.flatten.length=ys.length*i.ty.sz V.T/\
         (ys=[]\/∃ad,sa=some ad/\ad.spot=none/\A2 C β1 w ad.block/\∀j v,cy.flatten[j]?=some v->w.cell? ⟨ad.block,ad.off+j,none⟩=some v):=by
         cases sa with
         |none=>
          have:=hnil rfl
          have hy0:ys=[]:=List.length_eq_zero_iff.1 (by omega)
          subst hy0
          exact⟨[],.nil,by simp,.inl rfl⟩
         |some ad=>
          obtain⟨hsp,hm⟩:=hmem ad rfl
          obtain⟨cy,k1,k2,k3,k4⟩:=Bql hm
          have k1':Ba (λ x c=>Bl (A2 C β1 w) w (i.ty.av V.T x) c/\c.length=i.ty.sz V.T) ys cy:=Ba.of_map k1
          refine⟨cy,k1',by simpa using k2, ?_⟩
          by_cases hy:ys=[]
          ·exact .inl hy
          ·have hy':ys.map (i.ty.av V.T)≠[]:=by simpa using hy
           exact .inr ⟨ad,rfl,hsp hy',k3 hy',k4⟩
        obtain⟨cy,hcy,hcl,hsrc⟩:=hkey
        have hone:∀v∈cy.flatten,v.oneCell'=true:=by
         intro v hv
         obtain⟨c,hc1,hc2⟩:=List.mem_flatten.1 hv
         obtain⟨m,hm⟩:=List.getElem?_of_mem hc1
         obtain⟨x,_,q⟩:=hcy.get' m c hm
         exact Bxh _ c q.1 v hc2
        have hfit:cy.flatten.length<=cur.size:=by
         rw[hcl,hlen,hcs]
         exact Nat.mul_le_mul_right _ hcap2
        have hgo:g∈(β1 id).own:=by rw[hown,ho1];simp[Value.ownBlock]
        have hrun:(Builtin.copy_ #[t,u] ty #[va,.slice sa ys.length scap]).run P w= .ok (goInt ys.length) (w.setRow g (cy.flatten++cur.toList.drop cy.flatten.length).toArray):=by
         rw[hva,ho1,hlen]
         rcases hsrc with hy|⟨ad,rfl,hsp,_,hsrc⟩
         ·subst hy
          cases hcy
          have hx0:xs.length=0:=hlen.symm
          rw[hx0]
          rw[Aug (P:=P) (w:=w) (dT:=t) (sT:=u) (ty:=ty) (elem:=e) (some ⟨g,0,none⟩) sa cap scap ht hsz]
          congr 1
          simp only[List.flatten_nil,List.nil_append,List.length_nil,List.drop_zero,Array.toArray_toList]
          exact(setRow_self w g cur e0 (0,0) hg).symm
         ·refine Bpf (P:=P) (w:=w) g xs.length cap ad scap cur e0 cy.flatten ht hsz hg (by rw[hcl,hlen,hty]) (λ j v hj=> ?_) hfit hone
          have hadd:ad.add j=⟨ad.block,ad.off+j,none⟩:=by
           obtain⟨ab,ao,asp⟩:=ad
           simp only at hsp
           subst hsp
           unfold Addr.add;split<;>simp_all
          rw[hadd]
          exact hsrc j v hj
        obtain⟨M2,X2⟩:=M1.set (w':=w.setRow g (cy.flatten++cur.toList.drop cy.flatten.length).toArray) id (.arr e0 i.ty ys v0 false) (β1 id) rfl rfl rfl (by simp)
         (λ x _ hx=>setRow_other _ _ _ _ (by rintro rfl;exact hx hgo)) (λ x hx=> .inl hx) (M1.nodup id)
         (λ b0 h0=>by rw[hbx]at h0;cases h0;exact⟨rfl,Nat.le_refl _,λ _=>⟨rfl,hlen⟩⟩)
         (λ X=>⟨by rw[A6];exact hown,by
          rw[A6]
          refine⟨cy,⟨hcl,.inr ⟨g,cap,_,by rw[ho1,hlen],Nat.zero_le _,setRow_heap _ _ _ _ _ _ hg,by omega,hmax, ?_, ?_⟩⟩,hcy.imp λ x c k=>⟨Bl.later X.later _ _ k.1,k.2⟩⟩
          ·simp only[List.size_toArray,List.length_append,List.length_drop,Array.length_toList]
           rw[<-hcs];omega
          ·show((cy.flatten++cur.toList.drop cy.flatten.length).toArray.toList).take _=_
           rw[<-hcl]
           simp⟩)
        exact⟨_,_,_,_,rfl,hrun,rfl,M2,X1.trans X2⟩
     ·simp[Ac]at h
    ·simp[Ac]at h
   ·simp[Ac]at h
  ·simp[Ac]at h
 ·simp[Ac]at h
theorem Bvm (M:Bk V.T C bx β w) {t u e e':TypeId} (hu:P.underlying t=some (.slice e)) (hu2:P.underlying u=some (.slice e')) {i:TI V.E} {info:TypeInfo} {d:TypeDesc} {z:Value} (I:Cw V P e i info d z)
 {dst:Nat} {a b:SV V.E} {va vb:Value} (ha:SR V C bx β w a va) (hb:SR V C bx β w b vb) (ty:TypeId)
 (h:Ac V bx (Blc V dst e i a b) rs ws=some (res,cs,bx',ac)) (hc:Fj cs):
 VOk V.T C bx β w res bx' ((Builtin.append_ #[t,u] ty #[va,vb]).run P w):=by
 unfold Blc at h
 split at h
 ·rename_i id ver
  obtain⟨bx1,β1,ls',rs1,ws1,M1,X1,R1,h,_⟩:=Xs [.ar id ver] [vb] bx β M (.cons hb .nil) _ _ _ h
  split at h
  ·rename_i l
   cases R1 with
   |cons r1 _=>
    obtain⟨β',w',v,x,h1,h2,h3,h4,h5⟩:=Bjn M1 hu hu2 I (Az.ext X1 ha) (show SR V C bx1 β1 w (.cv (.one l)) vb from r1) ty h hc
    exact⟨β',w',v,x,h1,h2,h3,h4,X1.trans h5⟩
  ·simp[Ac]at h
 ·exact Bjn M hu hu2 I ha hb ty h hc
end
end Go.Ab
