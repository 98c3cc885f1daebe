/- Functions of Go's library, told ahead: what they compute at texts and numbers, by their contracts. The units' table: one entry. Conditions: none beyond those that each theorem names. -/
import Derived.Test.YtgngflkahbpecaaGreatDoorP16
import Derived.Test.YtgngflkahbpecaaGreatDoorP17
import Derived.Lib.Bytealg
import Derived.Lib.IndexAny
import Derived.Lib.Atoi
import Derived.Lib.Repeat
import Derived.Lib.Split
import Derived.Lib.ConvBytes
import Derived.Lib.CountLaws
import Derived.Lib.SplitLaws
import Derived.Laws.CopyOwn
import Derived.Test.YtgngflkahbpecaaGreatDoorP19
import Derived.Shelf.RegionOpen
import Derived.WalkKit
import Derived.Maps.AppendAt
import Derived.Shelf.Abstract
import Derived.OwnWalkIn
import Derived.Maps.RangeWalk
import Derived.RangeFuncNested
set_option linter.unusedSimpArgs false
set_option linter.unusedVariables false
namespace Go.Ab
open Go
section
variable {T:Tab} {ti:TypeId->Option (TI T.E)} {eqs:TypeId->Bool} {P:Program} {f:FuncId}
def fv {E:Nat->Type}:(t:Ty)->t.den E->Value
 | .int k,n=> .int k n
 | .bool,b=> .bool b
 | .str,s=> .string ⟨s.toArray⟩
 |_,_=>undef
def fvs {E:Nat->Type}:(ts:List Ty)->HL E ts->List Value
 |[],_=>[]
 |t::ts,(x,r)=>fv t x::fvs ts r
theorem Ccd {ok:Nat->Prop} {w:World}:∀{t:Ty} {x:t.den T.E} {v:Value},Ae3 t=true->(Bsx T ok w t x v↔v=fv t x)
 | .int k,n,v,_=>by show[v]=[Value.int k n]↔_;simp[fv]
 | .bool,b,v,_=>by show[v]=[Value.bool b]↔_;simp[fv]
 | .str,s,v,_=>by show[v]=[Value.string ⟨s.toArray⟩]↔_;simp[fv]
 | .sl _,_,_,h=>by cases h
 | .nm _,_,_,h=>by cases h
theorem A3j {ok:Nat->Prop} {w:World}:∀{ts:List Ty} {x:HL T.E ts} {vs:List Value} {own:List Nat},ts.all Ae3=true->Oh T ok w [] ts x vs own->vs=fvs ts x/\own=[]
 |[],_,_,_,_,h=>h
 |t::ts,(x,r),vs,own,hf,h=>by
  obtain⟨v,vr,o1,o2,rfl,rfl,h1,h2⟩:=h
  simp only[List.all_cons,Bool.and_eq_true]at hf
  obtain⟨rfl,rfl⟩:=A3j (ts:=ts) hf.2 h2
  have h1:Xq T ok w 0 t x v o1:=h1
  cases h1 with
  |data h=>rw[(Ccd hf.1).1 h];exact⟨rfl,rfl⟩
theorem B5c {ok:Nat->Prop} {w:World}:∀{t:Ty} {x:t.den T.E},Ae3 t=true->Bw5 T ok w [] t x (fv t x) []
 | .int k,n,_=>⟨[.int k n],.more (λ _ _=>rfl) .nil,rfl⟩
 | .bool,b,_=>⟨[.bool b],.more (λ _ _=>rfl) .nil,rfl⟩
 | .str,s,_=>⟨[.string ⟨s.toArray⟩],.more (λ _ _=>rfl) .nil,rfl⟩
 | .sl _,_,h=>by cases h
 | .nm _,_,h=>by cases h
theorem Bur {w w':World} (g:U1 w w'):But [] w w':=⟨g.os,g.tape,g.output,g.size,λ b hb _=>g.heap b hb⟩
abbrev Bko (P:Program) (f:FuncId):Prop:=∃fn,P.funcs[f]?=some fn/\fn.body.isSome=true/\(fn.name== "runtime.NumGoroutine")=false
theorem Bm2 {ats:List Ty} {t:Ty} {g:HL T.E ats->Option (t.den T.E)} (hf:Bko P f) (ha:ats.all Ae3=true) (ht:Ae3 t=true)
 (h:∀x z,g x=some z->∀w,Calls P f (fvs ats x).toArray w λ e w'=>e= .returned (fv t z)/\U1 w w'):Ue T ti eqs P f (f1 ats t g):=by
 refine⟨hf,λ x y hy okp w vs own hargs hnd hown hokp=> ?_⟩
 have hy:Option.map (λ r=>(r,())) (g x)=some y:=hy
 obtain⟨z,hz,rfl⟩:=Option.map_eq_some_iff.1 hy
 obtain⟨rfl,rfl⟩:=A3j ha hargs
 refine(h x z hz w).mono ?_
 rintro e w' ⟨rfl,g⟩
 exact⟨[fv t z],[],rfl,Bur g,List.nodup_nil,λ _ h=>by simp at h,_,[],[],[],rfl,rfl,B5c ht,rfl,rfl⟩
theorem B3v {ats:List Ty} {g:HL T.E ats->Option (List (List UInt8))} (hf:Bko P f) (ha:ats.all Ae3=true)
 (h:∀x z,g x=some z->∀w,Calls P f (fvs ats x).toArray w λ e w'=>∃(cap:Nat) (cs:Array Value) (et:TypeId),e= .returned (.slice (some ⟨w.heap.size,0,none⟩) z.length cap)/\z.length<=cap/\w'=w.alloc (.cells cs et)/\
  ∀i,i<z.length->cs[i]?=some (.string ⟨(z.getD i []).toArray⟩)):Ue T ti eqs P f (f1 ats (.sl .str) g):=by
 refine⟨hf,λ x y hy okp w vs own hargs hnd hown hokp=> ?_⟩
 have hy:Option.map (λ r=>(r,())) (g x)=some y:=hy
 obtain⟨z,hz,rfl⟩:=Option.map_eq_some_iff.1 hy
 obtain⟨rfl,rfl⟩:=A3j ha hargs
 refine(h x z hz w).mono ?_
 rintro e w' ⟨cap,cs,et,rfl,hcap,rfl,hcs⟩
 refine⟨[_],[],rfl,Bur (U1.alloc _ _),List.nodup_nil,λ _ h=>by simp at h,_,[],[],[],rfl,rfl,⟨[_],.more (λ bx β=> ?_) .nil,rfl⟩,rfl,rfl⟩
 show Bl _ _ (.sl 1 false (z.map λ s=>AV.str s)) [_]
 refine⟨_,cap,by rw[List.length_map],by rw[List.length_map];exact hcap,(λ e=>by cases e),(λ e=>by cases e),λ ad had=> ?_⟩
 cases had
 refine⟨λ _=>rfl, ?_⟩
 have key:∀(l:List (List UInt8)) (o:Nat),(∀i,i<l.length->cs[o+i]?=some (.string ⟨(l.getD i []).toArray⟩))->
  Fp (λ b=>b<(w.alloc (.cells cs et)).heap.size/\(okp b\/w.heap.size<=b\/b∈([]:List Nat))/\b∉([]:List Nat)) (w.alloc (.cells cs et)) 1 (l.map λ s=>AV.str s) w.heap.size o:=by
  intro l
  induction l with
  |nil=>intro o _;exact trivial
  |cons s r ih=>
   intro o hl
   refine⟨⟨[.string ⟨s.toArray⟩],rfl,rfl,⟨by simp,.inr (.inl (Nat.le_refl _)),by simp⟩,λ j v hj=> ?_⟩,ih (o+1) λ i hi=> ?_⟩
   ·cases j with
    |succ j=>simp at hj
    |zero=>
     simp at hj
     subst hj
     have:=hl 0 (by simp)
     simp only[Nat.add_zero,List.getD_cons_zero]at this
     rw[Nat.add_zero,World.cell?_alloc_new]
     exact this
   ·have:=hl (i+1) (by simp;omega)
    rw[show o+1+i=o+(i+1) by omega]
    simpa using this
 exact key z 0 λ i hi=>by rw[Nat.zero_add];exact hcs i hi
end
theorem Bkh (p:Nat->Bool):∀(n i:Nat),fst p (i+1) n=(fst (λ k=>p (k+1)) i n).map (·+1)
 |0,i=>rfl
 |n+1,i=>by
  unfold fst
  rw[Bkh p n (i+1)]
  by_cases h:p (i+1)=true
  ·simp[h]
  ·simp[h]
theorem B37 (q:UInt8->Bool) (x:UInt8) (r:List UInt8):fst (λ k=>q ((x::r).getD k 0)) 0 (x::r).length=if q x then some 0 else(fst (λ k=>q (r.getD k 0)) 0 r.length).map (·+1):=by
 rw[List.length_cons,fst,Bkh]
 by_cases h:q x=true
 ·simp[h]
 ·simp[h]
theorem Bnu {q:UInt8->Bool} {F:List UInt8->Int} (h0:F []= -1) (h1:∀x r,F (x::r)=if q x then 0 else if F r== -1 then -1 else F r+1):∀s,F s=Aa5 (fst (λ k=>q (s.getD k 0)) 0 s.length)
 |[]=>h0
 |x::r=>by
  rw[h1,B37,Bnu h0 h1 r]
  by_cases h:q x=true
  ·simp[h,Aa5]
  ·simp only[h,Bool.false_eq_true,if_false]
   cases fst (λ k=>q (r.getD k 0)) 0 r.length with
   |none=>rfl
   |some k=>
    have:((k:Int)== -1)=false:=by simp
    simp[Aa5,this]
theorem Zl (c:UInt8) (s:List UInt8):Lib.indexByte s c=Aa5 (fst (λ k=>decide (s.getD k 0=c)) 0 s.length):=by
 refine Bnu (q:=λ x=>decide (x=c)) (F:=λ s=>Lib.indexByte s c) rfl (λ x r=> ?_) s
 show Lib.indexByte (x::r) c=_
 rw[Lib.indexByte]
 by_cases h:x=c<;>simp[h]
theorem Bmi (t:List UInt8) (s:List UInt8):Lib.indexAny s t=Aa5 (fst (λ k=>t.contains (s.getD k 0)) 0 s.length):=by
 refine Bnu (q:=λ x=>t.contains x) (F:=λ s=>Lib.indexAny s t) rfl (λ x r=> ?_) s
 show Lib.indexAny (x::r) t=_
 rw[Lib.indexAny]
theorem Alc {w w':World} (h:RowKit.Below w.heap.size w w'):U1 w w':=⟨h.os,h.tape,h.output,h.size,h.block⟩
theorem B0x {c:Int} {x:UInt8} (h0:0<=c) (h1:c<256):(x=c.toNat.toUInt8)↔(x.toNat:Int)=c:=by
 have:c.toNat.toUInt8.toNat=c.toNat:=by simp;omega
 constructor
 ·rintro rfl;omega
 ·intro h;apply UInt8.toNat_inj.1;omega
theorem A1w:∀(s acc:List UInt8),Lib.indexByte s 46= -1->B3 acc s=[acc++s]
 |[],acc,_=>by simp[B3]
 |c::r,acc,h=>by
  have hg:=Lib.indexByte_ge r 46
  unfold Lib.indexByte at h
  rw[B3]
  cases hc:c==46 with
  |true=>rw[hc]at h;simp at h
  |false=>
   rw[hc]at h
   by_cases h2:Lib.indexByte r 46= -1
   ·rw[if_neg (by simp),A1w r _ h2];simp
   ·have h3:(Lib.indexByte r 46== -1)=false:=by simpa using h2
    simp only[h3,Bool.false_eq_true,if_false]at h;omega
theorem Bjo:∀(s acc:List UInt8) (i:Nat),Lib.indexByte s 46=i->i<s.length/\B3 acc s=(acc++s.take i)::B3 [] (s.drop (i+1))
 |[],acc,i,h=>by simp only[Lib.indexByte]at h;omega
 |c::r,acc,i,h=>by
  have hg:=Lib.indexByte_ge r 46
  unfold Lib.indexByte at h
  rw[B3]
  cases hc:c==46 with
  |true=>
   rw[hc]at h;simp only[if_true]at h
   obtain rfl:i=0:=by omega
   simp
  |false=>
   rw[hc]at h
   by_cases h2:Lib.indexByte r 46= -1
   ·rw[h2]at h;simp only[Bool.false_eq_true,if_false,beq_self_eq_true,if_true]at h;omega
   ·have h3:(Lib.indexByte r 46== -1)=false:=by simpa using h2
    simp only[h3,Bool.false_eq_true,if_false]at h
    obtain⟨j,rfl⟩:∃j,i=j+1:=⟨i-1,by omega⟩
    obtain⟨h4,h5⟩:=Bjo r (acc++[c]) j (by omega)
    rw[if_neg (by simp),h5]
    refine⟨by simp;omega, ?_⟩
    simp
theorem Auh:∀(k:Nat) (s:List UInt8),s.count 46<=k->Lib.splitK [46] 0 k s=B3 [] s
 |0,s,h=>by
  have hn:Lib.indexByte s 46= -1:=by
   rw[Zl]
   cases hf:fst (λ k=>decide (s.getD k 0=46)) 0 s.length with
   |none=>rfl
   |some k=>
    exfalso
    have key:∀n i,fst (λ k=>decide (s.getD k 0=46)) i n=some k->k<i+n/\s.getD k 0=46:=by
     intro n
     induction n with
     |zero=>intro i h;simp[fst]at h
     |succ n ih=>
      intro i h
      unfold fst at h
      split at h
      ·rename_i hp;cases h;exact⟨by omega,by simpa using hp⟩
      ·have:=ih _ h;exact⟨by omega,this.2⟩
    obtain⟨h1,h2⟩:=key _ _ hf
    have hm:(46:UInt8)∈s:=by
     rw[<-h2,List.getD_eq_getElem?_getD,List.getElem?_eq_getElem (by omega)]
     exact List.getElem_mem _
    have:=List.count_pos_iff.2 hm
    omega
  rw[A1w s [] hn];rfl
 |k+1,s,h=>by
  unfold Lib.splitK
  rw[Lib.index_one]
  by_cases hi:Lib.indexByte s 46= -1
  ·rw[if_pos (by simpa using hi),A1w s [] hi];rfl
  ·have hg:=Lib.indexByte_ge s 46
   obtain⟨i,hi2⟩:∃i:Nat,Lib.indexByte s 46=i:=⟨(Lib.indexByte s 46).toNat,by omega⟩
   obtain⟨h1,h2⟩:=Bjo s [] i hi2
   rw[if_neg (by simpa using hi),h2,hi2]
   have hdot:s.getD i 0=46:=by
    have hf:=Zl 46 s
    rw[hi2]at hf
    have key:∀n j k,fst (λ k=>decide (s.getD k 0=46)) j n=some k->s.getD k 0=46:=by
     intro n
     induction n with
     |zero=>intro i k h;simp[fst]at h
     |succ n ih=>
      intro i k h
      unfold fst at h
      split at h
      ·rename_i hp;cases h;simpa using hp
      ·exact ih _ _ h
    cases hq:fst (λ k=>decide (s.getD k 0=46)) 0 s.length with
    |none=>rw[hq]at hf;simp only[Aa5]at hf;omega
    |some j=>
     rw[hq]at hf
     simp only[Aa5]at hf
     obtain rfl:i=j:=by omega
     exact key _ _ _ hq
   have hc:(s.drop (i+1)).count 46<=k:=by
    have e:s=s.take i++46::s.drop (i+1):=by
     have:=List.drop_eq_getElem_cons h1
     rw[List.getD_eq_getElem?_getD,List.getElem?_eq_getElem h1]at hdot
     simp only[Option.getD_some]at hdot
     rw[hdot]at this
     rw[<-this,List.take_append_drop]
    rw[e,List.count_append,List.count_cons_self]at h
    omega
   simp only[Int.toNat_natCast,Nat.add_zero,List.length_singleton,List.nil_append]
   rw[Auh k _ hc]
section
variable {T:Tab} {ti:TypeId->Option (TI T.E)} {eqs:TypeId->Bool} {P:Program} {f:FuncId}
theorem Bpk (hf:Bko P f) (h:∀(s:ByteArray) (c:Int) (w:World),Calls P f #[.string s,.int .u8 c] w λ e w'=>e= .returned (.int .i64 (Lib.indexByte s.data.toList c.toNat.toUInt8))/\w'=w):
 Ue T ti eqs P f (f1 [.str,.int .u8] (.int .i64) λ x=>I9 x.1 x.2.1):=
 Bm2 hf rfl rfl λ x z hz w=>by
  obtain⟨s,c,u⟩:=x
  obtain⟨hc,hz⟩:=A8 hz
  cases hz
  refine(h ⟨s.toArray⟩ c w).mono ?_
  rintro e w' ⟨rfl,rfl⟩
  refine⟨?_,U1.refl _⟩
  show _=Ending.returned (Value.int .i64 _)
  rw[Zl]
  simp only[B0x hc.1 hc.2]
theorem B50 (hf:Bko P f) (h:∀(s:ByteArray) (c:UInt8) (w:World),Calls P f #[.string s,.string ⟨#[c]⟩] w λ e w'=>e= .returned (.int .i64 (Lib.indexByte s.data.toList c))/\w'=w):
 Ue T ti eqs P f (f1 [.str,.str] (.int .i64) λ x=>Qo x.1 x.2.1):=
 Bm2 hf rfl rfl λ x z hz w=>by
  obtain⟨s,t,u⟩:=x
  obtain⟨ht,hz⟩:=A8 hz
  cases hz
  match t,ht with
  |[c],_=>
   refine(h ⟨s.toArray⟩ c w).mono ?_
   rintro e w' ⟨rfl,rfl⟩
   refine⟨?_,U1.refl _⟩
   show _=Ending.returned (Value.int .i64 _)
   rw[Zl]
   rfl
theorem Bu8 (hf:Bko P f) (h:∀(s chars:ByteArray) (w:World),s.size<4294967281->chars.size<4294967281->(∀(j:Nat) b,s.data.toList[j]?=some b->b.toNat<128)->(∀(j:Nat) b,chars.data.toList[j]?=some b->b.toNat<128)->
 Calls P f #[.string s,.string chars] w λ e w'=>e= .returned (.int .i64 (Lib.indexAny s.data.toList chars.data.toList))/\RowKit.Below w.heap.size w w'):
 Ue T ti eqs P f (f1 [.str,.str] (.int .i64) λ x=>S4 x.1 x.2.1):=
 Bm2 hf rfl rfl λ x z hz w=>by
  obtain⟨s,t,u⟩:=x
  obtain⟨⟨h1,h2,h3,h4⟩,hz⟩:=A8 hz
  cases hz
  refine(h ⟨s.toArray⟩ ⟨t.toArray⟩ w h3 h4 (λ j b hb=>h1 b (List.mem_of_getElem? hb)) (λ j b hb=>h2 b (List.mem_of_getElem? hb))).mono ?_
  rintro e w' ⟨rfl,hb⟩
  refine⟨?_,Alc hb⟩
  show _=Ending.returned (Value.int .i64 _)
  rw[Bmi]
theorem Axa (s:List UInt8):∀n,Lib.repeatL s n=(List.replicate n s).flatten
 |0=>rfl
 |n+1=>by rw[Lib.repeatL,Axa s n,List.replicate_succ,List.flatten_cons]
theorem B3q (hf:Bko P f) (h:∀(s:ByteArray) (c:Nat) (w:World),c<=9223372036854775807->s.size*c<=140737488355328->
 Calls P f #[.string s,.int .i64 c] w λ e w'=>e= .returned (.string ⟨(Lib.repeatL s.data.toList c).toArray⟩)/\RowKit.Below w.heap.size w w'):
 Ue T ti eqs P f (f1 [.str,.int .i64] .str λ x=>Y8 x.1 x.2.1):=
 Bm2 hf rfl rfl λ x z hz w=>by
  obtain⟨s,n,u⟩:=x
  obtain⟨⟨h1,h2,h3⟩,hz⟩:=A8 hz
  cases hz
  simp only at h1 h2 h3
  obtain⟨n,rfl⟩:=Int.eq_ofNat_of_zero_le h1
  refine(h ⟨s.toArray⟩ n w (by omega) h2).mono ?_
  rintro e w' ⟨rfl,hb⟩
  refine⟨?_,Alc hb⟩
  show Ending.returned (Value.string _)=Ending.returned (Value.string _)
  rw[Axa];rfl
theorem Cab (s:List UInt8):∀(a:Nat),s.all Uu=true->Lib.decFrom a s=some (Re a s):=by
 induction s with
 |nil=>intro a _;rfl
 |cons c r ih=>
  intro a h
  simp only[List.all_cons,Bool.and_eq_true]at h
  have hd:Lib.digitVal c=some (c.toNat-48):=by
   have h2:=h.1
   simp only[Uu,Bool.and_eq_true,decide_eq_true_eq]at h2
   unfold Lib.digitVal
   rw[if_pos h2]
  have e1:Lib.decFrom a (c::r)=match Lib.digitVal c with|some d=>Lib.decFrom (a*10+d) r|none=>none:=rfl
  have e2:Re a (c::r)=Re (a*10+(c.toNat-48)) r:=rfl
  rw[e1,hd,e2]
  exact ih _ h.2
theorem B5n (s:List UInt8) (hne:s≠[]) (h:s.all Uu=true):Lib.atoi s=some (Re 0 s:Int):=by
 match s,hne,h with
 |c::r,_,h=>
  have hd:=Cab (c::r) 0 h
  simp only[List.all_cons,Bool.and_eq_true,Uu,decide_eq_true_eq]at h
  have h45:(c==45)=false:=by
   have:c≠45:=by rintro rfl;exact absurd h.1.1 (by decide)
   simpa using this
  have h43:(c==43)=false:=by
   have:c≠43:=by rintro rfl;exact absurd h.1.1 (by decide)
   simpa using this
  rw[Lib.atoi,h45,h43]
  simp only[Bool.false_eq_true,if_false,Lib.decNat,List.isEmpty_cons,hd,Option.map_some]
theorem Bup (hf:Bko P f) (h:∀(s:ByteArray) (w:World),s.size<4294967281->Calls P f #[.string s,.string ⟨#[46]⟩,.int .i64 0,.int .i64 (-1)] w λ e w'=>∃t,e= .returned (.slice (some ⟨w.heap.size,0,none⟩) (Lib.splitB ⟨#[46]⟩ 0 (Lib.countB s ⟨#[46]⟩) s).length (Lib.countB s ⟨#[46]⟩+1))/\
 w'=w.alloc (.cells (Lib.cellsOf (Lib.splitB ⟨#[46]⟩ 0 (Lib.countB s ⟨#[46]⟩) s) (Lib.countB s ⟨#[46]⟩+1)) t)):
 Ue T ti eqs P f (f1 [.str,.str,.int .i64,.int .i64] (.sl .str) λ x=>I7 x.1 x.2.1 x.2.2.1 x.2.2.2.1):=
 B3v hf rfl λ x z hz w=>by
  obtain⟨s,t,v,n,u⟩:=x
  obtain⟨⟨h1,h2,h3,h4⟩,hz⟩:=A8 hz
  cases hz
  simp only at h1 h2 h3 h4
  subst h1 h2 h3
  refine(h ⟨s.toArray⟩ w h4).mono ?_
  rintro e w' ⟨t,rfl,rfl⟩
  have hsp:(Lib.splitB ⟨#[46]⟩ 0 (Lib.countB ⟨s.toArray⟩ ⟨#[46]⟩) ⟨s.toArray⟩).map (·.data.toList)=B3 [] s:=by
   rw[Lib.splitB_data]
   show Lib.splitK [46] 0 (Lib.count s [46]) s=_
   rw[Lib.count_one]
   exact Auh _ _ (Nat.le_refl _)
  have hlen:(Lib.splitB ⟨#[46]⟩ 0 (Lib.countB ⟨s.toArray⟩ ⟨#[46]⟩) ⟨s.toArray⟩).length=(B3 [] s).length:=by rw[<-hsp,List.length_map]
  have hle:=Lib.splitB_length_le ⟨#[46]⟩ 0 (Lib.countB ⟨s.toArray⟩ ⟨#[46]⟩) ⟨s.toArray⟩
  show∃(cap:Nat) (cs:Array Value) (et:TypeId),_/\(B3 [] s).length<=cap/\_/\∀i,i<(B3 [] s).length->cs[i]?=some (.string ⟨((B3 [] s).getD i []).toArray⟩)
  refine⟨_,_,t,by rw[hlen],by rw[<-hlen];exact hle,rfl,λ i hi=> ?_⟩
  generalize Lib.splitB ⟨#[46]⟩ 0 (Lib.countB ⟨s.toArray⟩ ⟨#[46]⟩) ⟨s.toArray⟩=L at*
  have hi':i<L.length:=by omega
  unfold Lib.cellsOf
  rw[List.getElem?_toArray,List.getElem?_append_left (by simpa using hi'),List.getElem?_map,List.getElem?_eq_getElem hi']
  have:(B3 [] s).getD i []=L[i].data.toList:=by
   rw[<-hsp,List.getD_eq_getElem?_getD,List.getElem?_map,List.getElem?_eq_getElem hi'];rfl
  rw[this]
  rfl
theorem Bj7:∀xs:List Int,(xs.map λ n=>[Value.int .i64 n]).flatten=xs.map (Value.int .i64)
 |[]=>rfl
 |x::r=>by rw[List.map_cons,List.flatten_cons,Bj7 r];rfl
theorem Bjy {ok:Nat->Prop} {w:World}:∀xs:List Int,Ba (λ (x:Int) (cs:List Value)=>Bl ok w (Ty.av T (.int .i64) x) cs/\cs.length=(Ty.int .i64).sz T) xs (xs.map λ n=>[Value.int .i64 n])
 |[]=> .nil
 |x::r=> .cons ⟨rfl,rfl⟩ (Bjy r)
theorem B51 {e:TypeId} (he:e≠0) (hf:Bko P f) (h0:∀(n c:Nat) (w:World),Calls P f #[.slice none n c] w λ e w'=>e= .returned (.slice none 0 0)/\w'=w)
 (h1:∀(a:Addr) (c:Nat) (w:World),Calls P f #[.slice (some a) 0 c] w λ r w'=>∃v',r= .returned v'/\w'.ownsRow w.heap.size e 1 v' 0 []/\v'≠ .slice none 0 0/\RowKit.Below w.heap.size w w')
 (h2:∀(b off n c:Nat) (zs:List Int) (w:World),n<=zs.length->n*8<=140737488355328->(∀j,j<zs.length->w.cell? ⟨b,off+j,none⟩=some (.int .i64 (zs.getD j 0)))->
  Calls P f #[.slice (some ⟨b,off,none⟩) n c] w λ r w'=>∃v',r= .returned v'/\w'.ownsRow w.heap.size e 1 v' n ((zs.take n).map (Value.int .i64))/\v'≠ .slice none 0 0/\RowKit.Below w.heap.size w w'):
 Ue T ti eqs P f ⟨[.sl (.int .i64)],[.sl (.int .i64)],[],[[(e,0)]],List Int,λ x=>Dq x.1,λ r=>(r,())⟩:=by
 refine⟨hf,λ x y hy okp w vs own hargs hnd hown hokp=> ?_⟩
 obtain⟨xs,u⟩:=x
 have hy:Option.map (λ r:List Int=>(r,())) (Dq xs)=some y:=hy
 obtain⟨z,hz,rfl⟩:=Option.map_eq_some_iff.1 hy
 obtain⟨hlen,hz⟩:=A8 hz
 cases hz
 obtain⟨v,vr,o1,o2,rfl,rfl,ha,rfl,rfl⟩:=hargs
 have ha:Xq T okp w 0 (.sl (.int .i64)) xs v o1:=ha
 cases ha with
 |data hd=>
 have hd:Bl okp w (.sl 1 false (xs.map λ n=>AV.int .i64 n)) [v]:=hd
 obtain⟨a,cap,hv,hcap,hn,_,hmem⟩:=hd
 rw[List.length_map]at hv hcap
 cases hv
 -- what comes of a row of its own
 have fin:∀(w':World) (v':Value),w'.ownsRow w.heap.size e 1 v' xs.length (xs.map (Value.int .i64))->U1 w w'->
  ∃rs own',Ending.returned v'= .returned (Ape rs)/\But [] w w'/\own'.Nodup/\(∀b∈own',b<w'.heap.size/\(w.heap.size<=b\/b∈([]:List Nat)))/\
   X9 T (λ b=>b<w'.heap.size/\(okp b\/w.heap.size<=b\/b∈([]:List Nat))/\b∉own') w' [[(e,0)]] [.sl (.int .i64)] (xs,()) rs own':=by
  intro w' v' hr hg
  have hb:∀b,v'.ownBlock=some b->w.heap.size<=b/\b<w'.heap.size:=by
   intro b hb
   rcases hr.2 with⟨rfl,_⟩|⟨g,cap,cur,rfl,h3,h4,_⟩
   ·cases hb
   ·cases hb
    refine⟨h3, ?_⟩
    rcases Nat.lt_or_ge g w'.heap.size with h|h
    ·exact h
    ·rw[Array.getElem?_eq_none h]at h4;cases h4
  refine⟨[v'],v'.ownBlock.toList,rfl,Bur hg, ?_,λ b hbm=> ?_,v',[],v'.ownBlock.toList,[],rfl,by simp,⟨[v'], ?_,rfl⟩,rfl,rfl⟩
  ·cases v'.ownBlock<;>simp
  ·have:=hb b (by simpa using hbm)
   exact⟨this.2,.inl this.1⟩
  ·have:=Dp.arr (T:=T) (ok:=λ b=>b<w'.heap.size/\(okp b\/w.heap.size<=b\/b∈([]:List Nat))/\b∉v'.ownBlock.toList) (w:=w') (e:=e) (os:=[]) (t:= .int .i64) (st:=false) (xs:=xs) (ls:=[]) (v:=v') (vs:=[]) (ow:=[]) he ⟨xs.map λ n=>[.int .i64 n], ?_, ?_⟩ .nil
   ·rw[List.append_nil]at this;exact this
   ·rw[Bj7]
    refine⟨hr.1, ?_⟩
    rcases hr.2 with h|⟨g,cap,cur,q1,q2,q3⟩
    ·exact .inl h
    ·exact .inr ⟨g,cap,cur,q1,Nat.zero_le _,q3⟩
   ·exact Bjy xs
 match a,hn,hmem with
 |none,hn,_=>
  have:xs.length=0:=by have:=hn rfl;omega
  have hx:xs=[]:=List.eq_nil_of_length_eq_zero this
  subst hx
  refine(h0 _ cap w).mono ?_
  rintro r w' ⟨rfl,rfl⟩
  exact fin w' _ ⟨rfl,.inl ⟨rfl,rfl⟩⟩ (U1.refl _)
 |some ad,_,hmem=>
  by_cases hx:xs=[]
  ·subst hx
   refine(h1 ad cap w).mono ?_
   rintro r w' ⟨v',rfl,hr,_,hb⟩
   exact fin w' v' hr (Alc hb)
  ·obtain⟨hsp,hm⟩:=hmem ad rfl
   have hsp:=hsp (by simpa using hx)
   obtain⟨b,o,sp⟩:=ad
   simp only at hsp hm
   subst hsp
   refine(h2 b o xs.length cap xs w (Nat.le_refl _) hlen (λ j hj=> ?_)).mono ?_
   ·obtain⟨cs,q1,q2,q3⟩:=Fp.get _ _ _ hm j (.int .i64 (xs.getD j 0)) (by rw[List.getElem?_map,List.getElem?_eq_getElem hj,List.getD_eq_getElem?_getD,List.getElem?_eq_getElem hj];rfl)
    have q1:cs=[Value.int .i64 (xs.getD j 0)]:=q1
    subst q1
    have:=q3.2 0 _ rfl
    rw[Nat.mul_one,Nat.add_zero]at this
    exact this
   ·rintro r w' ⟨v',rfl,hr,_,hb⟩
    rw[List.take_length]at hr
    exact fin w' v' hr (Alc hb)
def B72 (E:Nat->Type):FX E:=⟨[.S 0 false,.v .str],[.S 0 false,.v (.int .i64),.S 1 false,.k .nif],Int,λ x=>Apr x.1,λ r=>(r,())⟩
theorem B9e {t:TypeId} (hf:Bko P f) (h:∀(s:ByteArray) (n:Int) (w:World),s.size<=18->Lib.atoi s.data.toList=some n->
 Calls P f #[.string s] w λ e w'=>e= .returned (.tuple #[.int .i64 n,.nilIface])/\∃b,w'=Lib.bytesWorld w t b):Agj T P f (B72 T.E):=by
 refine⟨hf,λ x z hz args res ha hr C β w vs M hvs=> ?_⟩
 obtain⟨s,u⟩:=x
 obtain⟨⟨h1,h2,h3⟩,hz⟩:=A8 hz
 cases hz
 cases ha
 cases hr
 cases hvs with
 |cons k1 k2=>
 cases k2
 rename_i v
 have k1:v= .string ⟨s.toArray⟩:=k1
 subst k1
 refine(h ⟨s.toArray⟩ _ w h1 (B5n s h2 h3)).mono ?_
 rintro e w' ⟨rfl,b,rfl⟩
 have g:U1 w (Lib.bytesWorld w t b):=⟨rfl,rfl,rfl,by rw[Lib.bytesWorld_size];omega,λ j hj=>Lib.bytesWorld_at_old w t b j hj⟩
 obtain⟨M',_⟩:=Bk.grow (T:=T) M g
 refine⟨β,[.int .i64 (Re 0 s),.nilIface],rfl,M',.cons rfl (.cons rfl .nil),λ _ _=>rfl⟩
end
end Go.Ab
namespace Go.Proofs
open Go Go.RowKit Go.Shelf
attribute [local go_sem] Oper.semAt_some
def utL (l:List Int) (n d:Int):List Value:=(l++List.replicate (7-l.length) 0).map (Value.int .i64)++[.int .i64 n,.int .i64 d]
set_option maxRecDepth 100000 in
set_option maxHeartbeats 4000000 in
theorem ut_in (n d:Int) (l:List Int) (hl:l.length<=7) (ad:Option Addr) (cap:Nat) (w:World) (hs:l≠[]->∃a,ad=some a/\∀j v,(l.map (Value.int .i64))[j]?=some v->w.cell? (a.add j)=some v):
 Calls Go.Proofs.Tryz.prog 259 #[.int .i64 n,.int .i64 d,.slice ad l.length cap] w λ e w'=>e= .returned (.agg (utL l n d).toArray)/\w.grownBy w' none:=by
 refine calls_of_wp (fn:=Tryz.f259) (by kernel_rfl) (c:=(Tryz.f259.body.getD .skip)) (by kernel_rfl) ?_
 have hn:Tryz.f259.ntmps=17:=by kernel_rfl
 simp only[hn,List.size_toArray,List.length_cons,List.length_nil,Nat.reduceAdd,Nat.reduceSub,Array.replicate_succ,Array.replicate_zero,List.push_toArray,List.append_toArray,List.nil_append,List.cons_append]
 unfold Tryz.f259
 simp only[Option.getD_some]
 obtain⟨c0,c1,c2,c3,c4,c5,c6,hL⟩:∃c0 c1 c2 c3 c4 c5 c6,l++List.replicate (7-l.length) 0=[c0,c1,c2,c3,c4,c5,c6]:=by
  have:(l++List.replicate (7-l.length) (0:Int)).length=7:=by simp;omega
  match l++List.replicate (7-l.length) (0:Int),this with
  |[a,b,c,d,e,f,g],_=>exact⟨a,b,c,d,e,f,g,rfl⟩
 have hU:utL l n d=[.int .i64 c0,.int .i64 c1,.int .i64 c2,.int .i64 c3,.int .i64 c4,.int .i64 c5,.int .i64 c6,.int .i64 n,.int .i64 d]:=by unfold utL;rw[hL];rfl
 have key:(Builtin.copy_ #[88,88] 3 #[Value.slice (some {block:=w.heap.size+1,off:=0}) 7 7,Value.slice ad l.length cap]).run Tryz.prog ((w.alloc (Obj.cells #[Value.int IntKind.i64 0,Value.int IntKind.i64 0,Value.int IntKind.i64 0,Value.int IntKind.i64 0,Value.int IntKind.i64 0,Value.int IntKind.i64 0,Value.int IntKind.i64 0,Value.int IntKind.i64 0,Value.int IntKind.i64 0] 198)).alloc (Obj.cells #[Value.int IntKind.i64 0,Value.int IntKind.i64 0,Value.int IntKind.i64 0,Value.int IntKind.i64 0,Value.int IntKind.i64 0,Value.int IntKind.i64 0,Value.int IntKind.i64 0,Value.int IntKind.i64 n,Value.int IntKind.i64 d] 198))= .ok (goInt l.length) ((w.alloc (Obj.cells #[Value.int IntKind.i64 0,Value.int IntKind.i64 0,Value.int IntKind.i64 0,Value.int IntKind.i64 0,Value.int IntKind.i64 0,Value.int IntKind.i64 0,Value.int IntKind.i64 0,Value.int IntKind.i64 0,Value.int IntKind.i64 0] 198)).alloc (.cells #[.int .i64 c0,.int .i64 c1,.int .i64 c2,.int .i64 c3,.int .i64 c4,.int .i64 c5,.int .i64 c6,.int .i64 n,.int .i64 d] 198)):=by
  have hcell:∀(w:World) (o:Obj) (x:Addr) (v:Value),w.cell? x=some v->(w.alloc o).cell? x=some v:=by
   intro w o x v h
   have hb:x.block<w.heap.size:=by
    unfold World.cell? at h
    cases hk:w.heap[x.block]? with
    |none=>simp[hk]at h
    |some o=>exact(Array.getElem?_eq_some_iff.1 hk).1
   exact(World.cell?_of_block (Below.heap_alloc w o x.block hb)).trans h
  have hrow:∀(w:World) (A:Obj) (cs cs':Array Value) (t:TypeId),((w.alloc A).alloc (.cells cs t (0,0))).setRow (w.heap.size+1) cs'=(w.alloc A).alloc (.cells cs' t (0,0)):=by
   intro w A cs cs' t
   unfold World.setRow World.alloc
   congr 1
   apply Array.ext'
   have hm:∀(l:List Obj) (a b:Obj) (f:Obj->Obj),(l++[a,b]).modify (l.length+1) f=l++[a,f b]:=by
    intro l a b f
    induction l with
    |nil=>rfl
    |cons x l ih=>simpa using ih
   have q:=hm w.heap.toList A (.cells cs t (0,0))
   rw[Array.length_toList]at q
   simp[Array.toList_modify]
   exact q _
  by_cases h0:l=[]
  ·subst h0
   simp only[List.length_nil,Nat.sub_zero,List.nil_append]at hL
   cases hL
   exact run_copy_none _ 88 88 3 3 _ _ 7 7 0 cap (by kernel_rfl) (by kernel_rfl) rfl
  ·obtain⟨a,rfl,hsrc⟩:=hs h0
   have q:=run_copy_row (P:=Tryz.prog) ((w.alloc (Obj.cells #[Value.int IntKind.i64 0,Value.int IntKind.i64 0,Value.int IntKind.i64 0,Value.int IntKind.i64 0,Value.int IntKind.i64 0,Value.int IntKind.i64 0,Value.int IntKind.i64 0,Value.int IntKind.i64 0,Value.int IntKind.i64 0] 198)).alloc (Obj.cells #[Value.int IntKind.i64 0,Value.int IntKind.i64 0,Value.int IntKind.i64 0,Value.int IntKind.i64 0,Value.int IntKind.i64 0,Value.int IntKind.i64 0,Value.int IntKind.i64 0,Value.int IntKind.i64 n,Value.int IntKind.i64 d] 198)) 88 88 3 3 (w.heap.size+1) 0 7 7 a l.length cap _ 198 (l.map (Value.int .i64)) (by kernel_rfl) (by kernel_rfl) (by have:=Go.heap_alloc_new (w.alloc (Obj.cells #[Value.int IntKind.i64 0,Value.int IntKind.i64 0,Value.int IntKind.i64 0,Value.int IntKind.i64 0,Value.int IntKind.i64 0,Value.int IntKind.i64 0,Value.int IntKind.i64 0,Value.int IntKind.i64 0,Value.int IntKind.i64 0] 198)) (Obj.cells #[Value.int IntKind.i64 0,Value.int IntKind.i64 0,Value.int IntKind.i64 0,Value.int IntKind.i64 0,Value.int IntKind.i64 0,Value.int IntKind.i64 0,Value.int IntKind.i64 0,Value.int IntKind.i64 n,Value.int IntKind.i64 d] 198);rwa [World.size_alloc]at this) (by rw[List.length_map];exact(Nat.min_eq_left hl).symm) (λ j v hv=>hcell _ _ _ _ (hcell _ _ _ _ (hsrc j v hv))) (by simp;omega) (by simp[Value.oneCell'])
   rw[q,hrow,List.length_map]
   refine congrArg (λ z=>Result.ok (goInt l.length) ((w.alloc (Obj.cells #[Value.int IntKind.i64 0,Value.int IntKind.i64 0,Value.int IntKind.i64 0,Value.int IntKind.i64 0,Value.int IntKind.i64 0,Value.int IntKind.i64 0,Value.int IntKind.i64 0,Value.int IntKind.i64 0,Value.int IntKind.i64 0] 198)).alloc (.cells z 198))) ?_
   clear q hsrc hs hU hn hcell hrow
   rcases l with _|⟨x0,_|⟨x1,_|⟨x2,_|⟨x3,_|⟨x4,_|⟨x5,_|⟨x6,_|⟨x7,r⟩⟩⟩⟩⟩⟩⟩⟩
   case nil=>exact absurd rfl h0
   case cons.cons.cons.cons.cons.cons.cons.cons=>simp at hl
   all_goals (simp[List.replicate_succ]at hL;simp[hL]<;>omega)
 rw[hU]
 go_wp2
 refine⟨rfl,_, ?_,rfl, ?_⟩
 ·exact results_cell_row rfl _ _ w.heap.size 198 _ (0,0) (Tryz.prog.underlying 198|>.getD .bool) rfl ((Below.heap_alloc _ _ _ (by simp)).trans (Go.heap_alloc_new _ _)) (by kernel_rfl) (by kernel_rfl) (by kernel_rfl)
 ·exact(World.grownBy_alloc _ _ none).trans (World.grownBy_alloc _ _ none)
end Go.Proofs
