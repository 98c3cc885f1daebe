/- The functions of the library. Conditions: none beyond those that each theorem names. -/
import Derived.Test.YtgngflkahbpecaaGreatDoorP19
import Derived.Test.YtgngflkahbpecaaGreatDoorP20
import Derived.Test.YtgngflkahbpecaaGreatDoorP21
set_option linter.unusedSimpArgs false
namespace Go.Ab
open Go
set_option linter.unusedVariables false
theorem Bm0 (s:ByteArray) (w:World) (hs:s.size<4294967281):Calls Go.Proofs.Tryz.prog 196 #[.string s,.string ⟨#[46]⟩,.int .i64 0,.int .i64 (-1)] w λ e w'=>∃t,e= .returned (.slice (some ⟨w.heap.size,0,none⟩) (Lib.splitB ⟨#[46]⟩ 0 (Lib.countB s ⟨#[46]⟩) s).length (Lib.countB s ⟨#[46]⟩+1))/\
 w'=w.alloc (.cells (Lib.cellsOf (Lib.splitB ⟨#[46]⟩ 0 (Lib.countB s ⟨#[46]⟩) s) (Lib.countB s ⟨#[46]⟩+1)) t):=by
 have hle:=Lib.countB_le ⟨#[46]⟩ (by decide) s.size s (Nat.le_refl _)
 have c:=Go.Proofs.Any.strings_genSplit_core Go.Proofs.Tryz.lays221 (by kernel_rfl) s ⟨#[46]⟩ 0 (-1) (Lib.countB s ⟨#[46]⟩+1) w hs (by decide) (by decide)
  (λ x c _=>(Go.Proofs.Tryz.strings_Index_one x 46 _).mono λ e w' h=>by
   refine⟨?_,h.2⟩
   rw[h.1]
   show _=Ending.returned (Value.int .i64 (Lib.index x.data.toList [46]))
   rw[Lib.index_one])
  ((Go.Proofs.Tryz.strings_Count_one s 46 w).mono λ e w' h=>by
    refine⟨?_,h.2⟩
    rw[h.1]
    show _=Ending.returned (Value.int .i64 ((Lib.count s.data.toList [46]:Nat):Int))
    rw[Lib.count_one];rfl)
  (by decide) (by decide) (by rw[if_pos (by decide)];omega)
 rw[Nat.add_sub_cancel]at c
 exact c.mono λ e w' h=>⟨_,h.1,h.2⟩
theorem Bb5:MT 259 (f1 [(.int .i64),(.int .i64),(.sl (.int .i64))] (.nm 12) λ x=>Br x.1 x.2.1 x.2.2.1):=by
 refine⟨⟨Go.Proofs.Tryz.f259,by kernel_rfl,by kernel_rfl,by kernel_rfl⟩,λ x y hy okp w vs own hargs hnd hown hokp=> ?_⟩
 obtain⟨n,d,l,u⟩:=x
 have hy:Option.map (λ r=>(r,())) (Br n d l)=some y:=hy
 obtain⟨z,hz,rfl⟩:=Option.map_eq_some_iff.1 hy
 obtain⟨hlen,hz⟩:=A8 hz
 obtain⟨v1,vr,o1,o2,rfl,rfl,ha,hargs⟩:=hargs
 obtain⟨v2,vr,o3,o4,rfl,rfl,hb,hargs⟩:=hargs
 obtain⟨v3,vr,o5,o6,rfl,rfl,hc,rfl,rfl⟩:=hargs
 have ha:Xq yeT okp w 0 (.int .i64) n v1 o1:=ha
 have hb:Xq yeT okp w 0 (.int .i64) d v2 o3:=hb
 have hc:Xq yeT okp w 0 (.sl (.int .i64)) l v3 o5:=hc
 cases ha with
 |data p1=>
 cases hb with
 |data p2=>
 cases hc with
 |data p3=>
 have q1:[v1]=[Value.int .i64 n]:=p1
 have q2:[v2]=[Value.int .i64 d]:=p2
 cases q1;cases q2
 have hd:Bl okp w (.sl 1 false (l.map λ n=>AV.int .i64 n)) [v3]:=p3
 obtain⟨a,cap,hv,hcap,hn,_,hmem⟩:=hd
 rw[List.length_map]at hv hcap
 cases hv
 refine(Go.Proofs.ut_in n d l hlen a cap w (λ hx=> ?_)).mono ?_
 ·cases a with
  |none=>exact absurd (List.eq_nil_of_length_eq_zero (by have:=hn rfl;omega)) hx
  |some ad=>
   obtain⟨hsp,hm⟩:=hmem ad rfl
   have hsp:=hsp (by simpa using hx)
   obtain⟨b,o,sp⟩:=ad
   simp only at hsp hm
   subst hsp
   refine⟨_,rfl,λ j v hv=> ?_⟩
   rw[List.getElem?_map]at hv
   obtain⟨i,hi,rfl⟩:=Option.map_eq_some_iff.1 hv
   obtain⟨cs,q1,q2,q3⟩:=Fp.get _ _ _ hm j (.int .i64 i) (by rw[List.getElem?_map,hi];rfl)
   have q1:cs=[Value.int .i64 i]:=q1
   subst q1
   have:=q3.2 0 _ rfl
   rw[Nat.mul_one,Nat.add_zero]at this
   unfold Addr.add;split
   ·rename_i h0;subst h0;simpa using this
   ·exact this
 ·rintro e w' ⟨rfl,hg⟩
  refine⟨[.agg (Go.Proofs.utL l n d).toArray],[],rfl,⟨hg.os,hg.tape,hg.output,hg.size,λ b hb _=>hg.block b hb (by simp)⟩,List.nodup_nil,λ _ h=>by simp at h,_,[],[],[],rfl,rfl,⟨Go.Proofs.utL l n d, ?_,rfl⟩,rfl,rfl⟩
  have:z=⟨⟨l.getD 0 0,l.getD 1 0,l.getD 2 0,l.getD 3 0,l.getD 4 0,l.getD 5 0,l.getD 6 0⟩,⟨n,d⟩⟩:=by cases hz;rfl
  subst this
  have hu:Go.Proofs.utL l n d=[.int .i64 (l.getD 0 0),.int .i64 (l.getD 1 0),.int .i64 (l.getD 2 0),.int .i64 (l.getD 3 0),.int .i64 (l.getD 4 0),.int .i64 (l.getD 5 0),.int .i64 (l.getD 6 0),.int .i64 n,.int .i64 d]:=by
   unfold Go.Proofs.utL
   rcases l with _|⟨x0,_|⟨x1,_|⟨x2,_|⟨x3,_|⟨x4,_|⟨x5,_|⟨x6,_|⟨x7,r⟩⟩⟩⟩⟩⟩⟩⟩
   case cons.cons.cons.cons.cons.cons.cons.cons=>simp at hlen
   all_goals rfl
  rw[hu]
  repeat (first|exact .nil|refine .more (λ _ _=>rfl) ?_)
noncomputable def Mm:FS yeE:=⟨[(.sl (.int .i64))],[(.sl (.int .i64))],[],[[(3,0)]],(List Int),λ x=>Dq x.1,λ r=>(r,())⟩
theorem Rc:MT 108 Mm:=B51 (by decide) ⟨Go.Proofs.Tryz.f108,by kernel_rfl,by kernel_rfl,by kernel_rfl⟩ Go.Proofs.Tryz.slices_Clone_int_nil Go.Proofs.Tryz.slices_Clone_int_zero Go.Proofs.Tryz.slices_Clone_int
noncomputable def Ahw:FS yeE:=f1 [.str,.str] (.int .i64) λ x=>S4 x.1 x.2.1
theorem Aqg:MT 155 Ahw:=Bu8 ⟨Go.Proofs.Tryz.f155,by kernel_rfl,by kernel_rfl,by kernel_rfl⟩ Go.Proofs.Tryz.strings_IndexAny_laid
noncomputable def Aet:FS yeE:=f1 [.str,.str] (.int .i64) λ x=>Qo x.1 x.2.1
theorem Ao4:MT 156 Aet:=B50 ⟨Go.Proofs.Tryz.f156,by kernel_rfl,by kernel_rfl,by kernel_rfl⟩ Go.Proofs.Tryz.stringslite_Index_one
noncomputable def W4:FS yeE:=f1 [.str,(.int .u8)] (.int .i64) λ x=>I9 x.1 x.2.1
theorem Agz:MT 175 W4:=Bpk ⟨Go.Proofs.Tryz.f175,by kernel_rfl,by kernel_rfl,by kernel_rfl⟩ Go.Proofs.Tryz.stringslite_IndexByte
noncomputable def Ah9:FS yeE:=f1 [.str,.str,(.int .i64),(.int .i64)] (.sl .str) λ x=>I7 x.1 x.2.1 x.2.2.1 x.2.2.2.1
theorem Arq:MT 196 Ah9:=Bup ⟨Go.Proofs.Tryz.f196,by kernel_rfl,by kernel_rfl,by kernel_rfl⟩ λ s w hs=>(Bm0 s w hs)
noncomputable def Aog:FS yeE:=f1 [.str,(.int .i64)] .str λ x=>Y8 x.1 x.2.1
theorem Avi:MT 255 Aog:=B3q ⟨Go.Proofs.Tryz.f255,by kernel_rfl,by kernel_rfl,by kernel_rfl⟩ Go.Proofs.Tryz.strings_Repeat
noncomputable def At3:FS yeE:=f1 [(.int .i64),(.int .i64),(.sl (.int .i64))] (.nm 12) λ x=>Br x.1 x.2.1 x.2.2.1
theorem A29:MT 259 At3:=Bb5
noncomputable def Auq:FX yeE:=B72 _
theorem A1k:MX 278 Auq:=B9e ⟨Go.Proofs.Tryz.f278,by kernel_rfl,by kernel_rfl,by kernel_rfl⟩ λ s n w h1 h2=>Go.Proofs.Tryz.strconv_Atoi s n h1 h2 w
end Go.Ab
