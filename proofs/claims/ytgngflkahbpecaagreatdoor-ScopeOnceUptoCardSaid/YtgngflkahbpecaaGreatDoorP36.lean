/- The law's function returns true, in the row's form, where what it reads is of bulk at most 1048576. Conditions: none beyond those that each theorem names. -/
import Derived.Test.YtgngflkahbpecaaGreatDoorP28
import Derived.Test.YtgngflkahbpecaaGreatDoorP11
import Derived.Test.YtgngflkahbpecaaGreatDoorP34
import Derived.Test.YtgngflkahbpecaaGreatDoorP35
import Derived.JoinedOf
import Derived.LaidLaws
set_option linter.unusedSimpArgs false
set_option linter.unusedVariables false
namespace Go.Proofs.YtgngflkahbpecaaGreatDoor
open Go Go.Ab
set_option maxRecDepth 100000
def bk (H:Type) (d:DataW H):Nat:=Rows.uptoBulk d
theorem Cae {H:Type} (d:DataW H):1<=Rows.uptoBulk d:=by
 cases d with
 |lit l=>cases l<;>simp[Rows.uptoBulk]
 |_=>simp[Rows.uptoBulk]
theorem Bll {H:Type} {d:DataW H} {l:List (DataW H)} (h:d∈l):Rows.uptoBulk d<=Rows.uptoBulkAll l:=by
 induction l with
 |nil=>cases h
 |cons x r ih=>
  simp only[Rows.uptoBulkAll]
  rcases List.mem_cons.1 h with rfl|h
  ·omega
  ·have:=ih h;omega
theorem Byl {H:Type} (l:List (DataW H)):l.length<=Rows.uptoBulkAll l:=by
 induction l with
 |nil=>simp[Rows.uptoBulkAll]
 |cons x r ih=>have:=Cae x;simp only[Rows.uptoBulkAll,List.length_cons];omega
theorem Oo:Bpp bk where
 str H s:=by show s.length<=Rows.uptoBulk _;simp[Rows.uptoBulk]
 len H xs ys:=by show xs.length<=Rows.uptoBulk _;have:=Byl xs;simp only[Rows.uptoBulk];omega
 elem H xs ys x h:=by show Rows.uptoBulk x<=Rows.uptoBulk _;have:=Bll h;simp only[Rows.uptoBulk];omega
 part H xs x h:=by show Rows.uptoBulk x<=Rows.uptoBulk _;have:=Bll h;simp only[Rows.uptoBulk];omega
theorem B4y {H:Type} (ds:List (DataW H)) (h:Rows.uptoSmall H ds=true):∀d∈ds,bk H d<=1048576:=λ d hd=>by
 have h:Rows.uptoBulkAll ds<=1048576:=of_decide_eq_true h
 exact Nat.le_trans (Bll hd) h
def ROk (m:Ak):Prop:=Tx m.Path/\EB m.Value
def B8v (b:Qv):Prop:=MB b.Mods
def REq (q:Wo):Prop:=EB q.L/\EB q.R
def B8l (_:Mi):Prop:=True
def Cbn (s:Aan):Prop:=EB s.E
def B8m (w:G5):Prop:=EB w.C/\w.Sets.length<4611686018427387904/\∀s∈w.Sets,EB s.E
theorem B7l:RdL yeT Tryz.prog bk 1048576 65 ([.int .i64]++([.int .i64]++[])):=
 Jw Oo (fl:=[(0,3,1),(1,3,1)]) (fin:=2) (by kernel_rfl) (by kernel_rfl) (.cons (Ah0 (by kernel_rfl)) (.cons (Ah0 (by kernel_rfl)) .nil))
theorem Cat (ls:List (Av yeE)) (h:Shp (E:=yeE) 1048576 ([.int .i64]++([.str]++(([.int .i64]++([.int .i64]++[]))++([.sl (.nm 1) (Tryz.prog.bytesOf 68) EB]++[])))) ls):∃x:Am,EB x/\Gt x=ls:=by
 obtain⟨a,_,rfl,_,s,_,rfl,_,n,_,rfl,_,d,_,rfl,_,xs,_,rfl,hb,hq,rfl⟩:=h
 exact⟨⟨a,s,⟨n,d⟩,xs⟩,EB.mk _ (by show xs.length<_;have:xs.length<=1048576:=hb;omega) hq,rfl⟩
theorem Bxv:Tryz.prog.cellsOf 68=5:=by kernel_rfl
theorem Bwv:∀N,Bye yeT Tryz.prog bk 1048576 N 68 (.nm 1) EB
 |0=> .zero
 |N+1=>by
  have hk:Bnj yeT Tryz.prog bk 1048576 (N+1) 66 [.sl (.nm 1) (Tryz.prog.bytesOf 68) EB]:=by
   exact Bre Oo (by kernel_rfl) (Bwv N) (by kernel_rfl) (by rw[Bxv];omega)
  exact B20 Ait (Bk2 Oo (N:=N) (fl:=[(0,3,1),(1,9,1),(2,65,2),(4,66,1)]) (fin:=5) (by kernel_rfl) (by kernel_rfl)
   (.cons ((Ah0 (by kernel_rfl)).n N) (.cons ((Qr Oo (by kernel_rfl)).n N) (.cons (B7l.n N) (.cons (hk.le (Nat.le_succ N)) .nil))))) Cat
theorem Amd:RdL yeT Tryz.prog bk 1048576 68 ([.int .i64]++([.str]++(([.int .i64]++([.int .i64]++[]))++([.sl (.nm 1) (Tryz.prog.bytesOf 68) EB]++[])))):=by
 have hk:RdL yeT Tryz.prog bk 1048576 66 [.sl (.nm 1) (Tryz.prog.bytesOf 68) EB]:=by
  exact Nu Oo (by kernel_rfl) (RdE.of_n Bwv) (by kernel_rfl) (by rw[Bxv];omega)
 exact Jw Oo (fl:=[(0,3,1),(1,9,1),(2,65,2),(4,66,1)]) (fin:=5) (by kernel_rfl) (by kernel_rfl)
  (.cons (Ah0 (by kernel_rfl)) (.cons (Qr Oo (by kernel_rfl)) (.cons B7l (.cons hk .nil))))
theorem Bxp:Tryz.prog.cellsOf 75=7:=by kernel_rfl
theorem B1s:RdE yeT Tryz.prog bk 1048576 75 (.nm 2) ROk:=
 Aqe Ait (Jw Oo (fl:=[(0,9,1),(1,9,1),(2,68,5)]) (fin:=7) (by kernel_rfl) (by kernel_rfl)
  (.cons (Qr Oo (by kernel_rfl)) (.cons (Qr Oo (by kernel_rfl)) (.cons (Amd) .nil)))) (by
 intro ls h
 obtain⟨v0,_,rfl,v0h,v1,_,rfl,v1h,v2a,_,rfl,_,v2s,_,rfl,_,v2n,_,rfl,_,v2d,_,rfl,_,v2,_,rfl,v2h,v2q,rfl⟩:=h
 have v0h:v0.length<=1048576:=v0h
 have v1h:v1.length<=1048576:=v1h
 have v2h:v2.length<=1048576:=v2h
 exact⟨⟨v0,v1,⟨v2a,v2s,⟨v2n,v2d⟩,v2⟩⟩,⟨by unfold Tx;show v0.length<_;omega,EB.mk _ (by show v2.length<_;omega) v2q⟩,rfl⟩)
theorem B6a:Tryz.prog.cellsOf 62=2:=by kernel_rfl
theorem B48:RdE yeT Tryz.prog bk 1048576 62 (.nm 3) B8v:=
 Aqe Ait (Jw Oo (fl:=[(0,9,1),(1,54,1)]) (fin:=2) (by kernel_rfl) (by kernel_rfl)
  (.cons (Qr Oo (by kernel_rfl)) (.cons ((Nu Oo (by kernel_rfl) B1s (by kernel_rfl) (by rw[Bxp];omega):RdL yeT Tryz.prog bk 1048576 54 [.sl (.nm 2) (Tryz.prog.bytesOf 75) ROk])) .nil))) (by
 intro ls h
 obtain⟨v0,_,rfl,v0h,v1,_,rfl,v1h,v1q,rfl⟩:=h
 have v0h:v0.length<=1048576:=v0h
 have v1h:v1.length<=1048576:=v1h
 exact⟨⟨v0,v1⟩,⟨by show v1.length<_;omega,v1q⟩,rfl⟩)
theorem B5p:Tryz.prog.cellsOf 70=19:=by kernel_rfl
theorem B52:RdE yeT Tryz.prog bk 1048576 70 (.nm 4) XB:=
 Aqe Ait (Jw Oo (fl:=[(0,9,1),(1,9,1),(2,3,1),(3,4,1),(4,3,1),(5,3,1),(6,4,1),(7,68,5),(12,68,5),(17,9,1),(18,54,1)]) (fin:=19) (by kernel_rfl) (by kernel_rfl)
  (.cons (Qr Oo (by kernel_rfl)) (.cons (Qr Oo (by kernel_rfl)) (.cons (Ah0 (by kernel_rfl)) (.cons (Bds (by kernel_rfl)) (.cons (Ah0 (by kernel_rfl)) (.cons (Ah0 (by kernel_rfl)) (.cons (Bds (by kernel_rfl)) (.cons (Amd) (.cons (Amd) (.cons (Qr Oo (by kernel_rfl)) (.cons ((Nu Oo (by kernel_rfl) B1s (by kernel_rfl) (by rw[Bxp];omega):RdL yeT Tryz.prog bk 1048576 54 [.sl (.nm 2) (Tryz.prog.bytesOf 75) ROk])) .nil)))))))))))) (by
 intro ls h
 obtain⟨v0,_,rfl,v0h,v1,_,rfl,v1h,v2,_,rfl,_,v3,_,rfl,v4,_,rfl,_,v5,_,rfl,_,v6,_,rfl,v7a,_,rfl,_,v7s,_,rfl,_,v7n,_,rfl,_,v7d,_,rfl,_,v7,_,rfl,v7h,v7q,v8a,_,rfl,_,v8s,_,rfl,_,v8n,_,rfl,_,v8d,_,rfl,_,v8,_,rfl,v8h,v8q,v9,_,rfl,v9h,v10,_,rfl,v10h,v10q,rfl⟩:=h
 have v0h:v0.length<=1048576:=v0h
 have v1h:v1.length<=1048576:=v1h
 have v7h:v7.length<=1048576:=v7h
 have v8h:v8.length<=1048576:=v8h
 have v9h:v9.length<=1048576:=v9h
 have v10h:v10.length<=1048576:=v10h
 exact⟨⟨v0,v1,v2,v3,v4,v5,v6,⟨v7a,v7s,⟨v7n,v7d⟩,v7⟩,⟨v8a,v8s,⟨v8n,v8d⟩,v8⟩,v9,v10⟩,⟨⟨by show v10.length<_;omega,v10q⟩,EB.mk _ (by show v7.length<_;omega) v7q,EB.mk _ (by show v8.length<_;omega) v8q⟩,rfl⟩)
theorem B3x:Tryz.prog.cellsOf 100=11:=by kernel_rfl
theorem Ca1:RdE yeT Tryz.prog bk 1048576 100 (.nm 5) REq:=
 Aqe Ait (Jw Oo (fl:=[(0,4,1),(1,68,5),(6,68,5)]) (fin:=11) (by kernel_rfl) (by kernel_rfl)
  (.cons (Bds (by kernel_rfl)) (.cons (Amd) (.cons (Amd) .nil)))) (by
 intro ls h
 obtain⟨v0,_,rfl,v1a,_,rfl,_,v1s,_,rfl,_,v1n,_,rfl,_,v1d,_,rfl,_,v1,_,rfl,v1h,v1q,v2a,_,rfl,_,v2s,_,rfl,_,v2n,_,rfl,_,v2d,_,rfl,_,v2,_,rfl,v2h,v2q,rfl⟩:=h
 have v1h:v1.length<=1048576:=v1h
 have v2h:v2.length<=1048576:=v2h
 exact⟨⟨v0,⟨v1a,v1s,⟨v1n,v1d⟩,v1⟩,⟨v2a,v2s,⟨v2n,v2d⟩,v2⟩⟩,⟨EB.mk _ (by show v1.length<_;omega) v1q,EB.mk _ (by show v2.length<_;omega) v2q⟩,rfl⟩)
theorem B1p:Tryz.prog.cellsOf 123=3:=by kernel_rfl
theorem B41:RdE yeT Tryz.prog bk 1048576 123 (.nm 6) B8l:=
 Aqe Ait (Jw Oo (fl:=[(0,9,1),(1,9,1),(2,9,1)]) (fin:=3) (by kernel_rfl) (by kernel_rfl)
  (.cons (Qr Oo (by kernel_rfl)) (.cons (Qr Oo (by kernel_rfl)) (.cons (Qr Oo (by kernel_rfl)) .nil)))) (by
 intro ls h
 obtain⟨v0,_,rfl,v0h,v1,_,rfl,v1h,v2,_,rfl,v2h,rfl⟩:=h
 have v0h:v0.length<=1048576:=v0h
 have v1h:v1.length<=1048576:=v1h
 have v2h:v2.length<=1048576:=v2h
 exact⟨⟨v0,v1,v2⟩,trivial,rfl⟩)
theorem B2m:Tryz.prog.cellsOf 128=6:=by kernel_rfl
theorem Caq:RdE yeT Tryz.prog bk 1048576 128 (.nm 7) Cbn:=
 Aqe Ait (Jw Oo (fl:=[(0,9,1),(1,68,5)]) (fin:=6) (by kernel_rfl) (by kernel_rfl)
  (.cons (Qr Oo (by kernel_rfl)) (.cons (Amd) .nil))) (by
 intro ls h
 obtain⟨v0,_,rfl,v0h,v1a,_,rfl,_,v1s,_,rfl,_,v1n,_,rfl,_,v1d,_,rfl,_,v1,_,rfl,v1h,v1q,rfl⟩:=h
 have v0h:v0.length<=1048576:=v0h
 have v1h:v1.length<=1048576:=v1h
 exact⟨⟨v0,⟨v1a,v1s,⟨v1n,v1d⟩,v1⟩⟩,EB.mk _ (by show v1.length<_;omega) v1q,rfl⟩)
theorem B3z:Tryz.prog.cellsOf 126=6:=by kernel_rfl
theorem B56:RdE yeT Tryz.prog bk 1048576 126 (.nm 8) B8m:=
 Aqe Ait (Jw Oo (fl:=[(0,68,5),(5,124,1)]) (fin:=6) (by kernel_rfl) (by kernel_rfl)
  (.cons (Amd) (.cons ((Nu Oo (by kernel_rfl) Caq (by kernel_rfl) (by rw[B2m];omega):RdL yeT Tryz.prog bk 1048576 124 [.sl (.nm 7) (Tryz.prog.bytesOf 128) Cbn])) .nil))) (by
 intro ls h
 obtain⟨v0a,_,rfl,_,v0s,_,rfl,_,v0n,_,rfl,_,v0d,_,rfl,_,v0,_,rfl,v0h,v0q,v1,_,rfl,v1h,v1q,rfl⟩:=h
 have v0h:v0.length<=1048576:=v0h
 have v1h:v1.length<=1048576:=v1h
 exact⟨⟨⟨v0a,v0s,⟨v0n,v0d⟩,v0⟩,v1⟩,⟨EB.mk _ (by show v0.length<_;omega) v0q,by show v1.length<_;omega,v1q⟩,rfl⟩)
theorem B42:Tryz.prog.cellsOf 29=7:=by kernel_rfl
theorem B14:RdE yeT Tryz.prog bk 1048576 29 (.nm 9) CB:=
 Aqe Ait (Jw Oo (fl:=[(0,9,1),(1,3,1),(2,23,1),(3,24,1),(4,25,1),(5,26,1),(6,27,1)]) (fin:=7) (by kernel_rfl) (by kernel_rfl)
  (.cons (Qr Oo (by kernel_rfl)) (.cons (Ah0 (by kernel_rfl)) (.cons ((Nu Oo (by kernel_rfl) B48 (by kernel_rfl) (by rw[B6a];omega):RdL yeT Tryz.prog bk 1048576 23 [.sl (.nm 3) (Tryz.prog.bytesOf 62) B8v])) (.cons ((Nu Oo (by kernel_rfl) B52 (by kernel_rfl) (by rw[B5p];omega):RdL yeT Tryz.prog bk 1048576 24 [.sl (.nm 4) (Tryz.prog.bytesOf 70) XB])) (.cons ((Nu Oo (by kernel_rfl) Ca1 (by kernel_rfl) (by rw[B3x];omega):RdL yeT Tryz.prog bk 1048576 25 [.sl (.nm 5) (Tryz.prog.bytesOf 100) REq])) (.cons ((Nu Oo (by kernel_rfl) B41 (by kernel_rfl) (by rw[B1p];omega):RdL yeT Tryz.prog bk 1048576 26 [.sl (.nm 6) (Tryz.prog.bytesOf 123) B8l])) (.cons ((Nu Oo (by kernel_rfl) B56 (by kernel_rfl) (by rw[B3z];omega):RdL yeT Tryz.prog bk 1048576 27 [.sl (.nm 8) (Tryz.prog.bytesOf 126) B8m])) .nil)))))))) (by
 intro ls h
 obtain⟨v0,_,rfl,v0h,v1,_,rfl,_,v2,_,rfl,v2h,v2q,v3,_,rfl,v3h,v3q,v4,_,rfl,v4h,v4q,v5,_,rfl,v5h,v5q,v6,_,rfl,v6h,v6q,rfl⟩:=h
 have v0h:v0.length<=1048576:=v0h
 have v2h:v2.length<=1048576:=v2h
 have v3h:v3.length<=1048576:=v3h
 have v4h:v4.length<=1048576:=v4h
 have v5h:v5.length<=1048576:=v5h
 have v6h:v6.length<=1048576:=v6h
 exact⟨⟨v0,v1,v2,v3,v4,v5,v6⟩,⟨by show v2.length<_;omega,v2q,by show v3.length<_;omega,v3q,by show v4.length<_;omega,v4q,by show v5.length<_;omega,by show v6.length<_;omega,v6q⟩,rfl⟩)
def QC (l:List Aa):Prop:=l.length<=1048576/\∀x∈l,CB x
theorem Bt8:RdE yeT Tryz.prog bk 1048576 22 (.sl (.nm 9)) QC:=Bx3 Oo (by kernel_rfl) B14 (by kernel_rfl) (by rw[B42];omega)
theorem B84:Bji yeT Tryz.prog bk 1048576 [22,9] [.sl (.nm 9),.str] (λ x=>QC x.1/\x.2.1.length<=1048576/\True):=
 .cons (Bwo Bt8 rfl (by kernel_rfl)) (.cons (Bwo (B6c Oo (by kernel_rfl)) rfl (by kernel_rfl)) .nil)
theorem reads (os:Os) {H:Type} (enc:TypeId×Value->H):∃places,DataW.whole enc Tryz.prog ((B2c os).forCall (λ _ _=>0) ⟨#[],#[.slice none 0 0,.string .empty],[]⟩).memory Tryz.f5.params.toList Rows.scopeOnceSpec.vars false #[Value.slice none 0 0,Value.string .empty].toList 8=some ([.nil,.lit (.string [])],[],places):=
 ⟨[],by kernel_rfl⟩
theorem Bq3 (os:Os) (started:os.Started) (H:Type) (enc:TypeId×Value->H) (F:Stop.Interp):
 ReturnsInHanded {} Tryz.checked os 5 .any ((Rows.OpenSpec.upto Rows.scopeOnceSpec).preRow enc Tryz.prog Tryz.f5 Rows.scopeOnceUptoRow.domain false Rows.scopeOnceUptoRow.laid) (((Rows.OpenSpec.upto Rows.scopeOnceSpec).at F).post enc Tryz.prog Tryz.f5 false Rows.scopeOnceUptoRow.fresh Rows.scopeOnceUptoRow.handsOn Rows.scopeOnceUptoRow.again):=by
 obtain⟨places,hx⟩:=reads os enc
 exact Bcg (C:=Tryz.checked) (tb:=4) (bk:=bk) (B:=1048576) Ade (by kernel_rfl) B84
  (λ x hx=>by
   obtain⟨l,s,u⟩:=x
   exact B5d l hx.1.2 hx.1.1 s)
  (λ ds h=>B4y ds (h _ rfl))
  (by kernel_rfl) (by kernel_rfl) (by kernel_rfl) (by kernel_rfl) (by kernel_rfl) rfl
  (λ ds h=>by
   have h:ds.length=2:=h.trans (by kernel_rfl)
   match ds,h with
   |[d1,d2],_=>rfl)
  started (by kernel_rfl) (by kernel_rfl)
  (witness_row_at (enc:=enc) (C:=Tryz.checked) false (B2c os) #[.slice none 0 0,.string .empty] rfl (by kernel_rfl) (by kernel_rfl) (by kernel_rfl)
   (OpenSpec.preRow_of_cond 8 hx (by kernel_rfl) (λ k hk=>by cases hk;kernel_rfl) (by kernel_rfl) (B4f os _)))
end Go.Proofs.YtgngflkahbpecaaGreatDoor
