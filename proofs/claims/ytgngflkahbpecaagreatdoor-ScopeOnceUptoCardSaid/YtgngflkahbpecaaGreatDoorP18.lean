/- A region of a function's code, told as one term, with what is called and decided in it; and that this is so. A function's code told as one term, from one place up to the next cuts; loops; and that this is so. A function by its pieces: places, loops, returns; short forms. Conditions: none beyond those that each theorem names. -/
import Derived.Test.YtgngflkahbpecaaGreatDoorP07
import Derived.Test.YtgngflkahbpecaaGreatDoorP11
namespace Go.Ab
open Go
section
variable (V:Env)
abbrev Got (α:Type) (E:Nat->Type):=Option (α×List (Nat×Box E)×List Nat×List Nat)
def Got.cons {E:Nat->Type} {α:Type} (l:α):Got (List α) E->Got (List α) E
 |some (ls,r)=>some (l::ls,r)
 |none=>none
def A6e:List (Av V.E)->List (Nat×Box V.E)->List Nat->List Nat->Got (List (Av V.E)) V.E
 |[],bx,rs,ws=>some ([],bx,rs,ws)
 | .ar id ver::r,bx,rs,ws=>match Ae id bx with
   |some (.arr e t xs v fz)=>match Nat.beq ver v,fz with
    |true,true=>Got.cons (.sl t false xs) (A6e r bx (id::rs) ws)
    |true,false=>Got.cons (.sl t false xs) (A6e r (put id (.arr e t xs v true) bx) (id::rs) (id::ws))
    |false,_=>none
   |some (.rows e e2 t xss v rv fz)=>match Nat.beq ver v,fz with
    |true,.shut=>Got.cons (.sl (.sl t) false xss) (A6e r bx (id::rs) ws)
    |true,.opn=>Got.cons (.sl (.sl t) false xss) (A6e r (put id (.rows e e2 t xss v rv .shut) bx) (id::rs) (id::ws))
    |_,_=>none
   |_=>none
 |l::r,bx,rs,ws=>Got.cons l (A6e r bx rs ws)
def Akm:List TypeId->List (CV V.E)->List (Nat×Box V.E)->List Nat->List Nat->Got (List (Bool×List (Av V.E))) V.E
 |_,[],bx,rs,ws=>some ([],bx,rs,ws)
 |0::os,c::r,bx,rs,ws=>match A6e V c.leaves bx rs ws with
  |some (l,bx,rs,ws)=>Got.cons (c.isAg,l) (Akm os r bx rs ws)
  |none=>none
 |(e+1)::os,.one (.ar id ver)::r,bx,rs,ws=>match Ae id bx with
  |some (.arr e' t xs v false)=>match Nat.beq ver v&&Nat.beq e' (e+1)with
   |true=>Got.cons (false,[.sl t false xs]) (Akm os r (put id .gone bx) (id::rs) (id::ws))
   |false=>none
  |_=>none
 |[],c::r,bx,rs,ws=>match A6e V c.leaves bx rs ws with
  |some (l,bx,rs,ws)=>Got.cons (c.isAg,l) (Akm [] r bx rs ws)
  |none=>none
 |_,_,_,_,_=>none
variable {V}
def after {α:Type} (k:α->B0 V.E):Got α V.E->Option (Option (SV V.E)×List Cd×List (Nat×Box V.E)×Acc)
 |some (l,bx,rs,ws)=>Ac V bx (k l) rs ws
 |none=>none
theorem Ua {α:Type} (l:α) (k:List α->B0 V.E) (g:Got (List α) V.E):after k (Got.cons l g)=after (λ ls=>k (l::ls)) g:=by
 cases g<;>rfl
theorem Yf:∀(ls:List (Av V.E)) (k:List (Av V.E)->B0 V.E) (bx:List (Nat×Box V.E)) (rs ws:List Nat),Ac V bx (frz V ls k) rs ws=after k (A6e V ls bx rs ws)
 |[],k,bx,rs,ws=>rfl
 |l::r,k,bx,rs,ws=>by
  cases l
  case ar id ver=>
   simp only[frz,A6e,Ac]
   cases Ae id bx with
   |none=>rfl
   |some b=>
    cases b<;>try rfl
    ·rename_i e t xs v fz
     simp only
     cases Nat.beq ver v
     ·rfl
     ·cases fz
      ·simp only[if_true,Bool.false_eq_true,if_false,Ac,Ua,Yf r]
      ·simp only[if_true,Ua,Yf r]
    ·rename_i e e2 t xss v rv fz
     simp only
     cases Nat.beq ver v
     ·rfl
     ·cases fz
      ·simp only[if_true,Ac,Ua,Yf r]
      ·simp only[if_true,Ua,Yf r]
      ·rfl
  all_goals simp only[frz,A6e,Ua,Yf r]
theorem Arz:∀(os:List TypeId) (cs:List (CV V.E)) (k:List (Bool×List (Av V.E))->B0 V.E) (bx:List (Nat×Box V.E)) (rs ws:List Nat),Ac V bx (G8 V os cs k) rs ws=after k (Akm V os cs bx rs ws)
 |os,[],k,bx,rs,ws=>by cases os<;>simp[G8,Akm,after]
 |os,c::r,k,bx,rs,ws=>by
  have data:∀os',Ac V bx (frz V c.leaves λ l=>G8 V os' r λ r'=>k ((c.isAg,l)::r')) rs ws=after k (match A6e V c.leaves bx rs ws with
   |some (l,bx,rs,ws)=>Got.cons (c.isAg,l) (Akm V os' r bx rs ws)
   |none=>none):=by
   intro os'
   rw[Yf]
   cases A6e V c.leaves bx rs ws with
   |none=>rfl
   |some g=>
    obtain⟨l,bx1,rs1,ws1⟩:=g
    show Ac V bx1 (G8 V os' r λ r'=>k ((c.isAg,l)::r')) rs1 ws1=after k (Got.cons (c.isAg,l) (Akm V os' r bx1 rs1 ws1))
    rw[Arz os' r,Ua]
  match os with
  |[]=>simp only[G8,Akm];exact data []
  |0::os=>simp only[G8,Akm];exact data os
  |(e+1)::os=>
   cases c with
   |ag ls=>simp[G8,Akm,Ac,after]
   |one l=>
    cases l
    case ar id ver=>
     simp only[G8,Akm,Ac]
     cases Ae id bx with
     |none=>rfl
     |some b=>
      cases b<;>try rfl
      rename_i e' t xs v fz
      cases fz
      ·simp only
       cases(Nat.beq ver v&&Nat.beq e' (e+1))
       ·rfl
       ·simp only[if_true,Ac,Arz os r,<-Ua]
      ·rfl
    all_goals simp[G8,Akm,Ac,after]
abbrev Ss:=List (Nat×Bool)
def Aul (b:Ss):Operand->Option Bool
 | .tmp d=>Ae d b
 |_=>none
def B25:Operand->Bool->Ss->Ss
 | .tmp d,x,b=>(d,x)::b
 |_,_,b=>b
def Ccq (d:Option Tmp) (n:Option Bool) (b:Ss):Ss:=
 match d,n with
 |some d,some x=>(d,x)::Bc9 d b
 |some d,none=>Bc9 d b
 |none,_=>b
variable (V)
def Lf (b:Ss) (s:St V.E):Prop:=∀d x,Ae d b=some x->slotT V s d=some (.cv (.one (.bool x)))
def Ay7 {ρ:Type}:List Cd->Option ρ->Option ρ
 |[],r=>r
 |c::cs,r=>cond c.b (Ay7 cs r) none
section
variable {ρ:Type}
abbrev KO (V:Env) (ρ:Type):=Ss->St V.E->Acc->Option ρ
def Bo5 (o:Oper) (b:Ss) (s:St V.E) (n:Option Bool) (v:Option (SV V.E)) (bx:List (Nat×Box V.E)) (ac:Acc) (k:KO V ρ):Option ρ:=k (Ccq o.dst n b) ⟨s.n,G0 V o.dst v s.slots,bx⟩ ac
def A77 (o:Oper) (q:Orc V.E) (b:Ss) (s:St V.E) (n:Option Bool) (k:KO V ρ):Option ρ:=
 match Ac V s.boxes (Afw V (V.base+o.dst.getD 0) o (Dx V s (Cx V o) o.op.operands.toList) q) [] []with
 |some (v,c,bx,ac)=>Ay7 c (Bo5 V o b s n v bx ac k)
 |none=>none
def Bih (o:Oper) (b:Ss) (s:St V.E) (n:Option Bool) (v:Option (SV V.E)) (k:KO V ρ):Option ρ:=
 match v with
 |some v=>Bo5 V o b s n (some v) s.boxes ⟨[],[]⟩ k
 |none=>none
def Ca7:Option (SV V.E)->Option (SV V.E)->Bool
 |some (.cv (.one (.bool _))),some (.cv (.one (.bool _)))=>true
 |_,_=>false
def Bu0 (o:Oper) (c x y:Operand) (b:Ss) (s:St V.E) (k:KO V ρ):Option ρ:=
 match Aul b c with
 |some true=>Bih V o b s (Aul b x) (Ho V s o.type x) k
 |some false=>Bih V o b s (Aul b y) (Ho V s o.type y) k
 |none=>match Ho V s o.type c with
  |some (.cv (.one (.bool z)))=>match Ca7 V (Ho V s o.type x) (Ho V s o.type y)with
   |true=>A77 V o .none b s none k
   |false=>if z=true then Bih V o (B25 c true b) s none (Ho V s o.type x) k else Bih V o (B25 c false b) s none (Ho V s o.type y) k
  |_=>none
def B6r (o:Oper) (S:FS V.E) (b:Ss) (s:St V.E) (k:KO V ρ) (bx:List (Nat×Box V.E)) (rs ws:List Nat) (z:S.ρ):Option ρ:=
 match Ac V bx (Abd V (V.base+o.dst.getD 0) S.resOwn S.res (S.out z) (Rd V [])) rs ws with
 |some (v,c,bx,ac)=>Ay7 c (Bo5 V o b s none v bx ac k)
 |none=>none
def B2q (o:Oper) (X:FX V.E) (m:List (Nat×Nat)) (src:List (Nat×Box V.E)) (b:Ss) (s:St V.E) (k:KO V ρ) (rs:List Nat) (z:X.ρ):Option ρ:=
 match Bul V.T X (V.base+o.dst.getD 0) m src z with
 |some (res,nw,bx)=>match Ac V s.boxes (A2s V nw (Bli V bx (Rd V [] res))) rs []with
  |some (v,c,bx',ac)=>Ay7 c (Bo5 V o b s none v bx' ac k)
  |none=>none
 |none=>none
def Bty (o:Oper) (cl:Call) (b:Ss) (s:St V.E) (k:KO V ρ):Option ρ:=
 match cl.callee with
 | .builtin _=>A77 V o .none b s none k
 | .value fv=>match Ho V s 0 fv with
   |some (.cv (.one (.clo f caps)))=>match V.fs f with
    |some S=>match A5z V (Dx V s cl.argTypes.toList cl.args.toList)with
     |some ls=>match Akm V S.argOwn (ls++caps.map .one) s.boxes [] []with
      |some (gl,bx,rs,ws)=>match Aa8 V.T S.args gl with
       |some x=>Option.bind (S.g x) (B6r V o S b s k bx rs ws)
       |none=>none
      |none=>none
     |none=>none
    |none=>match A5z V (Dx V s cl.argTypes.toList cl.args.toList)with
     |some ls=>match V.xs f (ls++caps.map .one)with
      |some X=>match H1 X.ins [] (ls++caps.map .one) [] [] s.boxes []with
       |some (m,src,rs)=>match Bs1 V.T X (ls++caps.map .one) m src with
        |some x=>Option.bind (X.g x) (B2q V o X m src b s k rs)
        |none=>none
       |none=>none
      |none=>A77 V o .go b s none k
     |none=>none
   |_=>none
 |_=>none
def Cam (own:List Nat) (o:Oper) (ls:List (Option (SV V.E))):Orc V.E:=
 match ls with
 |[some (.cv (.one (.ar _ _)))]=> .own
 |_=>match o.dst with
  |some d=>match Rw d own||ls.isEmpty with
   |true=> .lit
   |false=> .none
  |none=> .none
def B5i (own:List Nat) (o:Oper):Orc V.E:=
 match o.dst with
 |some d=>match Rw d own with
  |true=> .none
  |false=> .own
 |none=> .own
def Bvm (own:List Nat) (o:Oper) (b:Ss) (s:St V.E) (k:KO V ρ):Option ρ:=
 match Ajp V s.n o.dst with
 |true=>match o.op with
  | .move x=>A77 V o .none b s (Aul b x) k
  | .assign x=>A77 V o .none b s (Aul b x) k
  | .pick c x y=>Bu0 V o c x y b s k
  | .call cl=>Bty V o cl b s k
  | .buildSlice _ n ps=>A77 V o (Cam V own o (if Nat.beq n ps.size then Dx V s (Cx V o) o.op.operands.toList else[none])) b s none k
  | .makeSlice _ _ _=>A77 V o (B5i V own o) b s none k
  |_=>A77 V o .none b s none k
 |false=>none
def Awm (o:Oper) (b:Ss) (s:St V.E) (k:KO V ρ):Option ρ:=
 match Ajp V s.n o.dst with
 |true=>Bo5 V o b s none (some (.tup [])) s.boxes ⟨[],[]⟩ k
 |false=>none
def dnG (own:List Nat) (ops:List Oper) (i:Nat) (o:Oper) (b:Ss) (s:St V.E) (k:KO V ρ):Option ρ:=
 match o.guard with
 |none=>Bvm V own o b s k
 |some (j,w)=>match Nat.beq j i,(ops[j]?).bind (·.dst)with
  |false,some d=>match Ae d b with
   |some x=>match x==w with
    |true=>Bvm V own o b s k
    |false=>Awm V o b s k
   |none=>match slotT V s d with
    |some (.cv (.one (.bool z)))=>match w with
     |true=>if z=true then Bvm V own o ((d,true)::b) s k else Awm V o ((d,false)::b) s k
     |false=>if z=true then Awm V o ((d,true)::b) s k else Bvm V own o ((d,false)::b) s k
    |some (.tup [])=>Awm V o b s k
    |_=>none
  |_,_=>none
def B1y (own:List Nat) (ops:List Oper) (K:Ss->St V.E->List Acc->Option ρ):List Oper->Nat->List Acc->Ss->St V.E->Option ρ
 |[],_,acs,b,s=>K b s acs
 |o::os,i,acs,b,s=>dnG V own ops i o b s λ b s ac=>B1y own ops K os (i+1) (acs++[ac]) b s
end
section
variable {V} {ρ:Type} {ops:List Oper} {i:Nat} {o:Oper} {b:Ss} {s:St V.E} {k:KO V ρ} {r:ρ}
theorem T4:∀{c:List Cd} {x:Option ρ},Ay7 c x=some r->Fj c/\x=some r
 |[],_,h=>⟨trivial,h⟩
 |c::cs,x,h=>by
  unfold Ay7 at h
  cases hb:c.b with
  |true=>rw[hb]at h;obtain⟨h1,h2⟩:=T4 h;exact⟨⟨c.h hb,h1⟩,h2⟩
  |false=>rw[hb]at h;cases h
theorem Byq {n d:Nat} {v:Option (SV V.E)} {sl:List (Nat×Option (SV V.E))} {bx bx':List (Nat×Box V.E)} (h:d≠n):slotT V (⟨s.n,put n v sl,bx⟩:St V.E) d=slotT V ⟨s.n,sl,bx'⟩ d:=by
 unfold slotT slot
 simp only[Ay h]
theorem Ar1 {n:Option Bool} {v:Option (SV V.E)} {bx:List (Nat×Box V.E)} (hb:Lf V b s) (hd:Ajp V s.n o.dst=true) (hn:∀x,n=some x->v=some (.cv (.one (.bool x)))):Lf V (Ccq o.dst n b) ⟨s.n,G0 V o.dst v s.slots,bx⟩:=by
 intro d x h
 cases hdst:o.dst with
 |none=>
  rw[hdst]at h
  have h:Ae d b=some x:=by cases n<;>exact h
  have:=hb d x h
  rw[<-this];rfl
 |some e=>
  rw[hdst]at h hd
  have key:∀(h:Ae d (Bc9 e b)=some x),slotT V (⟨s.n,put e v s.slots,bx⟩:St V.E) d=some (.cv (.one (.bool x))):=by
   intro h
   rw[Az9]at h
   split at h
   ·cases h
   ·rename_i hne
    rw[Byq (bx':=s.boxes) hne]
    exact hb d x h
  cases n with
  |none=>exact key h
  |some y=>
   have h2:(if Nat.beq e d=true then some y else Ae d (Bc9 e b))=some x:=h
   clear h
   by_cases he:Nat.beq e d=true
   ·rw[if_pos he]at h2
    have:=Ah he;subst this
    cases h2
    show slotT V (⟨s.n,put e v s.slots,bx⟩:St V.E) e=_
    unfold slotT slot
    simp only[Ajp,Bool.and_eq_true]at hd
    rw[hd.2.1]
    simp only[Aw,hn _ rfl]
   ·rw[if_neg he]at h2;exact key h2
theorem Ap9 {c:Operand} {t:TypeId} {x:Bool} (hb:Lf V b s) (h:Ho V s t c=some (.cv (.one (.bool x)))):Lf V (B25 c x b) s:=by
 cases c with
 |tmp d=>
  intro e y he
  have h2:(if Nat.beq d e=true then some x else Ae e b)=some y:=he
  clear he
  by_cases hq:Nat.beq d e=true
  ·rw[if_pos hq]at h2
   have:=Ah hq;subst this
   cases h2
   exact h
  ·rw[if_neg hq]at h2;exact hb e y h2
 |_=>exact hb
theorem Af6 {c:Operand} {t:TypeId} {x:Bool} (hb:Lf V b s) (h:Aul b c=some x):Ho V s t c=some (.cv (.one (.bool x))):=by
 cases c with
 |tmp d=>exact hb d x h
 |_=>cases h
def Br5 (V:Env) (o:Oper) (b:Ss) (s:St V.E) (k:KO V ρ) (r:ρ):Prop:=
 ∃(q:Orc V.E) (v:Option (SV V.E)) (c:List Cd) (bx:List (Nat×Box V.E)) (ac:Acc) (b':Ss),Ac V s.boxes (Afw V (V.base+o.dst.getD 0) o (Dx V s (Cx V o) o.op.operands.toList) q) [] []=some (v,c,bx,ac)/\Fj c/\
  Lf V b' ⟨s.n,G0 V o.dst v s.slots,bx⟩/\k b' ⟨s.n,G0 V o.dst v s.slots,bx⟩ ac=some r
theorem Axz {q:Orc V.E} {n:Option Bool} (hb:Lf V b s) (hd:Ajp V s.n o.dst=true) (hn:∀x v c bx ac,n=some x->Ac V s.boxes (Afw V (V.base+o.dst.getD 0) o (Dx V s (Cx V o) o.op.operands.toList) q) [] []=some (v,c,bx,ac)->v=some (.cv (.one (.bool x)))) (h:A77 V o q b s n k=some r):Br5 V o b s k r:=by
 unfold A77 at h
 split at h
 ·rename_i v c bx ac hi
  obtain⟨h1,h2⟩:=T4 h
  exact⟨q,v,c,bx,ac,_,hi,h1,Ar1 hb hd λ x hx=>hn x v c bx ac hx hi,h2⟩
 ·cases h
theorem Bzo {c x y:Operand} (ho:o.op= .pick c x y) (hb:Lf V b s) (hd:Ajp V s.n o.dst=true) (h:Bu0 V o c x y b s k=some r):Br5 V o b s k r:=by
 have hops:Dx V s (Cx V o) o.op.operands.toList=[Ho V s o.type c,Ho V s o.type x,Ho V s o.type y]:=by
  unfold Cx;rw[ho];rfl
 -- one way,told by the bool z that is d
 have way:∀(z d:Bool) (b1:Ss) (n:Option Bool),Ho V s o.type c=some (.cv (.one (.bool z)))->z=d->Lf V b1 s->(∀u,n=some u->(if d then Ho V s o.type x else Ho V s o.type y)=some (.cv (.one (.bool u))))->
  Bih V o b1 s n (if d then Ho V s o.type x else Ho V s o.type y) k=some r->Br5 V o b s k r:=by
  intro z d b1 n hc hz hb1 hn h
  unfold Bih at h
  split at h
  ·rename_i v hv
   refine⟨.bit d,some v,[cd (z=d)],s.boxes,⟨[],[]⟩,_, ?_,⟨hz,trivial⟩,Ar1 hb1 hd λ u hu=>by rw[<-hv];exact hn u hu,h⟩
   rw[hops,hc]
   unfold Afw
   rw[ho]
   simp only
   cases d<;>simp only[Bool.false_eq_true,if_true,if_false]at hv<;>simp only[hv,Bool.false_eq_true,if_true,if_false]<;>rfl
  ·cases h
 unfold Bu0 at h
 split at h
 ·rename_i hbit
  exact way true true b (Aul b x) (Af6 hb hbit) rfl hb (λ u hu=>Af6 hb hu) h
 ·rename_i hbit
  exact way false false b (Aul b y) (Af6 hb hbit) rfl hb (λ u hu=>Af6 hb hu) h
 ·split at h
  ·rename_i z hc
   split at h
   ·exact Axz hb hd (λ x _ _ _ _ hx=>by cases hx) h
   ·by_cases hz:z=true
    ·rw[if_pos hz]at h
     exact way z true _ none hc hz (Ap9 hb (by rw[hc,hz])) (λ u hu=>by cases hu) h
    ·rw[if_neg hz]at h
     have hz:z=false:=by simpa using hz
     exact way z false _ none hc hz (Ap9 hb (by rw[hc,hz])) (λ u hu=>by cases hu) h
  ·cases h
theorem Byx {cl:Call} (ho:o.op= .call cl) (hb:Lf V b s) (hd:Ajp V s.n o.dst=true) (h:Bty V o cl b s k=some r):Br5 V o b s k r:=by
 unfold Bty at h
 split at h
 ·exact Axz hb hd (λ x _ _ _ _ hx=>by cases hx) h
 ·rename_i fv hcl
  split at h
  ·rename_i f caps hfv
   split at h
   ·rename_i S hS
    split at h
    ·rename_i ls hls
     split at h
     ·rename_i gl bx rs ws hg
      split at h
      ·rename_i x hx
       obtain⟨z,hz,h⟩:=bind_some h
       unfold B6r at h
       split at h
       ·rename_i v c bx' ac hi
        obtain⟨h1,h2⟩:=T4 h
        refine⟨.go,v,c,bx',ac,_, ?_,h1,Ar1 hb hd (λ x hx=>by cases hx),h2⟩
        have hops:Dx V s (Cx V o) o.op.operands.toList=Ho V s 0 fv::Dx V s cl.argTypes.toList cl.args.toList:=by
         have:(Op.call cl).operands.toList=fv::cl.args.toList:=by simp[Op.operands,Call.operands,hcl]
         rw[ho,this]
         unfold Cx
         rw[ho]
         simp only[hcl,Dx]
        rw[hops,hfv]
        unfold Afw
        rw[ho]
        simp only[hcl,hls]
        unfold Aqx
        rw[hS]
        simp only[Arz,hg,after,hx]
        unfold A83
        simp only[hz]
        exact hi
       ·cases h
      ·cases h
     ·cases h
    ·cases h
   ·rename_i hS
    split at h
    ·rename_i ls hls
     split at h
     ·rename_i X hX
      split at h
      ·rename_i m src rs hg
       split at h
       ·rename_i x hx
        obtain⟨z,hz,h⟩:=bind_some h
        unfold B2q at h
        split at h
        ·rename_i res nw bx1 hl
         split at h
         ·rename_i v c bx' ac hi
          obtain⟨h1,h2⟩:=T4 h
          refine⟨.go,v,c,bx',ac,_, ?_,h1,Ar1 hb hd (λ x hx=>by cases hx),h2⟩
          have hops:Dx V s (Cx V o) o.op.operands.toList=Ho V s 0 fv::Dx V s cl.argTypes.toList cl.args.toList:=by
           have:(Op.call cl).operands.toList=fv::cl.args.toList:=by simp[Op.operands,Call.operands,hcl]
           rw[ho,this]
           unfold Cx
           rw[ho]
           simp only[hcl,Dx]
          rw[hops,hfv]
          unfold Afw
          rw[ho]
          simp only[hcl,hls]
          unfold Aqx
          rw[hS]
          simp only[hX]
          unfold Asm
          rw[A4u,hg]
          simp only[hx,hz,hl]
          exact hi
         ·cases h
        ·cases h
       ·cases h
      ·cases h
     ·exact Axz hb hd (λ x _ _ _ _ hx=>by cases hx) h
    ·cases h
  ·cases h
 ·cases h
theorem Bv0 {own:List Nat} (hb:Lf V b s) (h:Bvm V own o b s k=some r):Ajp V s.n o.dst=true/\Br5 V o b s k r:=by
 unfold Bvm at h
 split at h
 ·rename_i hd
  refine⟨hd, ?_⟩
  have none_:∀{q:Orc V.E},A77 V o q b s none k=some r->Br5 V o b s k r:=λ h=>Axz hb hd (λ x _ _ _ _ hx=>by cases hx) h
  have mv:∀{x:Operand},(o.op= .move x\/o.op= .assign x)->A77 V o .none b s (Aul b x) k=some r->Br5 V o b s k r:=by
   intro x ho h
   refine Axz hb hd (λ u v c bx ac hu hi=> ?_) h
   have hops:Dx V s (Cx V o) o.op.operands.toList=[Ho V s o.type x]:=by
    rcases ho with ho|ho<;>(unfold Cx;rw[ho];rfl)
   rw[hops,Af6 hb hu]at hi
   unfold Afw at hi
   rcases ho with ho|ho<;>(rw[ho]at hi;simp only[Ac,Option.some.injEq,Prod.mk.injEq]at hi;exact hi.1.symm)
  split at h
  ·rename_i x ho;exact mv (.inl ho) h
  ·rename_i x ho;exact mv (.inr ho) h
  ·rename_i c x y ho;exact Bzo ho hb hd h
  ·rename_i cl ho;exact Byx ho hb hd h
  ·exact none_ h
  ·exact none_ h
  ·exact none_ h
 ·cases h
def Bdk (V:Env) (ops:List Oper) (i:Nat) (o:Oper) (s:St V.E) (k:KO V ρ) (r:ρ):Prop:=
 ∃(q:A3f V) (s':St V.E) (c:List Cd) (ac:Acc) (b':Ss),Auu V ops i o q s=some (s',c,ac)/\Fj c/\Lf V b' s'/\k b' s' ac=some r
theorem Bwq {q0:Orc V.E->A3f V} {c0:List Cd} (hw:∀q,Abh V ops s (q0 q) o=some (true,c0)) (hi:∀q,Afq V (q0 q) i=q) (hc0:Fj c0) (hd:Ajp V s.n o.dst=true) (h:Br5 V o b s k r):Bdk V ops i o s k r:=by
 obtain⟨q,v,c,bx,ac,b',h1,h2,h3,h4⟩:=h
 refine⟨q0 q,⟨s.n,G0 V o.dst v s.slots,bx⟩,c0++c,ac,b', ?_, ?_,h3,h4⟩
 ·unfold Auu
  rw[hd,hw q]
  simp only[hi q,h1]
 ·have key:∀{c1 c':List Cd},Fj c1->Fj c'->Fj (c1++c'):=by
   intro c1
   induction c1 with
   |nil=>intro c' _ h;exact h
   |cons x xs ih=>intro c' h1 h2;exact⟨h1.1,ih h1.2 h2⟩
  exact key hc0 h2
theorem Bxf {q:A3f V} {c0:List Cd} (hw:Abh V ops s q o=some (false,c0)) (hc0:Fj c0) (hb:Lf V b s) (h:Awm V o b s k=some r):Bdk V ops i o s k r:=by
 unfold Awm at h
 split at h
 ·rename_i hd
  refine⟨q,⟨s.n,G0 V o.dst (some (.tup [])) s.slots,s.boxes⟩,c0,⟨[],[]⟩,_, ?_,hc0,Ar1 hb hd (λ x hx=>by cases hx),h⟩
  unfold Auu
  rw[hd,hw]
 ·cases h
theorem B9v {own:List Nat} (hb:Lf V b s) (h:dnG V own ops i o b s k=some r):Bdk V ops i o s k r:=by
 unfold dnG at h
 split at h
 ·rename_i hg
  obtain⟨hd,h⟩:=Bv0 hb h
  exact Bwq (q0:=λ q=>[(i,q)]) (c0:=[]) (λ q=>by unfold Abh;rw[hg]) (λ q=>by simp[Afq,Ae]) trivial hd h
 ·rename_i j w hg
  split at h
  ·rename_i d hij hdst
   have hne:Nat.beq j i=false:=hij
   have hor:∀(x:Bool) (q:Orc V.E),Afq V [(j,Orc.bit x),(i,q)] i=q:=λ x q=>by simp[Afq,Ae,hne]
   have horj:∀(x:Bool) (q:Orc V.E),Afq V [(j,Orc.bit x),(i,q)] j= .bit x:=λ x q=>by simp[Afq,Ae]
   have wa:∀(z x:Bool) (q:Orc V.E),slotT V s d=some (.cv (.one (.bool z)))->Abh V ops s [(j,Orc.bit x),(i,q)] o=some (x==w,[cd (z=x)]):=by
    intro z x q hz
    unfold Abh
    rw[hg]
    simp only[hdst,hz,horj]
   have yes:∀(z x:Bool) (b1:Ss),slotT V s d=some (.cv (.one (.bool z)))->z=x->(x==w)=true->Lf V b1 s->Bvm V own o b1 s k=some r->Bdk V ops i o s k r:=by
    intro z x b1 hz hzx hxw hb1 h
    obtain⟨hd,h⟩:=Bv0 hb1 h
    exact Bwq (q0:=λ q=>[(j,.bit x),(i,q)]) (c0:=[cd (z=x)]) (λ q=>by rw[wa z x q hz,hxw]) (λ q=>hor x q) ⟨hzx,trivial⟩ hd h
   have no:∀(z x:Bool) (b1:Ss),slotT V s d=some (.cv (.one (.bool z)))->z=x->(x==w)=false->Lf V b1 s->Awm V o b1 s k=some r->Bdk V ops i o s k r:=by
    intro z x b1 hz hzx hxw hb1 h
    exact Bxf (q:=[(j,.bit x),(i,.none)]) (c0:=[cd (z=x)]) (by rw[wa z x .none hz,hxw]) ⟨hzx,trivial⟩ hb1 h
   have ad:∀(z x:Bool),slotT V s d=some (.cv (.one (.bool z)))->z=x->Lf V ((d,x)::b) s:=λ z x hz e=>Ap9 (c:= .tmp d) (t:=0) hb (by rw[<-e];exact hz)
   split at h
   ·rename_i x hx
    have hs:=hb d x hx
    split at h
    ·rename_i hxw;exact yes x x b hs rfl hxw hb h
    ·rename_i hxw;exact no x x b hs rfl hxw hb h
   ·split at h
    ·rename_i z hz
     split at h
     ·by_cases e:z=true
      ·rw[if_pos e]at h;exact yes z true _ hz e rfl (ad z true hz e) h
      ·rw[if_neg e]at h
       have e:z=false:=by simpa using e
       exact no z false _ hz e rfl (ad z false hz e) h
     ·by_cases e:z=true
      ·rw[if_pos e]at h;exact no z true _ hz e rfl (ad z true hz e) h
      ·rw[if_neg e]at h
       have e:z=false:=by simpa using e
       exact yes z false _ hz e rfl (ad z false hz e) h
    ·rename_i hz
     exact Bxf (q:=[]) (c0:=[]) (by unfold Abh;rw[hg];simp only[hdst,hz]) trivial hb h
    ·cases h
  ·cases h
end
end
section
variable {V:Env} {P:Program} {C:Ctx} {F:Act->World->Prop} {ρ:Type}
theorem Bsq {own:List Nat} {ops:Array Oper} {K:Ss->St V.E->List Acc->Option ρ} {r:ρ}:∀(os:List Oper) (i:Nat) (acs:List Acc) (b:Ss) (s:St V.E),ops.toList.drop i=os->Lf V b s->B1y V own ops.toList K os i acs b s=some r->
 ∃as s2 b',K b' s2 (acs++as)=some r/\Lf V b' s2/\∀allA:List Acc,allA.drop i=as->Ava V ops (Aq5 allA) ((List.range ops.size).drop i) s s2
 |[],i,acs,b,s,hi,hb,h=>by
  have:ops.size<=i:=by simpa using hi
  have hn:(List.range ops.size).drop i=[]:=by simpa using this
  rw[hn]
  exact⟨[],s,b,by rw[List.append_nil];exact h,hb,λ _ _=> .nil⟩
 |o::os,i,acs,b,s,hi,hb,h=>by
  have hlt:i<ops.size:=by
   rcases Nat.lt_or_ge i ops.size with h|h
   ·exact h
   ·have:ops.toList.drop i=[]:=by simpa using h
    rw[this]at hi;cases hi
  have hn:(List.range ops.size).drop i=i::(List.range ops.size).drop (i+1):=by
   rw[List.drop_eq_getElem_cons (by simpa using hlt)];simp
  have ho:ops[i]?=some o:=by
   have:=congrArg (·[0]?) hi
   simpa using this
  have hi':ops.toList.drop (i+1)=os:=by
   have:=congrArg List.tail hi
   simpa using this
  obtain⟨q,s1,c,ac,b1,h1,h2,h3,h4⟩:=B9v hb h
  obtain⟨as,s2,b2,h5,h6,h7⟩:=Bsq os (i+1) (acs++[ac]) b1 s1 hi' h3 h4
  refine⟨ac::as,s2,b2,by rw[<-h5,List.append_assoc];rfl,h6,λ allA ha=> ?_⟩
  rw[hn]
  have ha1:Aq5 allA i=ac:=by
   have:=congrArg (·[0]?) ha
   unfold Aq5
   rw[List.getD_eq_getElem?_getD]
   simp at this
   rw[this];rfl
  have ha':allA.drop (i+1)=as:=by
   have:=congrArg List.tail ha
   simpa using this
  exact .cons ho (by rw[ha1];exact h1) h2 (h7 allA ha')
theorem Bwt (G:Bs V P) {ops:Array Oper} {ac:Nat->Acc} {Q:Exit->Act->World->Prop}:∀{L:List Nat} {s s2:St V.E},Ava V ops ac L s s2->∀{a:Act} {w:World},Sim V C s a w->(∀a' w',Sim V C s2 a' w'->Q .normal a' w')->wpOps P ops Q L a w
 |_,_,_,.nil,a,w,S,hQ=>hQ _ _ S
 |_,_,_,.cons ho h hc r,a,w,S,hQ=>by
  rw[wpOps_cons]
  exact Awv G ho S h hc λ a' w' S'=>Bwt G r S' hQ
theorem Bx0 (G:Bs V P) {id:Nat} {ops:Array Oper} {drawn:Bool} {Q:Exit->Act->World->Prop} {s s2:St V.E} {as:List Acc} {a:Act} {w:World} (S:Sim V C s a w)
 (hr:Ava V ops (Aq5 as) (List.range ops.size) s s2) (hd:drawn=true->Bed ops as=true) (hQ:∀a' w',Sim V C s2 a' w'->Q .normal a' w'):(Code.region id ops drawn).wp P Q a w:=by
 cases drawn with
 |false=>exact wp_region (by simpa using Bwt G hr S hQ)
 |true=>
  have hrem:rem ops.size (Array.replicate ops.size false)=List.range ops.size:=by
   unfold rem
   rw[List.filter_eq_self]
   intro i hi
   simp only[List.mem_range]at hi
   simp[Array.getD_eq_getD_getElem?,hi]
  refine wp_region_any G.mixed (Boa G (hd rfl) hQ ops.size _ a _ s s2 (by simp) (by rw[hrem];simp) ?_ S.drew (by rw[hrem];exact hr) (.refl _))
  intro i o ho hl
  simp only[Array.getD_eq_getD_getElem?,Array.getElem?_replicate]at hl
  split at hl<;>simp at hl
structure Pc (V:Env) (ρ:Type) where
 k:List Item
 l:List (Tk V.E)
 val:HV V.E l->Option ρ
def Pc.st {V:Env} {ρ:Type} (n:Nat) (p:Pc V ρ) (v:HV V.E p.l):St V.E:=⟨n,(mkS V.T p.l v).2.1,(mkS V.T p.l v).2.2⟩
def Blm (V:Env) (P:Program) (n:Nat) (C:Ctx) (F:Act->World->Prop) {ρ:Type} (X:ρ->Prop) (p:Pc V ρ):Prop:=∀v o,p.val v=some o->X o->Bv V P C F p.k (p.st n v)
def B3y {E:Nat->Type}:List (Tk E)->List Nat
 |[]=>[]
 | .S k _::r=>k::B3y r
 |_::r=>B3y r
def Aae {E:Nat->Type}:List (Tk E)->List Nat
 |[]=>[]
 | .C k::r=>k::Aae r
 | .A k _ _ _ _::r=>k::Aae r
 | .R k _ _ _ _ _::r=>k::Aae r
 | .M k _ _::r=>k::Aae r
 |_::r=>Aae r
inductive Sc where
 |g (x:Sc)
 |b (x y:Sc)
 |l (x:Sc)
 |w (w:List WOp) (x:Sc)
 |c (n:Nat) (ws:List (List WOp))
 |e (ws:List (List WOp))
noncomputable def owe {ρ:Type} (p:Prop) (r:Option ρ):Option ρ:=cond (@decide p (Classical.propDecidable p)) r none
noncomputable def Cb5 {E:Nat->Type} {ρ:Type} (q:List (QD E)) (r:Option ρ):List (QD E)->Option ρ
 |[]=>r
 |a::t=>owe (q=a::t) r
noncomputable def jp {E:Nat->Type} {ρ:Type} (l:List (Tk E)) (r:Option ρ):Option ρ:=owe (tl l=tl l) r
theorem Ccc {E:Nat->Type} {ρ:Type} (l:List (Tk E)) (r:Option ρ):jp l r=r:=by
 unfold jp owe
 rw[@decide_eq_true _ (Classical.propDecidable _) rfl];rfl
theorem B0h {E:Nat->Type} {ρ:Type} {q:List (QD E)} {x:Option ρ} {r:ρ} {t:List (QD E)} (hl:t=[]->q=[]) (h:Cb5 q x t=some r):q=t/\x=some r:=by
 cases t with
 |nil=>exact⟨hl rfl,h⟩
 |cons a t=>
  have h:cond (@decide (q=a::t) (Classical.propDecidable _)) x none=some r:=h
  cases hd: @decide (q=a::t) (Classical.propDecidable _)with
  |true=>rw[hd]at h;exact⟨@of_decide_eq_true _ (Classical.propDecidable _) hd,h⟩
  |false=>rw[hd]at h;cases h
theorem Btm {E:Nat->Type}:∀(l:List (Tk E)) (h:HV E (Akr l)),tl l=[]->(Cq l h).2=[]:=by
 intro l
 induction l with
 |nil=>intro h _;rfl
 |cons t r ih=>
  intro h e
  cases t with
  |q t x=>simp[tl]at e
  |S k ag=>exact ih h e
  |k l=>exact ih h e
  |C id=>exact ih h e
  |_=>obtain⟨y,h⟩:=h;exact ih h e
variable (V)
def B8k (n:Nat) (p:Pc V ρ) (s:St V.E):Option (HV V.E p.l×List (QD V.E)):=
 match Nat.beq s.n n,Bdh (B3y p.l) (Aae p.l) s with
 |true,some s=>match ofS V.T (Akr p.l) [] s.slots s.boxes with
  |some h=>some (Cq p.l h)
  |none=>none
 |_,_=>none
def By9 {α:Type} (f:St V.E->Option α) (g:List Cd->α->Option ρ):List (List WOp)->St V.E->Option ρ
 |[],_=>none
 |w::ws,s=>match weak w s with
  |some (s',cs)=>match f s' with
   |some y=>g cs y
   |none=>By9 f g ws s
  |none=>By9 f g ws s
def B7u (own:List Nat) (K:Ss->St V.E->Option ρ) (ops:Array Oper) (drawn:Bool) (b:Ss) (s:St V.E):Option ρ:=
 B1y V own ops.toList (λ b s acs=>match !drawn||Bed ops acs with
  |true=>K b s
  |false=>none) ops.toList 0 [] b s
noncomputable def dn (own:List Nat) (n:Nat) (cuts:List (Pc V ρ)) (fin:St V.E->Option ρ):Sc->List Item->Ss->St V.E->Option ρ
 | .g x,k,b,s=>match auto 200 k with
   | .code (.region _ ops drawn)::k'=>B7u V own (dn own n cuts fin x k') ops drawn b s
   |_=>none
 | .b x y,k,b,s=>match auto 200 k with
   | .code (.cond c t f)::k'=>match Aul b c with
     |some true=>dn own n cuts fin x (.code t::k') b s
     |some false=>dn own n cuts fin y (.code f::k') b s
     |none=>match Ho V s 0 c with
      |some (.cv (.one (.bool z)))=>if z=true then dn own n cuts fin x (.code t::k') (B25 c true b) s else dn own n cuts fin y (.code f::k') (B25 c false b) s
      |_=>none
   |_=>none
 | .l x,k,b,s=>match auto 200 k with
   | .code (.loop c)::k'=>dn own n cuts fin x (.code c:: .inLoop c::k') b s
   | .inLoop c::k'=>dn own n cuts fin x (.code c:: .inLoop c::k') b s
   |_=>none
 | .w w x,k,_,s=>match weak w s with
   |some (s,cs)=>Ay7 cs (dn own n cuts fin x k [] s)
   |none=>none
 | .c j ws,_,_,s=>match cuts[j]? with
   |some p=>By9 V (B8k V n p) (λ cs v=>Ay7 cs (Cb5 v.2 (p.val v.1) (tl p.l))) ws s
   |none=>none
 | .e ws,k,_,s=>match Bxb k with
   |true=>By9 V fin (λ cs o=>Ay7 cs (some o)) ws s
   |false=>none
def arr:Sc->List Item->List (Nat×List Item)
 | .g x,k=>match auto 200 k with
   | .code (.region _ _ _)::k'=>arr x k'
   |_=>[]
 | .b x y,k=>match auto 200 k with
   | .code (.cond _ t f)::k'=>arr x (.code t::k')++arr y (.code f::k')
   |_=>[]
 | .l x,k=>match auto 200 k with
   | .code (.loop c)::k'=>arr x (.code c:: .inLoop c::k')
   | .inLoop c::k'=>arr x (.code c:: .inLoop c::k')
   |_=>[]
 | .w _ x,k=>arr x k
 | .c j _,k=>[(j,auto 200 k)]
 | .e _,_=>[]
def Ahg {V:Env} (cuts:List (Pc V ρ)) (x:Nat×List Item):Nat×List Item:=match cuts[x.1]? with
 |some p=>(x.1,p.k)
 |none=>(x.1,[])
variable {V}
def Ang (V:Env) (P:Program) (n:Nat) (C:Ctx) (F:Act->World->Prop) {ρ:Type} (X:ρ->Prop):List (Pc V ρ)->Prop
 |[]=>True
 |p::ps=>Blm V P n C F X p/\Ang V P n C F X ps
theorem Boy {n:Nat} {X:ρ->Prop}:∀{cuts:List (Pc V ρ)},Ang V P n C F X cuts->∀{j:Nat} {p:Pc V ρ},cuts[j]?=some p->Blm V P n C F X p
 |p::ps,h,0,_,e=>by simp at e;subst e;exact h.1
 |p::ps,h,j+1,_,e=>Boy h.2 (by simpa using e)
theorem Ask {α:Type} {f:St V.E->Option α} {g:List Cd->α->Option ρ} {o:ρ}:∀{ws:List (List WOp)} {s:St V.E},By9 V f g ws s=some o->∃s' cs w y,weak w s=some (s',cs)/\f s'=some y/\g cs y=some o
 |[],_,h=>by cases h
 |w::ws,s,h=>by
  unfold By9 at h
  split at h
  ·rename_i s' cs hw
   split at h
   ·rename_i y hy;exact⟨s',cs,w,y,hw,hy,h⟩
   ·exact Ask h
  ·exact Ask h
theorem Xp {α:Type} {f:α->α}:∀{l:List α},l.map f=l->∀x∈l,f x=x
 |a::l,h,x,hx=>by
  simp only[List.map_cons,List.cons.injEq]at h
  rcases List.mem_cons.1 hx with rfl|hx
  ·exact h.1
  ·exact Xp h.2 x hx
theorem Ag0 (G:Bs V P) {own:List Nat} {n:Nat} {cuts:List (Pc V ρ)} {fin:St V.E->Option ρ} {X:ρ->Prop} (hc:Ang V P n C F X cuts) (hf:∀s o,fin s=some o->X o->∀a w,Sim V C s a w->F a w) {o:ρ} (hX:X o):
 ∀(sc:Sc) (k:List Item) (b:Ss) (s:St V.E),dn V own n cuts fin sc k b s=some o->Lf V b s->(∀x∈arr sc k,Ahg cuts x=x)->Bv V P C F k s
 | .g x,k,b,s,h,hb,ha=>by
   have A:=λ (b:Frame) (a:Act) (cs:List Frame) (w:World)=>Ge (P:=P) b a cs w 200 k
   unfold dn at h
   split at h
   ·rename_i id ops drawn k' hk
    unfold arr at ha
    rw[hk]at ha
    unfold B7u at h
    obtain⟨as,s2,b2,h1,h2,h3⟩:=Bsq ops.toList 0 [] b s rfl hb h
    rw[List.nil_append]at h1
    split at h1
    ·rename_i hd
     have g:=Ag0 G hc hf hX x k' b2 s2 h1 h2 ha
     refine .of_steps (λ a w S b cs=> ?_) g
     have hwp:=Bx0 G (id:=id) (drawn:=drawn) (Q:=λ e a' w'=>e= .normal/\Sim V C s2 a' w') S (h3 as rfl) (λ e=>by rw[e]at hd;exact hd) (λ a' w' S'=>⟨rfl,S'⟩)
     obtain⟨e,a',w',⟨rfl,S'⟩,harr⟩:=hwp b k' cs
     refine⟨a',w',S', ?_⟩
     have:=A b a cs w
     rw[hk]at this
     exact this.trans harr
    ·cases h1
   ·cases h
 | .b x y,k,b,s,h,hb,ha=>by
   have A:=λ (b:Frame) (a:Act) (cs:List Frame) (w:World)=>Ge (P:=P) b a cs w 200 k
   unfold dn at h
   split at h
   ·rename_i c t f k' hk
    unfold arr at ha
    rw[hk]at ha
    have way:∀(z d:Bool),Ho V s 0 c=some (.cv (.one (.bool z)))->z=d->Bv V P C F (.code (if d then t else f)::k') s->Bv V P C F k s:=by
     intro z d hz hd g
     refine .of_steps (λ a w S b cs=>⟨a,w,S, ?_⟩) g
     obtain⟨β,S⟩:=S
     have hr:=Ass S 0 c _ hz
     simp only[SR,Az,Ar,Ad]at hr
     have:=A b a cs w
     rw[hk]at this
     refine this.trans (.one ?_)
     rw[step_cond hr,hd]
    split at h
    ·rename_i hbit
     exact way true true (Af6 hb hbit) rfl (Ag0 G hc hf hX x _ b s h hb λ q hq=>ha q (List.mem_append_left _ hq))
    ·rename_i hbit
     exact way false false (Af6 hb hbit) rfl (Ag0 G hc hf hX y _ b s h hb λ q hq=>ha q (List.mem_append_right _ hq))
    ·split at h
     ·rename_i z hz
      by_cases e:z=true
      ·rw[if_pos e]at h
       exact way z true hz e (Ag0 G hc hf hX x _ _ s h (Ap9 hb (by rw[hz,e])) λ q hq=>ha q (List.mem_append_left _ hq))
      ·rw[if_neg e]at h
       have e:z=false:=by simpa using e
       exact way z false hz e (Ag0 G hc hf hX y _ _ s h (Ap9 hb (by rw[hz,e])) λ q hq=>ha q (List.mem_append_right _ hq))
     ·cases h
   ·cases h
 | .l x,k,b,s,h,hb,ha=>by
   have A:=λ (b:Frame) (a:Act) (cs:List Frame) (w:World)=>Ge (P:=P) b a cs w 200 k
   unfold dn at h
   split at h
   ·rename_i c k' hk
    unfold arr at ha
    rw[hk]at ha
    refine .of_steps (λ a w S b cs=>⟨a,w,S, ?_⟩) (Ag0 G hc hf hX x _ b s h hb ha)
    have:=A b a cs w
    rw[hk]at this
    exact this.trans (.one step_loop)
   ·rename_i c k' hk
    unfold arr at ha
    rw[hk]at ha
    refine .of_steps (λ a w S b cs=>⟨a,w,S, ?_⟩) (Ag0 G hc hf hX x _ b s h hb ha)
    have:=A b a cs w
    rw[hk]at this
    exact this.trans (.one step_inLoop)
   ·cases h
 | .w w x,k,b,s,h,hb,ha=>by
   unfold dn at h
   split at h
   ·rename_i s1 cs hw
    obtain⟨hcs,h⟩:=T4 h
    have g:=Ag0 G hc hf hX x k [] s1 h (λ _ _ h=>by cases h) ha
    exact λ a w S=>g a w (Ayh hw hcs S)
   ·cases h
 | .c j ws,k,b,s,h,hb,ha=>by
   unfold dn at h
   split at h
   ·rename_i p hp
    obtain⟨s1,cs,w,v,hw,hv,h⟩:=Ask h
    obtain⟨hcs,h⟩:=T4 h
    unfold B8k at hv
    split at hv
    rotate_left
    ·cases hv
    rename_i s2 hn hk
    split at hv
    ·rename_i v0 hv0
     cases hv
     obtain⟨hq,h⟩:=B0h (Btm p.l v0) h
     have hm:=B01 _ G.tab _ _ _ _ _ hv0
     rw[B1b _ _ _ hq]at hm
     generalize (Cq p.l v0).1=v at h hm
     have hpl:=ha (j,auto 200 k) (by simp[arr])
     unfold Ahg at hpl
     rw[hp]at hpl
     have hpl:p.k=auto 200 k:=(Prod.mk.inj hpl).2
     have g:=Boy hc hp v o h hX
     rw[hpl]at g
     refine .of_steps (λ a w S b cs=>⟨a,w, ?_,Ge b a cs w 200 k⟩) g
     have S2:=Bxs hk (Ayh hw hcs S)
     have hn2:s2.n=n:=by
      have:s2.n=s1.n:=by
       unfold Bdh at hk
       simp only at hk
       split at hk
       ·cases hk;rfl
       ·cases hk
      rw[this];exact Ah hn
     have:p.st n v=s2:=by
      unfold Pc.st
      rw[hm,<-hn2]
     rw[this];exact S2
    ·cases hv
   ·cases h
 | .e ws,k,b,s,h,hb,ha=>by
   unfold dn at h
   split at h
   ·rename_i hend
    obtain⟨s1,cs,w,o',hw,hfin,h⟩:=Ask h
    obtain⟨hcs,h⟩:=T4 h
    cases h
    intro a w S b cs
    have S1:=Ayh hw hcs S
    have hs:=Ge (P:=P) b a cs w 200 k
    unfold Bxb at hend
    split at hend
    ·rename_i hk
     rw[hk]at hs
     exact⟨a,w,[],hf s1 o hfin hX a w S1,hs.trans (.one step_end)⟩
    ·rename_i k1 hk
     rw[hk]at hs
     exact⟨a,w,.code .ret::k1,hf s1 o hfin hX a w S1,hs.trans (.one step_ret)⟩
    ·cases hend
   ·cases h
end
section
variable {V:Env} {P:Program} {C:Ctx} {F:FT} {ρ τ σ:Type} {n:Nat}
def Anm (V:Env) (C:Ctx) (F:FT) (fin:St V.E->Option ρ) (X:ρ->Prop):Prop:=∀s o,fin s=some o->X o->∀a w,Sim V C s a w->F a w
def B5j (V:Env) (rs:List ResultVar) (os:List (List (TypeId×TypeId))) (ts:List Ty) (cv:HL V.E ts->ρ) (s:St V.E):Option ρ:=
 match Ajj V s os ts rs with
 |some (y,ids)=>match Akh ids with
  |true=>some (cv y)
  |false=>none
 |none=>none
theorem B6o {rs:List ResultVar} {os:List (List (TypeId×TypeId))} {ts:List Ty} {cv:HL V.E ts->ρ} {X:ρ->Prop} (h:∀y,X (cv y)->Bot V C F rs os ts y):Anm V C F (B5j V rs os ts cv) X:=by
 intro s o hs hX a w S
 unfold B5j at hs
 split at hs
 ·rename_i y ids hf
  split at hs
  ·rename_i hd
   cases hs
   exact h y hX s ids hf hd a w S
  ·cases hs
 ·cases hs
theorem fS (fn:Func) (S:FS V.E) (cv:HL V.E S.res->ρ) {X:ρ->Prop} (h:∀y,X (cv y)->Bot V C F fn.results.toList S.resOwn S.res y):Anm V C F (B5j V fn.results.toList S.resOwn S.res cv) X:=B6o h
theorem an {X:ρ->Prop}:Ang V P n C F X []:=trivial
theorem ac {X:ρ->Prop} {p:Pc V ρ} {ps:List (Pc V ρ)} (h:Blm V P n C F X p) (k:Ang V P n C F X ps):Ang V P n C F X (p::ps):=⟨h,k⟩
def Ccz (V:Env) {ρ:Type} (_:St V.E):Option ρ:=none
theorem Au {X:ρ->Prop}:Anm V C F (Ccz V) X:=λ _ _ h=>by cases h
theorem pk (G:Bs V P) (own:List Nat) {cuts:List (Pc V ρ)} {fin:St V.E->Option ρ} {X:ρ->Prop} {p:Pc V ρ} (hf:Anm V C F fin X) (sc:Sc) (hc:Ang V P n C F X cuts)
 (e:∀v,dn V own n cuts fin sc p.k [] (p.st n v)=p.val v:=by intro v;kernel_rfl) (ha:(arr sc p.k).map (Ahg cuts)=arr sc p.k:=by kernel_rfl):Blm V P n C F X p:=
 λ v _ h hX=>Ag0 G hc hf hX sc p.k [] _ ((e v).trans h) (λ _ _ h=>by cases h) (Xp ha)
theorem pv (G:Bs V P) (own:List Nat) {cuts:List (Pc V ρ)} {fin:St V.E->Option ρ} {X:ρ->Prop} {p:Pc V ρ} {v:HV V.E p.l} {o:ρ} (hf:Anm V C F fin X) (sc:Sc) (hc:Ang V P n C F X cuts)
 (h:p.val v=some o) (hX:X o) (e:dn V own n cuts fin sc p.k [] (p.st n v)=p.val v:=by kernel_rfl) (ha:(arr sc p.k).map (Ahg cuts)=arr sc p.k:=by kernel_rfl):Bv V P C F p.k (p.st n v):=
 Ag0 G hc hf hX sc p.k [] _ (e.trans h) (λ _ _ h=>by cases h) (Xp ha)
theorem rv (x:σ) (z:ρ) (G:Bs V P) (own:List Nat) (n:Nat) {cuts:List (Pc V ρ)} {fin:St V.E->Option ρ} {X:ρ->Prop} {k:List Item} {S:σ->St V.E} {g:σ->Option ρ} (hf:Anm V C F fin X) (sc:Sc) (hc:Ang V P n C F X cuts)
 (h:g x=some z) (hX:X z) (e:dn V own n cuts fin sc k [] (S x)=g x:=by kernel_rfl) (ha:(arr sc k).map (Ahg cuts)=arr sc k:=by kernel_rfl):Bv V P C F k (S x):=
 Ag0 G hc hf hX sc k [] _ (e.trans h) (λ _ _ h=>by cases h) (Xp ha)
abbrev LX (V:Env) (P:Program) (n:Nat) (C:Ctx) (F:FT) (k:List Item) (l:List (Tk V.E)) (XL:τ->Prop):HV V.E l⊕τ->Prop:=LP V P C F k (λ v=>Pc.st n (⟨k,l,λ _=>none⟩:Pc V Unit) v) XL
theorem lk {k:List Item} {l:List (Tk V.E)} {body:HV V.E l->Option (HV V.E l⊕τ)} {XK:τ->Option ρ} {X:ρ->Prop} {XL:τ->Prop} (hb:Blm V P n C F (LX V P n C F k l XL) ⟨k,l,body⟩) (hx:∀r o,XK r=some o->X o->XL r):
 Blm V P n C F X ⟨k,l,λ v=>Option.bind (iter body v) XK⟩:=by
 intro v o h hX
 obtain⟨r,h1,h2⟩:=bind_some h
 exact lg (λ v o h hl=>hb v o h hl) h1 (hx r o h2 hX)
theorem bk {k:List Item} {l:List (Tk V.E)} {XL:τ->Prop}:Blm V P n C F (LX V P n C F k l XL) ⟨k,l,λ v=>some (.inl v)⟩:=λ v o h hX=>hX.1 v (sj h).symm
abbrev GE (V:Env) (P:Program) (n:Nat) (C:Ctx) (F:FT) (k:List Item) (l:List (Tk V.E)) (x:HV V.E l):Prop:=Bv V P C F k (Pc.st n (⟨k,l,λ _=>none⟩:Pc V Unit) x)
theorem xt {k:List Item} {l:List (Tk V.E)} {XL:τ->Prop} {k':List Item} {l':List (Tk V.E)} (inj:HV V.E l'->τ) (hg:∀x,XL (inj x)->GE V P n C F k' l' x):
 Blm V P n C F (LX V P n C F k l XL) ⟨k',l',λ x=>some (.inr (inj x))⟩:=λ v _ h hX=>hg v (hX.2 _ (sj h).symm)
theorem xs {α β:Type} {f:α->Option ρ} {g:β->Option ρ} {X:ρ->Prop} {A:α->Prop} {B:β->Prop} (ha:∀r o,f r=some o->X o->A r) (hb:∀r o,g r=some o->X o->B r):∀r o,Sum.elim f g r=some o->X o->Sum.elim A B r
 | .inl x,o,h,hX=>ha x o h hX
 | .inr x,o,h,hX=>hb x o h hX
theorem xr {Y:ρ->Prop}:∀r o,some r=some o->Y o->Y r:=λ _ _ h hY=>by cases h;exact hY
theorem xl {k:List Item} {l:List (Tk V.E)} {XL:τ->Prop} {f:σ->τ}:∀r o,(some (.inr (f r)):Option (HV V.E l⊕τ))=some o->LX V P n C F k l XL o->XL (f r):=λ _ _ h hX=>hX.2 _ (sj h).symm
theorem md {fn:Func} {f:FuncId} {as rs:List Ty} {ao:List TypeId} {ro:List (List (TypeId×TypeId))} {α:Type} {g:HL V.E as->Option α} {out:α->HL V.E rs} (G:Bs V P)
 (w:Bs V P->∀C F x z,g x=some z->Bot V C F fn.results.toList ro rs (out z)->Bv V P C F [.code (fn.body.getD .skip)] (As4 V fn.ntmps ⟨as,rs,ao,ro,α,g,out⟩ x))
 (h0:V.t0=false:=by kernel_rfl) (h1:P.funcs[f]?=some fn:=by kernel_rfl) (h2:fn.body=some (fn.body.getD .skip):=by kernel_rfl) (h3:(fn.name== "runtime.NumGoroutine")=false:=by kernel_rfl) (h4:(Nat.ble as.length fn.ntmps&&Nat.ble as.length 1000000)=true:=by kernel_rfl):E1 V P f ⟨as,rs,ao,ro,α,g,out⟩:=
 Brh G h0 h1 h2 h3 h4 λ x y h C F E=>by
  have h:Option.map out (g x)=some y:=h
  obtain⟨z,hz,e⟩:=Option.map_eq_some_iff.1 h
  subst e
  exact w G C F x z hz E
end
end Go.Ab
