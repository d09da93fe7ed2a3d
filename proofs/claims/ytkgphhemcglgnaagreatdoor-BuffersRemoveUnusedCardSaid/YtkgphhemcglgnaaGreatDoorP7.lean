/- Proved in the last of these texts: for every input the law returns true and its arguments read afterwards as they read before. This text: a part of the proof. -/
import Derived.Test.YtkgphhemcglgnaaGreatDoorP6
import Derived.Deep.RegionLaw
import Derived.Ground.Names2Prog
import Derived.Lib.SliceRun
import Derived.Lib.Walk
import Derived.Shelf.RegionOpenPlain
import Derived.Shelf.Slices.CompactS
import Derived.Shelf.Slices.In.SortNone
import Derived.Shelf.Small.Wraps
import Derived.Shelf.Sort.Plain
import Derived.Sort.Row
import Derived.Sort.WalkB12
import Derived.Test.YtkgphhemcglgnaaGreatDoorProg
import Derived.WalkKit
set_option linter.unusedVariables false
set_option linter.unusedSimpArgs false
set_option linter.unusedSectionVars false
section
namespace Go.Proofs.YtkgphhemcglgnaaGreatDoor
open Go HY
theorem ok_rdE{x:Qg}(hx:okS (.mk x)):okE (.mk (rdE x)):=by
 obtain⟨h1,h2,_,_⟩:=hx.of;exact .mk _ ⟨⟨by show(-9223372036854775808:Int)≤0;omega,by show(0:Int)≤9223372036854775807;omega⟩,by simp[rdE],by simp[rdE]⟩ h1 h2 (by simp[rdE]) (by simp[rdE])
theorem Q5a{n:Q9}{sc:List Str}{x:Qg}(h:(KD n sc (rdE x)).2=0):(KD n sc (rdE x)).1=((ZK n.fc x.fa).getD zBuf).fd:=by
 unfold KD at h ⊢;split at h;·rename_i h1;exact absurd h h1
 ·rename_i h1;rw[if_neg h1];split at h;·rename_i h2;exact absurd h h2
  ·rename_i h2;rw[if_neg h2,Pv];simp[kd1,rdE]
theorem foldQ(x:Qg):(if(x.fOp==(3:Int))=true then if x.fA< (1:Int) then some true else if(4:Int)<x.fA then some true else some false else some false)=some (decide (x.fOp=3∧(x.fA<1∨4<x.fA))):=by
 by_cases h1:x.fOp=3<;>by_cases h2:x.fA<1<;>by_cases h3:4<x.fA<;>simp[h1,h2,h3]
theorem p_store(c:Q3)(x:Qg)(hx:okS (.mk x))(hb:okBs c.fi.fc)(hs:c.fh.length≤4611686018427387904):Vz c x=some (G9 c.fi c.fh x):=by
 obtain⟨_,_,hE,_⟩:=hx.of;unfold Vz G9;rw[bS,show(QS.mk (3:Int) x.fa (gVal.mk (0:Int) (0:Int)) (Qc.mk (0:Int) (0:Int) (0:Int) (0:Int) (0:Int)) (gLin.mk (0:Int) []) x.fe []:Q1)=rdE x from rfl,LN c (rdE x) (ok_rdE hx) hb hs,bS,LM _ _ hb,foldQ,LN c x.fg hE hb hs];simp only[bS,WM,SZ];have hk:= @Q5a c.fi c.fh x;generalize KD c.fi c.fh (rdE x)=E1 at hk ⊢;generalize KD c.fi c.fh x.fg=E2;generalize (ZK c.fi.fc x.fa).getD zBuf=B at hk ⊢
 by_cases h1:E1.2=0
 ·rw[hk h1];by_cases h2:B.fF=1;·simp[h1,h2]
  ·by_cases h3:x.fOp=3∧(x.fA<1∨4<x.fA);·simp[h1,h2,h3]
   ·by_cases h4:E2.2=0;·cases hc:isC x.fg<;>by_cases h5:E2.1=B.fd<;>simp[h1,h2,h3,h4,h5,bS]
    ·simp[h1,h2,h3,h4]
 ·simp[h1]
theorem r_store(n:Q9)(bs:List Qw)(x:Qg)(hx:okS (.mk x))(hb:okBs n.fc)(hs:bs.length≤4611686018427387904):WE n bs x=some (G9 n (bs.map (·.fa)) x):=by
 obtain⟨_,_,hE,_⟩:=hx.of;unfold WE G9;rw[bS,show(QS.mk (3:Int) x.fa (gVal.mk (0:Int) (0:Int)) (Qc.mk (0:Int) (0:Int) (0:Int) (0:Int) (0:Int)) (gLin.mk (0:Int) []) x.fe []:Q1)=rdE x from rfl,ES n bs (rdE x) (ok_rdE hx) hb hs,bS,LP _ _ hb,foldQ,ES n bs x.fg hE hb hs];simp only[bS,DN,SZ];generalize KD n (bs.map (·.fa)) (rdE x)=E1;generalize KD n (bs.map (·.fa)) x.fg=E2;generalize (ZK n.fc x.fa).getD zBuf=B
 by_cases h1:E1.2=0
 ·by_cases h2:B.fF=1;·simp[h1,h2,bS]
  ·by_cases h3:x.fOp=3∧(x.fA<1∨4<x.fA);·simp[h1,h2,h3,bS]
   ·by_cases h4:E2.2=0;·cases hc:isC x.fg<;>by_cases h5:E2.1=B.fd<;>simp[h1,h2,h3,h4,h5,bS]
    ·simp[h1,h2,h3,h4,bS]
 ·simp[h1]
theorem manyQ(x:Qg):(if x.fy< (1:Int) then some true else if(65536:Int)<x.fy then some true else if x.fB< (0:Int) then some true else if(3:Int)<x.fB then some true else some false)=some (decide (x.fy<1∨65536<x.fy∨x.fB<0∨3<x.fB)):=by
 by_cases h1:x.fy<1<;>by_cases h2:65536<x.fy<;>by_cases h3:x.fB<0<;>by_cases h4:3<x.fB<;>simp[h1,h2,h3,h4]
theorem p_loop(c:Q3)(x:Qg)(hb:okBs c.fi.fc)(hs:c.fp.length≤4611686018427387904):VU c x=some (N9 c.fi c.fp x):=by
 unfold VU N9;rw[HJ,bS,LM _ _ hb,NE _ _ hs,manyQ];cases h1:nm x.fa with
 |false=>simp
 |true=>
  cases h2:(ZK c.fi.fc x.fa).isSome<;>cases h3:c.fp.contains x.fa<;>simp only[bS,ND,CP,Bool.or_true,Bool.or_false]
  ·by_cases h4:x.fy<1∨65536<x.fy∨x.fB<0∨3<x.fB<;>simp[h4]
  all_goals simp
theorem s_Has(l:List Str)(s:Str)(hl:l.length≤1048576):Vw l s=some (l.contains s):=by
 unfold Vw;rw[bS,E6 l s hl,bS];cases l.contains s<;>rfl
theorem Q0e(c:Q3)(x:Qg)(hx:okS (.mk x))(hb:okBs c.fi.fc)(hs:c.fh.length≤4611686018427387904)(hu:c.fp.length≤4611686018427387904):Ky c x=some (Ke c.fi c.fh c.fp x):=by
 obtain⟨_,_,hE,_⟩:=hx.of;unfold Ky Ke;rw[p_plain,bS,p_loop c x hb hu,LN c x.fg hE hb hs,WM,p_store c x hx hb hs];cases h1:plS x with
 |false=>simp
 |true=>
  by_cases h2:x.fOp=1;·simp[h2,bS]
  ·by_cases h3:x.fOp=4
   ·by_cases h4:(KD c.fi c.fh x.fg).2=0;·cases h5:isC x.fg<;>simp[h3,h4,bS]
    ·simp[h3,h4,bS]
   ·simp[h2,h3,bS]
theorem r_one(n:Q9)(bs:List Qw)(a3:List Str)(x:Qg)(hx:okS (.mk x))(hb:okBs n.fc)(hs:bs.length≤4611686018427387904)(hu:a3.length≤1048576):Mb n bs a3 x=some (Ke n (bs.map (·.fa)) a3 x):=by
 obtain⟨_,_,hE,_⟩:=hx.of;unfold Mb Ke;rw[Q5v,bS,LP _ _ hb,bS,Wu,bS,manyQ,s_Has _ _ hu,ES n bs x.fg hE hb hs,DN,r_store n bs x hx hb hs];cases h1:plS x with
 |false=>simp
 |true=>
  by_cases h2:x.fOp=1
  ·unfold N9;cases h3:nm x.fa with
   |false=>simp[h2]
   |true=>
    cases h4:(ZK n.fc x.fa).isSome<;>cases h5:a3.contains x.fa
    ·by_cases h6:x.fy<1∨65536<x.fy∨x.fB<0∨3<x.fB<;>simp[h2,h6,bS]
    all_goals simp[h2,bS]
  ·by_cases h3:x.fOp=4
   ·by_cases h4:(KD n (bs.map (·.fa)) x.fg).2=0;·cases h5:isC x.fg<;>simp[h3,h4,bS]
    ·simp[h3,h4,bS]
   ·simp[h2,h3,bS]
end Go.Proofs.YtkgphhemcglgnaaGreatDoor
end
section
namespace Go.Proofs.YtkgphhemcglgnaaGreatDoor
open Go HY
def bdT(n:Q9)(sc:List Str)(a4:List Int)(l:List Q0)(i:Int)(a3:List Str):Fl:=bdL n sc a4 (l.map fun a=>(a.f,bd n a)) i a3
theorem AJ(n:Q9)(sc:List Str)(a4:List Int)(i:Int)(a3:List Str):bdT n sc a4 [] i a3=(a3,[],0):=rfl
theorem Hr(n:Q9)(sc:List Str)(a4:List Int)(a:Q0)(t:List Q0)(i:Int)(a3:List Str):bdT n sc a4 (a::t) i a3=
  if Ke n sc a3 a.f≠0 then([],a4++[i],Ke n sc a3 a.f)
  else if a.f.fOp=1 then(if(bdB n (sc++[a.f.fa]) (a4++[i]) a.f.fb (a3++[a.f.fa])).2.2≠0 then bdB n (sc++[a.f.fa]) (a4++[i]) a.f.fb (a3++[a.f.fa]) else bdT n sc a4 t (i+1) (bdB n (sc++[a.f.fa]) (a4++[i]) a.f.fb (a3++[a.f.fa])).1)
  else(if(bdB n sc (a4++[i]) a.f.fb a3).2.2≠0 then bdB n sc (a4++[i]) a.f.fb a3 else bdT n sc a4 t (i+1) (bdB n sc (a4++[i]) a.f.fb a3).1):=by
 show bdL n sc a4 ((a.f,bd n a)::t.map fun a=>(a.f,bd n a)) i a3=_
 rw[bdL,bd_f,bd_f];rfl
theorem bdB_T(n:Q9)(sc:List Str)(a4:List Int)(l:List Q0)(a3:List Str):bdB n sc a4 l a3=bdT n sc a4 l 0 a3:=rfl
theorem Cs(a:Q0)(t:List Q0):dpL (a::t)=max (dp a) (dpL t):=rfl
theorem Q0x(n:Q9):∀l,okSs l→∀(sc:List Str) (a4:List Int) (a3:List Str),(bdB n sc a4 l a3).1.length≤a3.length+szL l:=Cr fun l hl ih sc a4 a3=>by
 have key:∀(t:List Q0),(∀s∈t,s∈l)→∀(i:Int) (a3:List Str),(bdT n sc a4 t i a3).1.length≤a3.length+szL t:=by
  intro t
  induction t with
  |nil=>intro _ i a3;rw[AJ];simp
  |cons a t iht=>
   intro hm i a3;have h2:=iht (fun s hs=>hm s (by simp[hs]))
   rw[Hr,VE,sz_f];split;·simp
   ·split
    ·split;·have:=ih a (hm a (by simp)) (sc++[a.f.fa]) (a4++[i]) (a3++[a.f.fa]);simp at this ⊢;omega
     ·have:=ih a (hm a (by simp)) (sc++[a.f.fa]) (a4++[i]) (a3++[a.f.fa])
      have:=h2 (i+1) (bdB n (sc++[a.f.fa]) (a4++[i]) a.f.fb (a3++[a.f.fa])).1;simp at*;omega
    ·split;·have:=ih a (hm a (by simp)) sc (a4++[i]) a3;omega
     ·have:=ih a (hm a (by simp)) sc (a4++[i]) a3
      have:=h2 (i+1) (bdB n sc (a4++[i]) a.f.fb a3).1;omega
 exact key l (fun _ h=>h) 0 a3
theorem Q0y(n:Q9):∀l,okSs l→∀(sc:List Str) (a4:List Int) (a3:List Str),((bdB n sc a4 l a3).2.2=0→(bdB n sc a4 l a3).2.1=[])∧((bdB n sc a4 l a3).2.2≠0→(bdB n sc a4 l a3).1=[]):=Cr fun l hl ih sc a4 a3=>by
 have key:∀(t:List Q0),(∀s∈t,s∈l)→∀(i:Int) (a3:List Str),((bdT n sc a4 t i a3).2.2=0→(bdT n sc a4 t i a3).2.1=[])∧((bdT n sc a4 t i a3).2.2≠0→(bdT n sc a4 t i a3).1=[]):=by
  intro t
  induction t with
  |nil=>intro _ i a3;exact⟨fun _=>rfl,fun h=>absurd rfl h⟩
  |cons a t iht=>
   intro hm i a3;have h2:=iht (fun s hs=>hm s (by simp[hs]))
   rw[Hr];split;·rename_i h;exact⟨fun h'=>absurd h' h,fun _=>rfl⟩
   ·split
    ·split;·exact ih a (hm a (by simp)) _ _ _
     ·exact h2 _ _
    ·split;·exact ih a (hm a (by simp)) _ _ _
     ·exact h2 _ _
 exact key l (fun _ h=>h) 0 a3
theorem p_body(n:Q9)(hb:okBs n.fc):∀l,okSs l→∀c:Q3,c.fi=n→c.fh.length+dpL l≤1000→c.fq.length+dpL l≤1000→c.fp.length+szL l≤100000→
  wp (QV c l) (fun r=>r.1=(bdB n c.fh c.fq l c.fp).2.2∧(r.1≠0→r.2.fq=(bdB n c.fh c.fq l c.fp).2.1)∧(r.1=0→r.2=⟨n,(bdB n c.fh c.fq l c.fp).1,c.fh,c.fq⟩)):=Cr fun l hl ih c hn ay au b1=>by
 have e1:=hl.1;have b5:l.length≤4611686018427387904:=by omega
 have key:∀(t p:List Q0),l=p++t→∀c:Q3,c.fi=n→c.fh.length+dpL t≤1000→c.fq.length+dpL t≤1000→c.fp.length+szL t≤100000→
   wp (QF c l l.length p.length) (fun o=>((bdT n c.fh c.fq t p.length c.fp).2.2=0∧o= .inl ⟨n,(bdT n c.fh c.fq t p.length c.fp).1,c.fh,c.fq⟩)∨((bdT n c.fh c.fq t p.length c.fp).2.2≠0∧∃c',o= .inr (c',(bdT n c.fh c.fq t p.length c.fp).2.2)∧c'.fq=(bdT n c.fh c.fq t p.length c.fp).2.1)):=by
  intro t
  induction t with
  |nil=>
   intro p e c hn _ _ _;have:p.length=l.length:=by rw[e];simp
   rw[QF,if_neg (by omega),AJ]
   obtain⟨cn,cl,cs,cp⟩:=c;cases hn;exact Dq.2 (.inl ⟨rfl,rfl⟩)
  |cons a t ac=>
   intro p e c hn h1 h2 h3;obtain⟨cn,cl,cs,cp⟩:=c;simp only at hn h1 h2 h3;subst hn;have ah:(p.length:Int)<l.length:=by rw[e];simp;omega
   have ad:a∈l:=by rw[e];simp
   have ap:okS (.mk a.f):=by rw[Q0.mk_f];exact hl.2 a ad
   rw[Cs,dp_f] at h1 h2;rw[VE,sz_f] at h3;have ac:=ac (p++[a]) (by rw[e];simp)
   rw[show(((p++[a]).length:Nat):Int)=(p.length:Int)+1 by simp] at ac
   have ai:=Q0e ⟨cn,cl,cs,cp++[(p.length:Int)]⟩ a.f ap hb (show cs.length≤_ by omega) (show cl.length≤_ by omega)
   simp only at ai;rw[QF,if_pos ah,Yg e,omS,bS,Hr];simp only;rw[if_pos ⟨by omega,by omega⟩,bS,ai,bS]
   by_cases hs:Ke cn cs cl a.f=0
   ·have aw:¬((Ke cn cs cl a.f !=(0:Int))=true):=by simp[hs]
    have ax:¬(Ke cn cs cl a.f≠0):=by simp[hs]
    rw[if_neg aw,bS,bS];simp only[if_neg ax];have rest:∀(c1:Q3) (a4 a3:List Str),c1=⟨cn,a3,a4,cp++[(p.length:Int)]⟩→(∃x,a4=cs++x)→a4.length+dpL a.f.fb≤1000→a3.length+(szL a.f.fb+szL t)≤100000→
      wp (QV c1 a.f.fb>>=fun v7=>if(v7.fst !=(0:Int))=true then some (.inr (v7.snd,v7.fst)) else if True∧(0:Int)≤(cs.length:Int)∧(cs.length:Int)≤(v7.snd.fh.length:Int) then
       if List.length (List.take (cs.length:Int).toNat v7.snd.fh)=(cs.length:Int).toNat then
       some (List.take (cs.length:Int).toNat v7.snd.fh)>>=fun v8=>
       if True∧(0:Int)≤wr ((v7.snd.fq.length:Int) - (1:Int))∧wr ((v7.snd.fq.length:Int) - (1:Int))≤(v7.snd.fq.length:Int) then
       some ((v7.snd.fq.length:Int):Int)>>=fun v9=>
       if List.length (List.take ((wr ((v7.snd.fq.length:Int) - (1:Int))).toNat) v7.snd.fq)=((wr ((v7.snd.fq.length:Int) - (1:Int))).toNat) then
       some (List.take ((wr ((v7.snd.fq.length:Int) - (1:Int))).toNat) v7.snd.fq)>>=fun b2=>
       QF (Q3.mk v7.snd.fi v7.snd.fp v8 b2) l l.length (wr ((p.length:Int)+(1:Int)))
       else none else none else none else none)
      (fun o=>((if(bdB cn a4 (cp++[(p.length:Int)]) a.f.fb a3).2.2≠0 then bdB cn a4 (cp++[(p.length:Int)]) a.f.fb a3 else bdT cn cs cp t ((p.length:Int)+1) (bdB cn a4 (cp++[(p.length:Int)]) a.f.fb a3).1).2.2=0∧o= .inl ⟨cn,(if(bdB cn a4 (cp++[(p.length:Int)]) a.f.fb a3).2.2≠0 then bdB cn a4 (cp++[(p.length:Int)]) a.f.fb a3 else bdT cn cs cp t ((p.length:Int)+1) (bdB cn a4 (cp++[(p.length:Int)]) a.f.fb a3).1).1,cs,cp⟩)∨
       ((if(bdB cn a4 (cp++[(p.length:Int)]) a.f.fb a3).2.2≠0 then bdB cn a4 (cp++[(p.length:Int)]) a.f.fb a3 else bdT cn cs cp t ((p.length:Int)+1) (bdB cn a4 (cp++[(p.length:Int)]) a.f.fb a3).1).2.2≠0∧∃c',o= .inr (c',(if(bdB cn a4 (cp++[(p.length:Int)]) a.f.fb a3).2.2≠0 then bdB cn a4 (cp++[(p.length:Int)]) a.f.fb a3 else bdT cn cs cp t ((p.length:Int)+1) (bdB cn a4 (cp++[(p.length:Int)]) a.f.fb a3).1).2.2)∧c'.fq=(if(bdB cn a4 (cp++[(p.length:Int)]) a.f.fb a3).2.2≠0 then bdB cn a4 (cp++[(p.length:Int)]) a.f.fb a3 else bdT cn cs cp t ((p.length:Int)+1) (bdB cn a4 (cp++[(p.length:Int)]) a.f.fb a3).1).2.1)):=by
     intro c1 a4 a3 hc1 ⟨xs,aj⟩ k1 k2;subst hc1;obtain⟨r,er,aa,ab,a8⟩:=ih a ad ⟨cn,a3,a4,cp++[(p.length:Int)]⟩ rfl (show a4.length+_≤1000 by omega) (show(cp++[(p.length:Int)]).length+_≤1000 by simp;omega) (show a3.length+_≤100000 by omega)
     have aq:=Q0x cn a.f.fb (hl.2 a ad).f a4 (cp++[(p.length:Int)]) a3;simp only at aa ab a8;generalize bdB cn a4 (cp++[(p.length:Int)]) a.f.fb a3=B at aa ab a8 aq ⊢;obtain⟨r1,r2⟩:=r;simp only at aa ab a8;subst aa;rw[er,bS];simp only;by_cases hB:B.2.2=0
     ·have a8:=a8 hB;subst a8;have an:¬((B.2.2 !=(0:Int))=true):=by simp[hB]
      have ao:¬(B.2.2≠0):=by simp[hB]
      rw[if_neg an];simp only[if_neg ao];have hw:wr (((cp++[(p.length:Int)]).length:Nat) - 1:Int)=(cp.length:Int):=by rw[ZB (by simp;omega)];simp
      have az:List.take (cs.length:Int).toNat a4=cs:=by rw[aj];simp
      have b0:List.take (cp.length:Int).toNat (cp++[(p.length:Int)])=cp:=by simp
      rw[az,hw,b0,if_pos (show True∧(0:Int)≤cs.length∧(cs.length:Int)≤a4.length from⟨trivial,by omega,by rw[aj];simp;omega⟩),if_pos (show List.length cs=(cs.length:Int).toNat by simp),bS,if_pos (show True∧(0:Int)≤cp.length∧(cp.length:Int)≤((cp++[(p.length:Int)]).length:Nat) from⟨trivial,by omega,by simp;omega⟩),bS,if_pos (show List.length cp=(cp.length:Int).toNat by simp),bS,QM (by omega) ah (by omega)]
      exact ac ⟨cn,B.1,cs,cp⟩ rfl (show cs.length+_≤1000 by omega) (show cp.length+_≤1000 by omega) (show B.1.length+_≤100000 by omega)
     ·rw[if_pos (show(B.2.2 !=(0:Int))=true by simp[hB])]
      simp only[if_pos (show B.2.2≠0 from hB)];exact Dq.2 (.inr ⟨hB,r2,rfl,ab hB⟩)
    by_cases hop:a.f.fOp=1
    ·rw[if_pos (show(a.f.fOp==(1:Int))=true by simp[hop]),if_pos (show(cl.length+1)*16≤140737488355328∧cl.length+1≤9223372036854775807 from⟨by omega,by omega⟩),if_pos (show(cs.length+1)*16≤140737488355328∧cs.length+1≤9223372036854775807 from⟨by omega,by omega⟩),bS]
     simp only[if_pos hop];exact rest _ _ _ rfl ⟨_,rfl⟩ (by simp;omega) (by simp;omega)
    ·rw[if_neg (show ¬((a.f.fOp==(1:Int))=true) by simp[hop]),bS]
     simp only[if_neg hop];exact rest _ _ _ rfl ⟨[],by simp⟩ (by omega) (by omega)
   ·rw[if_pos (show(Ke cn cs cl a.f !=(0:Int))=true by simp[hs])]
    simp only[if_pos (show Ke cn cs cl a.f≠0 from hs)];exact Dq.2 (.inr ⟨hs,_,rfl,rfl⟩)
 have h0:=key l [] rfl c hn ay au b1;obtain⟨o,eo,ho⟩:=h0;rw[QV];simp only[bS];rw[show((List.length ([]:List Q0):Nat):Int)=0 from rfl] at eo ho;rw[eo,bS,bdB_T];rcases ho with⟨h1,rfl⟩ | ⟨h1,c',rfl,h2⟩
 ·exact Dq.2 ⟨h1.symm,fun h=>absurd rfl h,fun _=>rfl⟩
 ·exact Dq.2 ⟨rfl,fun _=>h2,fun h=>absurd h h1⟩
theorem p_valid(n:Q9)(hb:okBs n.fc)(hl:okSs n.fb):Gc n=some (vd n):=by
 unfold Gc vd;rw[Q5r _ hl 40 (by omega) (by omega),bS]
 by_cases h1:dpL n.fb≤40
 ·obtain⟨k,ek,a7,a8,_⟩:=p_count _ hl 2000 (by omega) (by omega)
  rw[if_pos (by simp;omega),if_neg (by omega),bS,ek,bS]
  by_cases h2:2000<szL n.fb;·rw[if_pos (by omega),bS,if_pos rfl,if_pos (.inl h2)]
  ·rw[if_neg (by omega),bS]
   by_cases h3:128<n.fc.length;·rw[if_pos (by omega),bS,if_pos rfl,if_pos (.inr h3)]
   ·rw[if_neg (by omega),bS,if_neg (by simp),p_bufs _ hb.1,bS,if_neg (show ¬(2000<szL n.fb∨128<n.fc.length) by omega)]
    by_cases h4:XK [] n.fc=0
    ·obtain⟨r,er,q1,q2,q3⟩:=p_body n hb _ hl ⟨n,[],[],[]⟩ rfl (show 0+_≤1000 by omega) (show 0+_≤1000 by omega) (show 0+_≤100000 by omega)
     simp only at q1 q2 q3;have a3:(bdB n [] [] n.fb []).2.2=0→(bdB n [] [] n.fb []).2.1=[]:=(Q0y n _ hl _ _ _).1;rw[if_neg (by simp[h4]),if_neg (by simp[h4]),er,bS,q1]
     by_cases h5:(bdB n [] [] n.fb []).2.2=0;·rw[if_neg (by simp[h5]),a3 h5,h5]
     ·rw[if_pos (by simp[h5]),q2 (by rw[q1];exact h5)]
    ·rw[if_pos (by simp[h4]),if_pos (by simp[h4])]
 ·rw[if_neg (by simp;omega),if_pos (by omega)]
theorem r_body(n:Q9)(hb:okBs n.fc):∀l,okSs l→∀(bs:List Qw) (a4:List Str) (a5:List Int),bs.length+dpL l≤1000→a5.length+dpL l≤1000→a4.length+szL l≤100000→
  VB n bs a4 l a5=some ⟨(bdB n (bs.map (·.fa)) a5 l a4).1,(bdB n (bs.map (·.fa)) a5 l a4).2.1,(bdB n (bs.map (·.fa)) a5 l a4).2.2⟩:=Cr fun l hl ih bs a4 a5 ah ae ai=>by
 have e1:=hl.1;have ak:l.length≤4611686018427387904:=by omega
 have key:∀(t p:List Q0),l=p++t→∀(a4:List Str),bs.length+dpL t≤1000→a5.length+dpL t≤1000→a4.length+szL t≤100000→
   K1 bs a4 l a5 n ⟨[],[],0⟩ p.length=some (if(bdT n (bs.map (·.fa)) a5 t p.length a4).2.2=0 then .inl ((bdT n (bs.map (·.fa)) a5 t p.length a4).1,⟨[],[],0⟩) else .inr ⟨(bdT n (bs.map (·.fa)) a5 t p.length a4).1,(bdT n (bs.map (·.fa)) a5 t p.length a4).2.1,(bdT n (bs.map (·.fa)) a5 t p.length a4).2.2⟩):=by
  intro t
  induction t with
  |nil=>
   intro p e a4 _ _ _;have:p.length=l.length:=by rw[e];simp
   rw[K1,bS,if_neg (by omega),AJ];rfl
  |cons a t a7=>
   intro p e a4 h1 h2 h3;have aa:(p.length:Int)<l.length:=by rw[e];simp;omega
   have a8:a∈l:=by rw[e];simp
   have ac:okS (.mk a.f):=by rw[Q0.mk_f];exact hl.2 a a8
   rw[Cs,dp_f] at h1 h2;rw[VE,sz_f] at h3;have a7:=a7 (p++[a]) (by rw[e];simp)
   rw[show(((p++[a]).length:Nat):Int)=(p.length:Int)+1 by simp] at a7
   rw[K1,bS,if_pos aa,Yg e];simp only[omS,bS];rw[if_pos ⟨trivial,by simp;omega,by simp;omega⟩]
   simp only[List.nil_append];rw[if_pos ⟨by omega,by omega⟩,r_one n bs a4 a.f ac hb (by omega) (by omega),bS,Hr]
   by_cases hs:Ke n (bs.map (·.fa)) a4 a.f=0
   ·have af:¬((Ke n (bs.map (·.fa)) a4 a.f !=(0:Int))=true):=by simp[hs]
    have ag:¬(Ke n (bs.map (·.fa)) a4 a.f≠0):=by simp[hs]
    rw[if_neg af];simp only[if_neg ag];have rest:∀(a6:List Qw) (a3:List Str),a6.length+dpL a.f.fb≤1000→a3.length+(szL a.f.fb+szL t)≤100000→
      (VB n a6 a3 a.f.fb (a5++[(p.length:Int)])>>=fun a9=>if(a9.fE !=(0:Int))=true then some (.inr a9) else K1 bs a9.fG l a5 n ⟨[],[],0⟩ (wr ((p.length:Int)+(1:Int))))=
      some (if(if(bdB n (a6.map (·.fa)) (a5++[(p.length:Int)]) a.f.fb a3).2.2≠0 then bdB n (a6.map (·.fa)) (a5++[(p.length:Int)]) a.f.fb a3 else bdT n (bs.map (·.fa)) a5 t ((p.length:Int)+1) (bdB n (a6.map (·.fa)) (a5++[(p.length:Int)]) a.f.fb a3).1).2.2=0
       then .inl ((if(bdB n (a6.map (·.fa)) (a5++[(p.length:Int)]) a.f.fb a3).2.2≠0 then bdB n (a6.map (·.fa)) (a5++[(p.length:Int)]) a.f.fb a3 else bdT n (bs.map (·.fa)) a5 t ((p.length:Int)+1) (bdB n (a6.map (·.fa)) (a5++[(p.length:Int)]) a.f.fb a3).1).1,⟨[],[],0⟩)
       else .inr ⟨(if(bdB n (a6.map (·.fa)) (a5++[(p.length:Int)]) a.f.fb a3).2.2≠0 then bdB n (a6.map (·.fa)) (a5++[(p.length:Int)]) a.f.fb a3 else bdT n (bs.map (·.fa)) a5 t ((p.length:Int)+1) (bdB n (a6.map (·.fa)) (a5++[(p.length:Int)]) a.f.fb a3).1).1,
        (if(bdB n (a6.map (·.fa)) (a5++[(p.length:Int)]) a.f.fb a3).2.2≠0 then bdB n (a6.map (·.fa)) (a5++[(p.length:Int)]) a.f.fb a3 else bdT n (bs.map (·.fa)) a5 t ((p.length:Int)+1) (bdB n (a6.map (·.fa)) (a5++[(p.length:Int)]) a.f.fb a3).1).2.1,
        (if(bdB n (a6.map (·.fa)) (a5++[(p.length:Int)]) a.f.fb a3).2.2≠0 then bdB n (a6.map (·.fa)) (a5++[(p.length:Int)]) a.f.fb a3 else bdT n (bs.map (·.fa)) a5 t ((p.length:Int)+1) (bdB n (a6.map (·.fa)) (a5++[(p.length:Int)]) a.f.fb a3).1).2.2⟩):=by
     intro a6 a3 k1 k2;have hr:=ih a a8 a6 a3 (a5++[(p.length:Int)]) (by omega) (by simp;omega) (by omega)
     have ad:=Q0x n a.f.fb (hl.2 a a8).f (a6.map (·.fa)) (a5++[(p.length:Int)]) a3;rw[hr,bS];generalize bdB n (a6.map (·.fa)) (a5++[(p.length:Int)]) a.f.fb a3=B at ad ⊢;by_cases hB:B.2.2=0
     ·rw[if_neg (show ¬((B.2.2 !=(0:Int))=true) by simp[hB])]
      simp only[if_neg (show ¬(B.2.2≠0) by simp[hB])]
      rw[QM (by omega) aa (by omega)]
      exact a7 B.1 (by omega) (by omega) (by omega)
     ·rw[if_pos (show(B.2.2 !=(0:Int))=true by simp[hB])]
      simp only[if_pos (show B.2.2≠0 from hB)];rw[if_neg hB]
    by_cases hop:a.f.fOp=1
    ·rw[if_pos (show(a.f.fOp==(1:Int))=true by simp[hop])]
     simp only[if_pos hop];rw[if_pos ⟨trivial,by simp;omega,by simp;omega⟩,if_pos ⟨by simp,by simp;omega,by simp;omega⟩,if_pos ⟨trivial,by simp;omega,by simp;omega⟩,if_pos ⟨by simp,by simp;omega,by simp;omega⟩]
     simp only[bS];rw[Yg e,omS,bS];have:=rest (bs++[⟨a.f.fa,a.f.fy⟩]) (a4++[a.f.fa]) (by simp;omega) (by simp;omega)
     simp only[List.map_append,List.map_cons,List.map_nil] at this;exact this
    ·rw[if_neg (show ¬((a.f.fOp==(1:Int))=true) by simp[hop])]
     simp only[if_neg hop,bS];rw[Yg e,omS,bS];exact rest bs a4 (by omega) (by omega)
   ·rw[if_pos (show(Ke n (bs.map (·.fa)) a4 a.f !=(0:Int))=true by simp[hs])]
    simp only[if_pos (show Ke n (bs.map (·.fa)) a4 a.f≠0 from hs)];rw[if_neg hs]
 have h0:=key l [] rfl a4 ah ae ai;rw[VB];simp only[bS];rw[show((List.length ([]:List Q0):Nat):Int)=0 from rfl] at h0;rw[h0,bS,bdB_T];have hw:=Q0y n l hl (bs.map (·.fa)) a5 a4;rw[bdB_T] at hw;by_cases hz:(bdT n (bs.map (·.fa)) a5 l 0 a4).2.2=0
 ·rw[if_pos hz];simp only[bS];rw[hw.1 hz,hz]
 ·rw[if_neg hz]
theorem Q1k(n:Q9)(hb:okBs n.fc)(hl:okSs n.fb):G5 n=some (vd n):=by
 unfold G5 vd;rw[Q5s _ hl 41 (by omega) (by omega),bS]
 by_cases h1:dpL n.fb≤40
 ·obtain⟨k,ek,a5,a6,_⟩:=r_sizeS _ hl 2000 (by omega) (by omega)
  rw[if_neg (by omega),if_neg (by omega),bS,ek,bS]
  by_cases h2:2000<szL n.fb;·rw[if_pos (by omega),bS,if_pos rfl,if_pos (.inl h2)]
  ·rw[if_neg (by omega),bS]
   by_cases h3:128<n.fc.length;·rw[if_pos (by omega),bS,if_pos rfl,if_pos (.inr h3)]
   ·rw[if_neg (by omega),bS,if_neg (by simp),r_bufs _ hb.1,bS,if_neg (show ¬(2000<szL n.fb∨128<n.fc.length) by omega)]
    by_cases h4:XK [] n.fc=0;·rw[if_neg (by simp[h4]),if_neg (by simp[h4]),r_body n hb _ hl [] [] [] (show 0+_≤1000 by omega) (show 0+_≤1000 by omega) (show 0+_≤100000 by omega),bS];rfl
    ·rw[if_pos (by simp[h4]),if_pos (by simp[h4])]
 ·rw[if_pos (by omega),if_pos (by omega)]
end Go.Proofs.YtkgphhemcglgnaaGreatDoor
end
section
namespace HY
open Go Go.RowKit
section
variable {m : Nat → Lc} {H : HV} {B : Nat → Prop} {H0 : HV} {gl : Nat → AV} {hp : Nat → Option Box} {nx : Nat} {w W : World} {id ver sz : Nat} {xs ys : List AV}
theorem IL(a4:hp id=some (.own ver sz xs)):Q8 (updF hp id (some (.own ver sz ys))) m=Q8 hp m:=by
 have hx:∀i,i≠id→updF hp id (some (.own ver sz ys)) i=hp i:=fun i hi=>Qq _ _ hi
 unfold Q8;congr 1<;>funext i
 ·funext v;by_cases hi:i=id;·subst hi;rw[Qh,a4];simp[Box.ver?]
  ·rw[hx i hi]
 ·funext v;by_cases hi:i=id;·subst hi;rw[Qh,a4];rfl
  ·rw[hx i hi]
 ·by_cases hi:i=id;·subst hi;rw[Qh,a4]
  ·rw[hx i hi]
structure PutOk (H:HV) (w W:World) (l:Lc) (ys:List AV):Prop where
 os:W.os=w.os
 tape:W.tape=w.tape
 out:W.output=w.output
 size:w.heap.size≤W.heap.size
 oth:∀k,k<w.heap.size→k≠l.g→W.heap[k]? =w.heap[k]?
 row:∀C e,w.heap[l.g]? =some (.cells C e (0,0))→∃C',W.heap[l.g]? =some (.cells C' e (0,0))∧C'.size=C.size∧l.base+(ys.flatMap AV.cells).length≤C.size∧
  ∀j c,(ys.flatMap AV.cells)[j]? =some c→∃v,C'[l.base+j]? =some v∧v.oneCell'=true∧RelI H c v
theorem AO(hh:RelH m H B H0 gl hp nx w)(a5:hp id=some (.own ver sz xs))(hn:id<nx)(a3:0< (m id).size)(ag:∀y∈ys,y.cells.length=sz)(hp':PutOk H w W (m id) ys):
  Qd B w W∧RelH m H B H0 gl (updF hp id (some (.own ver sz ys))) nx W:=by
 obtain⟨hb,ac,a6⟩:=hh.sepR id _ a5 a3;obtain⟨af,_,hc⟩:=hh.box id _ a5;obtain⟨C,e,h1,h2,h3,h4⟩:=(hc.resolve_left fun h=>by omega).2
 obtain⟨C',g1,g2,g3,g4⟩:=hp'.row C e h1;have hE:=IL (m:=m) (ys:=ys) a5;have a4:=hp'.oth;have a7:∀(k:Nat) (C:Array Value) (e:TypeId) (fr:Nat×Nat),w.heap[k]? =some (Obj.cells C e fr)→∃(C':Array Value) (a9:Nat×Nat),W.heap[k]? =some (Obj.cells C' e a9)∧C'.size=C.size:=fun k C2 e2 fr hk=>by
  have ab:k<w.heap.size:=by
   rcases Nat.lt_or_ge k w.heap.size with h | h
   ·exact h
   ·rw[Array.getElem?_eq_none h] at hk;cases hk
  by_cases hkg:k=(m id).g
  ·subst hkg;rw[h1] at hk;cases hk;exact⟨_,_,g1,g2⟩
  ·rw[a4 k ab hkg];exact⟨_,_,hk,rfl⟩
 refine⟨⟨hp'.os,hp'.tape,hp'.out,hp'.size,fun k hk=>a4 k (hh.low k hk) fun e=>hb (e▸hk),a7⟩,?_⟩
 have:=hh.oneR (id:=id) (nx':=nx) (b:=.own ver sz ys) (l:=m id) (w':=W) (fun k hk hr=>a4 k hk (hr a3)) hp'.size (by rw[U1,hE];exact .refl _) (fun _=>⟨hb,Nat.lt_of_lt_of_le ac hp'.size,a6⟩)
  (fun ah b' ad aa hr _ e=>ad (hh.injR ah id b' _ aa a5 hr a3 e)) hn (Nat.le_refl _) ⟨af,ag,.inr ⟨a3,C',e,g1,by rw[g2];exact h2,by rw[g2];exact g3,g4⟩⟩ (fun ver cs e=>by cases e)
 rw[U1] at this;exact this
end
end HY
end
section
namespace Go.Proofs
open Go.Shelf
def Tryz.lays190_ren:Go.Shelf.Ren:=⟨fun | 190=>184 | 125=>218 | 258=>217 | 128=>267 | 129=>268 | 302=>258 | 303=>259 | 304=>260 | 305=>261 | 306=>262 | 307=>263 | 308=>264 | 309=>265 | 310=>266 | 333=>322 | 329=>323 | 330=>324 | 334=>325 | 335=>326 | 336=>327 | 344=>371 | n=>n,fun | 31=>85 | 9=>9 | 3=>3 | 46=>253 | 0=>0 | 51=>292 | 53=>254 | 4=>4 | 183=>285 | 182=>284 | 131=>183 | 5=>5 | 218=>331 | 222=>335 | 228=>366 | 229=>367 | n=>n,fun | n=>n⟩
theorem Tryz.lays190:Go.Proofs.Lays.n190 Tryz.prog Tryz.lays190_ren:= {
 mixed:=by kernel_rfl
 f125:=Tryz.func218.trans (congrArg some (by kernel_rfl))
 f128:=Tryz.func267.trans (congrArg some (by kernel_rfl))
 f129:=Tryz.func268.trans (congrArg some (by kernel_rfl))
 f190:=Tryz.func184.trans (congrArg some (by kernel_rfl))
 f258:=Tryz.func217.trans (congrArg some (by kernel_rfl))
 f302:=Tryz.func258.trans (congrArg some (by kernel_rfl))
 f303:=Tryz.func259.trans (congrArg some (by kernel_rfl))
 f304:=Tryz.func260.trans (congrArg some (by kernel_rfl))
 f305:=Tryz.func261.trans (congrArg some (by kernel_rfl))
 f306:=Tryz.func262.trans (congrArg some (by kernel_rfl))
 f307:=Tryz.func263.trans (congrArg some (by kernel_rfl))
 f308:=Tryz.func264.trans (congrArg some (by kernel_rfl))
 f309:=Tryz.func265.trans (congrArg some (by kernel_rfl))
 f310:=Tryz.func266.trans (congrArg some (by kernel_rfl))
 f329:=Tryz.func323.trans (congrArg some (by kernel_rfl))
 f330:=Tryz.func324.trans (congrArg some (by kernel_rfl))
 f333:=Tryz.func322.trans (congrArg some (by kernel_rfl))
 f334:=Tryz.func325.trans (congrArg some (by kernel_rfl))
 f335:=Tryz.func326.trans (congrArg some (by kernel_rfl))
 f336:=Tryz.func327.trans (congrArg some (by kernel_rfl))
 f344:=Tryz.func371.trans (congrArg some (by kernel_rfl))
 t0:=Tryz.underlying0
 a0:=Tryz.isAgg0
 z0:=Tryz.sizeOf0
 v0:=Tryz.zeroValue0
 t3:=Tryz.underlying3
 a3:=Tryz.isAgg3
 z3:=Tryz.sizeOf3
 v3:=Tryz.zeroValue3
 t4:=Tryz.underlying4
 a4:=Tryz.isAgg4
 z4:=Tryz.sizeOf4
 v4:=Tryz.zeroValue4
 t5:=Tryz.underlying5
 a5:=Tryz.isAgg5
 z5:=Tryz.sizeOf5
 v5:=Tryz.zeroValue5
 t9:=Tryz.underlying9
 a9:=Tryz.isAgg9
 z9:=Tryz.sizeOf9
 v9:=Tryz.zeroValue9
 t31:=Tryz.underlying85
 a31:=Tryz.isAgg85
 z31:=Tryz.sizeOf85
 v31:=Tryz.zeroValue85
 t46:=Tryz.underlying253
 a46:=Tryz.isAgg253
 z46:=Tryz.sizeOf253
 v46:=Tryz.zeroValue253
 t51:=Tryz.underlying292
 a51:=Tryz.isAgg292
 z51:=Tryz.sizeOf292
 v51:=Tryz.zeroValue292
 t53:=Tryz.underlying254
 a53:=Tryz.isAgg254
 z53:=Tryz.sizeOf254
 v53:=Tryz.zeroValue254
 t131:=Tryz.underlying183
 a131:=Tryz.isAgg183
 z131:=Tryz.sizeOf183
 v131:=Tryz.zeroValue183
 t182:=Tryz.underlying284
 a182:=Tryz.isAgg284
 z182:=Tryz.sizeOf284
 v182:=Tryz.zeroValue284
 t183:=Tryz.underlying285
 a183:=Tryz.isAgg285
 z183:=Tryz.sizeOf285
 v183:=Tryz.zeroValue285
 t218:=Tryz.underlying331
 a218:=Tryz.isAgg331
 z218:=Tryz.sizeOf331
 v218:=Tryz.zeroValue331
 t222:=Tryz.underlying335
 a222:=Tryz.isAgg335
 z222:=Tryz.sizeOf335
 v222:=Tryz.zeroValue335
 t228:=Tryz.underlying366
 a228:=Tryz.isAgg366
 z228:=Tryz.sizeOf366
 v228:=Tryz.zeroValue366
 t229:=Tryz.underlying367
 a229:=Tryz.isAgg367
 z229:=Tryz.sizeOf367
 v229:=Tryz.zeroValue367}
open Go.Sort Go.RowKit in
theorem Tryz.slices_Sort_string(a3 off cap:Nat)(ss:List (List UInt8))(w:World)(hH:Holds encStr w a3 off ss.toArray)(a4:a3<w.heap.size)(a6:ss.length<4611686018427387904):
  Calls Tryz.prog 184 #[.slice (some ⟨a3,off,none⟩) ss.length cap] w fun e w'=>
   e= .returned (.tuple #[])∧∃n os,w'=grow (putRow encStr (Sort.ahead w n) a3 off (ss.mergeSort fun x y=>decide (x≤y)).toArray) os:=Any.slices_Sort_string Tryz.lays190 a3 off cap ss w hH a4 a6
def Tryz.lays194_ren:Go.Shelf.Ren:=⟨fun | 194=>185 | n=>n,fun | 31=>85 | 9=>9 | 3=>3 | 4=>4 | 0=>0 | n=>n,fun | n=>n⟩
theorem Tryz.lays194:Go.Proofs.Lays.n194 Tryz.prog Tryz.lays194_ren:= {
 mixed:=by kernel_rfl
 f194:=Tryz.func185.trans (congrArg some (by kernel_rfl))
 t0:=Tryz.underlying0
 a0:=Tryz.isAgg0
 z0:=Tryz.sizeOf0
 v0:=Tryz.zeroValue0
 t3:=Tryz.underlying3
 a3:=Tryz.isAgg3
 z3:=Tryz.sizeOf3
 v3:=Tryz.zeroValue3
 t4:=Tryz.underlying4
 a4:=Tryz.isAgg4
 z4:=Tryz.sizeOf4
 v4:=Tryz.zeroValue4
 t9:=Tryz.underlying9
 a9:=Tryz.isAgg9
 z9:=Tryz.sizeOf9
 v9:=Tryz.zeroValue9
 t31:=Tryz.underlying85
 a31:=Tryz.isAgg85
 z31:=Tryz.sizeOf85
 v31:=Tryz.zeroValue85}
open Go.RowKit Go.Lib Go.Sort in
theorem Tryz.slices_Compact_string(a3 off cap:Nat)(zs:List (List UInt8))(w:World)(hH:Holds encStr w a3 off zs.toArray)(a5:zs.length≤9223372036854775807)(a4:zs.length≤cap):
  Calls Tryz.prog 185 #[.slice (some ⟨a3,off,none⟩) zs.length cap] w fun e w'=>e= .returned (.slice (some ⟨a3,off,none⟩) (Lib.compact zs).length cap)∧∃q,w'=putRow encStr (Sort.ahead w q) a3 off (Lib.compact zs++List.replicate (zs.length - (Lib.compact zs).length) []).toArray:=Any.slices_Compact_string Tryz.lays194 a3 off cap zs w hH a5 a4
open Go.RowKit Go.Lib Go.Sort in
theorem Tryz.slices_Compact_string_empty(a:Option Addr)(cap:Nat)(w:World):
  Calls Tryz.prog 185 #[.slice a 0 cap] w fun e w'=>e= .returned (.slice a 0 cap)∧w'=w:=Any.slices_Compact_string_empty Tryz.lays194 a cap w
open Go.RowKit Go.Sort in
theorem Tryz.slices_Sort_string_none(p:Option Addr)(cap:Nat)(w:World):
  Calls Tryz.prog 184 #[.slice p 0 cap] w fun e w'=>e= .returned (.tuple #[])∧w'=w:=Any.slices_Sort_string_none Tryz.lays190 p cap w
end Go.Proofs
end
section
namespace Go.Proofs.YtkgphhemcglgnaaGreatDoor
open Go HY Go.RowKit Go.Sort Go.Proofs
def srt(l:List Str):List Str:=l.mergeSort fun x y=>decide (x≤y)
def cpt(l:List Str):List Str:=Lib.compact l
theorem Rw(l:List Str):(srt l).length=l.length:=List.length_mergeSort ..
theorem Q10(l:List Str):(cpt l).length≤l.length:=by
 unfold cpt Lib.compact Lib.compactUpTo;rw[List.length_map];exact Nat.le_trans (List.length_filter_le _ _) (by simp)
theorem cpt_mem(l:List Str)(s:Str):s∈cpt l↔s∈l:=by
 unfold cpt Lib.compact;have key:∀m,m≤l.length→(s∈Lib.compactUpTo l.toArray m↔∃j,j<m∧l.toArray[j]! =s):=by
  intro m
  induction m with
  |zero=>intro _;simp[Lib.compactUpTo]
  |succ m ih=>
   intro hm;have ih:=ih (by omega)
   rw[Lib.compactUpTo_succ,List.mem_append,ih];constructor
   ·rintro(⟨j,hj,e⟩ | h)
    ·exact⟨j,by omega,e⟩
    ·split at h;·rw[List.mem_singleton] at h;exact⟨m,by omega,h.symm⟩
     ·simp at h
   ·rintro⟨j,hj,e⟩;by_cases hjm:j<m;·exact .inl ⟨j,hjm,e⟩
    ·have:j=m:=by omega
     subst this;by_cases hk:Lib.keeps l.toArray j=true;·right;rw[if_pos hk];simp[e]
     ·left;have h0:¬(j=0∨l.toArray[j]! ≠l.toArray[j - 1]!):=by simpa[Lib.keeps] using hk
      have h1:j≠0∧l.toArray[j]! =l.toArray[j - 1]! :=⟨fun h=>h0 (.inl h),Classical.byContradiction fun h=>h0 (.inr h)⟩
      exact⟨j - 1,by omega,by rw[← h1.2];exact e⟩
 rw[key _ (Nat.le_refl _)];constructor
 ·rintro⟨j,hj,e⟩;rw[getElem!_pos l.toArray j (by simpa using hj)] at e
  rw[← e];simp
 ·intro h;obtain⟨j,hj,e⟩:=List.getElem_of_mem h;exact⟨j,hj,by rw[getElem!_pos l.toArray j (by simpa using hj)];simpa using e⟩
theorem srt_mem(l:List Str)(s:Str):s∈srt l↔s∈l:=List.mem_mergeSort
theorem Pr(l:List Str):(l.map eS).flatMap AV.cells=l.map eS:=by
 induction l with
 |nil=>rfl
 |cons a l ih=>rw[List.map_cons,List.flatMap_cons,ih];rfl
section
variable {m : Nat → Lc} {H : HV} {B : Nat → Prop} {H0 : HV} {gl : Nat → AV} {hp : Nat → Option Box} {nx : Nat} {w : World} {id ver : Nat} {l l' : List Str}
theorem holdsS(hh:RelH m H B H0 gl hp nx w)(a3:hp id=some (.own ver 1 (l.map eS)))(a5:0< (m id).size):Holds encStr w (m id).g (m id).base l.toArray:=by
 obtain⟨_,_,hc⟩:=hh.box id _ a3;obtain⟨C,e,h1,h2,h3,h4⟩:=(hc.resolve_left fun h=>by omega).2
 intro j hj;simp only[List.size_toArray] at hj;obtain⟨u,g1,g2,g3⟩:=h4 j (eS l[j]) (by rw[Pr,List.getElem?_map,List.getElem?_eq_getElem hj];rfl)
 have:u= .string ⟨(l[j]).toArray⟩:=by cases g3;rfl
 subst this;rw[getElem!_pos l.toArray j (by simpa using hj)]
 simp[World.cell?,World.frozen?,h1,g1]
theorem putS(hh:RelH m H B H0 gl hp nx w)(a4:hp id=some (.own ver 1 (l.map eS)))(a8:0< (m id).size){z:List Str}(hz:l'.length≤z.length)(ai:z.length=l.length)(ad:∀j (hj:j<l'.length),z[j]? =some l'[j])(n:Nat)(os:Array Obj):
  PutOk H w (grow (putRow encStr (Sort.ahead w n) (m id).g (m id).base z.toArray) os) (m id) (l'.map eS):=by
 obtain⟨hb,aa,ac⟩:=hh.sepR id _ a4 a8;have a3:∀k,k<w.heap.size→(grow (putRow encStr (Sort.ahead w n) (m id).g (m id).base z.toArray) os).heap[k]? =if(m id).g=k then(w.heap[k]?).map (onCells (putCells encStr (m id).base z.toArray)) else w.heap[k]? :=fun k hk=>by
  simp only[grow,putRow,mapBlock,ahead];rw[Array.getElem?_append_left (by simpa using hk),Array.getElem?_modify]
  rfl
 refine⟨rfl,rfl,rfl,by simp[grow,putRow,mapBlock,ahead],fun k hk ab=>by rw[a3 k hk,if_neg (Ne.symm ab)],fun C e h1=> ?_⟩
 obtain⟨_,_,hc⟩:=hh.box id _ a4;obtain⟨C',e',q1,q2,h3,h4⟩:=(hc.resolve_left fun h=>by omega).2
 rw[h1] at q1;cases q1;rw[Pr,List.length_map] at h3;refine⟨putCells encStr (m id).base z.toArray C,by rw[a3 _ aa,if_pos rfl,h1];rfl,by simp[putCells],by rw[Pr,List.length_map];omega,fun j c hj=> ?_⟩
 rw[Pr] at hj;have a6:j<l'.length:=by have:=(List.getElem?_eq_some_iff.1 hj).1;simpa using this
 rw[List.getElem?_map,List.getElem?_eq_getElem a6] at hj;cases hj;refine⟨.string ⟨(l'[j]).toArray⟩,?_,rfl,.str _⟩;simp only[putCells,Array.getElem?_mapIdx];rw[Array.getElem?_eq_getElem (by omega)]
 simp only[Option.map_some];rw[if_pos (by simp;omega),Nat.add_sub_cancel_left]
 have a9:=ad j a6;have a7:j<z.length:=by omega
 rw[getElem!_pos z.toArray j (by simpa using a7)]
 rw[List.getElem?_eq_getElem a7] at a9;simp only[List.getElem_toArray];rw[Option.some.inj a9]
end
noncomputable def wfR:WF:=fun f hs args hp nx K=>match Nat.beq f 184 with
 |true=>match args with
  | [.ow id ver 1 len]=>∃l:List Str,(lkb hp id=some (.own ver 1 (l.map eS))∧len=l.length∧l.length<4611686018427387904)∧K (.tup []) (pt hp id (.own ver 1 ((srt l).map eS))) nx
  |_=>False
 |false=>match Nat.beq f 185 with
  |true=>match args with
   | [.ow id ver 1 len]=>∃l:List Str,(lkb hp id=some (.own ver 1 (l.map eS))∧len=l.length∧l.length<4611686018427387904)∧K (.ow id ver 1 (List.length (cpt l))) (pt hp id (.own ver 1 ((cpt l).map eS))) nx
   |_=>False
  |false=>wf0 f hs args hp nx K
theorem Rp{vs:Array Value}(h:1=vs.size):∃v,vs= #[v]:=by
 rcases vs with⟨_ | ⟨a,_ | ⟨b,r⟩⟩⟩<;>simp at h
 exact⟨a,rfl⟩
theorem wfR_ok:WF.Ok Tryz.prog gls wfR:=fun f hs args hp nx K h=>by
 unfold wfR at h;split at h
 ·rename_i hf;split at h
  ·rename_i id ver len;obtain⟨l,⟨h1,h2,h3⟩,hK⟩:=h;have ad:f=184:=Nat.eq_of_beq_eq_true hf;subst ad;intro m H B H0 rest w vs hh hl a6 a7;obtain⟨v0,rfl⟩:=Rp hl;obtain⟨oa,cap,rfl,_,aj,_,_,a5⟩:=(a6 0 _ v0 rfl rfl).ow_inv;have hn:id<nx:=by
    rcases Nat.lt_or_ge id nx with h | h
    ·exact h
    ·rw[hh.fresh id h] at h1;cases h1
   have aa:Nc Tryz.prog 184:=Ko (by kernel_rfl)
   have a5:=a5 (m id) (JY h1 rfl);have a9:∀(w':World) (e:Ending),e= .returned (.tuple #[])→(Qd B w w'∧RelH m H B H0 gls (updF (lkb hp) id (some (.own ver 1 ((srt l).map eS)))) nx w')→∃v m' H' r hp' nx',K r hp' nx'∧e= .returned v∧Qd B w w'∧RelH m' H' B H0 gls (lkb hp') nx' w'∧RV H' (Q8 (lkb hp') m') r v∧∀p∈rest,RV H' (Q8 (lkb hp') m') p.1 p.2:=fun w' e he ⟨hb,hr⟩=>by
    refine⟨_,m,H,_,_,_,hK,he,hb,by rw[QI];exact hr,.imm _ _ (.tup _ _ rfl (fun j c v hj=>by simp at hj)),fun p af=> ?_⟩
    rw[QI,IL h1];exact a7 p af
   rcases a5 with⟨hz,hc⟩ | ⟨a3,ha,b1⟩
   ·have ae:l=[]:=by
     cases l with
     |nil=>rfl
     |cons _ _=>simp at h2;omega
    subst ae;simp at h2;subst h2;refine .inl ⟨aa,(Tryz.slices_Sort_string_none oa cap w).mono fun e w' ⟨he,hw⟩=> ?_⟩
    subst hw;refine a9 _ _ he ⟨.refl _ _,?_⟩;have:updF (lkb hp) id (some (.own ver 1 ((srt []).map eS)))=lkb hp:=by
     funext k;by_cases hk:k=id;·subst hk;rw[Qh,h1];simp[srt]
     ·rw[Qq _ _ hk]
    rw[this];exact hh
   ·subst ha;subst h2;have hH:=holdsS hh h1 a3;have ax:=(hh.sepR id _ h1 a3).2.1;refine .inl ⟨aa,(Tryz.slices_Sort_string (m id).g (m id).base cap l w hH ax h3).mono fun e w' ⟨he,n,os,hw⟩=> ?_⟩
    subst hw;exact a9 _ _ he (AO hh h1 hn a3 (fun y hy=>by obtain⟨s,_,rfl⟩:=List.mem_map.1 hy;rfl) (putS (l':=srt l) hh h1 a3 (Nat.le_refl _) (Rw l) (fun j hj=>List.getElem?_eq_getElem hj) n os))
  ·cases h
 ·split at h
  ·rename_i hf;split at h
   ·rename_i id ver len;obtain⟨l,⟨h1,h2,h3⟩,hK⟩:=h;have ad:f=185:=Nat.eq_of_beq_eq_true hf;subst ad;intro m H B H0 rest w vs hh hl a6 a7;obtain⟨v0,rfl⟩:=Rp hl;obtain⟨oa,cap,rfl,ap,aj,ar,az,ab⟩:=(a6 0 _ v0 rfl rfl).ow_inv;have hn:id<nx:=by
     rcases Nat.lt_or_ge id nx with h | h
     ·exact h
     ·rw[hh.fresh id h] at h1;cases h1
    have aa:Nc Tryz.prog 185:=Ko (by kernel_rfl)
    have a5:=ab (m id) (JY h1 rfl);have aq:=Q10 l;have a9:∀(w':World) (e:Ending),e= .returned (.slice oa (List.length (cpt l)) cap)→(Qd B w w'∧RelH m H B H0 gls (updF (lkb hp) id (some (.own ver 1 ((cpt l).map eS)))) nx w')→∃v m' H' r hp' nx',K r hp' nx'∧e= .returned v∧Qd B w w'∧RelH m' H' B H0 gls (lkb hp') nx' w'∧RV H' (Q8 (lkb hp') m') r v∧∀p∈rest,RV H' (Q8 (lkb hp') m') p.1 p.2:=fun w' e he ⟨hb,hr⟩=>by
     refine⟨_,m,H,_,_,_,hK,he,hb,by rw[QI];exact hr,?_,fun p af=> ?_⟩
     ·rw[QI,IL h1];exact .ow _ _ _ _ _ _ ap (by omega) ar az ab
     ·rw[QI,IL h1];exact a7 p af
    rcases a5 with⟨hz,hc⟩ | ⟨a3,ha,b1⟩
    ·have ae:l=[]:=by
      cases l with
      |nil=>rfl
      |cons _ _=>simp at h2;omega
     subst ae;simp at h2;subst h2;refine .inl ⟨aa,(Tryz.slices_Compact_string_empty oa cap w).mono fun e w' ⟨he,hw⟩=> ?_⟩
     subst hw;refine a9 _ _ he ⟨.refl _ _,?_⟩;have:updF (lkb hp) id (some (.own ver 1 ((cpt []).map eS)))=lkb hp:=by
      funext k;by_cases hk:k=id;·subst hk;rw[Qh,h1];rfl
      ·rw[Qq _ _ hk]
     rw[this];exact hh
    ·subst ha;subst h2;have hH:=holdsS hh h1 a3;refine .inl ⟨aa,(Tryz.slices_Compact_string (m id).g (m id).base cap l w hH (by omega) aj).mono fun e w' ⟨he,q,hw⟩=> ?_⟩
     subst hw;have b3:(Lib.compact l++List.replicate (l.length - (Lib.compact l).length) []).length=l.length:=by
      have:(Lib.compact l).length≤l.length:=aq;simp;omega
     have hp:=putS (l':=cpt l) (z:=Lib.compact l++List.replicate (l.length - (Lib.compact l).length) []) hh h1 a3 (by simp[cpt]) b3 (fun j hj=>by
      have ai:j< (Lib.compact l).length:=hj;rw[List.getElem?_append_left ai];exact List.getElem?_eq_getElem ai) q #[]
     rw[grow_empty] at hp;exact a9 _ _ he (AO hh h1 hn a3 (fun y hy=>by obtain⟨s,_,rfl⟩:=List.mem_map.1 hy;rfl) hp)
   ·cases h
  ·exact DP f hs args hp nx K h
end Go.Proofs.YtkgphhemcglgnaaGreatDoor
end
section
namespace Go.Proofs.YtkgphhemcglgnaaGreatDoor
open Go HY
set_option maxRecDepth 1000000
noncomputable def lcR:Code:=match Cu 8 (rng Tryz.prog 101 4).2.2 with | some c=>c | none=>.skip
noncomputable def WRR(hs:Zg)(ks:List Nat)(kb:List KB)(kx:List Nat)(kbx:List KB)(alts:List Alt)(vs:List AV)(bs:List Box):Prop:=
 A5 Tryz.prog gls ch0 wf0 hs [.ptr 0 0 0] 2000 36 lcR ks kb kx kbx alts vs bs (Nxt Tryz.prog gls [.ptr 0 0 0] 36 lcR ks kx alts)
abbrev LR(vs:List AV)(bs:List Box)(alts:List Alt):Prop:=X7 Tryz.prog gls [.ptr 0 0 0] 36 lcR [3,19,20,21] vs bs [3] alts
theorem LpR{φ:Prop}{hs:Zg}{kb:List KB}{kbx:List KB}{alts:List Alt}{vs:List AV}{bs:List Box}(h:φ)(a3:QT lcR=true:=by kernel_rfl)(e:φ=WRR hs [3,19,20,21] kb [3] kbx alts vs bs:=by kernel_rfl):LR vs bs alts:=
 X7.step Dj DP CR a3 (show WRR hs [3,19,20,21] kb [3] kbx alts vs bs from e▸h)
def R6(s:Unit)(u:List Q7×Int×Int)(o:List Str):List Alt:=[⟨fun(x:List Str)=>x=o,.exit 2,fun x=>[.ptr 0 0 0],fun x=>[.cells 0 [.ow 1 0 1 (List.length x)],.own 0 1 (List.map eS x)]⟩]
def A_rd(s:Unit)(u:Unit)(o:List Str):List Alt:=[⟨fun(x:List Str)=>x=o,.normal,fun x=>[.ptr 0 0 0],fun x=>[.cells 0 [.ow 1 0 1 (List.length x)],.own 0 1 (List.map eS x)]⟩]
def QB(l:List Q7):List Str:=(l.filter fun i=> !(i.fu==[])).map Q7.fu
def KZ(e:Q1):List Str:=(if e.fOp=3 then [e.fa] else [])++QB e.fe
def rdN(x:Q1):List Str:=(Qy (.mk x)).flatMap fun e=>KZ e.f
def NxL(a3:List Q7)(o:List Str)(n i:Int)(l:List Str):Prop:=
 Nxt Tryz.prog gls [.ptr 0 0 0] 36 lcR [3,19,20,21] [3] (R6 () (a3,n,i) o) [.ptr 0 0 0,.sl 4 (a3.map Q2),.int .i64 n,.int .i64 i] [.cells 0 [.ow 1 0 1 (List.length l)],.own 0 1 (List.map eS l)]
theorem P_rdL(a3:List Q7)(hn:a3.length≤1099511627776):∀(t p:List Q7) (out:List Str) (u:List Q7×Int×Int),a3=p++t→out.length+t.length≤1099511627776→
    LR [.ptr 0 0 0,.sl 4 (a3.map Q2),.int .i64 (List.length a3:Int),.int .i64 (List.length p:Int)] [.cells 0 [.ow 1 0 1 (List.length out)],.own 0 1 (List.map eS out)] (R6 () u (out++QB t))
  |t,p,out,u,hi,ho=>by
    have nx:∀(x:Q7) (t':List Q7) (l:List Str),t=x::t'→l++QB t'=out++QB t→l.length+t'.length≤1099511627776→∀k m,k=List.length l→m=List.map eS l→
        Nxt Tryz.prog gls [.ptr 0 0 0] 36 lcR [3,19,20,21] [3] (R6 () u (out++QB t)) [.ptr 0 0 0,.sl 4 (a3.map Q2),.int .i64 (List.length a3:Int),.int .i64 (wr ((List.length p:Int)+1))] [.cells 0 [.ow 1 0 1 k],.own 0 1 m]:=fun x t' l ht hl hb k m hk hm=>by
      subst hk;subst hm;have a9:p.length<a3.length:=by rw[hi,ht];simp
      have:=P_rdL a3 hn t' (p++[x]) l u (by rw[hi,ht];simp) hb
      rw[hl] at this;rw[show wr ((List.length p:Int)+1)=((List.length (p++[x]):Nat):Int) by rw[ZB (by omega)];simp]
      exact⟨_,_,.refl _,.refl _,this⟩
    exact LpR (φ:=(decide ((List.length p:Int)< (List.length a3:Int))=true→∃x:Q7,((0:Int)≤(List.length p:Int)∧(a3.map Q2)[Int.toNat (List.length p:Int)]? =some (Q2 x))∧
        (((!x.fu==[])=true→(List.length out=List.length (List.map eS out)∧(List.length out+1)*16≤140737488355328∧List.length out+1≤9223372036854775807)∧
          ∃l:List Str,(List.map eS l=List.map eS out++[AV.str x.fu]∧List.length l=List.length out+1)∧NxL a3 (out++QB t) (List.length a3:Int) (wr ((List.length p:Int)+1)) l)∧
         ((!x.fu==[])=false→NxL a3 (out++QB t) (List.length a3:Int) (wr ((List.length p:Int)+1)) out)))∧
        (decide ((List.length p:Int)< (List.length a3:Int))=false→Out (R6 () u (out++QB t)) (.exit 2) [.ptr 0 0 0] [.cells 0 [.ow 1 0 1 (List.length out)],.own 0 1 (List.map eS out)]))
      (hs:=[(22,.split),(23,.e Q2),(27,.split),(32,.z [{slot:=28,own:=1}] (some (.n eS 32 (some .a))))]) (kb:=[{slot:=3},{slot:=3,path:=[0],own:=1}]) (kbx:=[{slot:=3},{slot:=3,path:=[0],own:=1}])
      ⟨fun h=>by
        have h:=of_decide_eq_true h;cases t with
        |nil=>rw[hi] at h;simp at h
        |cons x t'=>
          simp only[List.length_cons] at ho;refine⟨x,⟨by omega,?_⟩,fun hx=>⟨⟨by simp,by omega,by omega⟩,out++[x.fu],⟨by simp[eS],by simp⟩,nx x t' _ rfl ?_ (by simp;omega) _ _ rfl rfl⟩,fun hx=>nx x t' out rfl ?_ (by omega) _ _ rfl rfl⟩
          · rw[List.getElem?_map,hi,Int.toNat_natCast,List.getElem?_append_right (Nat.le_refl _)];simp
          · rw[show QB (x::t')=x.fu::QB t' by unfold QB;rw[List.filter_cons,if_pos hx];rfl];simp
          · rw[show QB (x::t')=QB t' by unfold QB;rw[List.filter_cons,if_neg (by rw[hx];simp)]],
      fun h=>by
        have h:=of_decide_eq_false h;cases t with
        |cons x t'=>rw[hi] at h;simp at h;omega
        |nil=>exact .here _ (by simp[QB]) (.refl _) (.refl _)⟩
 termination_by t=>t.length
 decreasing_by subst ht;simp
def NxG(o:List Str)(t:List Qa)(l:List Str):Prop:=
 NxtR Tryz.prog gls [] 36 (rng Tryz.prog 101 (3+1)).1 (rng Tryz.prog 101 (3+1)).2.1 (rng Tryz.prog 101 (3+1)).2.2 [3] [.ptr 0 0 0] (A_rd () () o) (t.map fun y=>[Q5 y.f]) [.cells 0 [.ow 1 0 1 (List.length l)],.own 0 1 (List.map eS l)]
def TL(e:Qa)(t:List Qa)(o l:List Str):Prop:=
 ∃n:Int,n=(List.length (List.map Q2 e.f.fe):Int)∧∃(u:List Q7×Int×Int) (o1:List Str),
  LR [.ptr 0 0 0,.sl 4 (List.map Q2 e.f.fe),.int .i64 n,.int .i64 (0:Int)] [.cells 0 [.ow 1 0 1 (List.length l)],.own 0 1 (List.map eS l)] (R6 () u o1)∧∀x:List Str,x=o1→LeVs [.ptr 0 0 0] [.ptr 0 0 0]∧NxG o t x
theorem P_rd:∀(l:List Qa) (out:List Str),(∀e∈l,e.f.fe.length≤1099511627776)→out.length+((l.map fun e=>e.f.fe.length+1).sum)≤1099511627776→
    RG 101 3 36 [3] [.ptr 0 0 0] (A_rd () () (out++l.flatMap fun e=>KZ e.f)) (l.map fun y=>[Q5 y.f]) [.cells 0 [.ow 1 0 1 (List.length out)],.own 0 1 (List.map eS out)]
  | [],out,_,_=>Rg0 rfl (.here _ (by simp) (.refl _) (.refl _))
  |e::t,out,hi,ho=>by
    have a4:∀l:List Q7,(QB l).length≤l.length:=fun l=>by unfold QB;rw[List.length_map];exact List.length_filter_le _ _
    simp only[List.map_cons,List.sum_cons] at ho;have a5:=hi e (by simp)
    have a9:=a4 e.f.fe;have tl:∀l:List Str,l++QB e.f.fe=out++KZ e.f→l.length≤out.length+1→TL e t (out++(e::t).flatMap fun e=>KZ e.f) l:=fun l hl aa=>by
      have a7:(l++QB e.f.fe).length≤out.length+1+e.f.fe.length:=by rw[List.length_append];omega
      refine⟨_,rfl,(e.f.fe,0,0),l++QB e.f.fe,by rw[List.length_map];exact P_rdL e.f.fe a5 e.f.fe [] l _ rfl (by omega),fun x hx=>⟨.refl _,?_⟩⟩
      subst hx;have:=P_rd t (l++QB e.f.fe) (fun a ha=>hi a (by simp[ha])) (by omega)
      rw[hl,List.append_assoc] at this;refine⟨_,.refl _,?_⟩;rw[List.flatMap_cons,← hl] at*;exact this
    have n1:e.f.fOp=3→(out++[e.f.fa])++QB e.f.fe=out++KZ e.f:=fun h=>by simp[KZ,h]
    have n0:¬e.f.fOp=3→out++QB e.f.fe=out++KZ e.f:=fun h=>by simp[KZ,h]
    exact Rg1 (φ:=((e.f.fOp==(3:Int))=true→(List.length out=List.length (List.map eS out)∧(List.length out+1)*16≤140737488355328∧List.length out+1≤9223372036854775807)∧
          ∃l:List Str,(List.map eS l=List.map eS out++[AV.str e.f.fa]∧List.length l=List.length out+1)∧TL e t (out++(e::t).flatMap fun e=>KZ e.f) l)∧
        ((e.f.fOp==(3:Int))=false→TL e t (out++(e::t).flatMap fun e=>KZ e.f) out))
      (hs:=[(12,.split),(17,.z [{slot:=13,own:=1}] (some (.n eS 17 (some .a)))),(20,.n eI 20 none),(3000008,.l [] [3,19,20,21] [{slot:=3},{slot:=3,path:=[0],own:=1}] [3] [{slot:=3},{slot:=3,path:=[0],own:=1}] (R6 ()))]) (kb:=[{slot:=3},{slot:=3,path:=[0],own:=1}]) (kbx:=[]) (by kernel_rfl) (by kernel_rfl)
      ⟨fun hc=>⟨⟨by simp,by omega,by omega⟩,out++[e.f.fa],⟨by simp[eS],by simp⟩,tl _ (n1 (by simpa using hc)) (by simp)⟩,fun hc=>tl _ (n0 (by simpa using hc)) (by omega)⟩
def DL(r:List Str):AV:=.ow 0 0 1 (List.length r)
def DF(r:List Str):List Box:=[.own 0 1 (List.map eS r)]
theorem FP(l:List Str)(hl:l.length<4611686018427387904):PH 142 [.ow 0 0 1 (List.length l)] [.own 0 1 (List.map eS l)] (DL (cpt (srt l))) (DF (cpt (srt l))):=
 PuH.of (ch0:=ch0) (wf:=wfR) (gd:=gds) (fl:=2000) (hs:=[(4,.i []),(6,.i [])]) (kb:=[{slot:=0,own:=1}]) Dj wfR_ok V0
  ((fun(φ:Prop) (e:φ=BB Tryz.prog gls ch0 wfR gds 2000 142 [(4,.i []),(6,.i [])] [{slot:=0,own:=1}] [.ow 0 0 1 (List.length l)] [.own 0 1 (List.map eS l)] (DL (cpt (srt l))) (DF (cpt (srt l)))) (hφ:φ)=>e▸hφ)
   (∃l1:List Str,(some (Box.own 0 1 (List.map eS l))=some (Box.own 0 1 (List.map eS l1))∧List.length l=List.length l1∧List.length l1<4611686018427387904)∧
    ∃l2:List Str,(some (Box.own 0 1 (List.map eS (srt l1)))=some (Box.own 0 1 (List.map eS l2))∧List.length l=List.length l2∧List.length l2<4611686018427387904)∧
     LeVs [AV.ow 0 0 1 (List.length (cpt l2))] [DL (cpt (srt l))]∧LeBs [Box.own 0 1 (List.map eS (cpt l2))] (DF (cpt (srt l)))) (by kernel_rfl)
   ⟨l,⟨rfl,rfl,hl⟩,srt l,⟨rfl,(Rw l).symm,by rw[Rw];exact hl⟩,.refl _,.refl _⟩)
structure rdOk (x:Q1):Prop where
 w:aE (.mk x)
 i:∀e∈Qy (.mk x),e.f.fe.length≤1099511627776
 s:((Qy (.mk x)).map fun e=>e.f.fe.length+1).sum≤1099511627776
theorem Q1l(x:Q1)(h:rdOk x):(rdN x).length≤1099511627776:=by
 have key:∀l:List Qa,(l.flatMap fun e=>KZ e.f).length≤(l.map fun e=>e.f.fe.length+1).sum:=by
  intro l
  induction l with
  |nil=>simp
  |cons e l ih=>
   rw[List.flatMap_cons,List.length_append,List.map_cons,List.sum_cons];have h1:(QB e.f.fe).length≤e.f.fe.length:=by unfold QB;rw[List.length_map];exact List.length_filter_le _ _
   have h2:(KZ e.f).length≤1+e.f.fe.length:=by unfold KZ;rw[List.length_append];split<;>simp<;>omega
   omega
 exact Nat.le_trans (key _) h.s
open Classical in
noncomputable def De(x0:Q1):Option (List Str):=if h:rdOk x0 then some (cpt (srt (rdN x0))) else none
theorem Ek(x0:Q1)(r:List Str)(h:De x0=some r):PU 101 [Q5 x0] (eLS r):=by
 unfold De at h;split at h
 ·rename_i hk;cases h;have hw:UJ x0=some ⟨x0,hk.w⟩:=by unfold UJ;rw[dif_pos hk.w]
  have a4:=P_rd (Qy (.mk x0)) [] hk.i (by simpa using hk.s)
  rw[List.nil_append] at a4;have a6:=Q1l x0 hk;exact Pu1 (φ:=∃x:SE,PU 98 [Q5 x0] (NC x)∧∃xs,∃(u:Unit) (o:List Str),ItOk Tryz.prog gls 139 [.ip 13 [Q5 x.1] 0 0] xs∧RG 101 3 36 [3] [.ptr 0 0 0] (A_rd () u o) xs [.cells 0 [.ow 1 0 1 0],.own 0 1 []]∧
    ∀x:List Str,x=o→∃x2:List Str,PH 142 [.ow 0 0 1 (List.length x)] [.own 0 1 (List.map eS x)] (DL x2) (DF x2)∧List.length x2=List.length (List.map eS x2)∧LeT (.sl 1 (List.map eS x2)) (.sl 1 (List.map eS (cpt (srt (rdN x0))))))
   (hs:=[(8,.c NC),(4000004,.l [] [3] [{slot:=3},{slot:=3,path:=[0],own:=1}] [3] [{slot:=3},{slot:=3,path:=[0],own:=1}] (A_rd ())),(35,.h [{slot:=0,own:=1}] DL DF)]) (by kernel_rfl)
   ⟨_,Mc _ _ hw,_,(),rdN x0,R9 _,a4,fun x hx=>by
    subst hx;exact⟨cpt (srt (rdN x0)),FP _ (by omega),by simp,.refl _⟩⟩
 ·cases h
end Go.Proofs.YtkgphhemcglgnaaGreatDoor
end
section
namespace Go.Proofs.YtkgphhemcglgnaaGreatDoor
open Go HY
def rd1(x:Qg):List Str:=rdN x.fg++QB x.fe
def rdS:Q0→List Str
 | .mk x=>rd1 x++(x.fb.attach.map fun a=>rdS a.1).flatten
 termination_by e=>SizeOf.sizeOf e
 decreasing_by exact Q0.lt a.2
def rdL(l:List Q0):List Str:=(l.map rdS).flatten
theorem Bb(x:Qg):rdS (.mk x)=rd1 x++rdL x.fb:=by rw[rdS];simp[rdL]
theorem rdS_f(a:Q0):rdS a=rd1 a.f++rdL a.f.fb:=by
 cases a with
 |mk x=>rw[Bb];rfl
theorem Q5z(a:Q0)(t:List Q0):rdL (a::t)=rdS a++rdL t:=by simp[rdL]
def rmS(s:Str):Q0→Option Q0
 | .mk x=>if x.fOp=2∨x.fOp=3 then(if x.fa=s then none else some (.mk x))
  else if(x.fb.attach.filterMap fun a=>rmS s a.1)=[] then none else some (.mk (ZH.mk x.fOp x.fa x.fy x.fB x.fA x.fe x.fg (x.fb.attach.filterMap fun a=>rmS s a.1)))
 termination_by e=>SizeOf.sizeOf e
 decreasing_by all_goals exact Q0.lt a.2
def rmL(s:Str)(l:List Q0):List Q0:=l.filterMap (rmS s)
def setB(x:Qg)(b:List Q0):Qg:=ZH.mk x.fOp x.fa x.fy x.fB x.fA x.fe x.fg b
theorem Bl(s:Str)(x:Qg):rmS s (.mk x)=if x.fOp=2∨x.fOp=3 then(if x.fa=s then none else some (.mk x)) else if rmL s x.fb=[] then none else some (.mk (setB x (rmL s x.fb))):=by
 have h:(x.fb.attach.filterMap fun a=>rmS s a.1)=rmL s x.fb:=by
  unfold rmL
  conv=>rhs;rw[← List.attach_map_subtype_val x.fb]
  rw[List.filterMap_map];rfl
 rw[rmS,h];rfl
theorem rmS_f(s:Str)(a:Q0):rmS s a=if a.f.fOp=2∨a.f.fOp=3 then(if a.f.fa=s then none else some (.mk a.f)) else if rmL s a.f.fb=[] then none else some (.mk (setB a.f (rmL s a.f.fb))):=by
 cases a with
 |mk x=>exact Bl s x
theorem WZ{s:Str}{a:Q0}{t:List Q0}(h:rmS s a=none):rmL s (a::t)=rmL s t:=List.filterMap_cons_none h
theorem N0{s:Str}{a b:Q0}{t:List Q0}(h:rmS s a=some b):rmL s (a::t)=b::rmL s t:=List.filterMap_cons_some h
theorem PA(x:Qg):sz (.mk x)=1+szL x.fb:=by rw[sz];simp[szL]
theorem dp_mk(x:Qg):dp (.mk x)=1+dpL x.fb:=by rw[dp];simp[dpL]
theorem rm_size(s:Str):∀a:Q0,∀b,rmS s a=some b→sz b≤sz a∧dp b≤dp a:=Q0.ind fun x ih b hb=>by
 have key:∀l:List Q0,(∀a∈l,∀b,rmS s a=some b→sz b≤sz a∧dp b≤dp a)→szL (rmL s l)≤szL l∧dpL (rmL s l)≤dpL l:=by
  intro l
  induction l with
  |nil=>intro _;exact⟨Nat.le_refl _,Nat.le_refl _⟩
  |cons a t ih2=>
   intro h;have h2:=ih2 fun a ha=>h a (List.mem_cons_of_mem _ ha)
   cases hr:rmS s a with
   |none=>rw[WZ hr,VE,Cs];omega
   |some c=>
    have h3:=h a (List.mem_cons_self ..) c hr;rw[N0 hr,VE,Cs,VE,Cs];omega
 have hk:=key x.fb ih;rw[Bl] at hb;split at hb
 ·split at hb;·cases hb
  ·cases hb;exact⟨Nat.le_refl _,Nat.le_refl _⟩
 ·split at hb;·cases hb
  ·cases hb;rw[PA,dp_mk,PA,dp_mk];show 1+szL (rmL s x.fb)≤_∧1+dpL (rmL s x.fb)≤_;omega
theorem Bk(s:Str):∀l:List Q0,szL (rmL s l)≤szL l∧dpL (rmL s l)≤dpL l
 | []=>⟨Nat.le_refl _,Nat.le_refl _⟩
 |a::t=>by
  have h2:=Bk s t;cases hr:rmS s a with
  |none=>rw[WZ hr,VE,Cs];omega
  |some c=>
   have h3:=rm_size s a c hr;rw[N0 hr,VE,Cs,VE,Cs];omega
theorem Q1m(s:Str)(l:List Q0):(rmL s l).length≤l.length:=List.length_filterMap_le ..
theorem rm_ok(s:Str):∀a:Q0,okS a→∀b,rmS s a=some b→okS b:=Q0.ind fun x ih hx b hb=>by
 rw[Bl] at hb;split at hb
 ·split at hb;·cases hb
  ·cases hb;exact hx
 ·split at hb;·cases hb
  ·cases hb;obtain⟨h1,h2,h3,h4,h5⟩:=hx.of;have hb:=Q1m s x.fb;have a3:x.fb.length*256≤140737488351232:=h4;have a5:(rmL s x.fb).length*256≤140737488351232:=Nat.le_trans (Nat.mul_le_mul_right 256 hb) a3;exact .mk _ h1 h2 h3 a5 fun c hc=>by
    have hc:c∈rmL s x.fb:=hc;obtain⟨a,ha,e⟩:=List.mem_filterMap.1 hc;exact ih a ha (h5 a ha) c e
theorem rmL_ok(s:Str)(l:List Q0)(h:okSs l):okSs (rmL s l):=by
 have hb:=Q1m s l;have h1:l.length*256≤140737488351232:=h.1;have a3:(rmL s l).length*256≤140737488351232:=Nat.le_trans (Nat.mul_le_mul_right 256 hb) h1;exact⟨a3,fun c hc=>by
  obtain⟨a,ha,e⟩:=List.mem_filterMap.1 hc;exact rm_ok s a (h.2 a ha) c e⟩
structure Sub (s:Str) (n m:Q9):Prop where
 same:∀q,q≠s→ZK m.fc q=ZK n.fc q
 none:ZK m.fc s=none
section
variable {s : Str} {n m : Q9} (hs : Sub s n m)
 include hs
theorem Iv:∀l:List Q7,s∉QB l→Y7 m l=Y7 n l
 | [],_=>rfl
 |i::t,h=>by
  by_cases hi:i.fu=[]
  ·have ht:s∉QB t:=by
    have:QB (i::t)=QB t:=by unfold QB;rw[List.filter_cons,if_neg (by simp[hi])]
    rwa [this] at h
   rw[Y7,Y7,if_pos hi,if_pos hi];exact Iv t ht
  ·have e:QB (i::t)=i.fu::QB t:=by unfold QB;rw[List.filter_cons,if_pos (by simpa using hi)];rfl
   rw[e,List.mem_cons,not_or] at h;rw[Y7,Y7,if_neg hi,if_neg hi,hs.same _ (Ne.symm h.1),Iv t h.2]
theorem OS(sc:List Str)(x:Q1)(h:s∉KZ x):Ka m sc x=Ka n sc x:=by
 unfold Ka;by_cases ho:x.fOp=3
 ·have hn:x.fa≠s∧s∉QB x.fe:=by
   unfold KZ at h;rw[if_pos ho] at h;simp only[List.mem_append,List.mem_singleton,not_or] at h;exact⟨Ne.symm h.1,h.2⟩
  rw[hs.same _ hn.1,Iv hs _ hn.2]
 ·rw[if_pos ho,if_pos ho]
theorem kd_same:∀e:Qa,s∉rdN e.f→kd m e=kd n e:=Qa.ind fun x ih h=>by
 rw[Qa.f_mk] at h;have a5:∀a∈x.ff,s∉rdN a.f:=fun a ha hc=>h (by
  unfold rdN at hc ⊢;rw[Qa.mk_f] at hc;obtain⟨y,hy,hq⟩:=List.mem_flatMap.1 hc;refine List.mem_flatMap.2 ⟨y,?_,hq⟩;rw[KK];exact List.mem_cons_of_mem _ (List.mem_flatten.2 ⟨Qy a,List.mem_map.2 ⟨a,ha,rfl⟩,hy⟩))
 have a3:s∉KZ x:=fun hc=>h (by
  unfold rdN;refine List.mem_flatMap.2 ⟨.mk x,by rw[KK];exact List.mem_cons_self ..,by rw[Qa.f_mk];exact hc⟩)
 have e:(x.ff.attach.map fun a=>kd m a.1)=(x.ff.attach.map fun a=>kd n a.1):=by
  apply List.map_congr_left;intro a _;exact ih a.1 a.2 (a5 a.1 a.2)
 rw[kd,kd,e];unfold kd1;by_cases ho:x.fOp=3
 ·have hn:x.fa≠s:=by
   unfold KZ at a3;rw[if_pos ho] at a3;simp only[List.mem_append,List.mem_singleton,not_or] at a3;exact Ne.symm a3.1
  rw[hs.same _ hn]
 ·simp only[if_neg ho]
theorem SC{α:Type}{f g:α→Int}:∀ {l:List α},(∀x∈l,f x=g x)→fstE f l=fstE g l
 | [],_=>rfl
 |x::t,h=>by
  rw[fstE,fstE,h x (List.mem_cons_self ..),SC fun y hy=>h y (List.mem_cons_of_mem _ hy)]
theorem Hy(sc:List Str)(x:Q1)(h:s∉rdN x):KD m sc x=KD n sc x:=by
 have e:fstE (fun y=>Ka m sc y.f) (Qy (.mk x))=fstE (fun y=>Ka n sc y.f) (Qy (.mk x)):=SC hs fun y hy=>OS hs sc y.f fun hc=>h (List.mem_flatMap.2 ⟨y,hy,hc⟩)
 have k:kd m (.mk x)=kd n (.mk x):=kd_same hs _ (by rw[Qa.f_mk];exact h)
 unfold KD;rw[e,k]
theorem rdN_rdE(x:Qg):rdN (rdE x)=x.fa::QB x.fe:=by
 unfold rdN rdE;rw[KK];simp[KZ]
theorem Ph(sc:List Str)(x:Qg)(h:s∉rd1 x)(hx:x.fa≠s):G9 m sc x=G9 n sc x:=by
 have h1:s∉rdN x.fg∧s∉QB x.fe:=by unfold rd1 at h;rw[List.mem_append,not_or] at h;exact h
 have h2:s∉rdN (rdE x):=by rw[rdN_rdE hs,List.mem_cons,not_or];exact⟨Ne.symm hx,h1.2⟩
 unfold G9;rw[Hy hs sc _ h2,Hy hs sc _ h1.1,hs.same _ hx]
theorem Q2t(a5 a3:List Str)(x:Qg)(hu:∀q∈a3,q∈a5)(h:N9 n a5 x=0):N9 m a3 x=0:=by
 unfold N9 at h ⊢;split at h;·cases h
 ·rename_i h1;rw[if_neg h1];split at h;·cases h
  ·rename_i h2;rw[not_or] at h2;have h3:¬((ZK m.fc x.fa).isSome∨a3.contains x.fa=true):=by
    rintro(h3 | h3)
    ·by_cases e:x.fa=s;·rw[e,hs.none] at h3;cases h3
     ·rw[hs.same _ e] at h3;exact h2.1 h3
    ·exact h2.2 (by rw[List.contains_iff_mem] at h3 ⊢;exact hu _ h3)
   rw[if_neg h3];exact h
theorem TZ(sc a9 a8:List Str)(x:Qg)(b:List Q0)(hu:∀q∈a8,q∈a9)(h:Ke n sc a9 x=0)(hr:s∉rd1 x)(hx:x.fOp=2∨x.fOp=3→x.fa≠s∧b=[]):Ke m sc a8 (setB x b)=0:=by
 unfold Ke at h ⊢;split at h;·cases h
 ·rename_i h1;have h1:plS x=true:=by simpa using h1
  have h2:plS (setB x b)=true:=by
   unfold plS at h1 ⊢;rw[decide_eq_true_eq] at h1 ⊢;obtain⟨a1,a2,a3,a4,a5,a6,a7⟩:=h1;exact⟨a1,a2,a3,a4,a5,a6,fun ho=>by show b.length=0;rw[(hx ho).2];rfl⟩
  rw[if_neg (by rw[h2];simp)]
  have ag:s∉rdN x.fg:=by unfold rd1 at hr;rw[List.mem_append,not_or] at hr;exact hr.1
  show(if x.fOp=1 then N9 m a8 (setB x b) else if x.fOp=4 then(if(KD m sc x.fg).2≠0 then(KD m sc x.fg).2 else if isC x.fg then 0 else 10) else G9 m sc (setB x b))=0
  split at h
  ·rename_i o1;rw[if_pos o1];exact Q2t hs a9 a8 x hu h
  ·rename_i o1;rw[if_neg o1];split at h
   ·rename_i o4;rw[if_pos o4,Hy hs sc _ ag];exact h
   ·rename_i o4;rw[if_neg o4];have ho:x.fOp=2∨x.fOp=3:=by
     unfold plS at h1;rw[decide_eq_true_eq] at h1;rcases h1.1 with q | q | q | q
     ·exact absurd q o1
     ·exact .inl q
     ·exact .inr q
     ·exact absurd q o4
    have:=Ph hs sc x hr (hx ho).1;show G9 m sc x=0;rw[this];exact h
omit hs in
theorem Hs(n:Q9):∀a:Q0,∀sc a3 a4,(bd n a sc a3 a4).2.2=0→∀q∈a3,q∈ (bd n a sc a3 a4).1:=Q0.ind fun x ih sc a3 a4 h q hq=>by
 have key:∀(t:List Q0),(∀a∈t,∀sc a3 a4,(bd n a sc a3 a4).2.2=0→∀q∈a3,q∈ (bd n a sc a3 a4).1)→∀sc a4 i a3,(bdL n sc a4 (t.map fun a=>(a.f,bd n a)) i a3).2.2=0→∀q∈a3,q∈ (bdL n sc a4 (t.map fun a=>(a.f,bd n a)) i a3).1:=by
  intro t
  induction t with
  |nil=>intro _ sc a4 i a3 _ q hq;exact hq
  |cons a t ih2=>
   intro hP sc a4 i a3 h q hq;have a8:=ih2 fun b hb=>hP b (List.mem_cons_of_mem _ hb)
   have ha:=hP a (List.mem_cons_self ..);simp only[List.map_cons,bdL] at h ⊢;split at h;·rename_i h1;exact absurd h h1
   ·rename_i h1;rw[if_neg h1];split at h
    ·rename_i o1;rw[if_pos o1];split at h;·rename_i h2;exact absurd h h2
     ·rename_i h2;rw[if_neg h2];exact a8 _ _ _ _ h q (ha _ _ _ (by simpa using h2) q (List.mem_append_left _ hq))
    ·rename_i o1;rw[if_neg o1];split at h;·rename_i h2;exact absurd h h2
     ·rename_i h2;rw[if_neg h2];exact a8 _ _ _ _ h q (ha _ _ _ (by simpa using h2) q hq)
 rw[Ib] at h ⊢;exact key x.fb ih sc a4 0 a3 h q hq
theorem bd_le:∀a:Q0,s∉rdS a→∀sc a4 a3 a6 a5,(∀q∈a3,q∈a4)→(bd n a sc a4 a6).2.2=0→
  (bdB m sc a5 (rmL s a.f.fb) a3).2.2=0∧∀q∈ (bdB m sc a5 (rmL s a.f.fb) a3).1,q∈ (bd n a sc a4 a6).1:=Q0.ind fun x ih hr sc a4 a3 a6 a5 hu h=>by
 have key:∀(t:List Q0),(∀a∈t,s∉rdS a→∀sc a4 a3 a6 a5,(∀q∈a3,q∈a4)→(bd n a sc a4 a6).2.2=0→
   (bdB m sc a5 (rmL s a.f.fb) a3).2.2=0∧∀q∈ (bdB m sc a5 (rmL s a.f.fb) a3).1,q∈ (bd n a sc a4 a6).1)→(∀a∈t,s∉rdS a)→∀sc a6 a5 i j a4 a3,(∀q∈a3,q∈a4)→
   (bdL n sc a6 (t.map fun a=>(a.f,bd n a)) i a4).2.2=0→(bdL m sc a5 ((rmL s t).map fun a=>(a.f,bd m a)) j a3).2.2=0∧∀q∈ (bdL m sc a5 ((rmL s t).map fun a=>(a.f,bd m a)) j a3).1,q∈ (bdL n sc a6 (t.map fun a=>(a.f,bd n a)) i a4).1:=by
  intro t
  induction t with
  |nil=>intro _ _ sc a6 a5 i j a4 a3 hu _;exact⟨rfl,hu⟩
  |cons a t ih2=>
   intro hP hR sc a6 a5 i j a4 a3 hu h;have aa:=ih2 (fun b hb=>hP b (List.mem_cons_of_mem _ hb)) fun b hb=>hR b (List.mem_cons_of_mem _ hb)
   have aj:=hR a (List.mem_cons_self ..);have ha:=hP a (List.mem_cons_self ..) aj;have ag:s∉rd1 a.f:=fun hc=>aj (by rw[rdS_f];exact List.mem_append_left _ hc)
   have a8:=rmS_f s a;simp only[List.map_cons,bdL] at h ⊢;split at h;·rename_i h1;exact absurd h h1
   ·rename_i h1;have h1:Ke n sc a4 a.f=0:=by simpa using h1
    have ao:plS a.f=true:=by
     unfold Ke at h1;split at h1;·cases h1
     ·rename_i q;simpa using q
    have ae:=ao;unfold plS at ae;rw[decide_eq_true_eq] at ae;rw[if_neg (by simpa using h1)]
    split at h
    ·rename_i o1;rw[if_pos o1];split at h;·rename_i h2;exact absurd h h2
     ·rename_i h2;have h2:(bd n a (sc++[a.f.fa]) (a4++[a.f.fa]) (a6++[i])).2.2=0:=by simpa using h2
      rw[if_neg (by simpa using h2)]
      rw[if_neg (by omega)] at a8
      split at a8
      ·rw[WZ a8];exact aa _ _ _ _ _ _ _ (fun q hq=>Hs n a _ _ _ h2 q (List.mem_append_left _ (hu q hq))) h
      ·rw[N0 a8];have ab:=TZ hs sc a4 a3 a.f (rmL s a.f.fb) hu h1 ag (fun q=>absurd q (by omega))
       have hb:=ha (sc++[a.f.fa]) (a4++[a.f.fa]) (a3++[a.f.fa]) (a6++[i]) (a5++[j]) (fun q hq=>by
        rw[List.mem_append] at hq ⊢;exact hq.imp (hu q) id) h2
       simp only[List.map_cons,bdL,Q0.f_mk];rw[if_neg (by simpa using ab),if_pos (show(setB a.f (rmL s a.f.fb)).fOp=1 from o1)]
       have e:bd m (.mk (setB a.f (rmL s a.f.fb)))=fun sc a4 a6=>bdB m sc a6 (rmL s a.f.fb) a4:=by funext sc a4 a6;rw[Ib];rfl
       rw[e];show(if(bdB m (sc++[a.f.fa]) (a5++[j]) (rmL s a.f.fb) (a3++[a.f.fa])).2.2≠0 then _ else _:Fl).2.2=0∧∀q∈ (if(bdB m (sc++[a.f.fa]) (a5++[j]) (rmL s a.f.fb) (a3++[a.f.fa])).2.2≠0 then _ else _:Fl).1,_
       rw[if_neg (by simpa using hb.1)]
       exact aa _ _ _ _ _ _ _ hb.2 h
    ·rename_i o1;rw[if_neg o1];split at h;·rename_i h2;exact absurd h h2
     ·rename_i h2;have h2:(bd n a sc a4 (a6++[i])).2.2=0:=by simpa using h2
      rw[if_neg (by simpa using h2)]
      by_cases ho:a.f.fOp=2∨a.f.fOp=3
      ·have ai:a.f.fb=[]:=List.eq_nil_of_length_eq_zero (ae.2.2.2.2.2.2 ho);rw[if_pos ho] at a8;split at a8
       ·rw[WZ a8];exact aa _ _ _ _ _ _ _ (fun q hq=>Hs n a _ _ _ h2 q (hu q hq)) h
       ·rename_i an;rw[N0 a8];have ab:=TZ hs sc a4 a3 a.f [] hu h1 ag (fun q=>⟨an,rfl⟩)
        have ap:setB a.f []=a.f:=by unfold setB;rw[← ai]
        rw[ap] at ab;simp only[List.map_cons,bdL,Q0.f_mk];rw[if_neg (by simpa using ab),if_neg o1]
        have e:bd m (.mk a.f) sc a3 (a5++[j])=(a3,[],0):=by rw[Ib,ai];rfl
        rw[e,if_neg (by simp)]
        exact aa _ _ _ _ _ _ _ (fun q hq=>Hs n a _ _ _ h2 q (hu q hq)) h
      ·rw[if_neg ho] at a8;split at a8
       ·rw[WZ a8];exact aa _ _ _ _ _ _ _ (fun q hq=>Hs n a _ _ _ h2 q (hu q hq)) h
       ·rw[N0 a8];have ab:=TZ hs sc a4 a3 a.f (rmL s a.f.fb) hu h1 ag (fun q=>absurd q ho)
        have hb:=ha sc a4 a3 (a6++[i]) (a5++[j]) hu h2;simp only[List.map_cons,bdL,Q0.f_mk];rw[if_neg (by simpa using ab),if_neg (show ¬(setB a.f (rmL s a.f.fb)).fOp=1 from o1)]
        have e:bd m (.mk (setB a.f (rmL s a.f.fb))) sc a3 (a5++[j])=bdB m sc (a5++[j]) (rmL s a.f.fb) a3:=by rw[Ib];rfl
        rw[e,if_neg (by simpa using hb.1)]
        exact aa _ _ _ _ _ _ _ hb.2 h
 rw[Q0.f_mk];rw[Ib] at h ⊢;rw[Bb,List.mem_append,not_or] at hr;exact key x.fb ih (fun a ha hc=>hr.2 (List.mem_flatten.2 ⟨rdS a,List.mem_map.2 ⟨a,ha,rfl⟩,hc⟩)) sc a6 a5 0 0 a4 a3 hu h
end
end Go.Proofs.YtkgphhemcglgnaaGreatDoor
end
section
namespace Go.Proofs.YtkgphhemcglgnaaGreatDoor
open Go HY
def okb(b:Qb):Prop:=nm b.fa=true∧tyOK b.fd=true∧Ld b.fC=0∧¬(b.fF<1∨3<b.fF)
theorem Wo:∀(l p:List Qb),XK p l=0↔(∀b∈l,okb b)∧(l.map Qb.fa).Nodup∧∀b∈l,∀x∈p,x.fa≠b.fa
 | [],p=>by simp[XK]
 |b::t,p=>by
  have ih:=Wo t (p++[b]);have a5:(p.any (fun x=>x.fa==b.fa)=true)↔∃x∈p,x.fa=b.fa:=by simp
  rw[XK];constructor
  ·intro h;split at h;·cases h
   ·rename_i h1;split at h;·cases h
    ·rename_i h2;split at h;·cases h
     ·rename_i h3;split at h;·rename_i h4;exact absurd h h4
      ·rename_i h4;split at h;·cases h
       ·rename_i h5;obtain⟨i1,i2,i3⟩:=ih.1 h;refine⟨fun c hc=> ?_,?_,fun c hc x hx=> ?_⟩
        ·rcases List.mem_cons.1 hc with rfl | hc
         ·exact⟨by simpa using h1,by simpa using h3,by simpa using h4,h5⟩
         ·exact i1 c hc
        ·rw[List.map_cons,List.nodup_cons];refine⟨fun hm=> ?_,i2⟩
         obtain⟨c,hc,e⟩:=List.mem_map.1 hm;exact i3 c hc b (by simp) e.symm
        ·rcases List.mem_cons.1 hc with rfl | hc
         ·exact fun e=>h2 (a5.2 ⟨x,hx,e⟩)
         ·exact i3 c hc x (by simp[hx])
  ·rintro⟨i1,i2,i3⟩;obtain⟨o1,o2,o3,o4⟩:=i1 b (by simp)
   rw[List.map_cons,List.nodup_cons] at i2;rw[if_neg (by rw[o1];simp),if_neg (fun h=>by obtain⟨x,hx,e⟩:=a5.1 h;exact i3 b (by simp) x hx e),if_neg (by rw[o2];simp),if_neg (by simpa using o3),if_neg o4]
   refine ih.2 ⟨fun c hc=>i1 c (by simp[hc]),i2.2,fun c hc x hx=> ?_⟩
   rcases List.mem_append.1 hx with hx | hx
   ·exact i3 c (by simp[hc]) x hx
   ·rw[List.mem_singleton] at hx;subst hx;exact fun e=>i2.1 (List.mem_map.2 ⟨c,hc,e.symm⟩)
theorem Mw{l:List Qb}{i:Nat}:List.Sublist (l.eraseIdx i) l:=List.eraseIdx_sublist l i
theorem Pd{l:List Qb}(i:Nat)(h:XK [] l=0):XK [] (l.eraseIdx i)=0:=by
 obtain⟨h1,h2,_⟩:=(Wo l []).1 h;exact(Wo _ []).2 ⟨fun b hb=>h1 b (Mw.subset hb),(Mw.map Qb.fa).nodup h2,fun _ _ x hx=>by simp at hx⟩
theorem LG:∀(l:List Qb) (i:Nat) (h:i<l.length),(l.map Qb.fa).Nodup→l.eraseIdx i=l.filter (fun b=> !(b.fa==(l[i]).fa))
 | [],_,h,_=>by simp at h
 |b::t,0,_,hn=>by
  rw[List.map_cons,List.nodup_cons] at hn;simp only[List.eraseIdx_cons_zero,List.getElem_cons_zero];rw[List.filter_cons,if_neg (by simp)]
  refine(List.filter_eq_self.2 fun c hc=> ?_).symm
  have:c.fa≠b.fa:=fun e=>hn.1 (List.mem_map.2 ⟨c,hc,e⟩)
  simpa using this
 |b::t,i+1,h,hn=>by
  rw[List.map_cons,List.nodup_cons] at hn;have hi:i<t.length:=by simpa using h
  simp only[List.eraseIdx_cons_succ,List.getElem_cons_succ];have a3:b.fa≠(t[i]).fa:=fun e=>hn.1 (List.mem_map.2 ⟨t[i],List.getElem_mem _,e.symm⟩)
  rw[List.filter_cons,if_pos (by simpa using a3),LG t i hi hn.2]
theorem LB(s:Str):∀(l:List Qb) (q:Str),ZK (l.filter fun b=> !(b.fa==s)) q=if q=s then none else ZK l q
 | [],q=>by simp[ZK]
 |b::t,q=>by
  have ih:=LB s t q;unfold ZK at ih ⊢;by_cases hb:b.fa=s
  ·rw[List.filter_cons,if_neg (by simp[hb]),ih]
   by_cases hq:q=s;·rw[if_pos hq,if_pos hq]
   ·rw[if_neg hq,if_neg hq,List.find?_cons,show(b.fa==q)=false by rw[hb];simpa using Ne.symm hq]
  ·rw[List.filter_cons,if_pos (by simpa using hb),List.find?_cons,List.find?_cons,ih]
   by_cases hq:b.fa=q
   ·have a4:¬q=s:=fun e=>hb (hq.trans e)
    have h1:(b.fa==q)=true:=by simpa using hq
    simp only[h1,if_neg a4]
   ·have h1:(b.fa==q)=false:=by simpa using hq
    simp only[h1]
def Il(n:Q9)(i:Nat)(s:Str):Q9:=Q9.mk (n.fc.eraseIdx i) (rmL s n.fb)
theorem Q67{n:Q9}{i:Nat}(hi:i<n.fc.length)(h:XK [] n.fc=0):Sub (n.fc[i]).fa n (Il n i (n.fc[i]).fa):=by
 obtain⟨_,h2,_⟩:=(Wo _ []).1 h;have e:=LG n.fc i hi h2;refine⟨fun q hq=> ?_,?_⟩
 ·show ZK (n.fc.eraseIdx i) q=_;rw[e,LB,if_neg hq]
 ·show ZK (n.fc.eraseIdx i) _=_;rw[e,LB,if_pos rfl]
theorem Lo(n:Q9):(vd n).2=0↔dpL n.fb≤40∧szL n.fb≤2000∧n.fc.length≤128∧XK [] n.fc=0∧(bdB n [] [] n.fb []).2.2=0:=by
 unfold vd;constructor
 ·intro h;split at h;·cases h
  ·split at h;·cases h
   ·split at h;·rename_i h3;exact absurd h h3
    ·rename_i h1 h2 h3;exact⟨by omega,by omega,by omega,by simpa using h3,h⟩
 ·rintro⟨h1,h2,h3,h4,h5⟩;rw[if_neg (by omega),if_neg (by omega),if_neg (by simpa using h4)]
  exact h5
theorem vd_step{n:Q9}{i:Nat}(hi:i<n.fc.length)(h:(vd n).2=0)(hr:(n.fc[i]).fa∉rdL n.fb):(vd (Il n i (n.fc[i]).fa)).2=0:=by
 obtain⟨h1,h2,h3,h4,h5⟩:=(Lo n).1 h;have hs:=Q67 hi h4;obtain⟨z1,z2⟩:=Bk (n.fc[i]).fa n.fb;refine(Lo _).2 ⟨Nat.le_trans z2 h1,Nat.le_trans z1 h2,Nat.le_trans Mw.length_le h3,Pd i h4,?_⟩;have:=bd_le hs (.mk (ZH.mk 0 [] 0 0 0 [] (QS.mk 0 [] ⟨0,0⟩ ⟨0,0,0,0,0⟩ ⟨0,[]⟩ [] []) n.fb)) (by
  rw[Bb,List.mem_append,not_or];refine⟨?_,hr⟩;unfold rd1 rdN;rw[KK];simp[KZ,QB]) [] [] [] [] [] (fun q hq=>hq) (by rw[Ib];exact h5)
 exact this.1
end Go.Proofs.YtkgphhemcglgnaaGreatDoor
end
section
namespace Go.Proofs.YtkgphhemcglgnaaGreatDoor
open Go HY Go.RowKit Go.Sort Go.Proofs Go.Lib
theorem Oi{α:Type}(A D Z T:List α)(a d z:Nat)(ha:A.length=a)(hd:D.length=d):(A++(D++T)).take (a+d)++(Z++(A++(D++T)).drop (a+d+z))=A++(D++(Z++T.drop z)):=by
 subst ha;subst hd;rw[← List.append_assoc A D T,← List.length_append,List.take_left',List.drop_append];·rw[List.drop_eq_nil_of_le (Nat.le_add_right _ _),Nat.add_sub_cancel_left];simp
 ·rfl
theorem Ss{B:Nat→Prop}{w W:World}(h:Qd B w.drew W):Qd B w W:=by
 obtain⟨a,b,c,d,e,f⟩:=h;exact⟨a,b,c,d,e,f⟩
theorem ST{P:Program}(w:World)(t e ty:TypeId)(z:Value)(ht:P.underlying t=some (.slice e))(hv:∀w,(zeroValue e).run P w= .ok z w)(h1:∀u∈z.cells,u.oneCell'=true)(b o c:Nat)
  (hc:∀j,j<z.cells.size→(w.cell? ⟨b,o+j,none⟩).isSome=true) (hf:∀j,j<z.cells.size→w.frozen? ⟨b,o+j,none⟩=false):
  (Builtin.clear_ #[t] ty #[.slice (some ⟨b,o,none⟩) 1 c]).run P w= .ok (.tuple #[]) (w.setCells b o z.cells.toList):=by
 have a5:(Builtin.zeroCells z.cells 1).toList=z.cells.toList:=by
  apply List.ext_getElem?;intro i;simp only[Builtin.zeroCells];by_cases hi:i<z.cells.size;·simp[hi,Nat.mod_eq_of_lt hi]
  ·simp[hi]
 have a3:=run_storeCells_cells (P:=P) b o z.cells.toList 0 w (by simpa using hc) (by simpa using hf) (by intro v a4;exact h1 v (by simpa using a4))
 simp only[Nat.add_zero] at a3;simp[Builtin.clear_,run_underlying ht,hv,a5,a3]
set_option maxHeartbeats 4000000 in
set_option maxRecDepth 1000000 in
theorem LF(i0:TypeInfo)(ad:Tryz.prog.info? 68=some i0)(ap:i0.size=8)(bufZ:Value)(af:i0.zero=some bufZ)(ag:bufZ.cells.size=8)(ah:∀u∈bufZ.cells,u.oneCell'=true)(a4 off cap n i j:Nat)(ao:j=i+1)(C:Array Value)(e:TypeId)(w:World)(hg:w.heap[a4]? =some (.cells C e (0,0)))(b6:off+cap*8≤C.size)(hn:n≤cap)(hm:cap≤9223372036854775807)(hi:i<n)
  (h1:∀t,t<n*8→∃v,C[off+t]? =some v∧v.oneCell'=true) (a3:List Value) (a7:a3=((C.toList.drop (off+j*8)).take ((n - j)*8))):
  Calls Tryz.prog 33 #[.slice (some ⟨a4,off,none⟩) n cap,.int .i64 i,.int .i64 j] w fun e' w'=>e'= .returned (.slice (some ⟨a4,off,none⟩) (n - 1) cap)∧
   w'=(w.drew.setCells a4 (off+i*8) a3).setCells a4 (off+(n - 1)*8) bufZ.cells.toList:=by
 have aa:∀w:World,(zeroValue 68).run Tryz.prog w= .ok bufZ w:=fun w=>by simp[zeroValue,typeInfo,ad,af,Result.andThen]
 have a5:∀t,t<n*8→∃v,w.drew.cell? ⟨a4,off+t,none⟩=some v∧C[off+t]? =some v∧v.oneCell'=true:=fun t ht=>by
  obtain⟨v,a,b⟩:=h1 t ht;exact⟨v,by show w.cell? _=_;simp[World.cell?,hg,a],a,b⟩
 have ac:∀t,w.drew.frozen? ⟨a4,off+t,none⟩=false:=fun t=>by
  show w.frozen? _=false;simp[World.frozen?,hg]
 have a6:a3.length=(n - j)*8:=by rw[a7];simp;omega
 have a9:∀t,t< (n - j)*8→a3[t]? =C[off+(j*8+t)]? :=fun t ht=>by
  rw[a7,List.getElem?_take,if_pos ht,List.getElem?_drop,Array.getElem?_toList,Nat.add_assoc]
 obtain⟨A,hA,hsrc⟩:∃A:Addr,(if cap=j then some (⟨a4,off,none⟩:Addr) else some ⟨a4,off+j*8,none⟩)=some A∧Hid (∀t u,a3[t]? =some u→w.drew.cell? (A.add t)=some u):=by
  by_cases h:cap=j
  ·refine⟨⟨a4,off,none⟩,by simp[h],fun t u hu=> ?_⟩
   have h0:a3.length=0:=by rw[a6];omega
   rw[List.length_eq_zero_iff.1 h0] at hu;simp at hu
  ·refine⟨⟨a4,off+j*8,none⟩,by simp[h],fun t u hu=> ?_⟩
   have ht:t< (n - j)*8:=by
    have:=(List.getElem?_eq_some_iff.1 hu).1
    rwa [a6] at this
   rw[a9 t ht] at hu;obtain⟨v,a,b,_⟩:=a5 (j*8+t) (by omega)
   rw[Addr.add_lit,Nat.add_assoc,a,← b,hu]
 have s1:Hid (a3.length=(n - j)*8):=a6;have s2:Hid (∀u∈a3,u.oneCell'=true):=fun u hu=>by
  obtain⟨t,ht,e⟩:=List.getElem_of_mem hu;have h2:a3[t]? =some u:=by rw[List.getElem?_eq_getElem ht,e]
  rw[a9 t (by omega)] at h2
  obtain⟨v,_,b,c⟩:=a5 (j*8+t) (by omega)
  rw[b] at h2;cases h2;exact c
 have s3:Hid (∀t,t<a3.length→(w.drew.cell? ⟨a4,off+i*8+t,none⟩).isSome=true∧w.drew.frozen? ⟨a4,off+i*8+t,none⟩=false):=fun t ht=>by
  rw[Nat.add_assoc];obtain⟨v,a,_⟩:=a5 (i*8+t) (by omega)
  exact⟨by rw[a];rfl,ac _⟩
 obtain⟨W1,hW1⟩:∃W1,W1=w.drew.setCells a4 (off+i*8) a3:=⟨_,rfl⟩;obtain⟨C',b1,b2,_,_,_⟩:=Gq (e:=e) (fr:=(0,0)) a4 a3 (off+i*8) w.drew C hg (by rw[a6];omega)
 rw[← hW1] at b1;have am:∀ty,(Builtin.clear_ #[22] ty #[.slice (some ⟨a4,off+(i+(n - j))*8,none⟩) 1 (cap - (i+(n - j)))]).run Tryz.prog W1= .ok (.tuple #[]) (W1.setCells a4 (off+(i+(n - j))*8) bufZ.cells.toList):=fun ty=>
  ST W1 22 68 ty bufZ Tryz.underlying22 aa ah a4 _ _ (fun t ht=>by
   have ht:t<8:=by rw[ag] at ht;exact ht
   have:(off+(i+(n - j))*8+t)<C'.size:=by omega
   simp[World.cell?,b1,Array.getElem?_eq_getElem this]) (fun t ht=>by simp[World.frozen?,b1])
 have hW:Hid (W1=w.drew.setCells a4 (off+i*8) a3):=hW1;have az:i≤cap:=by omega
 have b3:j≤cap:=by omega
 have b4:j≤n:=by omega
 have ar:¬i=j:=by omega
 have mixed:=CR;rw[← hW1];clear b1 b2 hW1 a5 a9 a6 a7 h1 ac;have b5:i<j:=by omega
 have ae:n - 1=i+(n - j):=by omega
 rw[ae];have b0:n - (i+(n - j))=1:=by omega
 clear ao ae;generalize bufZ.cells.toList=zl at am ⊢;clear af ag ah aa
 go_enter Tryz.func33,Tryz.ntmps33
 go_wp2_with fail
 go_region_law_o (refine step_append_room rfl (.tmp 22) (.tmp 25) 22 rfl 68 i0 8 Tryz.underlying22 ad ap a4 off i cap (by simp[Act.eval,Act.put]) A (n - j) (cap - j) a3 (by simp[Act.eval,Act.put]) s1.out hsrc.out s2.out (by omega) s3.out ?_;rw[← hW.out])
 go_wp2
 go_ret
 exact⟨rfl,rfl⟩
def CC:List AV:=[.str [],.int .i64 0,.int .i64 0,.int .i64 0,.int .i64 0,.int .i64 0,.nil,.int .i64 0]
theorem Q3v:elG Tryz.prog 22=some (8,88,CC):=by kernel_rfl
theorem Pi:Qo.Ok Tryz.prog gls (xdel 33 8 CC):=by
 intro f args hp nx r hp' nx' hk;unfold xdel at hk;cases hf:Nat.beq f 33 with
 |false=>rw[hf] at hk;cases hk
 |true=>
  rw[hf] at hk;obtain rfl:=Nat.eq_of_beq_eq_true hf;simp only[cond_true] at hk;split at hk<;>first | cases hk | skip
  rename_i id ver z off len i' j';split at hk<;>first | cases hk | skip
  rename_i v cs a6;split at hk<;>first | cases hk | skip
  rename_i hc;simp only[Bool.and_eq_true,decide_eq_true_eq] at hc;obtain⟨an,ao,ap,aq,bn,rfl⟩:=hc;obtain rfl:=Nat.eq_of_beq_eq_true an;obtain rfl:=Nat.eq_of_beq_eq_true ao;have bq:=Nat.le_of_ble_eq_true ap;obtain⟨i,rfl⟩:=Int.eq_ofNat_of_zero_le aq;have hi:i<len:=by omega
  simp only[Int.toNat_natCast];intro m H B H0 rest w vs hh hl a3 a9;obtain⟨v0,v1,v2,rfl⟩:∃v0 v1 v2,vs= #[v0,v1,v2]:=by
   rcases vs with⟨_ | ⟨a,_ | ⟨b,_ | ⟨c,_ | ⟨d,r⟩⟩⟩⟩⟩<;>simp at hl
   exact⟨a,b,c,rfl⟩
  have ag:=a3 0 _ v0 rfl rfl;obtain⟨a,cap,rfl,bl,b0,ar,ad⟩:=ag.bs_inv;have e1:v1= .int .i64 (i:Int):=by have:=a3 1 _ v1 rfl rfl;cases this with | imm _ _ h=>cases h;rfl
  have e2:v2= .int .i64 ((i+1:Nat):Int):=by have:=a3 2 _ v2 rfl rfl;cases this with | imm _ _ h=>cases h;rfl
  subst e1;subst e2;obtain⟨rfl,a8⟩:=ad (m id) (Y8 a6);obtain⟨C,e,h1,h2,h3,h4⟩:=hh.box id _ a6;obtain⟨e0,i0,z0,af,ay,b4,b6,bc,aa,bm,ae,ai⟩:=Dk Q3v;have ax:e0=68:=by rw[Tryz.underlying22] at af;cases af;rfl
  subst ax;have hz:=(RV.imm (H:=H) (E:=Q8 (lkb hp) m) _ _ (Do H z0)).cellsRel ae;rw[← ai] at hz;have b5:∀u∈z0.cells,u.oneCell'=true:=fun u hu=>hz.mem u (by simpa using hu)
  refine .inl ⟨Ko (by kernel_rfl),(LF i0 ay aa z0 b4 b6 b5 (m id).g ((m id).base+off) cap len i (i+1) rfl C e w h1 (by rw[h2];exact a8) b0 (by unfold maxLen at ar;omega) hi (fun t ht=>by
   have b1:off+t<cs.length:=by omega
   obtain⟨u,q1,q2,_⟩:=h4 (off+t) _ (List.getElem?_eq_getElem b1);exact⟨u,by rw[Nat.add_assoc];exact q1,q2⟩) _ rfl).mono fun e' w' ⟨he,hw⟩=> ?_⟩
  subst hw;have aw:QZ (RV H (Q8 (lkb hp) m)) ((cs.drop (off+(i+1)*8)).take ((len - (i+1))*8)) ((C.toList.drop ((m id).base+off+(i+1)*8)).take ((len - (i+1))*8)):=by
   refine⟨by simp only[List.length_take,List.length_drop,Array.length_toList];omega,fun j c hj=> ?_⟩
   rw[List.getElem?_take] at hj;split at hj
   ·rename_i az;rw[List.getElem?_drop] at hj;obtain⟨u,q1,q2,q3⟩:=h4 _ c hj;refine⟨u,?_,q2,q3⟩;rw[List.getElem?_take,if_pos az,List.getElem?_drop,Array.getElem?_toList,show(m id).base+off+(i+1)*8+j=(m id).base+(off+(i+1)*8+j) by simp only[Nat.add_assoc]]
    exact q1
   ·cases hj
  have a5:((cs.drop (off+(i+1)*8)).take ((len - (i+1))*8)).length=(len - (i+1))*8:=by
   simp only[List.length_take,List.length_drop];omega
  have ah:CC.length=8:=rfl;have ab:RelH m H B H0 gls (lkb hp) nx w.drew:=⟨hh.sat,hh.old,hh.low,hh.fresh,hh.box,hh.sepR,hh.injR,hh.gv,hh.gl,hh.ty⟩;have b3:∀E,QZ (RV H E) CC z0.cells.toList:=fun E=>by
   have:=(RV.imm (H:=H) (E:=E) _ _ (Do H z0)).cellsRel ae
   rwa [← ai] at this
  generalize hD:(cs.drop (off+(i+1)*8)).take ((len - (i+1))*8)=D at*;generalize hN:(C.toList.drop ((m id).base+off+(i+1)*8)).take ((len - (i+1))*8)=N at*;have P1:=Cz (off:=off+i*8) ab a6 aw (by rw[a5];omega)
  rw[← Nat.add_assoc (m id).base off (i*8)] at P1;obtain⟨g1,g2,g3⟩:=Mt ab a6 P1;have a7:updF (lkb hp) id (some (.cells v (cs.take (off+i*8)++(D++cs.drop (off+i*8+D.length))))) id=some (.cells v (cs.take (off+i*8)++(D++cs.drop (off+i*8+D.length)))):=Qh _ _ _;have P2:=Cz (off:=off+(len - 1)*8) g1 a7 (b3 _) (by rw[ah];simp only[List.length_append,List.length_take,List.length_drop,a5];omega)
  rw[← Nat.add_assoc (m id).base off ((len - 1)*8)] at P2;obtain⟨k1,k2,k3⟩:=Mt g1 a7 P2;have au:(cs.take (off+i*8)++(D++cs.drop (off+i*8+D.length))).take (off+(len - 1)*8)++(CC++(cs.take (off+i*8)++(D++cs.drop (off+i*8+D.length))).drop (off+(len - 1)*8+CC.length))=cs.take (off+i*8)++(D++(CC++cs.drop (off+len*8))):=by
   rw[show off+(len - 1)*8=(off+i*8)+(len - (i+1))*8 by omega,ah,Oi _ _ _ _ (off+i*8) ((len - (i+1))*8) 8 (by rw[List.length_take];omega) a5,List.drop_drop,show off+i*8+D.length+8=off+len*8 by rw[a5];omega]
  have b2:∀x,updF (updF (lkb hp) id (some (.cells v (cs.take (off+i*8)++(D++cs.drop (off+i*8+D.length)))))) id x=updF (lkb hp) id x:=fun x=>by
   funext k;unfold updF;split<;>rfl
  rw[au,b2] at k1 k2;rw[QI];have hE:=g2.trans k2;have hb:Qd B w _:=Qd.trans (Ss g3) k3;refine⟨_,m,H,he,hb,k1,?_,fun p hp=>(a9 p hp).mono (.refl _) hE⟩
  obtain⟨a2,b8,q0,q1,q2,q3,q4⟩:=(ag.mono (.refl _) hE).bs_inv;cases q0;exact .bs _ _ _ _ _ _ _ q1 (by omega) q3 q4
set_option maxHeartbeats 4000000 in
set_option maxRecDepth 1000000 in
theorem AK(i0:TypeInfo)(ad:Tryz.prog.info? 55=some i0)(ap:i0.size=20)(bufZ:Value)(af:i0.zero=some bufZ)(ag:bufZ.cells.size=20)(ah:∀u∈bufZ.cells,u.oneCell'=true)(a4 off cap n i j:Nat)(ao:j=i+1)(C:Array Value)(e:TypeId)(w:World)(hg:w.heap[a4]? =some (.cells C e (0,0)))(b6:off+cap*20≤C.size)(hn:n≤cap)(hm:cap≤9223372036854775807)(hi:i<n)
  (h1:∀t,t<n*20→∃v,C[off+t]? =some v∧v.oneCell'=true) (a3:List Value) (a7:a3=((C.toList.drop (off+j*20)).take ((n - j)*20))):
  Calls Tryz.prog 59 #[.slice (some ⟨a4,off,none⟩) n cap,.int .i64 i,.int .i64 j] w fun e' w'=>e'= .returned (.slice (some ⟨a4,off,none⟩) (n - 1) cap)∧
   w'=(w.drew.setCells a4 (off+i*20) a3).setCells a4 (off+(n - 1)*20) bufZ.cells.toList:=by
 have aa:∀w:World,(zeroValue 55).run Tryz.prog w= .ok bufZ w:=fun w=>by simp[zeroValue,typeInfo,ad,af,Result.andThen]
 have a5:∀t,t<n*20→∃v,w.drew.cell? ⟨a4,off+t,none⟩=some v∧C[off+t]? =some v∧v.oneCell'=true:=fun t ht=>by
  obtain⟨v,a,b⟩:=h1 t ht;exact⟨v,by show w.cell? _=_;simp[World.cell?,hg,a],a,b⟩
 have ac:∀t,w.drew.frozen? ⟨a4,off+t,none⟩=false:=fun t=>by
  show w.frozen? _=false;simp[World.frozen?,hg]
 have a6:a3.length=(n - j)*20:=by rw[a7];simp;omega
 have a9:∀t,t< (n - j)*20→a3[t]? =C[off+(j*20+t)]? :=fun t ht=>by
  rw[a7,List.getElem?_take,if_pos ht,List.getElem?_drop,Array.getElem?_toList,Nat.add_assoc]
 obtain⟨A,hA,hsrc⟩:∃A:Addr,(if cap=j then some (⟨a4,off,none⟩:Addr) else some ⟨a4,off+j*20,none⟩)=some A∧Hid (∀t u,a3[t]? =some u→w.drew.cell? (A.add t)=some u):=by
  by_cases h:cap=j
  ·refine⟨⟨a4,off,none⟩,by simp[h],fun t u hu=> ?_⟩
   have h0:a3.length=0:=by rw[a6];omega
   rw[List.length_eq_zero_iff.1 h0] at hu;simp at hu
  ·refine⟨⟨a4,off+j*20,none⟩,by simp[h],fun t u hu=> ?_⟩
   have ht:t< (n - j)*20:=by
    have:=(List.getElem?_eq_some_iff.1 hu).1
    rwa [a6] at this
   rw[a9 t ht] at hu;obtain⟨v,a,b,_⟩:=a5 (j*20+t) (by omega)
   rw[Addr.add_lit,Nat.add_assoc,a,← b,hu]
 have s1:Hid (a3.length=(n - j)*20):=a6;have s2:Hid (∀u∈a3,u.oneCell'=true):=fun u hu=>by
  obtain⟨t,ht,e⟩:=List.getElem_of_mem hu;have h2:a3[t]? =some u:=by rw[List.getElem?_eq_getElem ht,e]
  rw[a9 t (by omega)] at h2
  obtain⟨v,_,b,c⟩:=a5 (j*20+t) (by omega)
  rw[b] at h2;cases h2;exact c
 have s3:Hid (∀t,t<a3.length→(w.drew.cell? ⟨a4,off+i*20+t,none⟩).isSome=true∧w.drew.frozen? ⟨a4,off+i*20+t,none⟩=false):=fun t ht=>by
  rw[Nat.add_assoc];obtain⟨v,a,_⟩:=a5 (i*20+t) (by omega)
  exact⟨by rw[a];rfl,ac _⟩
 obtain⟨W1,hW1⟩:∃W1,W1=w.drew.setCells a4 (off+i*20) a3:=⟨_,rfl⟩;obtain⟨C',b1,b2,_,_,_⟩:=Gq (e:=e) (fr:=(0,0)) a4 a3 (off+i*20) w.drew C hg (by rw[a6];omega)
 rw[← hW1] at b1;have am:∀ty,(Builtin.clear_ #[23] ty #[.slice (some ⟨a4,off+(i+(n - j))*20,none⟩) 1 (cap - (i+(n - j)))]).run Tryz.prog W1= .ok (.tuple #[]) (W1.setCells a4 (off+(i+(n - j))*20) bufZ.cells.toList):=fun ty=>
  ST W1 23 55 ty bufZ Tryz.underlying23 aa ah a4 _ _ (fun t ht=>by
   have ht:t<20:=by rw[ag] at ht;exact ht
   have:(off+(i+(n - j))*20+t)<C'.size:=by omega
   simp[World.cell?,b1,Array.getElem?_eq_getElem this]) (fun t ht=>by simp[World.frozen?,b1])
 have hW:Hid (W1=w.drew.setCells a4 (off+i*20) a3):=hW1;have az:i≤cap:=by omega
 have b3:j≤cap:=by omega
 have b4:j≤n:=by omega
 have ar:¬i=j:=by omega
 have mixed:=CR;rw[← hW1];clear b1 b2 hW1 a5 a9 a6 a7 h1 ac;have b5:i<j:=by omega
 have ae:n - 1=i+(n - j):=by omega
 rw[ae];have b0:n - (i+(n - j))=1:=by omega
 clear ao ae;generalize bufZ.cells.toList=zl at am ⊢;clear af ag ah aa
 go_enter Tryz.func59,Tryz.ntmps59
 go_wp2_with fail
 go_region_law_o (refine step_append_room rfl (.tmp 22) (.tmp 25) 23 rfl 55 i0 20 Tryz.underlying23 ad ap a4 off i cap (by simp[Act.eval,Act.put]) A (n - j) (cap - j) a3 (by simp[Act.eval,Act.put]) s1.out hsrc.out s2.out (by omega) s3.out ?_;rw[← hW.out])
 go_wp2
 go_ret
 exact⟨rfl,rfl⟩
def MH:List AV:=[.int .i64 0,.str [],.int .i64 0,.int .i64 0,.int .i64 0,.nil,.int .i64 0,.str [],.int .i64 0,.int .i64 0,.int .i64 0,.int .i64 0,.int .i64 0,.int .i64 0,.int .i64 0,.int .i64 0,.nil,.nil,.nil,.nil]
theorem elGStmt:elG Tryz.prog 23=some (20,256,MH):=by kernel_rfl
theorem Q0r:Qo.Ok Tryz.prog gls (xdel 59 20 MH):=by
 intro f args hp nx r hp' nx' hk;unfold xdel at hk;cases hf:Nat.beq f 59 with
 |false=>rw[hf] at hk;cases hk
 |true=>
  rw[hf] at hk;obtain rfl:=Nat.eq_of_beq_eq_true hf;simp only[cond_true] at hk;split at hk<;>first | cases hk | skip
  rename_i id ver z off len i' j';split at hk<;>first | cases hk | skip
  rename_i v cs a6;split at hk<;>first | cases hk | skip
  rename_i hc;simp only[Bool.and_eq_true,decide_eq_true_eq] at hc;obtain⟨an,ao,ap,aq,bn,rfl⟩:=hc;obtain rfl:=Nat.eq_of_beq_eq_true an;obtain rfl:=Nat.eq_of_beq_eq_true ao;have bq:=Nat.le_of_ble_eq_true ap;obtain⟨i,rfl⟩:=Int.eq_ofNat_of_zero_le aq;have hi:i<len:=by omega
  simp only[Int.toNat_natCast];intro m H B H0 rest w vs hh hl a3 a9;obtain⟨v0,v1,v2,rfl⟩:∃v0 v1 v2,vs= #[v0,v1,v2]:=by
   rcases vs with⟨_ | ⟨a,_ | ⟨b,_ | ⟨c,_ | ⟨d,r⟩⟩⟩⟩⟩<;>simp at hl
   exact⟨a,b,c,rfl⟩
  have ag:=a3 0 _ v0 rfl rfl;obtain⟨a,cap,rfl,bl,b0,ar,ad⟩:=ag.bs_inv;have e1:v1= .int .i64 (i:Int):=by have:=a3 1 _ v1 rfl rfl;cases this with | imm _ _ h=>cases h;rfl
  have e2:v2= .int .i64 ((i+1:Nat):Int):=by have:=a3 2 _ v2 rfl rfl;cases this with | imm _ _ h=>cases h;rfl
  subst e1;subst e2;obtain⟨rfl,a8⟩:=ad (m id) (Y8 a6);obtain⟨C,e,h1,h2,h3,h4⟩:=hh.box id _ a6;obtain⟨e0,i0,z0,af,ay,b4,b6,bc,aa,bm,ae,ai⟩:=Dk elGStmt;have ax:e0=55:=by rw[Tryz.underlying23] at af;cases af;rfl
  subst ax;have hz:=(RV.imm (H:=H) (E:=Q8 (lkb hp) m) _ _ (Do H z0)).cellsRel ae;rw[← ai] at hz;have b5:∀u∈z0.cells,u.oneCell'=true:=fun u hu=>hz.mem u (by simpa using hu)
  refine .inl ⟨Ko (by kernel_rfl),(AK i0 ay aa z0 b4 b6 b5 (m id).g ((m id).base+off) cap len i (i+1) rfl C e w h1 (by rw[h2];exact a8) b0 (by unfold maxLen at ar;omega) hi (fun t ht=>by
   have b1:off+t<cs.length:=by omega
   obtain⟨u,q1,q2,_⟩:=h4 (off+t) _ (List.getElem?_eq_getElem b1);exact⟨u,by rw[Nat.add_assoc];exact q1,q2⟩) _ rfl).mono fun e' w' ⟨he,hw⟩=> ?_⟩
  subst hw;have aw:QZ (RV H (Q8 (lkb hp) m)) ((cs.drop (off+(i+1)*20)).take ((len - (i+1))*20)) ((C.toList.drop ((m id).base+off+(i+1)*20)).take ((len - (i+1))*20)):=by
   refine⟨by simp only[List.length_take,List.length_drop,Array.length_toList];omega,fun j c hj=> ?_⟩
   rw[List.getElem?_take] at hj;split at hj
   ·rename_i az;rw[List.getElem?_drop] at hj;obtain⟨u,q1,q2,q3⟩:=h4 _ c hj;refine⟨u,?_,q2,q3⟩;rw[List.getElem?_take,if_pos az,List.getElem?_drop,Array.getElem?_toList,show(m id).base+off+(i+1)*20+j=(m id).base+(off+(i+1)*20+j) by simp only[Nat.add_assoc]]
    exact q1
   ·cases hj
  have a5:((cs.drop (off+(i+1)*20)).take ((len - (i+1))*20)).length=(len - (i+1))*20:=by
   simp only[List.length_take,List.length_drop];omega
  have ah:MH.length=20:=rfl;have ab:RelH m H B H0 gls (lkb hp) nx w.drew:=⟨hh.sat,hh.old,hh.low,hh.fresh,hh.box,hh.sepR,hh.injR,hh.gv,hh.gl,hh.ty⟩;have b3:∀E,QZ (RV H E) MH z0.cells.toList:=fun E=>by
   have:=(RV.imm (H:=H) (E:=E) _ _ (Do H z0)).cellsRel ae
   rwa [← ai] at this
  generalize hD:(cs.drop (off+(i+1)*20)).take ((len - (i+1))*20)=D at*;generalize hN:(C.toList.drop ((m id).base+off+(i+1)*20)).take ((len - (i+1))*20)=N at*;have P1:=Cz (off:=off+i*20) ab a6 aw (by rw[a5];omega)
  rw[← Nat.add_assoc (m id).base off (i*20)] at P1;obtain⟨g1,g2,g3⟩:=Mt ab a6 P1;have a7:updF (lkb hp) id (some (.cells v (cs.take (off+i*20)++(D++cs.drop (off+i*20+D.length))))) id=some (.cells v (cs.take (off+i*20)++(D++cs.drop (off+i*20+D.length)))):=Qh _ _ _;have P2:=Cz (off:=off+(len - 1)*20) g1 a7 (b3 _) (by rw[ah];simp only[List.length_append,List.length_take,List.length_drop,a5];omega)
  rw[← Nat.add_assoc (m id).base off ((len - 1)*20)] at P2;obtain⟨k1,k2,k3⟩:=Mt g1 a7 P2;have au:(cs.take (off+i*20)++(D++cs.drop (off+i*20+D.length))).take (off+(len - 1)*20)++(MH++(cs.take (off+i*20)++(D++cs.drop (off+i*20+D.length))).drop (off+(len - 1)*20+MH.length))=cs.take (off+i*20)++(D++(MH++cs.drop (off+len*20))):=by
   rw[show off+(len - 1)*20=(off+i*20)+(len - (i+1))*20 by omega,ah,Oi _ _ _ _ (off+i*20) ((len - (i+1))*20) 20 (by rw[List.length_take];omega) a5,List.drop_drop,show off+i*20+D.length+20=off+len*20 by rw[a5];omega]
  have b2:∀x,updF (updF (lkb hp) id (some (.cells v (cs.take (off+i*20)++(D++cs.drop (off+i*20+D.length)))))) id x=updF (lkb hp) id x:=fun x=>by
   funext k;unfold updF;split<;>rfl
  rw[au,b2] at k1 k2;rw[QI];have hE:=g2.trans k2;have hb:Qd B w _:=Qd.trans (Ss g3) k3;refine⟨_,m,H,he,hb,k1,?_,fun p hp=>(a9 p hp).mono (.refl _) hE⟩
  obtain⟨a2,b8,q0,q1,q2,q3,q4⟩:=(ag.mono (.refl _) hE).bs_inv;cases q0;exact .bs _ _ _ _ _ _ _ q1 (by omega) q3 q4
def orH(a b:Qo):Qo:=fun f args hp nx=>match a f args hp nx with
 |some r=>some r
 |none=>b f args hp nx
theorem orH_ok{a b:Qo}(ha:Qo.Ok Tryz.prog gls a)(hb:Qo.Ok Tryz.prog gls b):Qo.Ok Tryz.prog gls (orH a b):=by
 intro f args hp nx r hp' nx' hk;unfold orH at hk;split at hk;·rename_i hq;cases hk;exact ha _ _ _ _ _ _ _ hq
 ·exact hb _ _ _ _ _ _ _ hk
def xe1:Qo:=orH xe0 (orH (xdel 33 8 CC) (xdel 59 20 MH))
theorem Ad:Qo.Ok Tryz.prog gls xe1:=orH_ok Ga (orH_ok Pi Q0r)
def gds2(f:Nat):Bool:=gds f&& !(Nat.beq f 33 || Nat.beq f 59)
theorem Rq:DK Tryz.prog gds2:=by
 obtain⟨a,b⟩:=V0;exact⟨a,fun f hf=>b f (by unfold gds2 at hf;rw[Bool.and_eq_true] at hf;exact hf.1)⟩
end Go.Proofs.YtkgphhemcglgnaaGreatDoor
end
section
namespace Go.Proofs.YtkgphhemcglgnaaGreatDoor
open Go HY Go.RowKit Go.Sort Go.Proofs Go.Lib
def bufZ:Value:=.agg #[.string ⟨#[]⟩,.int .i64 0,.int .i64 0,.int .i64 0,.int .i64 0,.int .i64 0,.slice none 0 0,.int .i64 0]
theorem infoB:∃i,Tryz.prog.info? 68=some i∧i.size=8∧i.zero=bufZ:=by
 have h:(match Tryz.prog.info? 68 with | some i=>Nat.beq i.size 8 | none=>false)=true:=by kernel_rfl
 have h2:(Tryz.prog.info? 68).map (·.zero)=some bufZ:=by kernel_rfl
 cases hi:Tryz.prog.info? 68 with
 |none=>rw[hi] at h;cases h
 |some i=>rw[hi] at h h2;exact⟨i,rfl,Nat.eq_of_beq_eq_true h,by simpa using h2⟩
theorem Q58(a3 off cap n i j:Nat)(a7:j=i+1)(C:Array Value)(e:TypeId)(w:World)(hg:w.heap[a3]? =some (.cells C e (0,0)))(a8:off+cap*8≤C.size)(hn:n≤cap)(hm:cap≤9223372036854775807)(hi:i<n)
  (h1:∀t,t<n*8→∃v,C[off+t]? =some v∧v.oneCell'=true) (a4:List Value) (a5:a4=((C.toList.drop (off+j*8)).take ((n - j)*8))):
  Calls Tryz.prog 33 #[.slice (some ⟨a3,off,none⟩) n cap,.int .i64 i,.int .i64 j] w fun e' w'=>e'= .returned (.slice (some ⟨a3,off,none⟩) (n - 1) cap)∧
   w'=(w.drew.setCells a3 (off+i*8) a4).setCells a3 (off+(n - 1)*8) bufZ.cells.toList:=by
 obtain⟨i0,a6,a9,aa⟩:=infoB;exact LF i0 a6 a9 bufZ aa rfl (by decide) a3 off cap n i j a7 C e w hg a8 hn hm hi h1 a4 a5
theorem Ie(x:Qb):(Q4 x).cells.length=8:=rfl
theorem Mx(l:List Qb):((l.map Q4).flatMap AV.cells).length=l.length*8:=by
 induction l with
 |nil=>rfl
 |cons a l ih=>rw[List.map_cons,List.flatMap_cons,List.length_append,ih,Ie,List.length_cons];omega
theorem T5:∀(l:List Qb) (i:Nat),i<l.length→((l.eraseIdx i).map Q4).flatMap AV.cells=((l.map Q4).flatMap AV.cells).take (i*8)++((l.map Q4).flatMap AV.cells).drop ((i+1)*8)
 | [],_,h=>by simp at h
 |a::l,0,_=>by
  simp only[List.eraseIdx_cons_zero,List.map_cons,List.flatMap_cons,Nat.zero_mul,List.take_zero,List.nil_append,Nat.zero_add,Nat.one_mul];rw[List.drop_append,Ie,List.drop_eq_nil_of_le (by rw[Ie];exact Nat.le_refl _)];simp
 |a::l,i+1,h=>by
  simp only[List.eraseIdx_cons_succ,List.map_cons,List.flatMap_cons];have ha:=Ie a;rw[T5 l i (by simpa using h),show(i+1)*8=(Q4 a).cells.length+i*8 by omega,List.take_length_add_append,show(i+1+1)*8=(Q4 a).cells.length+(i+1)*8 by omega,List.drop_length_add_append,List.append_assoc,show(i+1)*8=(Q4 a).cells.length+i*8 by omega]
def Uq(r:List Qb):AV:=.ow 0 0 8 (List.length r)
def YG(r:List Qb):List Box:=[.own 0 8 (List.map Q4 r)]
theorem del_put{m:Nat→Lc}{H:HV}{w:World}{l:List Qb}{i:Nat}{C:Array Value}{e:TypeId}(hi:i<l.length)(hg:w.heap[(m 0).g]? =some (.cells C e (0,0)))(ai:(m 0).base+l.length*8≤C.size)
  (h4:∀j c,((l.map Q4).flatMap AV.cells)[j]? =some c→∃v,C[(m 0).base+j]? =some v∧v.oneCell'=true∧RelI H c v) (a6:List Value) (a7:a6=((C.toList.drop ((m 0).base+(i+1)*8)).take ((l.length - (i+1))*8))):
  PutOk H w ((w.drew.setCells (m 0).g ((m 0).base+i*8) a6).setCells (m 0).g ((m 0).base+(l.length - 1)*8) bufZ.cells.toList) (m 0) ((l.eraseIdx i).map Q4):=by
 have ac:a6.length=(l.length - (i+1))*8:=by rw[a7];simp;omega
 have hz:bufZ.cells.toList.length=8:=rfl;obtain⟨C1,a1,a2,a3,a4,a5⟩:=Gq (e:=e) (fr:=(0,0)) (m 0).g a6 ((m 0).base+i*8) w.drew C hg (by rw[ac];omega)
 obtain⟨C2,b1,b2,b3,b4,b5⟩:=Gq (e:=e) (fr:=(0,0)) (m 0).g bufZ.cells.toList ((m 0).base+(l.length - 1)*8) _ C1 a1 (by rw[hz,a2];omega)
 obtain⟨s1,s2,s3,s4⟩:=WO (m 0).g a6 ((m 0).base+i*8) w.drew;obtain⟨t1,t2,t3,t4⟩:=WO (m 0).g bufZ.cells.toList ((m 0).base+(l.length - 1)*8) (w.drew.setCells (m 0).g ((m 0).base+i*8) a6);have a9:(l.eraseIdx i).length=l.length - 1:=by rw[List.length_eraseIdx,if_pos hi]
 refine⟨t1.trans s1,t2.trans s2,t3.trans s3,by rw[b5,a5];exact Nat.le_refl _,fun k _ hk=>(t4 k hk).trans (s4 k hk),fun D e' hD=> ?_⟩
 rw[hg] at hD;cases hD;refine⟨C2,b1,by rw[b2,a2],by rw[Mx,a9];omega,fun j c hj=> ?_⟩
 have ar:j< (l.length - 1)*8:=by
  have:=(List.getElem?_eq_some_iff.1 hj).1;rw[Mx,a9] at this;exact this
 rw[T5 l i hi] at hj;have aa:=Mx l;by_cases hji:j<i*8
 ·rw[List.getElem?_append_left (by rw[List.length_take,aa];omega),List.getElem?_take,if_pos hji] at hj
  obtain⟨v,q1,q2,q3⟩:=h4 j c hj;refine⟨v,?_,q2,q3⟩;rw[b4 _ (by omega),a4 _ (by omega),q1]
 ·have ab:(((l.map Q4).flatMap AV.cells).take (i*8)).length=i*8:=by rw[List.length_take,aa];omega
  rw[List.getElem?_append_right (by rw[ab];omega),ab,List.getElem?_drop] at hj
  obtain⟨v,q1,q2,q3⟩:=h4 _ c hj;refine⟨v,?_,q2,q3⟩;have h8:j - i*8<a6.length:=by rw[ac];omega
  have:=a3 (j - i*8) h8;rw[show(m 0).base+i*8+(j - i*8)=(m 0).base+j by omega] at this
  rw[b4 _ (by omega),this,a7,List.getElem?_take,if_pos (by omega),List.getElem?_drop,Array.getElem?_toList,show(m 0).base+(i+1)*8+(j - i*8)=(m 0).base+((i+1)*8+(j - i*8)) by omega]
  exact q1
noncomputable def YI(x0:List Qb)(x1:Int)(x2:Int):Option (List Qb):=if 0≤x1∧x1<x0.length∧x2=x1+1 then some (x0.eraseIdx x1.toNat) else none
theorem MS(x0:List Qb)(x1:Int)(x2:Int)(r:List Qb)(h:YI x0 x1 x2=some r):
  PH 33 [.ow 0 0 8 (List.length x0),.int .i64 x1,.int .i64 x2] [.own 0 8 (List.map Q4 x0)] (Uq r) (YG r):=by
 unfold YI at h;split at h
 case isFalse=>cases h
 rename_i hc;cases h;obtain⟨c1,c2,rfl⟩:=hc;obtain⟨i,rfl⟩:=Int.eq_ofNat_of_zero_le c1;have hi:i<x0.length:=by omega
 simp only[Int.toNat_natCast];refine⟨fun m H B H0 rest w vs hh hl a4 a7 b6=> ?_⟩
 have am:rest=[]:=by
  have:rest.map (·.1)=[]:=a7;simpa using this
 subst am;obtain⟨v0,v1,v2,rfl⟩:∃v0 v1 v2,vs= #[v0,v1,v2]:=by
  rcases vs with⟨_ | ⟨a,_ | ⟨b,_ | ⟨c,_ | ⟨d,r⟩⟩⟩⟩⟩<;>simp at hl
  exact⟨a,b,c,rfl⟩
 have a6:lkb (hpOf 0 [Box.own 0 8 (List.map Q4 x0)]) 0=some (.own 0 8 (List.map Q4 x0)):=rfl;obtain⟨oa,cap,rfl,ae,ai,a8,ak,a5⟩:=(a4 0 _ v0 rfl rfl).ow_inv;have e1:v1= .int .i64 (i:Int):=by have:=a4 1 _ v1 rfl rfl;cases this with | imm _ _ h=>cases h;rfl
 have e2:v2= .int .i64 ((i+1:Nat):Int):=by have:=a4 2 _ v2 rfl rfl;cases this with | imm _ _ h=>cases h;rfl
 subst e1;subst e2;have a9:=a5 (m 0) (JY a6 rfl);rcases a9 with⟨hz,hc⟩ | ⟨ab,ha,an⟩
 ·omega
 ·subst ha;obtain⟨_,_,af⟩:=hh.box 0 _ a6;obtain⟨C,e,h1,h2,h3,h4⟩:=(af.resolve_left fun h=>by omega).2
  rw[Mx] at h3;have aa:∀t,t<x0.length*8→∃v,C[(m 0).base+t]? =some v∧v.oneCell'=true:=fun t ht=>by
   have aj:t< ((List.map Q4 x0).flatMap AV.cells).length:=by rw[Mx];exact ht
   obtain⟨v,q1,q2,_⟩:=h4 t _ (List.getElem?_eq_getElem aj);exact⟨v,q1,q2⟩
  refine .inl ⟨Ko (by kernel_rfl),(Q58 (m 0).g (m 0).base cap x0.length i (i+1) rfl C e w h1 (by rw[h2];exact an) ai (by unfold maxLen at a8;omega) hi aa _ rfl).mono fun e' w' ⟨he,hw⟩=> ?_⟩
  subst hw;obtain⟨hb,hr⟩:=AO hh a6 (show 0<1 by omega) ab (fun y hy=>by obtain⟨s,_,rfl⟩:=List.mem_map.1 hy;rfl) (del_put (H:=H) (l:=x0) hi h1 h3 h4 _ rfl)
  have ao:updF (lkb (hpOf 0 [Box.own 0 8 (List.map Q4 x0)])) 0 (some (.own 0 8 (List.map Q4 (x0.eraseIdx i))))=lkb (hpOf 0 (YG (x0.eraseIdx i))):=by
   funext k;cases k with
   |zero=>rfl
   |succ k=>rfl
  have hE:=IL (m:=m) (ys:=List.map Q4 (x0.eraseIdx i)) a6;rw[ao] at hr hE;refine⟨_,m,H,he,hb,hr,?_,fun p hp=>by cases hp⟩
  have ag:(x0.eraseIdx i).length=x0.length - 1:=by rw[List.length_eraseIdx,if_pos hi]
  rw[show Q8 (lkb (hpOf 0 (YG (x0.eraseIdx i)))) m=_ from hE];show RV H _ (.ow 0 0 8 (List.length (x0.eraseIdx i))) _;rw[ag];exact .ow _ _ _ _ _ _ ae (by omega) a8 ak a5
end Go.Proofs.YtkgphhemcglgnaaGreatDoor
end
section
namespace Go.Proofs.YtkgphhemcglgnaaGreatDoor
open Go HY
set_option maxRecDepth 1000000
def Gi(r:List Q0):AV:=.ow 0 0 20 (List.length r)
def Gg(r:List Q0):List Box:=[.own 0 20 (List.map Q6 r)]
noncomputable def VY(x0:List Q0):Option (List Q0):=if List.length x0*256≤140737488355328∧List.length x0≤9223372036854775807 then some x0 else none
theorem I5(x0:List Q0)(r:List Q0)(h:VY x0=some r):PH 150 [Qn x0] [] (Gi r) (Gg r):=by
 unfold VY at h;split at h
 ·rename_i hc;cases h;exact PuH1 (kb:=[{slot:=0,path:=[],own:=20}]) (φ:=(List.map Q6 x0=[]→LeVs [.ow 0 0 20 0] [.ow 0 0 20 (List.length x0)]∧LeBs [.own 0 20 []] [.own 0 20 (List.map Q6 x0)])∧(0=0∧(0+List.length (List.map Q6 x0))*256≤140737488355328∧0+List.length (List.map Q6 x0)≤9223372036854775807)∧∃l,(List.map Q6 l=[]++List.map Q6 x0∧List.length l=0+List.length (List.map Q6 x0))∧LeVs [.ow 0 0 20 (List.length l)] [.ow 0 0 20 (List.length x0)]∧LeBs [.own 0 20 (List.map Q6 l)] [.own 0 20 (List.map Q6 x0)])
   (hs:=[(4,.nn),(7,.z [{slot:=5,own:=20}] (some (.n Q6 7 (some .a))))]) (by kernel_rfl)
   ⟨fun e=>by have e1:x0=[]:=List.map_eq_nil_iff.1 e;subst e1;exact⟨.refl _,.refl _⟩,⟨rfl,by simpa using hc⟩,x0,⟨by simp,by simp⟩,⟨.refl _,.refl _⟩⟩
 ·cases h
def G6(r:List Q7):AV:=.ow 0 0 4 (List.length r)
def G2(r:List Q7):List Box:=[.own 0 4 (List.map Q2 r)]
noncomputable def VC(x0:List Q7):Option (List Q7):=if List.length x0*72≤140737488355328∧List.length x0≤9223372036854775807 then some x0 else none
theorem Lz(x0:List Q7)(r:List Q7)(h:VC x0=some r):PH 143 [YB x0] [] (G6 r) (G2 r):=by
 unfold VC at h;split at h
 ·rename_i hc;cases h;exact PuH1 (kb:=[{slot:=0,path:=[],own:=4}]) (φ:=(List.map Q2 x0=[]→LeVs [.ow 0 0 4 0] [.ow 0 0 4 (List.length x0)]∧LeBs [.own 0 4 []] [.own 0 4 (List.map Q2 x0)])∧(0=0∧(0+List.length (List.map Q2 x0))*72≤140737488355328∧0+List.length (List.map Q2 x0)≤9223372036854775807)∧∃l,(List.map Q2 l=[]++List.map Q2 x0∧List.length l=0+List.length (List.map Q2 x0))∧LeVs [.ow 0 0 4 (List.length l)] [.ow 0 0 4 (List.length x0)]∧LeBs [.own 0 4 (List.map Q2 l)] [.own 0 4 (List.map Q2 x0)])
   (hs:=[(4,.nn),(7,.z [{slot:=5,own:=4}] (some (.n Q2 7 (some .a))))]) (by kernel_rfl)
   ⟨fun e=>by have e1:x0=[]:=List.map_eq_nil_iff.1 e;subst e1;exact⟨.refl _,.refl _⟩,⟨rfl,by simpa using hc⟩,x0,⟨by simp,by simp⟩,⟨.refl _,.refl _⟩⟩
 ·cases h
def GX(r:List gLin):AV:=.ow 0 0 2 (List.length r)
def GV(r:List gLin):List Box:=[.own 0 2 (List.map Qe r)]
noncomputable def Jy(x0:List gLin):Option (List gLin):=if List.length x0*32≤140737488355328∧List.length x0≤9223372036854775807 then some x0 else none
theorem It(x0:List gLin)(r:List gLin)(h:Jy x0=some r):PH 144 [GI x0] [] (GX r) (GV r):=by
 unfold Jy at h;split at h
 ·rename_i hc;cases h;exact PuH1 (kb:=[{slot:=0,path:=[],own:=2}]) (φ:=(List.map Qe x0=[]→LeVs [.ow 0 0 2 0] [.ow 0 0 2 (List.length x0)]∧LeBs [.own 0 2 []] [.own 0 2 (List.map Qe x0)])∧(0=0∧(0+List.length (List.map Qe x0))*32≤140737488355328∧0+List.length (List.map Qe x0)≤9223372036854775807)∧∃l,(List.map Qe l=[]++List.map Qe x0∧List.length l=0+List.length (List.map Qe x0))∧LeVs [.ow 0 0 2 (List.length l)] [.ow 0 0 2 (List.length x0)]∧LeBs [.own 0 2 (List.map Qe l)] [.own 0 2 (List.map Qe x0)])
   (hs:=[(4,.nn),(7,.z [{slot:=5,own:=2}] (some (.n Qe 7 (some .a))))]) (by kernel_rfl)
   ⟨fun e=>by have e1:x0=[]:=List.map_eq_nil_iff.1 e;subst e1;exact⟨.refl _,.refl _⟩,⟨rfl,by simpa using hc⟩,x0,⟨by simp,by simp⟩,⟨.refl _,.refl _⟩⟩
 ·cases h
def Gh(r:List Qa):AV:=.ow 0 0 13 (List.length r)
def Gf(r:List Qa):List Box:=[.own 0 13 (List.map Qi r)]
noncomputable def VW(x0:List Qa):Option (List Qa):=if List.length x0*160≤140737488355328∧List.length x0≤9223372036854775807 then some x0 else none
theorem I3(x0:List Qa)(r:List Qa)(h:VW x0=some r):PH 145 [YO x0] [] (Gh r) (Gf r):=by
 unfold VW at h;split at h
 ·rename_i hc;cases h;exact PuH1 (kb:=[{slot:=0,path:=[],own:=13}]) (φ:=(List.map Qi x0=[]→LeVs [.ow 0 0 13 0] [.ow 0 0 13 (List.length x0)]∧LeBs [.own 0 13 []] [.own 0 13 (List.map Qi x0)])∧(0=0∧(0+List.length (List.map Qi x0))*160≤140737488355328∧0+List.length (List.map Qi x0)≤9223372036854775807)∧∃l,(List.map Qi l=[]++List.map Qi x0∧List.length l=0+List.length (List.map Qi x0))∧LeVs [.ow 0 0 13 (List.length l)] [.ow 0 0 13 (List.length x0)]∧LeBs [.own 0 13 (List.map Qi l)] [.own 0 13 (List.map Qi x0)])
   (hs:=[(4,.nn),(7,.z [{slot:=5,own:=13}] (some (.n Qi 7 (some .a))))]) (by kernel_rfl)
   ⟨fun e=>by have e1:x0=[]:=List.map_eq_nil_iff.1 e;subst e1;exact⟨.refl _,.refl _⟩,⟨rfl,by simpa using hc⟩,x0,⟨by simp,by simp⟩,⟨.refl _,.refl _⟩⟩
 ·cases h
noncomputable def VX(x0:List Zh):Option (List Zh):=if List.length x0*24≤140737488355328∧List.length x0≤9223372036854775807 then some x0 else none
theorem I4(x0:List Zh)(r:List Zh)(h:VX x0=some r):PU 109 [N5 x0] (N5 r):=by
 unfold VX at h;split at h
 ·rename_i hc;cases h;exact Pu1 (φ:=(List.map Qk x0=[]→LeT .nil (.sl 2 (List.map Qk x0)))∧(0=0∧(0+List.length (List.map Qk x0))*24≤140737488355328∧0+List.length (List.map Qk x0)≤9223372036854775807)∧∃l,(List.map Qk l=[]++List.map Qk x0∧List.length l=0+List.length (List.map Qk x0))∧List.length l=List.length (List.map Qk l)∧LeT (.sl 2 (List.map Qk l)) (.sl 2 (List.map Qk x0)))
   (hs:=[(4,.nn),(7,.z [{slot:=5,own:=2}] (some (.n Qk 7 (some .a))))]) (by kernel_rfl)
   ⟨fun e=>by rw[e];exact .nil 2,⟨rfl,by simpa using hc⟩,x0,⟨by simp,by simp⟩,⟨by simp,.refl _⟩⟩
 ·cases h
end Go.Proofs.YtkgphhemcglgnaaGreatDoor
end
noncomputable section
namespace Go.Proofs.YtkgphhemcglgnaaGreatDoor
open Go HY
set_option maxRecDepth 1000000
def C4(x0:Str):Option Str:=
 some x0
theorem Sh(x0 r)(h:C4 x0=some r):PU 113 [eS x0] (eS r):=
 Pu2 (hs:=[]) ((kEr (enc:=eS) x0) h)
def Ch(x0:gLin):Option gLin:=
 VX x0.fL>>=fun v0=>
 some ((gLin.mk x0.fK v0))>>=fun v1=>
 some v1
theorem En(x0 r)(h:Ch x0=some r):PU 112 [Qe x0] (Qe r):=
 Pu2 (hs:=[(7,.c N5),(8,.n Qe 8 none)]) ((kC (sh:=N5) (I4 x0.fL) fun v0=>(kW (sh:=Qe) (gLin.mk x0.fK v0) lr fun v1=>(kEr (enc:=Qe) v1))) h)
def QJ(x0:gLin):Option (gLin×Int):=
 Ch x0>>=fun v0=>
 some (v0,(0:Int))
theorem GW(x0 r)(h:QJ x0=some r):PU 111 [Qe x0] (Dr r):=
 Pu2 (hs:=[(5,.c Qe)]) ((kC (sh:=Qe) (En x0) fun v0=>(kEr (enc:=Dr) (v0,(0:Int)))) h)
def ZP(s:((List Q7)×Int))(u:(Int×Int×Int))(o:(List Q7×List gLin) ⊕ ((List Q7)×Int× (List Q7))):List Alt:=lp o (.exit 2) (fun x=>[.sl 4 (List.map Q2 s.1),.fn 111 [],.undef,.undef,.ow 0 0 4 (List.length x.1),ii s.2,ii u.2.1]) (fun x=>[.hol 0 4 (List.map Q2 x.1) (Int.toNat u.1) 3 (.ow 1 0 2 (List.length x.2)),.own 0 2 (List.map Qe x.2)]) .ret (fun x=>[.sl 4 (List.map Q2 s.1),.fn 111 [],.sl 4 (List.map Q2 x.1),ii x.2.1,.ow 0 0 4 (List.length x.2.2),ii s.2,ii u.2.1]) (fun x=>[.own 0 4 (List.map Q2 x.2.2)])
def Qr(x0:List Q7)(x6:(List Q7×List gLin))(x8:Int)(a6:Int)(a3:Int):Option ((List Q7×List gLin) ⊕ ((List Q7)×Int× (List Q7))):=
 if a3<a6 then
 if 0≤x8∧x8< (↑x6.fst.length:Int) then
 ix x0 x8>>=fun v0=>
 ix v0.fAt a3>>=fun v1=>
 QJ v1>>=fun v2=>
 if 0≤a3∧a3< (↑x6.snd.length:Int) then
 if a3.toNat< (List.map Qe x6.snd).length then
 some (List.set x6.snd a3.toNat v2.fst)>>=fun v3=>
 if v2.snd !=0 then
 if x6.snd.length=(List.map Qe v3).length then
 x6.fst[x8.toNat]? >>=fun v4=>
 some (List.set x6.fst x8.toNat (Q7.mk v4.fj v4.fu v3))>>=fun v5=>
 some (.inr ([],v2.snd,v5))
 else none
 else
 Qr x0 (x6.fst,v3) x8 a6 (wr (a3+1))
 else none
 else none
 else none
 else
 some (.inl x6)
 partial_fixpoint
theorem Nt(x0:List Q7)(x6:(List Q7×List gLin))(x8:Int)(a5:Int)(a6:Int)(a7:Int)(a3:Int)(o:(List Q7×List gLin) ⊕ ((List Q7)×Int× (List Q7)))(h:Qr x0 x6 x8 a7 a3=some o):LO 151 11 79 [0,1,6,8,13,14,49,50] [.sl 4 (List.map Q2 x0),.fn 111 [],.ow 0 0 4 (List.length x6.1),ii x8,ii a5,ii a6,ii a7,ii a3] [.hol 0 4 (List.map Q2 x6.1) (Int.toNat x8) 3 (.ow 1 0 2 (List.length x6.2)),.own 0 2 (List.map Qe x6.2)] [0,1,4,5,6,13,14] (ZP (x0,a5) (x8,a6,a7) o):=
 Qr.partial_correctness x0 x8 a7 (fun x6 a3 o=>∀(a5:Int) (a6:Int),LO 151 11 79 [0,1,6,8,13,14,49,50] [.sl 4 (List.map Q2 x0),.fn 111 [],.ow 0 0 4 (List.length x6.1),ii x8,ii a5,ii a6,ii a7,ii a3] [.hol 0 4 (List.map Q2 x6.1) (Int.toNat x8) 3 (.ow 1 0 2 (List.length x6.2)),.own 0 2 (List.map Qe x6.2)] [0,1,4,5,6,13,14] (ZP (x0,a5) (x8,a6,a7) o))
 (fun Qr Q8d x6 a3 o h a5 a6=>
 Lp2 (hs:=[(51,.split),(56,.s),(58,.s),(63,.e Q2),(67,.e Qe),(69,.c Dr),(72,.s),(1000072,.n Qe 72 (some .s)),(74,.split),(75,.fl Q2 6 none)]) (kb:=[kk 6,{slot:=6,path:=[0]}]) (kbx:=[{slot:=4,fz:=true},kk 6,{slot:=6,path:=[0]}]) ((kIfD (p:=a3<a7) (kG (p:=0≤x8∧x8< (↑x6.fst.length:Int)) (kT (rfl:x8.toNat=x8.toNat) (kIx (enc:=Q2) (l:=x0) (k:=x8) fun v0=>(kIx (enc:=Qe) (l:=v0.fAt) (k:=a3) fun v1=>(kC (sh:=Dr) (GW v1) fun v2=>(kG (p:=0≤a3∧a3< (↑x6.snd.length:Int)) (kG (p:=a3.toNat< (List.map Qe x6.snd).length) (kBE (sh:=Qe) (List.set x6.snd a3.toNat v2.fst) (mS (sh:=Qe) x6.snd a3.toNat v2.fst) fun v3 ab=>(kIf (c:=v2.snd !=0) (kG (p:=x6.snd.length=(List.map Qe v3).length) (kOx (enc:=Q2) (l:=x6.fst) (k:=x8.toNat) fun v4=>(kBE (sh:=Q2) (List.set x6.fst x8.toNat (Q7.mk v4.fj v4.fu v3)) (mS (sh:=Q2) x6.fst x8.toNat (Q7.mk v4.fj v4.fu v3)) fun v5 ae=>(kX (alts:=ZP (x0,a5) (x8,a6,a7)) (.inr ([],v2.snd,v5)) (.next (.here _ rfl (.cons lr (.cons lr (.cons (LeV.nil 4) (.cons lr (.cons (LeV.owl (by simp[ae,ab]:x6.fst.length=List.length v5)) (.cons lr (.cons lr .nil))))))) (.refl _)))))))
 (kM (alts:=ZP (x0,a5) (x8,a6,a7)) (.cons lr (.cons lr (.cons lr (.cons lr (.cons lr (.cons lr (.cons lr (.cons lr .nil)))))))) (.cons (LeB.hol (0:Nat) (4:Nat) (List.map Q2 x6.fst) x8.toNat (3:Nat) (LeV.owl (by simp[ab]:x6.snd.length=List.length v3))) (.cons (LeB.refl (Box.own (0:Nat) (2:Nat) (List.map Qe v3))) .nil)) (fun y hy=>Q8d (x6.fst,v3) (wr (a3+1)) y hy a5 a6)))))))))))
 (kX (alts:=ZP (x0,a5) (x8,a6,a7)) (.inl x6) (.here _ rfl (.refl _) (.refl _)))) h)) x6 a3 o h a5 a6
def ZC(s:List Q7)(u:Int)(o:(List Q7) ⊕ ((List Q7)×Int)):List Alt:=lp o (.exit 0) (fun x=>[.undef,.undef,.sl 4 (List.map Q2 x)]) (fun _=>[]) .ret (fun x=>[.sl 4 (List.map Q2 x.1),ii x.2,.undef]) (fun _=>[])
def Qt(x0:List Q7)(x6:List Q7)(a7:Int)(a3:Int):Option ((List Q7) ⊕ ((List Q7)×Int)):=
 if a3<a7 then
 ix x0 a3>>=fun v0=>
 QJ v0.fj>>=fun v1=>
 if 0≤a3∧a3< (↑x6.length:Int) then
 x6[a3.toNat]? >>=fun v2=>
 some (List.set x6 a3.toNat (Q7.mk v1.fst v2.fu v2.fAt))>>=fun v3=>
 if v1.snd !=0 then
 if x6.length=(List.map Q2 v3).length then
 some (.inr ([],v1.snd))
 else none
 else
 ix x0 a3>>=fun v4=>
 Jy v4.fAt>>=fun v5=>
 if 0≤a3∧a3< (↑x6.length:Int) then
 if a3.toNat< (List.map Q2 v3).length then
 ix x0 a3>>=fun v6=>
 some (List.length v6.fAt:Int)>>=fun v7=>
 some (a3,a3,v7)>>=fun v8=>
 Qr x0 (v3,v5) a3 v7 0>>=fun v9=>(match v9 with
 | (.inl v10)=>
 v10.fst[v8.fst.toNat]? >>=fun a5=>
 some (List.set v10.fst v8.fst.toNat (Q7.mk a5.fj a5.fu v10.snd))>>=fun a9=>
 Qt x0 a9 a7 (wr (v8.snd.fst+1))
 | (.inr v13)=>
 some (.inr (v13.fst,v13.snd.fst)))
 else none
 else none
 else none
 else
 some (.inl x6)
 partial_fixpoint
theorem NN(x0 x6 x13 a3 o)(h:Qt x0 x6 x13 a3=some o):LO 151 4 79 [0,1,6,13,14] [.sl 4 (List.map Q2 x0),.fn 111 [],.ow 0 0 4 (List.length x6),ii x13,ii a3] [.own 0 4 (List.map Q2 x6)] [4,5,6] (ZC x0 x13 o):=
 Qt.partial_correctness x0 x13 (fun x6 a3 o=>LO 151 4 79 [0,1,6,13,14] [.sl 4 (List.map Q2 x0),.fn 111 [],.ow 0 0 4 (List.length x6),ii x13,ii a3] [.own 0 4 (List.map Q2 x6)] [4,5,6] (ZC x0 x13 o))
 (fun Qt Q8e x6 a3 o h=>
 Lp2 (hs:=[(15,.split),(23,.e Q2),(26,.c Dr),(29,.s),(1000030,.n Q2 30 (some (.e Q2))),(32,.split),(38,.e Q2),(41,.h [] GX GV),(42,.s),(1000043,.s),(46,.e Q2),(49,.n eI 49 none),(77,.fl Q2 6 none),(3000012,.l [] [0,1,6,8,13,14,49,50] [kk 6,{slot:=6,path:=[0]}] [0,1,4,5,6,13,14] [{slot:=4,fz:=true},kk 6,{slot:=6,path:=[0]}] (ZP (x0,x13)))]) (kb:=[{slot:=6,own:=4}]) (kbx:=[{slot:=4,fz:=true},{slot:=6,fz:=true}]) ((kIfD (p:=a3<x13) (kIx (enc:=Q2) (l:=x0) (k:=a3) fun v0=>(kC (sh:=Dr) (GW v0.fj) fun v1=>(kG (p:=0≤a3∧a3< (↑x6.length:Int)) (kOx (enc:=Q2) (l:=x6) (k:=a3.toNat) fun v2=>(kBE (sh:=Q2) (List.set x6 a3.toNat (Q7.mk v1.fst v2.fu v2.fAt)) (mS (sh:=Q2) x6 a3.toNat (Q7.mk v1.fst v2.fu v2.fAt)) fun v3 a9=>(kIf (c:=v1.snd !=0) (kG (p:=x6.length=(List.map Q2 v3).length) (kX (alts:=ZC x0 x13) (.inr ([],v1.snd)) (.next (.here _ rfl (.cons (LeV.nil 4) (.cons lr (.cons (LeV.undef (AV.sl (4:Nat) (List.map Q2 v3))) .nil))) (.refl _)))))
 (kIx (enc:=Q2) (l:=x0) (k:=a3) fun v4=>(kH (sh:=GX) (bt:=GV) (It v4.fAt) fun v5=>(kG (p:=0≤a3∧a3< (↑x6.length:Int)) (kG (p:=a3.toNat< (List.map Q2 v3).length) (kIx (enc:=Q2) (l:=x0) (k:=a3) fun v6=>(kN _ (mLen (sh:=Qe) v6.fAt) fun v7=>(kL2 (a3,a3,v7) (hL:=(fun y hy=>X7.le (.cons lr (.cons lr (.cons (LeV.owl (by simp[a9]:x6.length=List.length v3)) (.cons lr (.cons lr (.cons lr (.cons lr (.cons lr .nil)))))))) (.refl _) (Nt x0 (v3,v5) a3 x13 a3 v7 0 y hy))) (hA:=fun v8 a5=>(kT (nM (sh:=Qe) a5.snd) (kOx (enc:=Q2) (l:=a5.fst) (k:=v8.fst.toNat) fun a6=>(kBE (sh:=Q2) (List.set a5.fst v8.fst.toNat (Q7.mk a6.fj a6.fu a5.snd)) (mS (sh:=Q2) a5.fst v8.fst.toNat (Q7.mk a6.fj a6.fu a5.snd)) fun aa a8=>(kM (alts:=ZC x0 x13) (.cons lr (.cons lr (.cons (LeV.owl (by simp[a8,a9]:a5.fst.length=List.length aa)) (.cons lr (.cons lr .nil))))) (.refl _) (Q8e aa (wr (v8.snd.fst+1))))))))
 (hB:=fun v8 a7=>(kT (nM (sh:=Q2) a7.snd.snd) (kX (alts:=ZC x0 x13) (.inr (a7.fst,a7.snd.fst)) (.next (.here _ rfl (.cons lr (.cons lr (.cons (LeV.undef (AV.sl (4:Nat) (List.map Q2 a7.snd.snd))) .nil))) (.refl _)))))))))))))))))))
 (kT (nM (sh:=Q2) x6) (kX (alts:=ZC x0 x13) (.inl x6) (.here _ rfl (.refl _) (.refl _))))) h)) x6 a3 o h
def YH(x0:List Q7):Option (List Q7×Int):=
 VC x0>>=fun v0=>
 some (List.length x0:Int)>>=fun v1=>
 some v1>>=fun v2=>
 Qt x0 v0 v1 0>>=fun v3=>(match v3 with
 | (.inl v4)=>
 some (v4,(0:Int))
 | (.inr v5)=>
 some (v5.fst,v5.snd))
theorem DJ(x0 r)(h:YH x0=some r):PU 151 [YB x0,.fn 111 []] (G7 r):=
 Pu2 (hs:=[(11,.h [] G6 G2),(13,.n eI 13 none),(3000005,.l [] [0,1,6,13,14] [{slot:=6,own:=4}] [4,5,6] [{slot:=4,fz:=true},{slot:=6,fz:=true}] (ZC x0))]) ((kH (sh:=G6) (bt:=G2) (Lz x0) fun v0=>(kN _ (mLen (sh:=Q2) x0) fun v1=>(kL2 v1 (hL:=(NN x0 v0 v1 0)) (hA:=fun v2 v4=>(kEr (enc:=G7) (v4,(0:Int))))
 (hB:=fun v2 v5=>(kEr (enc:=G7) (v5.fst,v5.snd)))))) h)
def Xg(s:Q1)(u:Int)(o:(Q1×Q1) ⊕ (Q1×Int×Q1)):List Alt:=lp o (.exit 0) (fun _=>[.ptr 0 0 0,.undef,.ptr 1 0 0]) (fun x=>[.cells 0 (Q5 x.1).cells,.cells 0 [ii x.2.fOp,.str x.2.fa,ii x.2.fx.fN,ii x.2.fx.fD,ii x.2.fd.fk,ii x.2.fd.fm,ii x.2.fd.fv,ii x.2.fd.fo,ii x.2.fd.fw,ii x.2.fj.fK,.sl 2 (List.map Qk x.2.fj.fL),.sl 4 (List.map Q2 x.2.fe),.ow 2 0 13 (List.length x.2.ff)],.own 0 13 (List.map Qi x.2.ff)]) .ret (fun x=>[.ptr 0 0 0,ii x.2.1,.ptr 1 0 0]) (fun x=>[.cells 0 (Q5 x.1).cells,.cells 0 [ii x.2.2.fOp,.str x.2.2.fa,ii x.2.2.fx.fN,ii x.2.2.fx.fD,ii x.2.2.fd.fk,ii x.2.2.fd.fm,ii x.2.2.fd.fv,ii x.2.2.fd.fo,ii x.2.2.fd.fw,ii x.2.2.fj.fK,.sl 2 (List.map Qk x.2.2.fj.fL),.sl 4 (List.map Q2 x.2.2.fe),.ow 2 0 13 (List.length x.2.2.ff)],.own 0 13 (List.map Qi x.2.2.ff)])
mutual
def ZS(x0:Q1):Option (Q1×Int):=
 QJ x0.fj>>=fun v0=>
 if v0.snd !=0 then
 some ((QS.mk (0:Int) [] (gVal.mk (0:Int) (0:Int)) (Qc.mk (0:Int) (0:Int) (0:Int) (0:Int) (0:Int)) (gLin.mk (0:Int) []) [] []:Q1))>>=fun v1=>
 some (v1,v0.snd)
 else
 YH x0.fe>>=fun v2=>
 if v2.snd !=0 then
 some ((QS.mk (0:Int) [] (gVal.mk (0:Int) (0:Int)) (Qc.mk (0:Int) (0:Int) (0:Int) (0:Int) (0:Int)) (gLin.mk (0:Int) []) [] []:Q1))>>=fun v3=>
 some (v3,v2.snd)
 else
 VW x0.ff>>=fun v4=>
 some (List.length x0.ff:Int)>>=fun v5=>
 some v5>>=fun v6=>
 Qu x0 (QS.mk (0:Int) [] (gVal.mk (0:Int) (0:Int)) (Qc.mk (0:Int) (0:Int) (0:Int) (0:Int) (0:Int)) (gLin.mk (0:Int) []) [] []:Q1) (QS.mk x0.fOp x0.fa x0.fx x0.fd v0.fst v2.fst v4:Q1) v5 (0:Int)>>=fun v7=>(match v7 with
 | (.inl v8)=>
 some (v8.snd,(0:Int))
 | (.inr v9)=>
 some (v9.fst,v9.snd.fst))
 partial_fixpoint
def Qu(x2:Q1)(x4:Q1)(x6:Q1)(a5:Int)(a4:Int):Option ((Q1×Q1) ⊕ (Q1×Int×Q1)):=
 if a4<a5 then
 Option.map Qa.f (ix x2.ff a4)>>=fun v0=>
 ZS v0>>=fun v1=>
 if 0≤a4∧a4< (↑x6.ff.length:Int) then
 if a4.toNat< (List.map Qi x6.ff).length then
 some (List.set x6.ff a4.toNat (Qa.mk v1.fst))>>=fun v2=>
 if v1.snd !=0 then
 some ((QS.mk (0:Int) [] (gVal.mk (0:Int) (0:Int)) (Qc.mk (0:Int) (0:Int) (0:Int) (0:Int) (0:Int)) (gLin.mk (0:Int) []) [] []:Q1))>>=fun v3=>
 some (.inr (v3,v1.snd,(QS.mk x6.fOp x6.fa x6.fx x6.fd x6.fj x6.fe v2:Q1)))
 else
 Qu x2 x4 (QS.mk x6.fOp x6.fa x6.fx x6.fd x6.fj x6.fe v2:Q1) a5 (wr (a4+1))
 else none
 else none
 else
 some (.inl (x4,x6))
 partial_fixpoint
end
theorem Lu:(∀(x0:Q1) (r:(Q1×Int)),ZS x0=some r→PU 152 [Q5 x0,.fn 111 []] (VD r))∧(∀(x2:Q1) (x4:Q1) (x6:Q1) (a7:Int) (a5:Int) (o:(Q1×Q1) ⊕ (Q1×Int×Q1)),Qu x2 x4 x6 a7 a5=some o→LO 152 11 64 [1,2,4,6,40,41] [.fn 111 [],.ptr 0 0 0,.ptr 1 0 0,.ptr 2 0 0,ii a7,ii a5] [.cells 0 (Q5 x2).cells,.cells 0 (Q5 x4).cells,.cells 0 [ii x6.fOp,.str x6.fa,ii x6.fx.fN,ii x6.fx.fD,ii x6.fd.fk,ii x6.fd.fm,ii x6.fd.fv,ii x6.fd.fo,ii x6.fd.fw,ii x6.fj.fK,.sl 2 (List.map Qk x6.fj.fL),.sl 4 (List.map Q2 x6.fe),.ow 3 0 13 (List.length x6.ff)],.own 0 13 (List.map Qi x6.ff)] [4,5,6] (Xg x2 a7 o)):=
 ZS.mutual_partial_correctness _ _
 (fun Qu Q8c x0 r h=>
 Pu2 (hs:=[(14,.c Dr),(19,.split),(20,.n Q5 20 none),(26,.c G7),(31,.split),(32,.n Q5 32 none),(36,.h [] Gh Gf),(40,.n eI 40 none),(3000012,.l [] [1,2,4,6,40,41] [kk 2,kk 4,kk 6,{slot:=6,path:=[12],own:=13}] [4,5,6] [kk 4,kk 6,{slot:=6,path:=[12],own:=13}] (Xg x0))]) ((kC (sh:=Dr) (GW x0.fj) fun v0=>(kIf (c:=v0.snd !=0) (kW (sh:=Q5) (QS.mk (0:Int) [] (gVal.mk (0:Int) (0:Int)) (Qc.mk (0:Int) (0:Int) (0:Int) (0:Int) (0:Int)) (gLin.mk (0:Int) []) [] []:Q1) (LeV.agg (.cons lr (.cons lr (.cons lr (.cons lr (.cons lr (.cons lr (.cons lr (.cons lr (.cons lr (.cons lr (.cons (LeV.nil 2) (.cons (LeV.nil 4) (.cons (LeV.nil 13) .nil)))))))))))))) fun v1=>(kEr (enc:=VD) (v1,v0.snd)))
 (kC (sh:=G7) (DJ x0.fe) fun v2=>(kIf (c:=v2.snd !=0) (kW (sh:=Q5) (QS.mk (0:Int) [] (gVal.mk (0:Int) (0:Int)) (Qc.mk (0:Int) (0:Int) (0:Int) (0:Int) (0:Int)) (gLin.mk (0:Int) []) [] []:Q1) (LeV.agg (.cons lr (.cons lr (.cons lr (.cons lr (.cons lr (.cons lr (.cons lr (.cons lr (.cons lr (.cons lr (.cons (LeV.nil 2) (.cons (LeV.nil 4) (.cons (LeV.nil 13) .nil)))))))))))))) fun v3=>(kEr (enc:=VD) (v3,v2.snd)))
 (kH (sh:=Gh) (bt:=Gf) (I3 x0.ff) fun v4=>(kN _ (mLen (sh:=Qi) x0.ff) fun v5=>(kL2 v5 (hL:=(fun y hy=>X7.le (.cons lr (.cons lr (.cons lr (.cons lr (.cons lr (.cons lr .nil)))))) (.cons (LeB.refl (Box.cells (0:Nat) [ii x0.fOp,AV.str x0.fa,ii x0.fx.fN,ii x0.fx.fD,ii x0.fd.fk,ii x0.fd.fm,ii x0.fd.fv,ii x0.fd.fo,ii x0.fd.fw,ii x0.fj.fK,AV.sl (2:Nat) (List.map Qk x0.fj.fL),AV.sl (4:Nat) (List.map Q2 x0.fe),AV.sl (13:Nat) (List.map Qi x0.ff)])) (.cons (LeB.cells (0:Nat) (.cons lr (.cons lr (.cons lr (.cons lr (.cons lr (.cons lr (.cons lr (.cons lr (.cons lr (.cons lr (.cons (LeV.nil 2) (.cons (LeV.nil 4) (.cons (LeV.nil 13) .nil)))))))))))))) (.cons (LeB.refl (Box.cells (0:Nat) [ii x0.fOp,AV.str x0.fa,ii x0.fx.fN,ii x0.fx.fD,ii x0.fd.fk,ii x0.fd.fm,ii x0.fd.fv,ii x0.fd.fo,ii x0.fd.fw,ii v0.fst.fK,AV.sl (2:Nat) (List.map Qk v0.fst.fL),AV.sl (4:Nat) (List.map Q2 v2.fst),AV.ow (3:Nat) (0:Nat) (13:Nat) v4.length])) (.cons (LeB.refl (Box.own (0:Nat) (13:Nat) (List.map Qi v4))) .nil)))) (Q8c x0 (QS.mk (0:Int) [] (gVal.mk (0:Int) (0:Int)) (Qc.mk (0:Int) (0:Int) (0:Int) (0:Int) (0:Int)) (gLin.mk (0:Int) []) [] []:Q1) (QS.mk x0.fOp x0.fa x0.fx x0.fd v0.fst v2.fst v4:Q1) v5 (0:Int) y hy))) (hA:=fun v6 v8=>(kT (nM (sh:=Qi) v8.snd.ff) (kEr (enc:=VD) (v8.snd,(0:Int)))))
 (hB:=fun v6 v9=>(kEr (enc:=VD) (v9.fst,v9.snd.fst)))))))))) h))
 (fun ZS Qu Q8b Q8c x2 x4 x6 a7 a5 o h=>
 Lp2 (hs:=[(42,.split),(51,.e Q5),(54,.c VD),(57,.s),(1000057,.n Qi 57 (some .s)),(59,.split),(60,.n Q5 60 none)]) (kb:=[kk 2,kk 4,kk 6,{slot:=6,path:=[12],own:=13}]) (kbx:=[kk 4,kk 6,{slot:=6,path:=[12],own:=13}]) ((kIfD (p:=a5<a7) (kIxR (l:=x2.ff) (k:=a5) XH fun v0=>(kC (sh:=VD) (Q8b v0) fun v1=>(kG (p:=0≤a5∧a5< (↑x6.ff.length:Int)) (kG (p:=a5.toNat< (List.map Qi x6.ff).length) (kBE (sh:=Qi) (List.set x6.ff a5.toNat (Qa.mk v1.fst)) (mSR EA x6.ff a5.toNat v1.fst) fun v2 ad=>(kIf (c:=v1.snd !=0) (kW (sh:=Q5) (QS.mk (0:Int) [] (gVal.mk (0:Int) (0:Int)) (Qc.mk (0:Int) (0:Int) (0:Int) (0:Int) (0:Int)) (gLin.mk (0:Int) []) [] []:Q1) (LeV.agg (.cons lr (.cons lr (.cons lr (.cons lr (.cons lr (.cons lr (.cons lr (.cons lr (.cons lr (.cons lr (.cons (LeV.nil 2) (.cons (LeV.nil 4) (.cons (LeV.nil 13) .nil)))))))))))))) fun v3=>(kX (alts:=Xg x2 a7) (.inr (v3,v1.snd,(QS.mk x6.fOp x6.fa x6.fx x6.fd x6.fj x6.fe v2:Q1))) (.next (.here _ rfl (.cons lr (.cons lr (.cons lr .nil))) (.cons (LeB.refl (Box.cells (0:Nat) [ii v3.fOp,AV.str v3.fa,ii v3.fx.fN,ii v3.fx.fD,ii v3.fd.fk,ii v3.fd.fm,ii v3.fd.fv,ii v3.fd.fo,ii v3.fd.fw,ii v3.fj.fK,AV.sl (2:Nat) (List.map Qk v3.fj.fL),AV.sl (4:Nat) (List.map Q2 v3.fe),AV.sl (13:Nat) (List.map Qi v3.ff)])) (.cons (LeB.cells (0:Nat) (.cons lr (.cons lr (.cons lr (.cons lr (.cons lr (.cons lr (.cons lr (.cons lr (.cons lr (.cons lr (.cons lr (.cons lr (.cons (LeV.owl (by simp[ad]:x6.ff.length=List.length v2)) .nil)))))))))))))) (.cons (LeB.refl (Box.own (0:Nat) (13:Nat) (List.map Qi v2))) .nil)))))))
 (kM (alts:=Xg x2 a7) (.cons lr (.cons lr (.cons lr (.cons lr (.cons lr (.cons lr .nil)))))) (.cons (LeB.refl (Box.cells (0:Nat) [ii x2.fOp,AV.str x2.fa,ii x2.fx.fN,ii x2.fx.fD,ii x2.fd.fk,ii x2.fd.fm,ii x2.fd.fv,ii x2.fd.fo,ii x2.fd.fw,ii x2.fj.fK,AV.sl (2:Nat) (List.map Qk x2.fj.fL),AV.sl (4:Nat) (List.map Q2 x2.fe),AV.sl (13:Nat) (List.map Qi x2.ff)])) (.cons (LeB.refl (Box.cells (0:Nat) [ii x4.fOp,AV.str x4.fa,ii x4.fx.fN,ii x4.fx.fD,ii x4.fd.fk,ii x4.fd.fm,ii x4.fd.fv,ii x4.fd.fo,ii x4.fd.fw,ii x4.fj.fK,AV.sl (2:Nat) (List.map Qk x4.fj.fL),AV.sl (4:Nat) (List.map Q2 x4.fe),AV.sl (13:Nat) (List.map Qi x4.ff)])) (.cons (LeB.cells (0:Nat) (.cons lr (.cons lr (.cons lr (.cons lr (.cons lr (.cons lr (.cons lr (.cons lr (.cons lr (.cons lr (.cons lr (.cons lr (.cons (LeV.owl (by simp[ad]:x6.ff.length=List.length v2)) .nil)))))))))))))) (.cons (LeB.refl (Box.own (0:Nat) (13:Nat) (List.map Qi v2))) .nil)))) (Q8c x2 x4 (QS.mk x6.fOp x6.fa x6.fx x6.fd x6.fj x6.fe v2:Q1) a7 (wr (a5+1))))))))))
 (kX (alts:=Xg x2 a7) (.inl (x4,x6)) (.here _ rfl (.refl _) (.refl _)))) h))
theorem I0(x0 r)(h:ZS x0=some r):PU 152 [Q5 x0,.fn 111 []] (VD r):=(Lu).1 x0 r h
def QX(s:List Q0)(u:Int)(o:(List Q0) ⊕ ((List Q0)×Int)):List Alt:=lp o (.exit 0) (fun x=>[.undef,.undef,.sl 20 (List.map Q6 x)]) (fun _=>[]) .ret (fun x=>[.sl 20 (List.map Q6 x.1),ii x.2,.undef]) (fun _=>[])
def YU(s:((List Q0)×Int))(u:(Int×Int))(o:List Q0):List Alt:=l1 o .normal (fun x=>[.sl 20 (List.map Q6 (s.1)),.fn 111 [],.fn 113 [],.ow 0 0 20 (List.length x),ii (u.1),ii (s.2),ii (u.2)]) (fun x=>[.own 0 20 (List.map Q6 x)])
mutual
def QC(x0:List Q0):Option (List Q0×Int):=
 VY x0>>=fun v0=>
 some (List.length x0:Int)>>=fun v1=>
 some v1>>=fun v2=>
 Qs x0 v0 v1 0>>=fun v3=>(match v3 with
 | (.inl v4)=>
 some (v4,(0:Int))
 | (.inr v5)=>
 some (v5.fst,v5.snd))
 partial_fixpoint
def Qs(x0:List Q0)(x8:List Q0)(ag:Int)(a3:Int):Option ((List Q0) ⊕ ((List Q0)×Int)):=
 if a3<ag then
 some (a3,a3)>>=fun v0=>
 (Option.map Q0.f (ix x0 a3)>>=fun v2=>
 if v2.fOp==1 then
 Option.map Q0.f (ix x0 a3)>>=fun v3=>
 C4 v3.fa>>=fun v4=>
 if 0≤a3∧a3< (↑x8.length:Int) then
 Option.map Q0.f x8[a3.toNat]? >>=fun v5=>
 some (List.set x8 a3.toNat (Q0.mk (ZH.mk v5.fOp v4 v5.fy v5.fB v5.fA v5.fe v5.fg v5.fb:Qg)))>>=fun v6=>
 some v6
 else none
 else
 some x8)>>=fun v7=>
 Option.map Q0.f (ix x0 v0.fst)>>=fun v8=>
 YH v8.fe>>=fun v9=>
 if 0≤v0.fst∧v0.fst< (↑(List.length v7):Int) then
 Option.map Q0.f v7[v0.fst.toNat]? >>=fun a5=>
 some (List.set v7 v0.fst.toNat (Q0.mk (ZH.mk a5.fOp a5.fa a5.fy a5.fB a5.fA v9.fst a5.fg a5.fb:Qg)))>>=fun a9=>
 if v9.snd !=0 then
 if List.length v7=(List.map Q6 a9).length then
 some (.inr ([],v9.snd))
 else none
 else
 Option.map Q0.f (ix x0 v0.fst)>>=fun ai=>
 ZS ai.fg>>=fun aa=>
 if 0≤v0.fst∧v0.fst< (↑(List.length v7):Int) then
 Option.map Q0.f a9[v0.fst.toNat]? >>=fun a6=>
 some (List.set a9 v0.fst.toNat (Q0.mk (ZH.mk a6.fOp a6.fa a6.fy a6.fB a6.fA a6.fe aa.fst a6.fb:Qg)))>>=fun ab=>
 if aa.snd !=0 then
 if List.length v7=(List.map Q6 ab).length then
 some (.inr ([],aa.snd))
 else none
 else
 Option.map Q0.f (ix x0 v0.fst)>>=fun aj=>
 QC aj.fb>>=fun ac=>
 if 0≤v0.fst∧v0.fst< (↑(List.length v7):Int) then
 Option.map Q0.f ab[v0.fst.toNat]? >>=fun a7=>
 some (List.set ab v0.fst.toNat (Q0.mk (ZH.mk a7.fOp a7.fa a7.fy a7.fB a7.fA a7.fe a7.fg ac.fst:Qg)))>>=fun af=>
 if ac.snd !=0 then
 if List.length v7=(List.map Q6 af).length then
 some (.inr ([],ac.snd))
 else none
 else
 Qs x0 af ag (wr (v0.snd+1))
 else none
 else none
 else none
 else
 some (.inl x8)
 partial_fixpoint
end
theorem Nr:(∀(x0:List Q0) (r:(List Q0×Int)),QC x0=some r→PU 110 [Qn x0,.fn 111 [],.fn 113 []] (Jz r))∧(∀(x0:List Q0) (x8:List Q0) (a6:Int) (a7:Int) (o:(List Q0) ⊕ ((List Q0)×Int)),Qs x0 x8 a6 a7=some o→LO 110 4 89 [0,1,2,8,14,15] [.sl 20 (List.map Q6 x0),.fn 111 [],.fn 113 [],.ow 0 0 20 (List.length x8),ii a6,ii a7] [.own 0 20 (List.map Q6 x8)] [6,7,8] (QX x0 a6 o)):=
 QC.mutual_partial_correctness _ _
 (fun Qs Q8g x0 r h=>
 Pu2 (hs:=[(12,.h [] Gi Gg),(14,.n eI 14 none),(3000005,.l [] [0,1,2,8,14,15] [{slot:=8,own:=20}] [6,7,8] [{slot:=6,fz:=true},{slot:=8,fz:=true}] (QX x0))]) ((kH (sh:=Gi) (bt:=Gg) (I5 x0) fun v0=>(kN _ (mLen (sh:=Q6) x0) fun v1=>(kL2 v1 (hL:=(Q8g x0 v0 v1 0)) (hA:=fun v2 v4=>(kEr (enc:=Jz) (v4,(0:Int))))
 (hB:=fun v2 v5=>(kEr (enc:=Jz) (v5.fst,v5.snd)))))) h))
 (fun QC Qs Q8f Q8g x0 x8 a6 a7 o h=>
 Lp2 (hs:=[(16,.split),(20,.e Qp),(23,.split),(29,.e Qp),(32,.c eS),(33,.s),(1000034,.n Q6 34 (some (.e Qp))),(40,.e Qp),(44,.c G7),(47,.s),(1000048,.n Q6 48 (some (.e Qp))),(50,.split),(57,.e Qp),(61,.c VD),(64,.s),(1000065,.n Q6 65 (some (.e Qp))),(67,.split),(74,.e Qp),(79,.c Jz),(82,.s),(1000083,.n Q6 83 (some (.e Qp))),(85,.split),(6000008,.l [] [] [] [0,1,2,8,10,14,15] [{slot:=8,own:=20}] (YU (x0,a6)))]) (kb:=[{slot:=8,own:=20}]) (kbx:=[{slot:=6,fz:=true},{slot:=8,fz:=true}]) ((kIfD (p:=a7<a6) (kJ1 (id:=6000008) (a7,a7) (fun v0 ai v1=>(kIxR (l:=x0) (k:=a7) Z7 fun v2=>(kIf (c:=v2.fOp==1) (kIxR (l:=x0) (k:=a7) Z7 fun v3=>(kC (sh:=eS) (Sh v3.fa) fun v4=>(kG (p:=0≤a7∧a7< (↑x8.length:Int)) (kOxR (l:=x8) (k:=a7.toNat) Z7 fun v5=>(kBE (sh:=Q6) (List.set x8 a7.toNat (Q0.mk (ZH.mk v5.fOp v4 v5.fy v5.fB v5.fA v5.fe v5.fg v5.fb:Qg))) (mSR UN x8 a7.toNat (ZH.mk v5.fOp v4 v5.fy v5.fB v5.fA v5.fe v5.fg v5.fb:Qg)) fun v6 ap=>(kXj (alts:=YU (x0,a6)) ai v6 (.here _ rfl (.cons lr (.cons lr (.cons lr (.cons (LeV.owl (by simp[ap]:x8.length=List.length v6)) (.cons lr (.cons lr (.cons lr .nil))))))) (.refl _))))))))
 (kXj (alts:=YU (x0,a6)) ai x8 (.here _ rfl (.refl _) (.refl _))))))
 (fun v0 v7=>(kIxR (l:=x0) (k:=v0.fst) Z7 fun v8=>(kC (sh:=G7) (DJ v8.fe) fun v9=>(kG (p:=0≤v0.fst∧v0.fst< (↑(List.length v7):Int)) (kOxR (l:=v7) (k:=v0.fst.toNat) Z7 fun a3=>(kBE (sh:=Q6) (List.set v7 v0.fst.toNat (Q0.mk (ZH.mk a3.fOp a3.fa a3.fy a3.fB a3.fA v9.fst a3.fg a3.fb:Qg))) (mSR UN v7 v0.fst.toNat (ZH.mk a3.fOp a3.fa a3.fy a3.fB a3.fA v9.fst a3.fg a3.fb:Qg)) fun ac aj=>(kIf (c:=v9.snd !=0) (kG (p:=List.length v7=(List.map Q6 ac).length) (kX (alts:=QX x0 a6) (.inr ([],v9.snd)) (.next (.here _ rfl (.cons (LeV.nil 20) (.cons lr (.cons (LeV.undef (AV.sl (20:Nat) (List.map Q6 ac))) .nil))) (.refl _)))))
 (kIxR (l:=x0) (k:=v0.fst) Z7 fun ar=>(kC (sh:=VD) (I0 ar.fg) fun af=>(kG (p:=0≤v0.fst∧v0.fst< (↑(List.length v7):Int)) (kOxR (l:=ac) (k:=v0.fst.toNat) Z7 fun a4=>(kBE (sh:=Q6) (List.set ac v0.fst.toNat (Q0.mk (ZH.mk a4.fOp a4.fa a4.fy a4.fB a4.fA a4.fe af.fst a4.fb:Qg))) (mSR UN ac v0.fst.toNat (ZH.mk a4.fOp a4.fa a4.fy a4.fB a4.fA a4.fe af.fst a4.fb:Qg)) fun ad ak=>(kIf (c:=af.snd !=0) (kG (p:=List.length v7=(List.map Q6 ad).length) (kX (alts:=QX x0 a6) (.inr ([],af.snd)) (.next (.here _ rfl (.cons (LeV.nil 20) (.cons lr (.cons (LeV.undef (AV.sl (20:Nat) (List.map Q6 ad))) .nil))) (.refl _)))))
 (kIxR (l:=x0) (k:=v0.fst) Z7 fun au=>(kC (sh:=Jz) (Q8f au.fb) fun ag=>(kG (p:=0≤v0.fst∧v0.fst< (↑(List.length v7):Int)) (kOxR (l:=ad) (k:=v0.fst.toNat) Z7 fun a5=>(kBE (sh:=Q6) (List.set ad v0.fst.toNat (Q0.mk (ZH.mk a5.fOp a5.fa a5.fy a5.fB a5.fA a5.fe a5.fg ag.fst:Qg))) (mSR UN ad v0.fst.toNat (ZH.mk a5.fOp a5.fa a5.fy a5.fB a5.fA a5.fe a5.fg ag.fst:Qg)) fun ah am=>(kIf (c:=ag.snd !=0) (kG (p:=List.length v7=(List.map Q6 ah).length) (kX (alts:=QX x0 a6) (.inr ([],ag.snd)) (.next (.here _ rfl (.cons (LeV.nil 20) (.cons lr (.cons (LeV.undef (AV.sl (20:Nat) (List.map Q6 ah))) .nil))) (.refl _)))))
 (kM (alts:=QX x0 a6) (.cons lr (.cons lr (.cons lr (.cons (LeV.owl (by simp[am,ak,aj]:List.length v7=List.length ah)) (.cons lr (.cons lr .nil)))))) (.refl _) (Q8g x0 ah a6 (wr (v0.snd+1))))))))))))))))))))))))
 (kT (nM (sh:=Q6) x8) (kX (alts:=QX x0 a6) (.inl x8) (.here _ rfl (.refl _) (.refl _))))) h))
theorem NO(x0 r)(h:QC x0=some r):PU 110 [Qn x0,.fn 111 [],.fn 113 []] (Jz r):=(Nr).1 x0 r h
def UE(x0:List Q0):Option (List Q0):=
 QC x0>>=fun v0=>
 some v0.fst
theorem Hi(x0 r)(h:UE x0=some r):PU 68 [Qn x0] (Qn r):=
 Pu2 (hs:=[(7,.c Jz)]) ((kC (sh:=Jz) (NO x0) fun v0=>(kEr (enc:=Qn) v0.fst)) h)
end Go.Proofs.YtkgphhemcglgnaaGreatDoor
end
noncomputable section
namespace Go.Proofs.YtkgphhemcglgnaaGreatDoor
open Go HY
set_option maxRecDepth 1000000
def JC(s:Q9)(u:(Q9×Int))(o:Q9):List Alt:=l1 o (.exit 0) (fun _=>[.ptr 0 0 0,.ptr 2 0 0]) (fun x=>[.cells 0 [.ow 1 0 8 (List.length u.1.fc),.sl 20 (List.map Q6 u.1.fb)],.own 0 8 (List.map Q4 u.1.fc),.cells 0 [.ow 3 0 8 (List.length x.fc),.sl 20 (List.map Q6 x.fb)],.own 0 8 (List.map Q4 x.fc)])
def Xp(x1:Q9)(x3:Q9)(a4:Int)(a3:Int):Option Q9:=
 if a3<a4 then
 ix x1.fc a3>>=fun v0=>
 Vi v0>>=fun v1=>
 if(x3.fc.length+(1:Nat))*(88:Nat)≤(140737488355328:Nat)∧x3.fc.length+(1:Nat)≤(9223372036854775807:Nat) then
 some (x3.fc++[v1])>>=fun v2=>
 Xp x1 (Q9.mk v2 x3.fb) a4 (wr (a3+1))
 else none
 else
 some x3
 partial_fixpoint
theorem Em(x1:Q9)(x2:Q9)(x3:Q9)(a3:Int)(a4:Int)(o:Q9)(h:Xp x1 x3 a3 a4=some o):LO 28 3 28 [1,2,3,11,12] [.ptr 0 0 0,.ptr 1 0 0,.ptr 3 0 0,ii a3,ii a4] [.cells 0 (Qj x1).cells,.cells 0 [.ow 2 0 8 (List.length x2.fc),.sl 20 (List.map Q6 x2.fb)],.own 0 8 (List.map Q4 x2.fc),.cells 0 [.ow 4 0 8 (List.length x3.fc),.sl 20 (List.map Q6 x3.fb)],.own 0 8 (List.map Q4 x3.fc)] [2,3] (JC x1 (x2,a3) o):=
 Xp.partial_correctness x1 a3 (fun x3 a4 o=>∀(x2:Q9),LO 28 3 28 [1,2,3,11,12] [.ptr 0 0 0,.ptr 1 0 0,.ptr 3 0 0,ii a3,ii a4] [.cells 0 (Qj x1).cells,.cells 0 [.ow 2 0 8 (List.length x2.fc),.sl 20 (List.map Q6 x2.fb)],.own 0 8 (List.map Q4 x2.fc),.cells 0 [.ow 4 0 8 (List.length x3.fc),.sl 20 (List.map Q6 x3.fb)],.own 0 8 (List.map Q4 x3.fc)] [2,3] (JC x1 (x2,a3) o))
 (fun Xp Q81 x3 a4 o h x2=>
 Lp2 (hs:=[(13,.split),(20,.e Q4),(22,.c Q4),(24,.z [{slot:=16,own:=8}] (some (.n Q4 24 (some .a))))]) (kb:=[kk 1,kk 2,{slot:=2,path:=[0],own:=8},kk 3,{slot:=3,path:=[0],own:=8}]) (kbx:=[kk 2,{slot:=2,path:=[0],own:=8},kk 3,{slot:=3,path:=[0],own:=8}]) ((kIfD (p:=a4<a3) (kIx (enc:=Q4) (l:=x1.fc) (k:=a4) fun v0=>(kC (sh:=Q4) (N4 v0) fun v1=>(kA (q:=(x3.fc.length+(1:Nat))*(88:Nat)≤(140737488355328:Nat)∧x3.fc.length+(1:Nat)≤(9223372036854775807:Nat)) (sh:=Q4) (l:=x3.fc) (kO (sh:=Q4) (x3.fc++[v1]) (mA (sh:=Q4) x3.fc v1) (nA x3.fc v1) fun v2=>(kM0 (alts:=JC x1 (x2,a3)) (fun y hy=>Q81 (Q9.mk v2 x3.fb) (wr (a4+1)) y hy x2))))))
 (kX (alts:=JC x1 (x2,a3)) x3 (.here _ rfl (.refl _) (.refl _)))) h)) x3 a4 o h x2
def C7(r:Q9):AV:=.agg [.ow 0 0 8 (List.length r.fc),.sl 20 (List.map Q6 r.fb)]
def DV(r:Q9):List Box:=[.own 0 8 (List.map Q4 r.fc)]
def C3(x0:Q9):Option Q9:=
 UE x0.fb>>=fun v0=>
 some (List.length x0.fc:Int)>>=fun v1=>
 some ((Q9.mk [] []),v1)>>=fun v2=>
 Xp x0 (Q9.mk [] v0) v1 0>>=fun v4=>
 some v4
theorem Sg(x0 r)(h:C3 x0=some r):PH 28 [Qj x0] [] (C7 r) (DV r):=
 PuH2 (hs:=[(7,.c Qn),(11,.n eI 11 none),(3000004,.l [] [1,2,3,11,12] [kk 1,kk 2,{slot:=2,path:=[0],own:=8},kk 3,{slot:=3,path:=[0],own:=8}] [2,3] [kk 2,{slot:=2,path:=[0],own:=8},kk 3,{slot:=3,path:=[0],own:=8}] (JC x0))]) (kb:=[{slot:=0,path:=[0],own:=8}]) ((kC (sh:=Qn) (Hi x0.fb) fun v0=>(kN _ (mLen (sh:=Q4) x0.fc) fun v1=>(kL1 ((Q9.mk [] []),v1) (fun y hy=>X7.le (.cons lr (.cons lr (.cons lr (.cons lr (.cons lr .nil))))) (.cons (LeB.refl (Box.cells (0:Nat) [AV.sl (8:Nat) (List.map Q4 x0.fc),AV.sl (20:Nat) (List.map Q6 x0.fb)])) (.cons (LeB.cells (0:Nat) (.cons lr (.cons (LeV.nil 20) .nil))) (.cons (LeB.refl (Box.own (0:Nat) (8:Nat) [])) (.cons (LeB.refl (Box.cells (0:Nat) [AV.ow (4:Nat) (0:Nat) (8:Nat) (0:Nat),AV.sl (20:Nat) (List.map Q6 v0)])) (.cons (LeB.refl (Box.own (0:Nat) (8:Nat) [])) .nil))))) (Em x0 (Q9.mk [] []) (Q9.mk [] v0) v1 0 y hy)) fun v2 v4=>(kEH (enc:=C7) (bt:=DV) v4 ⟨.refl _,.refl _⟩)))) h)
end Go.Proofs.YtkgphhemcglgnaaGreatDoor
end
noncomputable section
namespace Go.Proofs.YtkgphhemcglgnaaGreatDoor
open Go HY
set_option maxRecDepth 1000000
def W5(x0:List Q7):Option (List Str):=
 some ((QS.mk (2:Int) [] (gVal.mk (0:Int) (0:Int)) (Qc.mk (0:Int) (0:Int) (0:Int) (0:Int) (0:Int)) (gLin.mk (0:Int) []) x0 []:Q1))>>=fun v0=>
 De v0>>=fun v1=>
 some v1
theorem RI(x0 r)(h:W5 x0=some r):PU 100 [YB x0] (eLS r):=
 Pu2 (hs:=[(4,.n Q5 4 none),(5,.c eLS)]) ((kW (sh:=Q5) (QS.mk (2:Int) [] (gVal.mk (0:Int) (0:Int)) (Qc.mk (0:Int) (0:Int) (0:Int) (0:Int) (0:Int)) (gLin.mk (0:Int) []) x0 []:Q1) (LeV.agg (.cons lr (.cons lr (.cons lr (.cons lr (.cons lr (.cons lr (.cons lr (.cons lr (.cons lr (.cons lr (.cons (LeV.nil 2) (.cons lr (.cons (LeV.nil 13) .nil)))))))))))))) fun v0=>(kC (sh:=eLS) (Ek v0) fun v1=>(kEr (enc:=eLS) v1))) h)
def DW(x0:Qg)(x1:Str):Option Bool:=
 De x0.fg>>=fun v0=>
 ZN v0 x1>>=fun v1=>if v1 then
 some true
 else
 W5 x0.fe>>=fun v2=>
 ZN v2 x1>>=fun v3=>
 some v3
theorem S9(x0 x1 r)(h:DW x0 x1=some r):PU 122 [Qp x0,eS x1] (eB r):=
 Pu2 (hs:=[(7,.c eLS),(9,.cb),(13,.c eLS),(15,.c eB)]) ((kC (sh:=eLS) (Ek x0.fg) fun v0=>(kCb (Kj v0 x1) (kEr (enc:=eB) true)
 (kC (sh:=eLS) (RI x0.fe) fun v2=>(kC (sh:=eB) (Kj v2 x1) fun v3=>(kEr (enc:=eB) v3))))) h)
def Gz(x0:Qg):Option Bool:=
 if x0.fOp==2 then
 some true
 else
 some (x0.fOp==3)
theorem I7(x0 r)(h:Gz x0=some r):PU 80 [Qp x0] (eB r):=
 Pu2 (hs:=[(5,.split)]) ((kIf (c:=x0.fOp==2) (kEr (enc:=eB) true)
 (kEr (enc:=eB) (x0.fOp==3))) h)
def Jh(r:(Bool×Str×Bool)):AV:=.tup []
def Jb(r:(Bool×Str×Bool)):List Box:=[.cells 0 [.bool r.1],.cells 0 [.str r.2.1],.cells 0 [.bool r.2.2]]
def Uy(s:(Str×Qg))(u:Bool)(o:Bool):List Alt:=l1 o .normal (fun _=>[.ptr 0 0 0,.ptr 1 0 0,.ptr 2 0 0,.ptr 3 0 0]) (fun x=>[.cells 0 [.bool x],.cells 0 [.str (s.1)],.cells 0 [.bool u],.cells 0 (Qp (s.2)).cells])
def Ds(x0:Qg)(x1:Bool)(x2:Str)(x3:Bool):Option (Bool×Str×Bool):=
 some x3>>=fun v0=>
 (if x1 then
 some true
 else
 DW x0 x2>>=fun v2=>
 some v2)>>=fun v3=>
 if v0 then
 some (v3,x2,true)
 else
 Gz x0>>=fun v4=>if v4 then
 some (v3,x2,(x0.fa==x2))
 else
 some (v3,x2,false)
theorem Tm(x0 x1 x2 x3 r)(h:Ds x0 x1 x2 x3=some r):PH 121 [Qp x0,.ptr 0 0 0,.ptr 1 0 0,.ptr 2 0 0] [.cells 0 [.bool x1],.cells 0 [.str x2],.cells 0 [.bool x3]] (Jh r) (Jb r):=
 PuH2 (hs:=[(5,.split),(9,.c eB),(11,.split),(14,.cb),(5000001,.l [] [] [] [1,2,3,4] [kk 1,kk 2,kk 3,kk 4] (Uy (x2,x0)))]) (kb:=[kk 1,kk 2,kk 3]) ((kJ1 (id:=5000001) x3 (fun v0 a3 v1=>(kIf (c:=x1) (kXj (alts:=Uy (x2,x0)) a3 true (.here _ rfl (.refl _) (.refl _)))
 (kC (sh:=eB) (S9 x0 x2) fun v2=>(kXj (alts:=Uy (x2,x0)) a3 v2 (.here _ rfl (.refl _) (.refl _))))))
 (fun v0 v3=>(kIf (c:=v0) (kEH (enc:=Jh) (bt:=Jb) (v3,x2,true) ⟨.refl _,.refl _⟩)
 (kCb (I7 x0) (kEH (enc:=Jh) (bt:=Jb) (v3,x2,(x0.fa==x2)) ⟨.refl _,.refl _⟩)
 (kEH (enc:=Jh) (bt:=Jb) (v3,x2,false) ⟨.refl _,.refl _⟩))))) h)
def XA(r:(Bool×Str×Bool)):AV:=.tup []
def Xm(r:(Bool×Str×Bool)):List Box:=[.cells 0 [.bool r.1],.cells 0 [.str r.2.1],.cells 0 [.bool r.2.2]]
def KE(s:Unit)(u:((List Q0)×Int))(o:(Bool×Str×Bool)):List Alt:=l1 o (.exit 0) (fun _=>[.fn 121 [.ptr 0 0 0,.ptr 1 0 0,.ptr 2 0 0]]) (fun x=>[.cells 0 [.bool x.1],.cells 0 [.str x.2.1],.cells 0 [.bool x.2.2]])
mutual
def ZW(x0:List Q0)(x1:(Bool×Str×Bool)):Option (Bool×Str×Bool):=
 some (List.length x0:Int)>>=fun v0=>
 some (x0,v0)>>=fun v1=>
 ZD x1 x0 v0 0>>=fun v3=>
 some (v3.fst,v3.snd.fst,v3.snd.snd)
 partial_fixpoint
def ZD(x1:(Bool×Str×Bool))(x6:List Q0)(x7:Int)(x8:Int):Option (Bool×Str×Bool):=
 if x8<x7 then
 Option.map Q0.f (ix x6 x8)>>=fun v0=>
 Ds v0 x1.fst x1.snd.fst x1.snd.snd>>=fun v1=>
 ZW v0.fb v1>>=fun v2=>
 ZD v2 x6 x7 (wr (x8+1))
 else
 some x1
 partial_fixpoint
end
theorem IC:(∀(x0:List Q0) (x1:(Bool×Str×Bool)) (r:(Bool×Str×Bool)),ZW x0 x1=some r→PH 102 [Qn x0,.fn 121 [.ptr 0 0 0,.ptr 1 0 0,.ptr 2 0 0]] [.cells 0 [.bool x1.1],.cells 0 [.str x1.2.1],.cells 0 [.bool x1.2.2]] (XA r) (Xm r))∧(∀(x1:(Bool×Str×Bool)) (x6:List Q0) (x7:Int) (x8:Int) (o:(Bool×Str×Bool)),ZD x1 x6 x7 x8=some o→LOp [.ptr 0 0 0,.ptr 1 0 0,.ptr 2 0 0] 102 1 20 [1,6,7,8] [.fn 121 [.ptr 0 0 0,.ptr 1 0 0,.ptr 2 0 0],.sl 20 (List.map Q6 x6),ii x7,ii x8] [.cells 0 [.bool x1.1],.cells 0 [.str x1.2.1],.cells 0 [.bool x1.2.2]] [1] (KE () (x6,x7) o)):=
 ZW.mutual_partial_correctness _ _
 (fun ZD Q7n x0 x1 r h=>
 PuH2 (hs:=[(7,.n eI 7 none),(3000002,.l [] [1,6,7,8] [{slot:=1,path:=[0]},{slot:=1,path:=[1]},{slot:=1,path:=[2]}] [1] [{slot:=1,path:=[0]},{slot:=1,path:=[1]},{slot:=1,path:=[2]}] (KE ()))]) (kb:=[kk 1,kk 2,kk 3]) ((kN _ (mLen (sh:=Q6) x0) fun v0=>(kL1 (x0,v0) (Q7n x1 x0 v0 0) fun v1 v3=>(kEH (enc:=XA) (bt:=Xm) (v3.fst,v3.snd.fst,v3.snd.snd) ⟨.refl _,.refl _⟩))) h))
 (fun ZW ZD Q7m Q7n x1 x6 x7 x8 o h=>
 Lp1p (hs:=[(9,.split),(10,.e Qp),(14,.h [kk 1,kk 2,kk 3] Jh Jb),(18,.h [{slot:=1,path:=[0]},{slot:=1,path:=[1]},{slot:=1,path:=[2]}] XA Xm)]) (kb:=[{slot:=1,path:=[0]},{slot:=1,path:=[1]},{slot:=1,path:=[2]}]) (kbx:=[{slot:=1,path:=[0]},{slot:=1,path:=[1]},{slot:=1,path:=[2]}]) (by kernel_rfl) (by kernel_rfl) ((kIfD (p:=x8<x7) (kIxR (l:=x6) (k:=x8) Z7 fun v0=>(kH (sh:=Jh) (bt:=Jb) (Tm v0 x1.fst x1.snd.fst x1.snd.snd) fun v1=>(kH (sh:=XA) (bt:=Xm) (Q7m v0.fb v1) fun v2=>(kM0 (alts:=KE () (x6,x7)) (Q7n v2 x6 x7 (wr (x8+1)))))))
 (kX (alts:=KE () (x6,x7)) x1 (.here _ rfl (.refl _) (.refl _)))) h))
theorem Hf(x0 x1 r)(h:ZW x0 x1=some r):PH 102 [Qn x0,.fn 121 [.ptr 0 0 0,.ptr 1 0 0,.ptr 2 0 0]] [.cells 0 [.bool x1.1],.cells 0 [.str x1.2.1],.cells 0 [.bool x1.2.2]] (XA r) (Xm r):=(IC).1 x0 x1 r h
def CD(x0:List Q0)(x1:Str):Option (Bool×Bool):=
 ZW x0 (false,x1,false)>>=fun v0=>
 some (v0.fst,v0.snd.snd)
theorem Ax(x0 x1 r)(h:CD x0 x1=some r):PU 79 [Qn x0,eS x1] (SA r):=
 Pu2 (hs:=[(10,.h [{slot:=1,path:=[0]},{slot:=1,path:=[1]},{slot:=1,path:=[2]}] XA Xm)]) ((kH (sh:=XA) (bt:=Xm) (Hf x0 (false,x1,false)) fun v0=>(kEr (enc:=SA) (v0.fst,v0.snd.snd))) h)
def GA(x0:Qb)(x1:Q9):Option Bool:=
 CD x1.fb x0.fa>>=fun v0=>
 if x0.fF==3 then
 some (!v0.fst)
 else
 some false
theorem Ei(x0 x1 r)(h:GA x0 x1=some r):PU 78 [Q4 x0,.ip 2 [.agg [.sl 8 (List.map Q4 x1.fc),.sl 20 (List.map Q6 x1.fb)]] 0 0] (eB r):=
 Pu2 (hs:=[(11,.c SA),(16,.split)]) ((kC (sh:=SA) (Ax x1.fb x0.fa) fun v0=>(kIf (c:=x0.fF==3) (kEr (enc:=eB) (!v0.fst))
 (kEr (enc:=eB) false))) h)
def Zl(s:((List Qb)×Q9))(u:Int)(o:Unit ⊕ Int):List Alt:=lp o (.exit 0) (fun _=>[.undef]) (fun _=>[]) .ret (fun x=>[ii x]) (fun _=>[])
def QA(x0:List Qb)(x1:Q9)(x7:Int)(x8:Int):Option (Unit ⊕ Int):=
 if x8<x7 then
 ix x0 x8>>=fun v0=>
 GA v0 x1>>=fun v1=>if v1 then
 some (.inr x8)
 else
 QA x0 x1 x7 (wr (x8+1))
 else
 some (.inl ())
 partial_fixpoint
theorem Cm(x0 x1 x7 x8 o)(h:QA x0 x1 x7 x8=some o):LO 77 2 19 [0,1,7,8] [.sl 8 (List.map Q4 x0),.fn 78 [.ip 2 [.agg [.sl 8 (List.map Q4 x1.fc),.sl 20 (List.map Q6 x1.fb)]] 0 0],ii x7,ii x8] [] [4] (Zl (x0,x1) x7 o):=
 QA.partial_correctness x0 x1 x7 (fun x8 o=>LO 77 2 19 [0,1,7,8] [.sl 8 (List.map Q4 x0),.fn 78 [.ip 2 [.agg [.sl 8 (List.map Q4 x1.fc),.sl 20 (List.map Q6 x1.fb)]] 0 0],ii x7,ii x8] [] [4] (Zl (x0,x1) x7 o))
 (fun QA Qa7 x8 o h=>
 Lp2 (hs:=[(9,.split),(14,.e Q4),(16,.cb)]) (kb:=[]) (kbx:=[]) ((kIfD (p:=x8<x7) (kIx (enc:=Q4) (l:=x0) (k:=x8) fun v0=>(kCb (Ei v0 x1) (kX (alts:=Zl (x0,x1) x7) (.inr x8) (.next (.here _ rfl (.refl _) (.refl _))))
 (kM0 (alts:=Zl (x0,x1) x7) (Qa7 (wr (x8+1))))))
 (kX (alts:=Zl (x0,x1) x7) (.inl ()) (.here _ rfl (.refl _) (.refl _)))) h)) x8 o h
def KU(x0:List Qb)(x1:Q9):Option Int:=
 some (List.length x0:Int)>>=fun v0=>
 some v0>>=fun v1=>
 QA x0 x1 v0 0>>=fun v2=>(match v2 with
 | (.inl v3)=>
 some (-1:Int)
 | (.inr v4)=>
 some v4)
theorem Wi(x0 x1 r)(h:KU x0 x1=some r):PU 77 [JX x0,.fn 78 [.ip 2 [.agg [.sl 8 (List.map Q4 x1.fc),.sl 20 (List.map Q6 x1.fb)]] 0 0]] (eI r):=
 Pu2 (hs:=[(7,.n eI 7 none),(3000003,.l [] [0,1,7,8] [] [4] [] (Zl (x0,x1)))]) ((kN _ (mLen (sh:=Q4) x0) fun v0=>(kL2 v0 (hL:=(Cm x0 x1 v0 0)) (hA:=fun v1 v3=>(kEr (enc:=eI) (-1:Int)))
 (hB:=fun v1 v4=>(kEr (enc:=eI) v4)))) h)
def Va(x0:Q9):Option Int:=
 KU x0.fc x0>>=fun v0=>
 some v0
theorem Lv(x0 r)(h:Va x0=some r):PU 30 [Qj x0] (eI r):=
 Pu2 (hs:=[(5,.z [{slot:=1,fz:=true}] none),(6,.c eI)]) ((kC (sh:=eI) (Wi x0.fc x0) fun v0=>(kEr (enc:=eI) v0)) h)
def VZ(s:Unit)(u:((List Q0)×Int))(o:List Q0):List Alt:=l1 o (.exit 0) (fun x=>[.sl 20 (List.map Q6 x)]) (fun _=>[])
def XI(s:((List Q0)×Int))(u:((List Q0)×Qg×Int))(o:Bool):List Alt:=jb o (fun b=>[.ow 0 0 20 (List.length (u.1)),.ptr 1 0 0,.sl 20 (List.map Q6 (s.1)),ii (s.2),ii (u.2.2),.bool b]) [.own 0 20 (List.map Q6 (u.1)),.cells 0 (Qp (u.2.1)).cells]
def Ux(s:((List Q0)×Int))(u:Int)(o:List Q0):List Alt:=l1 o .normal (fun x=>[.ow 0 0 20 (List.length x),.sl 20 (List.map Q6 (s.1)),ii (s.2),ii u]) (fun x=>[.own 0 20 (List.map Q6 x)])
mutual
def ZR(x0:List Q0):Option (List Q0):=
 some (List.length x0:Int)>>=fun v0=>
 some (x0,v0)>>=fun v1=>
 Xc [] x0 v0 0>>=fun v3=>
 some v3
 partial_fixpoint
def Xc(x3:List Q0)(x6:List Q0)(x7:Int)(x8:Int):Option (List Q0):=
 if x8<x7 then
 some x8>>=fun v0=>
 (Option.map Q0.f (ix x6 x8)>>=fun v2=>
 ZR v2.fb>>=fun v3=>
 some (x3,(ZH.mk v2.fOp v2.fa v2.fy v2.fB v2.fA v2.fe v2.fg v3:Qg),x8)>>=fun v4=>
 (if v2.fOp==1 then
 some (List.length v3:Int)>>=fun v6=>
 if v6==0 then
 some true
 else
 some false
 else
 if v2.fOp==4 then
 some (List.length v3:Int)>>=fun v7=>
 if v7==0 then
 some true
 else
 some false
 else
 some false)>>=fun v5=>if v5 then
 some v4.fst
 else
 if(v4.fst.length+(1:Nat))*(256:Nat)≤(140737488355328:Nat)∧v4.fst.length+(1:Nat)≤(9223372036854775807:Nat) then
 some (v4.fst++[(Q0.mk v4.snd.fst)])>>=fun a6=>
 some a6
 else none)>>=fun a7=>
 Xc a7 x6 x7 (wr (v0+1))
 else
 some x3
 partial_fixpoint
end
theorem RF:(∀(x0:List Q0) (r:List Q0),ZR x0=some r→PU 31 [Qn x0] (Qn r))∧(∀(x3:List Q0) (x6:List Q0) (x7:Int) (x8:Int) (o:List Q0),Xc x3 x6 x7 x8=some o→LO 31 3 36 [3,6,7,8] [.ow 0 0 20 (List.length x3),.sl 20 (List.map Q6 x6),ii x7,ii x8] [.own 0 20 (List.map Q6 x3)] [3] (VZ () (x6,x7) o)):=
 ZR.mutual_partial_correctness _ _
 (fun Xc Q7l x0 r h=>
 Pu2 (hs:=[(7,.n eI 7 none),(3000004,.l [] [3,6,7,8] [{slot:=3,own:=20}] [3] [{slot:=3,fz:=true}] (VZ ()))]) ((kN _ (mLen (sh:=Q6) x0) fun v0=>(kL1 (x0,v0) (Q7l [] x0 v0 0) fun v1 v3=>(kEr (enc:=Qn) v3))) h))
 (fun ZR Xc Q7k Q7l x3 x6 x7 x8 o h=>
 Lp2 (hs:=[(9,.split),(10,.e Qp),(14,.c Qn),(18,.split),(22,.split),(27,.n eI 27 none),(28,.split),(33,.z [{slot:=30,own:=20}] (some (.n Q6 33 (some .a)))),(5000006,.l [] [] [] [3,5,6,7,8,29] [{slot:=3,own:=20},kk 5] (XI (x6,x7))),(7000001,.l [] [] [] [3,6,7,8] [{slot:=3,own:=20}] (Ux (x6,x7)))]) (kb:=[{slot:=3,own:=20}]) (kbx:=[{slot:=3,fz:=true}]) ((kIfD (p:=x8<x7) (kJ1 (id:=7000001) x8 (fun v0 ab v1=>(kIxR (l:=x6) (k:=x8) Z7 fun v2=>(kC (sh:=Qn) (Q7k v2.fb) fun v3=>(kJbE (id:=5000006) (x3,(ZH.mk v2.fOp v2.fa v2.fy v2.fB v2.fA v2.fe v2.fg v3:Qg),x8) (fun v4 a3 v5=>(kIf (c:=v2.fOp==1) (kN _ (mLen (sh:=Q6) v3) fun v6=>(kIf (c:=v6==0) (kXj (alts:=XI (x6,x7)) a3 true (.here () rfl (.refl _) (.refl _)))
 (kXj (alts:=XI (x6,x7)) a3 false (.next (.here () rfl (.refl _) (.refl _))))))
 (kIf (c:=v2.fOp==4) (kN _ (mLen (sh:=Q6) v3) fun v7=>(kIf (c:=v7==0) (kXj (alts:=XI (x6,x7)) a3 true (.here () rfl (.refl _) (.refl _)))
 (kXj (alts:=XI (x6,x7)) a3 false (.next (.here () rfl (.refl _) (.refl _))))))
 (kXj (alts:=XI (x6,x7)) a3 false (.next (.here () rfl (.refl _) (.refl _)))))))
 (fun v4 a3=>(kXj (alts:=Ux (x6,x7)) (u0:=v4.snd.snd) (by subst a3;exact ab) v4.fst (.here _ rfl (.refl _) (.refl _))))
 (fun v4 a3=>(kA (q:=(v4.fst.length+(1:Nat))*(256:Nat)≤(140737488355328:Nat)∧v4.fst.length+(1:Nat)≤(9223372036854775807:Nat)) (sh:=Q6) (l:=v4.fst) (kO (sh:=Q6) (v4.fst++[(Q0.mk v4.snd.fst)]) (mAR UN v4.fst v4.snd.fst) (nA v4.fst (Q0.mk v4.snd.fst)) fun ae=>(kXj (alts:=Ux (x6,x7)) (u0:=v4.snd.snd) (by subst a3;exact ab) ae (.here _ rfl (.refl _) (.refl _))))))))))
 (fun v0 af=>(kM0 (alts:=VZ () (x6,x7)) (Q7l af x6 x7 (wr (v0+1))))))
 (kT (nM (sh:=Q6) x3) (kX (alts:=VZ () (x6,x7)) x3 (.here _ rfl (.refl _) (.refl _))))) h))
theorem Tl(x0 r)(h:ZR x0=some r):PU 31 [Qn x0] (Qn r):=(RF).1 x0 r h
def Vq(s:Str)(u:((List Q0)×Int))(o:List Q0):List Alt:=l1 o (.exit 0) (fun x=>[.sl 20 (List.map Q6 x)]) (fun _=>[])
def V1(s:(Str× (List Q0)×Int))(u:((List Q0)×Qg×Int))(o:Bool):List Alt:=jb o (fun b=>[.str (s.1),.ow 0 0 20 (List.length (u.1)),.ptr 1 0 0,.sl 20 (List.map Q6 (s.2.1)),ii (s.2.2),ii (u.2.2),.bool b]) [.own 0 20 (List.map Q6 (u.1)),.cells 0 (Qp (u.2.1)).cells]
def Ul(s:(Str× (List Q0)×Int))(u:Int)(o:List Q0):List Alt:=l1 o .normal (fun x=>[.str (s.1),.ow 0 0 20 (List.length x),.sl 20 (List.map Q6 (s.2.1)),ii (s.2.2),ii u]) (fun x=>[.own 0 20 (List.map Q6 x)])
mutual
def Zy(x0:List Q0)(x1:Str):Option (List Q0):=
 some (List.length x0:Int)>>=fun v0=>
 some (x0,v0)>>=fun v1=>
 ZX x1 [] x0 v0 0>>=fun v3=>
 some v3
 partial_fixpoint
def ZX(x1:Str)(x5:List Q0)(x8:List Q0)(x9:Int)(a4:Int):Option (List Q0):=
 if a4<x9 then
 some a4>>=fun v0=>
 (Option.map Q0.f (ix x8 a4)>>=fun v2=>
 some (x5,v2,a4)>>=fun v3=>
 (Gz v2>>=fun v5=>if v5 then
 if v2.fa==x1 then
 some true
 else
 some false
 else
 some false)>>=fun v4=>if v4 then
 some v3.fst
 else
 Zy v3.snd.fst.fb x1>>=fun v8=>
 if(v3.fst.length+(1:Nat))*(256:Nat)≤(140737488355328:Nat)∧v3.fst.length+(1:Nat)≤(9223372036854775807:Nat) then
 some (v3.fst++[(Q0.mk (ZH.mk v3.snd.fst.fOp v3.snd.fst.fa v3.snd.fst.fy v3.snd.fst.fB v3.snd.fst.fA v3.snd.fst.fe v3.snd.fst.fg v8:Qg))])>>=fun v9=>
 some v9
 else none)>>=fun a5=>
 ZX x1 a5 x8 x9 (wr (v0+1))
 else
 some x5
 partial_fixpoint
end
theorem Ef(x1:Str):(∀(x0:List Q0) (r:List Q0),Zy x0 x1=some r→PU 32 [Qn x0,eS x1] (Qn r))∧(∀(x5:List Q0) (x8:List Q0) (x9:Int) (a6:Int) (o:List Q0),ZX x1 x5 x8 x9 a6=some o→LO 32 3 33 [1,5,8,9,10] [.str x1,.ow 0 0 20 (List.length x5),.sl 20 (List.map Q6 x8),ii x9,ii a6] [.own 0 20 (List.map Q6 x5)] [5] (Vq x1 (x8,x9) o)):=
 Zy.mutual_partial_correctness x1 _ _
 (fun ZX Q7p x0 r h=>
 Pu2 (hs:=[(9,.n eI 9 none),(3000004,.l [] [1,5,8,9,10] [{slot:=5,own:=20}] [5] [{slot:=5,fz:=true}] (Vq x1))]) ((kN _ (mLen (sh:=Q6) x0) fun v0=>(kL1 (x0,v0) (Q7p [] x0 v0 0) fun v1 v3=>(kEr (enc:=Qn) v3))) h))
 (fun Zy ZX Q7o Q7p x5 x8 x9 a6 o h=>
 Lp2 (hs:=[(11,.split),(12,.e Qp),(15,.cb),(20,.split),(25,.c Qn),(30,.z [{slot:=27,own:=20}] (some (.n Q6 30 (some .a)))),(5000005,.l [] [] [] [1,5,7,8,9,10,21] [{slot:=5,own:=20},kk 7] (V1 (x1,x8,x9))),(7000001,.l [] [] [] [1,5,8,9,10] [{slot:=5,own:=20}] (Ul (x1,x8,x9)))]) (kb:=[{slot:=5,own:=20}]) (kbx:=[{slot:=5,fz:=true}]) ((kIfD (p:=a6<x9) (kJ1 (id:=7000001) a6 (fun v0 ab v1=>(kIxR (l:=x8) (k:=a6) Z7 fun v2=>(kJbE (id:=5000005) (x5,v2,a6) (fun v3 a5 v4=>(kCb (I7 v2) (kIf (c:=v2.fa==x1) (kXj (alts:=V1 (x1,x8,x9)) a5 true (.here () rfl (.refl _) (.refl _)))
 (kXj (alts:=V1 (x1,x8,x9)) a5 false (.next (.here () rfl (.refl _) (.refl _)))))
 (kXj (alts:=V1 (x1,x8,x9)) a5 false (.next (.here () rfl (.refl _) (.refl _))))))
 (fun v3 a5=>(kXj (alts:=Ul (x1,x8,x9)) (u0:=v3.snd.snd) (by subst a5;exact ab) v3.fst (.here _ rfl (.refl _) (.refl _))))
 (fun v3 a5=>(kC (sh:=Qn) (Q7o v3.snd.fst.fb) fun v8=>(kA (q:=(v3.fst.length+(1:Nat))*(256:Nat)≤(140737488355328:Nat)∧v3.fst.length+(1:Nat)≤(9223372036854775807:Nat)) (sh:=Q6) (l:=v3.fst) (kO (sh:=Q6) (v3.fst++[(Q0.mk (ZH.mk v3.snd.fst.fOp v3.snd.fst.fa v3.snd.fst.fy v3.snd.fst.fB v3.snd.fst.fA v3.snd.fst.fe v3.snd.fst.fg v8:Qg))]) (mAR UN v3.fst (ZH.mk v3.snd.fst.fOp v3.snd.fst.fa v3.snd.fst.fy v3.snd.fst.fB v3.snd.fst.fA v3.snd.fst.fe v3.snd.fst.fg v8:Qg)) (nA v3.fst (Q0.mk (ZH.mk v3.snd.fst.fOp v3.snd.fst.fa v3.snd.fst.fy v3.snd.fst.fB v3.snd.fst.fA v3.snd.fst.fe v3.snd.fst.fg v8:Qg))) fun v9=>(kXj (alts:=Ul (x1,x8,x9)) (u0:=v3.snd.snd) (by subst a5;exact ab) v9 (.here _ rfl (.refl _) (.refl _))))))))))
 (fun v0 ad=>(kM0 (alts:=Vq x1 (x8,x9)) (Q7p ad x8 x9 (wr (v0+1))))))
 (kT (nM (sh:=Q6) x5) (kX (alts:=Vq x1 (x8,x9)) x5 (.here _ rfl (.refl _) (.refl _))))) h))
theorem RJ(x0 x1 r)(h:Zy x0 x1=some r):PU 32 [Qn x0,eS x1] (Qn r):=(Ef x1).1 x0 r h
end Go.Proofs.YtkgphhemcglgnaaGreatDoor
end
noncomputable section
namespace Go.Proofs.YtkgphhemcglgnaaGreatDoor
open Go HY
set_option maxRecDepth 1000000
def YV(s:Unit)(u:Q9)(o:(Q9×Int)):List Alt:=l1 o (.exit 0) (fun x=>[.ptr 0 0 0,.ptr 1 0 0,ii x.2]) (fun x=>[.cells 0 (Qj u).cells,.cells 0 [.ow 2 0 8 (List.length x.1.fc),.sl 20 (List.map Q6 x.1.fb)],.own 0 8 (List.map Q4 x.1.fc)])
def Zp(x4:Q9)(x7:Int)(x8:Int):Option (Q9×Int):=
 if 0≤x8 then
 if 0≤x8∧x8< (↑x4.fc.length:Int) then
 x4.fc[x8.toNat]? >>=fun v0=>
 Zy x4.fb v0.fa>>=fun v1=>
 ZR v1>>=fun v2=>
 YI x4.fc x8 (wr (x8+1))>>=fun v3=>
 Va (Q9.mk v3 v2)>>=fun v4=>
 Zp (Q9.mk v3 v2) (wr (x7+1)) v4
 else none
 else
 some (x4,x7)
 partial_fixpoint
theorem MY(x2:Q9)(x4:Q9)(x7:Int)(x8:Int)(o:(Q9×Int))(h:Zp x4 x7 x8=some o):LO 9 7 47 [2,4,7,8] [.ptr 0 0 0,.ptr 1 0 0,ii x7,ii x8] [.cells 0 (Qj x2).cells,.cells 0 [.ow 2 0 8 (List.length x4.fc),.sl 20 (List.map Q6 x4.fb)],.own 0 8 (List.map Q4 x4.fc)] [2,4,7] (YV () x2 o):=
 Zp.partial_correctness (fun x4 x7 x8 o=>∀(x2:Q9),LO 9 7 47 [2,4,7,8] [.ptr 0 0 0,.ptr 1 0 0,ii x7,ii x8] [.cells 0 (Qj x2).cells,.cells 0 [.ow 2 0 8 (List.length x4.fc),.sl 20 (List.map Q6 x4.fb)],.own 0 8 (List.map Q4 x4.fc)] [2,4,7] (YV () x2 o))
 (fun Zp Q7j x4 x7 x8 o h x2=>
 Lp2 (hs:=[(22,.split),(33,.c Qn),(34,.c Qn),(41,.h [{slot:=0,own:=8}] Uq YG),(24,.c eI),(30,.s),(32,.e Q4)]) (kb:=[kk 2,kk 4,{slot:=4,path:=[0],own:=8}]) (kbx:=[kk 2,kk 4,{slot:=4,path:=[0],own:=8}]) ((kIfD (p:=0≤x8) (kG (p:=0≤x8∧x8< (↑x4.fc.length:Int)) (kOx (enc:=Q4) (l:=x4.fc) (k:=x8.toNat) fun v0=>(kC (sh:=Qn) (RJ x4.fb v0.fa) fun v1=>(kC (sh:=Qn) (Tl v1) fun v2=>(kH (sh:=Uq) (bt:=YG) (MS x4.fc x8 (wr (x8+1))) fun v3=>(kT (nM (sh:=Q4) v3) (kC (sh:=eI) (Lv (Q9.mk v3 v2)) fun v4=>(kM0 (alts:=YV () x2) (fun y hy=>Q7j (Q9.mk v3 v2) (wr (x7+1)) v4 y hy x2)))))))))
 (kX (alts:=YV () x2) (x4,x7) (.here _ rfl (.refl _) (.refl _)))) h)) x4 x7 x8 o h x2
def KT(x0:Q9):Option (Q9×Int):=
 C3 x0>>=fun v0=>
 Gc x0>>=fun v1=>
 if v1.snd !=0 then
 some (v0,(0:Int))
 else
 Va v0>>=fun v2=>
 some (Q9.mk [] [])>>=fun v3=>
 Zp v0 0 v2>>=fun v5=>
 some (v5.fst,v5.snd)
theorem Is(x0 r)(h:KT x0=some r):PU 9 [Qj x0] (YC r):=
 Pu2 (hs:=[(10,.h [] C7 DV),(13,.c Ji),(17,.split),(20,.c eI),(3000008,.l [] [2,4,7,8] [kk 2,kk 4,{slot:=4,path:=[0],own:=8}] [2,4,7] [kk 2,kk 4,{slot:=4,path:=[0],own:=8}] (YV ()))]) ((kH (sh:=C7) (bt:=DV) (Sg x0) fun v0=>(kC (sh:=Ji) (Ea x0) fun v1=>(kIf (c:=v1.snd !=0) (kT (nM (sh:=Q4) v0.fc) (kEr (enc:=YC) (v0,(0:Int))))
 (kT (nM (sh:=Q4) v0.fc) (kC (sh:=eI) (Lv v0) fun v2=>(kL1 (Q9.mk [] []) (fun y hy=>X7.le (.cons lr (.cons lr (.cons lr (.cons lr .nil)))) (.cons (LeB.cells (0:Nat) (.cons (LeV.nil 8) (.cons (LeV.nil 20) .nil))) (.cons (LeB.refl (Box.cells (0:Nat) [AV.ow (2:Nat) (0:Nat) (8:Nat) v0.fc.length,AV.sl (20:Nat) (List.map Q6 v0.fb)])) (.cons (LeB.refl (Box.own (0:Nat) (8:Nat) (List.map Q4 v0.fc))) .nil))) (MY (Q9.mk [] []) v0 0 v2 y hy)) fun v3 v5=>(kT (nM (sh:=Q4) v5.fst.fc) (kEr (enc:=YC) (v5.fst,v5.snd))))))))) h)
end Go.Proofs.YtkgphhemcglgnaaGreatDoor
end
noncomputable section
namespace Go.Proofs.YtkgphhemcglgnaaGreatDoor
open Go HY
set_option maxRecDepth 1000000
def JE(s:List Q7)(u:Int)(o:Int):List Alt:=l1 o (.exit 2) (fun x=>[.sl 4 (List.map Q2 s),ii x,ii u]) (fun _=>[])
def Xt(x0:List Q7)(x3:Int)(x4:Int)(x5:Int):Option Int:=
 ix x0 x4>>=fun v0=>
 some (List.length v0.fAt:Int)>>=fun v1=>
 if x5<v1 then
 ix x0 x4>>=fun v2=>
 ix v2.fAt x5>>=fun v3=>
 some (List.length v3.fL:Int)>>=fun v4=>
 some (wr (x3+wr ((1:Int)+v4)):Int)>>=fun v5=>
 Xt x0 v5 x4 (wr (x5+1))
 else
 some x3
 partial_fixpoint
theorem Es(x0 x3 x4 x5 o)(h:Xt x0 x3 x4 x5=some o):LO 54 7 47 [0,3,4,5] [.sl 4 (List.map Q2 x0),ii x3,ii x4,ii x5] [] [0,3,4] (JE x0 x4 o):=
 Xt.partial_correctness x0 x4 (fun x3 x5 o=>LO 54 7 47 [0,3,4,5] [.sl 4 (List.map Q2 x0),ii x3,ii x4,ii x5] [] [0,3,4] (JE x0 x4 o))
 (fun Xt Q9i x3 x5 o h=>
 Lp2 (hs:=[(3,.n eI 3 none),(26,.e Q2),(29,.n eI 29 none),(30,.split),(36,.e Q2),(40,.e Qe),(43,.n eI 43 none),(3,.n eI 3 none)]) (kb:=[]) (kbx:=[]) ((kIx (enc:=Q2) (l:=x0) (k:=x4) fun v0=>(kN _ (mLen (sh:=Qe) v0.fAt) fun v1=>(kIfD (p:=x5<v1) (kIx (enc:=Q2) (l:=x0) (k:=x4) fun v2=>(kIx (enc:=Qe) (l:=v2.fAt) (k:=x5) fun v3=>(kN _ (mLen (sh:=Qk) v3.fL) fun v4=>(kN (wr (x3+wr ((1:Int)+v4))) rfl fun v5=>(kM0 (alts:=JE x0 x4) (Q9i v5 (wr (x5+1))))))))
 (kX (alts:=JE x0 x4) x3 (.here _ rfl (.refl _) (.refl _)))))) h)) x3 x5 o h
def JD(s:List Q7)(u:Unit)(o:Int):List Alt:=l1 o (.exit 0) (fun x=>[ii x]) (fun _=>[])
def Xs(x0:List Q7)(x3:Int)(x4:Int):Option Int:=
 some (List.length x0:Int)>>=fun v0=>
 if x4<v0 then
 ix x0 x4>>=fun v1=>
 some (List.length v1.fj.fL:Int)>>=fun v2=>
 some (wr (x3+v2):Int)>>=fun v3=>
 some x4>>=fun v4=>
 Xt x0 v3 x4 0>>=fun v6=>
 Xs x0 v6 (wr (v4+1))
 else
 some x3
 partial_fixpoint
theorem Ep(x0 x3 x4 o)(h:Xs x0 x3 x4=some o):LO 54 3 47 [0,3,4] [.sl 4 (List.map Q2 x0),ii x3,ii x4] [] [3] (JD x0 () o):=
 Xs.partial_correctness x0 (fun x3 x4 o=>LO 54 3 47 [0,3,4] [.sl 4 (List.map Q2 x0),ii x3,ii x4] [] [3] (JD x0 () o))
 (fun Xs Q9h x3 x4 o h=>
 Lp2 (hs:=[(10,.n eI 10 none),(11,.split),(17,.e Q2),(21,.n eI 21 none),(3,.n eI 3 none),(3,.n eI 3 none),(3000008,.l [] [0,3,4,5] [] [0,3,4] [] (JE x0))]) (kb:=[]) (kbx:=[]) ((kN _ (mLen (sh:=Q2) x0) fun v0=>(kIfD (p:=x4<v0) (kIx (enc:=Q2) (l:=x0) (k:=x4) fun v1=>(kN _ (mLen (sh:=Qk) v1.fj.fL) fun v2=>(kN (wr (x3+v2)) rfl fun v3=>(kL1 x4 (Es x0 v3 x4 0) fun v4 v6=>(kM0 (alts:=JD x0 ()) (Q9h v6 (wr (v4+1))))))))
 (kX (alts:=JD x0 ()) x3 (.here _ rfl (.refl _) (.refl _))))) h)) x3 x4 o h
def GB(x0:List Q7):Option Int:=
 some (List.length x0:Int)>>=fun v0=>
 some (v0:Int)>>=fun v1=>
 some ()>>=fun v2=>
 Xs x0 v1 0>>=fun v4=>
 some v4
theorem I9(x0 r)(h:GB x0=some r):PU 54 [YB x0] (eI r):=
 Pu2 (hs:=[(7,.n eI 7 none),(3,.n eI 3 none),(3,.n eI 3 none),(3000004,.l [] [0,3,4] [] [3] [] (JD x0))]) ((kN _ (mLen (sh:=Q2) x0) fun v0=>(kN v0 rfl fun v1=>(kL1 () (Ep x0 v1 0) fun v2 v4=>(kEr (enc:=eI) v4)))) h)
def UV(s:(Int×Q1))(u:Unit)(o:Int):List Alt:=l1 o (.exit 0) (fun x=>[ii x]) (fun _=>[])
def Jw(s:(Int×Q1))(u:(Int×Int))(o:Bool):List Alt:=jb o (fun b=>[ii (s.1),.ptr 0 0 0,ii (u.1),ii (u.2),.bool b]) [.cells 0 (Q5 (s.2)).cells]
mutual
def VQ(x0:Q1)(x1:Int):Option Int:=
 GB x0.fe>>=fun v0=>
 some (List.length x0.fj.fL:Int)>>=fun v1=>
 some (wr (wr ((1:Int)+(↑(List.map Qk x0.fj.fL).length:Int))+v0):Int)>>=fun v2=>
 some ()>>=fun v3=>
 Yw x1 x0 v2 0>>=fun v5=>
 some v5
 partial_fixpoint
def Yw(x1:Int)(x2:Q1)(x5:Int)(x6:Int):Option Int:=
 some (x5,x6)>>=fun v0=>
 (some (List.length x2.ff:Int)>>=fun v2=>
 if x6<v2 then
 if x5≤x1 then
 some true
 else
 some false
 else
 some false)>>=fun v1=>if v1 then
 Option.map Qa.f (ix x2.ff v0.snd)>>=fun v4=>
 VQ v4 (wr (x1 - v0.fst))>>=fun v5=>
 some (wr (v0.fst+v5):Int)>>=fun v6=>
 Yw x1 x2 v6 (wr (v0.snd+1))
 else
 some v0.fst
 partial_fixpoint
end
theorem Ao:(∀(x0:Q1) (x1:Int) (r:Int),VQ x0 x1=some r→PU 53 [Q5 x0,eI x1] (eI r))∧(∀(x1:Int) (x2:Q1) (x5:Int) (x6:Int) (o:Int),Yw x1 x2 x5 x6=some o→LO 53 3 40 [1,2,5,6] [ii x1,.ptr 0 0 0,ii x5,ii x6] [.cells 0 (Q5 x2).cells] [5] (UV (x1,x2) () o)):=
 VQ.mutual_partial_correctness _ _
 (fun Yw Q9k x0 x1 r h=>
 Pu2 (hs:=[(10,.n eI 10 none),(14,.c eI),(5,.n eI 5 none),(5,.n eI 5 none),(3000004,.l [] [1,2,5,6] [kk 2] [5] [] (UV (x1,x0)))]) ((kC (sh:=eI) (I9 x0.fe) fun v0=>(kN _ (mLen (sh:=Qk) x0.fj.fL) fun v1=>(kN (wr (wr ((1:Int)+(↑(List.map Qk x0.fj.fL).length:Int))+v0)) rfl fun v2=>(kL1 () (Q9k x1 x0 v2 0) fun v3 v5=>(kEr (enc:=eI) v5))))) h))
 (fun VQ Yw Q9j Q9k x1 x2 x5 x6 o h=>
 Lp2 (hs:=[(5,.n eI 5 none),(19,.n eI 19 none),(20,.split),(24,.split),(32,.e Q5),(37,.c eI),(5,.n eI 5 none),(5000003,.l [] [] [] [1,2,5,6,25] [kk 2] (Jw (x1,x2)))]) (kb:=[kk 2]) (kbx:=[]) ((kJb (id:=5000003) (x5,x6) (fun v0 a7 v1=>(kN _ (mLen (sh:=Qi) x2.ff) fun v2=>(kIfD (p:=x6<v2) (kIfD (p:=x5≤x1) (kXj (alts:=Jw (x1,x2)) a7 true (.here () rfl (.refl _) (.refl _)))
 (kXj (alts:=Jw (x1,x2)) a7 false (.next (.here () rfl (.refl _) (.refl _)))))
 (kXj (alts:=Jw (x1,x2)) a7 false (.next (.here () rfl (.refl _) (.refl _)))))))
 (fun v0=>(kIxR (l:=x2.ff) (k:=v0.snd) XH fun v4=>(kC (sh:=eI) (Q9j v4 (wr (x1 - v0.fst))) fun v5=>(kN (wr (v0.fst+v5)) rfl fun v6=>(kM0 (alts:=UV (x1,x2) ()) (Q9k x1 x2 v6 (wr (v0.snd+1))))))))
 (fun v0=>(kX (alts:=UV (x1,x2) ()) v0.fst (.here _ rfl (.refl _) (.refl _))))) h))
theorem P6(x0 x1 r)(h:VQ x0 x1=some r):PU 53 [Q5 x0,eI x1] (eI r):=(Ao).1 x0 x1 r h
def UW(s:((List Q0)×Int))(u:Unit)(o:Int):List Alt:=l1 o (.exit 0) (fun x=>[ii x]) (fun _=>[])
def Jx(s:((List Q0)×Int))(u:(Int×Int))(o:Bool):List Alt:=jb o (fun b=>[.sl 20 (List.map Q6 (s.1)),ii (s.2),ii (u.1),ii (u.2),.bool b]) []
mutual
def Kn(x0:List Q0)(x1:Int):Option Int:=
 some (List.length x0:Int)>>=fun v0=>
 some (v0:Int)>>=fun v1=>
 some ()>>=fun v2=>
 Yx x0 x1 v1 0>>=fun v4=>
 some v4
 partial_fixpoint
def Yx(x0:List Q0)(x1:Int)(x5:Int)(x6:Int):Option Int:=
 some (x5,x6)>>=fun v0=>
 (some (List.length x0:Int)>>=fun v2=>
 if x6<v2 then
 if x5≤x1 then
 some true
 else
 some false
 else
 some false)>>=fun v1=>if v1 then
 Option.map Q0.f (ix x0 v0.snd)>>=fun v4=>
 VQ v4.fg (wr (x1 - v0.fst))>>=fun v5=>
 Option.map Q0.f (ix x0 v0.snd)>>=fun v6=>
 GB v6.fe>>=fun v7=>
 Option.map Q0.f (ix x0 v0.snd)>>=fun v8=>
 Kn v8.fb (if true=true then max (0:Int) (wr (x1 - v0.fst)) else min (0:Int) (wr (x1 - v0.fst)))>>=fun v9=>
 some (wr (v0.fst+wr (wr (v5+v7)+v9)):Int)>>=fun a6=>
 Yx x0 x1 a6 (wr (v0.snd+1))
 else
 some v0.fst
 partial_fixpoint
end
theorem Ap:(∀(x0:List Q0) (x1:Int) (r:Int),Kn x0 x1=some r→PU 21 [Qn x0,eI x1] (eI r))∧(∀(x0:List Q0) (x1:Int) (x5:Int) (x6:Int) (o:Int),Yx x0 x1 x5 x6=some o→LO 21 3 50 [0,1,5,6] [.sl 20 (List.map Q6 x0),ii x1,ii x5,ii x6] [] [5] (UW (x0,x1) () o)):=
 Kn.mutual_partial_correctness _ _
 (fun Yx Q9m x0 x1 r h=>
 Pu2 (hs:=[(8,.n eI 8 none),(5,.n eI 5 none),(3000004,.l [] [0,1,5,6] [] [5] [] (UW (x0,x1)))]) ((kN _ (mLen (sh:=Q6) x0) fun v0=>(kN v0 rfl fun v1=>(kL1 () (Q9m x0 x1 v1 0) fun v2 v4=>(kEr (enc:=eI) v4)))) h))
 (fun Kn Yx Q9l Q9m x0 x1 x5 x6 o h=>
 Lp2 (hs:=[(11,.n eI 11 none),(12,.split),(16,.split),(23,.e Qp),(29,.c eI),(32,.e Qp),(35,.c eI),(39,.e Qp),(46,.c eI),(5,.n eI 5 none),(5000003,.l [] [] [] [0,1,5,6,17] [] (Jx (x0,x1)))]) (kb:=[]) (kbx:=[]) ((kJb (id:=5000003) (x5,x6) (fun v0 a6 v1=>(kN _ (mLen (sh:=Q6) x0) fun v2=>(kIfD (p:=x6<v2) (kIfD (p:=x5≤x1) (kXj (alts:=Jx (x0,x1)) a6 true (.here () rfl (.refl _) (.refl _)))
 (kXj (alts:=Jx (x0,x1)) a6 false (.next (.here () rfl (.refl _) (.refl _)))))
 (kXj (alts:=Jx (x0,x1)) a6 false (.next (.here () rfl (.refl _) (.refl _)))))))
 (fun v0=>(kIxR (l:=x0) (k:=v0.snd) Z7 fun v4=>(kC (sh:=eI) (P6 v4.fg (wr (x1 - v0.fst))) fun v5=>(kIxR (l:=x0) (k:=v0.snd) Z7 fun v6=>(kC (sh:=eI) (I9 v6.fe) fun v7=>(kIxR (l:=x0) (k:=v0.snd) Z7 fun v8=>(kC (sh:=eI) (Q9l v8.fb (if true=true then max (0:Int) (wr (x1 - v0.fst)) else min (0:Int) (wr (x1 - v0.fst)))) fun v9=>(kN (wr (v0.fst+wr (wr (v5+v7)+v9))) rfl fun a9=>(kM0 (alts:=UW (x0,x1) ()) (Q9m x0 x1 a9 (wr (v0.snd+1))))))))))))
 (fun v0=>(kX (alts:=UW (x0,x1) ()) v0.fst (.here _ rfl (.refl _) (.refl _))))) h))
theorem P7(x0 x1 r)(h:Kn x0 x1=some r):PU 21 [Qn x0,eI x1] (eI r):=(Ap).1 x0 x1 r h
def Uf(s:(Int×Q9))(u:Unit)(o:Unit ⊕ Bool):List Alt:=lp o (.exit 0) (fun _=>[ii s.1,.ptr 0 0 0,.undef]) (fun _=>[.cells 0 (Qj s.2).cells]) .ret (fun x=>[ii s.1,.ptr 0 0 0,.bool x]) (fun _=>[.cells 0 (Qj s.2).cells])
def Ue(s:(Int×Q9))(u:Int)(o:Bool):List Alt:=jb o (fun b=>[ii (s.1),.ptr 0 0 0,ii u,.bool b]) [.cells 0 (Qj (s.2)).cells]
def K6(x2:Q9)(x5:Int):Option (Unit ⊕ Bool):=
 some (List.length x2.fc:Int)>>=fun v0=>
 if x5<v0 then
 some x5>>=fun v1=>
 (ix x2.fc x5>>=fun v3=>
 some (List.length v3.fC:Int)>>=fun v4=>
 if 12<v4 then
 some true
 else
 ix x2.fc x5>>=fun v5=>
 if 100< (↑(List.length v5.fa):Int) then
 some true
 else
 some false)>>=fun v2=>if v2 then
 some (.inr true)
 else
 K6 x2 (wr (v1+1))
 else
 some (.inl ())
 partial_fixpoint
theorem Sl(x1:Int)(x2:Q9)(x5:Int)(o:Unit ⊕ Bool)(h:K6 x2 x5=some o):LO 7 4 41 [1,2,5] [ii x1,.ptr 0 0 0,ii x5] [.cells 0 (Qj x2).cells] [1,2,4] (Uf (x1,x2) () o):=
 K6.partial_correctness x2 (fun x5 o=>∀(x1:Int),LO 7 4 41 [1,2,5] [ii x1,.ptr 0 0 0,ii x5] [.cells 0 (Qj x2).cells] [1,2,4] (Uf (x1,x2) () o))
 (fun K6 Q9g x5 o h x1=>
 Lp2 (hs:=[(13,.n eI 13 none),(14,.split),(20,.e Q4),(23,.n eI 23 none),(24,.split),(29,.e Q4),(33,.split),(5000006,.l [] [] [] [1,2,5,34] [kk 2] (Ue (x1,x2)))]) (kb:=[kk 2]) (kbx:=[kk 2]) ((kN _ (mLen (sh:=Q4) x2.fc) fun v0=>(kIfD (p:=x5<v0) (kJb (id:=5000006) x5 (fun v1 a6 v2=>(kIx (enc:=Q4) (l:=x2.fc) (k:=x5) fun v3=>(kN _ (mLen (sh:=eI) v3.fC) fun v4=>(kIfD (p:=12<v4) (kXj (alts:=Ue (x1,x2)) a6 true (.here () rfl (.refl _) (.refl _)))
 (kIx (enc:=Q4) (l:=x2.fc) (k:=x5) fun v5=>(kIfD (p:=100< (↑(List.length v5.fa):Int)) (kXj (alts:=Ue (x1,x2)) a6 true (.here () rfl (.refl _) (.refl _)))
 (kXj (alts:=Ue (x1,x2)) a6 false (.next (.here () rfl (.refl _) (.refl _))))))))))
 (fun v1=>(kX (alts:=Uf (x1,x2) ()) (.inr true) (.next (.here _ rfl (.refl _) (.refl _)))))
 (fun v1=>(kM0 (alts:=Uf (x1,x2) ()) (fun y hy=>Q9g (wr (v1+1)) y hy x1))))
 (kX (alts:=Uf (x1,x2) ()) (.inl ()) (.here _ rfl (.refl _) (.refl _))))) h)) x5 o h x1
def Np(x0:Q9)(x1:Int):Option Bool:=
 some (List.length x0.fc:Int)>>=fun v0=>
 if 20<v0 then
 some true
 else
 some ()>>=fun v1=>
 K6 x0 0>>=fun v2=>(match v2 with
 | (.inl v3)=>
 Kn x0.fb x1>>=fun v4=>
 some (decide (x1<v4))
 | (.inr v5)=>
 some v5)
theorem O9(x0 x1 r)(h:Np x0 x1=some r):PU 7 [Qj x0,eI x1] (eB r):=
 Pu2 (hs:=[(8,.n eI 8 none),(9,.split),(38,.c eI),(3000005,.l [] [1,2,5] [kk 2] [1,2,4] [kk 2] (Uf (x1,x0)))]) ((kN _ (mLen (sh:=Q4) x0.fc) fun v0=>(kIfD (p:=20<v0) (kEr (enc:=eB) true)
 (kL2 () (hL:=(Sl x1 x0 0)) (hA:=fun v1 v3=>(kC (sh:=eI) (P7 x0.fb x1) fun v4=>(kEr (enc:=eB) (decide (x1<v4)))))
 (hB:=fun v1 v5=>(kEr (enc:=eB) v5))))) h)
def UX(s:List Q7)(u:Unit)(o:List Str):List Alt:=l1 o (.exit 0) (fun x=>[.ow 0 0 1 (List.length x)]) (fun x=>[.own 0 1 (List.map eS x)])
def GS(s:List Q7)(u:Int)(o:List Str):List Alt:=l1 o .normal (fun x=>[.sl 4 (List.map Q2 s),.ow 0 0 1 (List.length x),ii u]) (fun x=>[.own 0 1 (List.map eS x)])
def Yy(x0:List Q7)(x3:List Str)(x4:Int):Option (List Str):=
 some (List.length x0:Int)>>=fun v0=>
 if x4<v0 then
 some x4>>=fun v1=>
 (ix x0 x4>>=fun v3=>
 if !v3.fu==[] then
 ix x0 x4>>=fun v4=>
 if(x3.length+(1:Nat))*(16:Nat)≤(140737488355328:Nat)∧x3.length+(1:Nat)≤(9223372036854775807:Nat) then
 some (x3++[v4.fu])>>=fun v5=>
 some v5
 else none
 else
 some x3)>>=fun v6=>
 Yy x0 v6 (wr (v1+1))
 else
 some x3
 partial_fixpoint
theorem TC(x0 x3 x4 o)(h:Yy x0 x3 x4=some o):LO 85 3 26 [0,3,4] [.sl 4 (List.map Q2 x0),.ow 0 0 1 (List.length x3),ii x4] [.own 0 1 (List.map eS x3)] [3] (UX x0 () o):=
 Yy.partial_correctness x0 (fun x3 x4 o=>LO 85 3 26 [0,3,4] [.sl 4 (List.map Q2 x0),.ow 0 0 1 (List.length x3),ii x4] [.own 0 1 (List.map eS x3)] [3] (UX x0 () o))
 (fun Yy Q9p x3 x4 o h=>
 Lp2 (hs:=[(7,.n eI 7 none),(8,.split),(13,.e Q2),(16,.split),(20,.e Q2),(24,.z [{slot:=17,own:=1}] (some (.n eS 24 (some .a)))),(7000001,.l [] [] [] [0,3,4] [{slot:=3,own:=1}] (GS x0))]) (kb:=[{slot:=3,own:=1}]) (kbx:=[{slot:=3,own:=1}]) ((kN _ (mLen (sh:=Q2) x0) fun v0=>(kIfD (p:=x4<v0) (kJ1 (id:=7000001) x4 (fun v1 a5 v2=>(kIx (enc:=Q2) (l:=x0) (k:=x4) fun v3=>(kIf (c:= !v3.fu==[]) (kIx (enc:=Q2) (l:=x0) (k:=x4) fun v4=>(kA (q:=(x3.length+(1:Nat))*(16:Nat)≤(140737488355328:Nat)∧x3.length+(1:Nat)≤(9223372036854775807:Nat)) (sh:=eS) (l:=x3) (kO (sh:=eS) (x3++[v4.fu]) (mA (sh:=eS) x3 v4.fu) (nA x3 v4.fu) fun v5=>(kXj (alts:=GS x0) a5 v5 (.here _ rfl (.refl _) (.refl _))))))
 (kXj (alts:=GS x0) a5 x3 (.here _ rfl (.refl _) (.refl _))))))
 (fun v1 v6=>(kM0 (alts:=UX x0 ()) (Q9p v6 (wr (v1+1))))))
 (kX (alts:=UX x0 ()) x3 (.here _ rfl (.refl _) (.refl _))))) h)) x3 x4 o h
def Gp(r:List Str):AV:=.ow 0 0 1 (List.length r)
def Gl(r:List Str):List Box:=[.own 0 1 (List.map eS r)]
def DI(x0:List Q7):Option (List Str):=
 some ()>>=fun v0=>
 Yy x0 [] 0>>=fun v2=>
 some v2
theorem E0(x0 r)(h:DI x0=some r):PH 85 [YB x0] [] (Gp r) (Gl r):=
 PuH2 (hs:=[(3000004,.l [] [0,3,4] [{slot:=3,own:=1}] [3] [{slot:=3,own:=1}] (UX x0))]) (kb:=[{slot:=0,path:=[],own:=1}]) ((kL1 () (TC x0 [] 0) fun v0 v2=>(kEH (enc:=Gp) (bt:=Gl) v2 ⟨.refl _,.refl _⟩)) h)
def JI(s:Q1)(u:Unit)(o:List Str):List Alt:=l1 o (.exit 0) (fun x=>[.sl 1 (List.map eS x)]) (fun _=>[])
mutual
def K7(x0:Q1):Option (List Str):=
 DI x0.fe>>=fun v0=>
 some ()>>=fun v1=>
 Ye x0 v0 0>>=fun v3=>
 some v3
 partial_fixpoint
def Ye(x1:Q1)(x3:List Str)(x4:Int):Option (List Str):=
 some (List.length x1.ff:Int)>>=fun v0=>
 if x4<v0 then
 Option.map Qa.f (ix x1.ff x4)>>=fun v1=>
 K7 v1>>=fun v2=>
 if(x3.length+(List.map eS v2).length)*(16:Nat)≤(140737488355328:Nat)∧x3.length+(List.map eS v2).length≤(9223372036854775807:Nat) then
 some (x3++v2)>>=fun v3=>
 Ye x1 v3 (wr (x4+1))
 else none
 else
 some x3
 partial_fixpoint
end
theorem Tk:(∀(x0:Q1) (r:List Str),K7 x0=some r→PU 86 [Q5 x0] (eLS r))∧(∀(x1:Q1) (x3:List Str) (x4:Int) (o:List Str),Ye x1 x3 x4=some o→LO 86 3 24 [1,3,4] [.ptr 0 0 0,.ow 1 0 1 (List.length x3),ii x4] [.cells 0 (Q5 x1).cells,.own 0 1 (List.map eS x3)] [3] (JI x1 () o)):=
 K7.mutual_partial_correctness _ _
 (fun Ye Q9x x0 r h=>
 Pu2 (hs:=[(7,.h [] Gp Gl),(3000004,.l [] [1,3,4] [kk 1,{slot:=3,own:=1}] [3] [{slot:=3,fz:=true}] (JI x0))]) ((kH (sh:=Gp) (bt:=Gl) (E0 x0.fe) fun v0=>(kL1 () (Q9x x0 v0 0) fun v1 v3=>(kEr (enc:=eLS) v3))) h))
 (fun K7 Ye Q9w Q9x x1 x3 x4 o h=>
 Lp2 (hs:=[(11,.n eI 11 none),(12,.split),(19,.e Q5),(21,.c eLS),(22,.z [{slot:=15,own:=1}] (some (.n eS 22 (some .a))))]) (kb:=[kk 1,{slot:=3,own:=1}]) (kbx:=[{slot:=3,fz:=true}]) ((kN _ (mLen (sh:=Qi) x1.ff) fun v0=>(kIfD (p:=x4<v0) (kIxR (l:=x1.ff) (k:=x4) XH fun v1=>(kC (sh:=eLS) (Q9w v1) fun v2=>(kA (q:=(x3.length+(List.map eS v2).length)*(16:Nat)≤(140737488355328:Nat)∧x3.length+(List.map eS v2).length≤(9223372036854775807:Nat)) (sh:=eS) (l:=x3) (kO (sh:=eS) (x3++v2) (mAA (sh:=eS) x3 v2) (nAA (sh:=eS) x3 v2) fun v3=>(kM0 (alts:=JI x1 ()) (Q9x x1 v3 (wr (x4+1))))))))
 (kT (nM (sh:=eS) x3) (kX (alts:=JI x1 ()) x3 (.here _ rfl (.refl _) (.refl _)))))) h))
theorem Sn(x0 r)(h:K7 x0=some r):PU 86 [Q5 x0] (eLS r):=(Tk).1 x0 r h
def UY(s:Q1)(u:Unit)(o:List Str):List Alt:=l1 o (.exit 0) (fun x=>[.sl 1 (List.map eS x)]) (fun _=>[])
def GU(s:Q1)(u:Unit)(o:List Str):List Alt:=l1 o .normal (fun x=>[.ptr 0 0 0,.ow 1 0 1 (List.length x)]) (fun x=>[.cells 0 (Q5 s).cells,.own 0 1 (List.map eS x)])
mutual
def V8(x0:Q1):Option (List Str):=
 some ()>>=fun v0=>
 (if x0.fOp==3 then
 if(0:Nat)=(0:Nat)∧(16:Nat)≤(140737488355328:Nat)∧(1:Nat)≤(9223372036854775807:Nat) then
 some [x0.fa]>>=fun v2=>
 some v2
 else none
 else
 some [])>>=fun v3=>
 some ()>>=fun v4=>
 Ki x0 v3 0>>=fun v6=>
 some v6
 partial_fixpoint
def Ki(x1:Q1)(x3:List Str)(x4:Int):Option (List Str):=
 some (List.length x1.ff:Int)>>=fun v0=>
 if x4<v0 then
 Option.map Qa.f (ix x1.ff x4)>>=fun v1=>
 V8 v1>>=fun v2=>
 if(x3.length+(List.map eS v2).length)*(16:Nat)≤(140737488355328:Nat)∧x3.length+(List.map eS v2).length≤(9223372036854775807:Nat) then
 some (x3++v2)>>=fun v3=>
 Ki x1 v3 (wr (x4+1))
 else none
 else
 some x3
 partial_fixpoint
end
theorem Aq:(∀(x0:Q1) (r:List Str),V8 x0=some r→PU 87 [Q5 x0] (eLS r))∧(∀(x1:Q1) (x3:List Str) (x4:Int) (o:List Str),Ki x1 x3 x4=some o→LO 87 5 29 [1,3,4] [.ptr 0 0 0,.ow 1 0 1 (List.length x3),ii x4] [.cells 0 (Q5 x1).cells,.own 0 1 (List.map eS x3)] [3] (UY x1 () o)):=
 V8.mutual_partial_correctness _ _
 (fun Ki Q9r x0 r h=>
 Pu2 (hs:=[(7,.split),(12,.z [{slot:=8,own:=1}] (some (.n eS 12 (some .a)))),(3000006,.l [] [1,3,4] [kk 1,{slot:=3,own:=1}] [3] [{slot:=3,fz:=true}] (UY x0)),(6000004,.l [] [] [] [1,3] [kk 1,{slot:=3,own:=1}] (GU x0))]) ((kJ1 (id:=6000004) () (fun v0 a8 v1=>(kIf (c:=x0.fOp==3) (kG (p:=(0:Nat)=(0:Nat)∧(16:Nat)≤(140737488355328:Nat)∧(1:Nat)≤(9223372036854775807:Nat)) (kO (sh:=eS) [x0.fa] (rfl:List.map eS [x0.fa]=List.map eS [x0.fa]) (rfl:List.length [x0.fa]=List.length [x0.fa]) fun v2=>(kXj (alts:=GU x0) a8 v2 (.here _ rfl (.refl _) (.refl _)))))
 (kXj (alts:=GU x0) a8 [] (.here _ rfl (.refl _) (.refl _)))))
 (fun v0 v3=>(kL1 () (Q9r x0 v3 0) fun v4 v6=>(kEr (enc:=eLS) v6)))) h))
 (fun V8 Ki Q9q Q9r x1 x3 x4 o h=>
 Lp2 (hs:=[(16,.n eI 16 none),(17,.split),(24,.e Q5),(26,.c eLS),(27,.z [{slot:=20,own:=1}] (some (.n eS 27 (some .a))))]) (kb:=[kk 1,{slot:=3,own:=1}]) (kbx:=[{slot:=3,fz:=true}]) ((kN _ (mLen (sh:=Qi) x1.ff) fun v0=>(kIfD (p:=x4<v0) (kIxR (l:=x1.ff) (k:=x4) XH fun v1=>(kC (sh:=eLS) (Q9q v1) fun v2=>(kA (q:=(x3.length+(List.map eS v2).length)*(16:Nat)≤(140737488355328:Nat)∧x3.length+(List.map eS v2).length≤(9223372036854775807:Nat)) (sh:=eS) (l:=x3) (kO (sh:=eS) (x3++v2) (mAA (sh:=eS) x3 v2) (nAA (sh:=eS) x3 v2) fun v3=>(kM0 (alts:=UY x1 ()) (Q9r x1 v3 (wr (x4+1))))))))
 (kT (nM (sh:=eS) x3) (kX (alts:=UY x1 ()) x3 (.here _ rfl (.refl _) (.refl _)))))) h))
theorem P8(x0 r)(h:V8 x0=some r):PU 87 [Q5 x0] (eLS r):=(Aq).1 x0 r h
def UZ(s:List Q0)(u:Unit)(o:List Str):List Alt:=l1 o (.exit 0) (fun x=>[.sl 1 (List.map eS x)]) (fun _=>[])
mutual
def Y2(x0:List Q0):Option (List Str):=
 some ()>>=fun v0=>
 Yz x0 [] 0>>=fun v2=>
 some v2
 partial_fixpoint
def Yz(x0:List Q0)(x3:List Str)(x4:Int):Option (List Str):=
 some (List.length x0:Int)>>=fun v0=>
 if x4<v0 then
 Option.map Q0.f (ix x0 x4)>>=fun v1=>
 DI v1.fe>>=fun v2=>
 if(x3.length+(List.map eS v2).length)*(16:Nat)≤(140737488355328:Nat)∧x3.length+(List.map eS v2).length≤(9223372036854775807:Nat) then
 some (x3++v2)>>=fun v3=>
 Option.map Q0.f (ix x0 x4)>>=fun v4=>
 K7 v4.fg>>=fun v5=>
 if(v3.length+(List.map eS v5).length)*(16:Nat)≤(140737488355328:Nat)∧v3.length+(List.map eS v5).length≤(9223372036854775807:Nat) then
 some (v3++v5)>>=fun v6=>
 Option.map Q0.f (ix x0 x4)>>=fun v7=>
 V8 v7.fg>>=fun v8=>
 if(v6.length+(List.map eS v8).length)*(16:Nat)≤(140737488355328:Nat)∧v6.length+(List.map eS v8).length≤(9223372036854775807:Nat) then
 some (v6++v8)>>=fun v9=>
 Option.map Q0.f (ix x0 x4)>>=fun a7=>
 Y2 a7.fb>>=fun a3=>
 if(v9.length+(List.map eS a3).length)*(16:Nat)≤(140737488355328:Nat)∧v9.length+(List.map eS a3).length≤(9223372036854775807:Nat) then
 some (v9++a3)>>=fun a8=>
 Yz x0 a8 (wr (x4+1))
 else none
 else none
 else none
 else none
 else
 some x3
 partial_fixpoint
end
theorem As:(∀(x0:List Q0) (r:List Str),Y2 x0=some r→PU 36 [Qn x0] (eLS r))∧(∀(x0:List Q0) (x3:List Str) (x4:Int) (o:List Str),Yz x0 x3 x4=some o→LO 36 3 44 [0,3,4] [.sl 20 (List.map Q6 x0),.ow 0 0 1 (List.length x3),ii x4] [.own 0 1 (List.map eS x3)] [3] (UZ x0 () o)):=
 Y2.mutual_partial_correctness _ _
 (fun Yz Q9t x0 r h=>
 Pu2 (hs:=[(3000004,.l [] [0,3,4] [{slot:=3,own:=1}] [3] [{slot:=3,fz:=true}] (UZ x0))]) ((kL1 () (Q9t x0 [] 0) fun v0 v2=>(kEr (enc:=eLS) v2)) h))
 (fun Y2 Yz Q9s Q9t x0 x3 x4 o h=>
 Lp2 (hs:=[(7,.n eI 7 none),(8,.split),(14,.e Qp),(17,.h [] Gp Gl),(18,.z [{slot:=11,own:=1},{slot:=17,fz:=true}] (some (.n eS 18 (some .a)))),(22,.e Qp),(25,.c eLS),(26,.z [{slot:=19,own:=1}] (some (.n eS 26 (some .a)))),(30,.e Qp),(33,.c eLS),(34,.z [{slot:=27,own:=1}] (some (.n eS 34 (some .a)))),(38,.e Qp),(41,.c eLS),(42,.z [{slot:=35,own:=1}] (some (.n eS 42 (some .a))))]) (kb:=[{slot:=3,own:=1}]) (kbx:=[{slot:=3,fz:=true}]) ((kN _ (mLen (sh:=Q6) x0) fun v0=>(kIfD (p:=x4<v0) (kIxR (l:=x0) (k:=x4) Z7 fun v1=>(kH (sh:=Gp) (bt:=Gl) (E0 v1.fe) fun v2=>(kT (nM (sh:=eS) v2) (kA (q:=(x3.length+(List.map eS v2).length)*(16:Nat)≤(140737488355328:Nat)∧x3.length+(List.map eS v2).length≤(9223372036854775807:Nat)) (sh:=eS) (l:=x3) (kO (sh:=eS) (x3++v2) (mAA (sh:=eS) x3 v2) (nAA (sh:=eS) x3 v2) fun v3=>(kIxR (l:=x0) (k:=x4) Z7 fun v4=>(kC (sh:=eLS) (Sn v4.fg) fun v5=>(kA (q:=(v3.length+(List.map eS v5).length)*(16:Nat)≤(140737488355328:Nat)∧v3.length+(List.map eS v5).length≤(9223372036854775807:Nat)) (sh:=eS) (l:=v3) (kO (sh:=eS) (v3++v5) (mAA (sh:=eS) v3 v5) (nAA (sh:=eS) v3 v5) fun v6=>(kIxR (l:=x0) (k:=x4) Z7 fun v7=>(kC (sh:=eLS) (P8 v7.fg) fun v8=>(kA (q:=(v6.length+(List.map eS v8).length)*(16:Nat)≤(140737488355328:Nat)∧v6.length+(List.map eS v8).length≤(9223372036854775807:Nat)) (sh:=eS) (l:=v6) (kO (sh:=eS) (v6++v8) (mAA (sh:=eS) v6 v8) (nAA (sh:=eS) v6 v8) fun v9=>(kIxR (l:=x0) (k:=x4) Z7 fun ad=>(kC (sh:=eLS) (Q9s ad.fb) fun a5=>(kA (q:=(v9.length+(List.map eS a5).length)*(16:Nat)≤(140737488355328:Nat)∧v9.length+(List.map eS a5).length≤(9223372036854775807:Nat)) (sh:=eS) (l:=v9) (kO (sh:=eS) (v9++a5) (mAA (sh:=eS) v9 a5) (nAA (sh:=eS) v9 a5) fun ae=>(kM0 (alts:=UZ x0 ()) (Q9t x0 ae (wr (x4+1)))))))))))))))))))))
 (kT (nM (sh:=eS) x3) (kX (alts:=UZ x0 ()) x3 (.here _ rfl (.refl _) (.refl _)))))) h))
theorem P9(x0 r)(h:Y2 x0=some r):PU 36 [Qn x0] (eLS r):=(As).1 x0 r h
def JK(s:((List Qb)×Str))(u:Unit)(o:List Qb):List Alt:=l1 o (.exit 0) (fun x=>[.sl 8 (List.map Q4 x)]) (fun _=>[])
def G1(s:((List Qb)×Str))(u:Int)(o:List Qb):List Alt:=l1 o .normal (fun x=>[.sl 8 (List.map Q4 (s.1)),.str (s.2),.ow 0 0 8 (List.length x),ii u]) (fun x=>[.own 0 8 (List.map Q4 x)])
def Xw(x0:List Qb)(x1:Str)(x5:List Qb)(x6:Int):Option (List Qb):=
 some (List.length x0:Int)>>=fun v0=>
 if x6<v0 then
 some x6>>=fun v1=>
 (ix x0 x6>>=fun v3=>
 if !v3.fa==x1 then
 ix x0 x6>>=fun v4=>
 if(x5.length+(1:Nat))*(88:Nat)≤(140737488355328:Nat)∧x5.length+(1:Nat)≤(9223372036854775807:Nat) then
 some (x5++[v4])>>=fun v5=>
 some v5
 else none
 else
 some x5)>>=fun v6=>
 Xw x0 x1 v6 (wr (v1+1))
 else
 some x5
 partial_fixpoint
theorem Et(x0 x1 x5 x6 o)(h:Xw x0 x1 x5 x6=some o):LO 37 3 28 [0,1,5,6] [.sl 8 (List.map Q4 x0),.str x1,.ow 0 0 8 (List.length x5),ii x6] [.own 0 8 (List.map Q4 x5)] [5] (JK (x0,x1) () o):=
 Xw.partial_correctness x0 x1 (fun x5 x6 o=>LO 37 3 28 [0,1,5,6] [.sl 8 (List.map Q4 x0),.str x1,.ow 0 0 8 (List.length x5),ii x6] [.own 0 8 (List.map Q4 x5)] [5] (JK (x0,x1) () o))
 (fun Xw Q9y x5 x6 o h=>
 Lp2 (hs:=[(9,.n eI 9 none),(10,.split),(15,.e Q4),(19,.split),(23,.e Q4),(26,.z [{slot:=20,own:=8}] (some (.n Q4 26 (some .a)))),(7000001,.l [] [] [] [0,1,5,6] [{slot:=5,own:=8}] (G1 (x0,x1)))]) (kb:=[{slot:=5,own:=8}]) (kbx:=[{slot:=5,fz:=true}]) ((kN _ (mLen (sh:=Q4) x0) fun v0=>(kIfD (p:=x6<v0) (kJ1 (id:=7000001) x6 (fun v1 a5 v2=>(kIx (enc:=Q4) (l:=x0) (k:=x6) fun v3=>(kIf (c:= !v3.fa==x1) (kIx (enc:=Q4) (l:=x0) (k:=x6) fun v4=>(kA (q:=(x5.length+(1:Nat))*(88:Nat)≤(140737488355328:Nat)∧x5.length+(1:Nat)≤(9223372036854775807:Nat)) (sh:=Q4) (l:=x5) (kO (sh:=Q4) (x5++[v4]) (mA (sh:=Q4) x5 v4) (nA x5 v4) fun v5=>(kXj (alts:=G1 (x0,x1)) a5 v5 (.here _ rfl (.refl _) (.refl _))))))
 (kXj (alts:=G1 (x0,x1)) a5 x5 (.here _ rfl (.refl _) (.refl _))))))
 (fun v1 v6=>(kM0 (alts:=JK (x0,x1) ()) (Q9y v6 (wr (v1+1))))))
 (kT (nM (sh:=Q4) x5) (kX (alts:=JK (x0,x1) ()) x5 (.here _ rfl (.refl _) (.refl _)))))) h)) x5 x6 o h
def C5(x0:List Qb)(x1:Str):Option (List Qb):=
 some ()>>=fun v0=>
 Xw x0 x1 [] 0>>=fun v2=>
 some v2
theorem So(x0 x1 r)(h:C5 x0 x1=some r):PU 37 [JX x0,eS x1] (JX r):=
 Pu2 (hs:=[(3000004,.l [] [0,1,5,6] [{slot:=5,own:=8}] [5] [{slot:=5,fz:=true}] (JK (x0,x1)))]) ((kL1 () (Et x0 x1 [] 0) fun v0 v2=>(kEr (enc:=JX) v2)) h)
def JG(s:((List Q0)×Str))(u:Unit)(o:List Q0):List Alt:=l1 o (.exit 0) (fun x=>[.sl 20 (List.map Q6 x)]) (fun _=>[])
def Vu(s:((List Q0)×Str))(u:((List Q0)×Int×Qg))(o:Bool):List Alt:=jb o (fun b=>[.sl 20 (List.map Q6 (s.1)),.str (s.2),.ow 0 0 20 (List.length (u.1)),ii (u.2.1),.ptr 1 0 0,.bool b]) [.own 0 20 (List.map Q6 (u.1)),.cells 0 (Qp (u.2.2)).cells]
def G0(s:((List Q0)×Str))(u:Int)(o:List Q0):List Alt:=l1 o .normal (fun x=>[.sl 20 (List.map Q6 (s.1)),.str (s.2),.ow 0 0 20 (List.length x),ii u]) (fun x=>[.own 0 20 (List.map Q6 x)])
def Vv(s:((List Q0)×Str))(u:Int)(o:List Q0):List Alt:=l1 o .normal (fun x=>[.sl 20 (List.map Q6 (s.1)),.str (s.2),.ow 0 0 20 (List.length x),ii u]) (fun x=>[.own 0 20 (List.map Q6 x)])
mutual
def Xu(x0:List Q0)(x1:Str):Option (List Q0):=
 some ()>>=fun v0=>
 Xv x0 x1 [] 0>>=fun v2=>
 some v2
 partial_fixpoint
def Xv(x0:List Q0)(x1:Str)(x5:List Q0)(x6:Int):Option (List Q0):=
 some (List.length x0:Int)>>=fun v0=>
 if x6<v0 then
 some x6>>=fun v1=>
 (Option.map Q0.f (ix x0 x6)>>=fun v3=>
 some (x5,x6,v3)>>=fun v4=>
 (if v3.fOp==2 then
 some true
 else
 if v3.fOp==3 then
 some true
 else
 some false)>>=fun v5=>if v5 then
 some v4.snd.fst>>=fun v7=>
 (if !v4.snd.snd.fa==x1 then
 if(v4.fst.length+(1:Nat))*(256:Nat)≤(140737488355328:Nat)∧v4.fst.length+(1:Nat)≤(9223372036854775807:Nat) then
 some (v4.fst++[(Q0.mk v4.snd.snd)])>>=fun v9=>
 some v9
 else none
 else
 some v4.fst)>>=fun a6=>
 some a6
 else
 Xu v4.snd.snd.fb x1>>=fun a4=>
 some (List.length a4:Int)>>=fun a7=>
 if 0<a7 then
 if(v4.fst.length+(1:Nat))*(256:Nat)≤(140737488355328:Nat)∧v4.fst.length+(1:Nat)≤(9223372036854775807:Nat) then
 some (v4.fst++[(Q0.mk (ZH.mk v4.snd.snd.fOp v4.snd.snd.fa v4.snd.snd.fy v4.snd.snd.fB v4.snd.snd.fA v4.snd.snd.fe v4.snd.snd.fg a4:Qg))])>>=fun a8=>
 some a8
 else none
 else
 some v4.fst)>>=fun a9=>
 Xv x0 x1 a9 (wr (v1+1))
 else
 some x5
 partial_fixpoint
end
theorem Tj(x1:Str):(∀(x0:List Q0) (r:List Q0),Xu x0 x1=some r→PU 38 [Qn x0,eS x1] (Qn r))∧(∀(x0:List Q0) (x5:List Q0) (x6:Int) (o:List Q0),Xv x0 x1 x5 x6=some o→LO 38 3 48 [0,1,5,6] [.sl 20 (List.map Q6 x0),.str x1,.ow 0 0 20 (List.length x5),ii x6] [.own 0 20 (List.map Q6 x5)] [5] (JG (x0,x1) () o)):=
 Xu.mutual_partial_correctness x1 _ _
 (fun Xv Q9v x0 r h=>
 Pu2 (hs:=[(3000004,.l [] [0,1,5,6] [{slot:=5,own:=20}] [5] [{slot:=5,fz:=true}] (JG (x0,x1)))]) ((kL1 () (Q9v x0 [] 0) fun v0 v2=>(kEr (enc:=Qn) v2)) h))
 (fun Xu Xv Q9u Q9v x0 x5 x6 o h=>
 Lp2 (hs:=[(10,.n eI 10 none),(11,.split),(16,.e Qp),(20,.split),(24,.split),(29,.split),(33,.z [{slot:=30,own:=20}] (some (.n Q6 33 (some .a)))),(37,.c Qn),(41,.n eI 41 none),(42,.split),(46,.z [{slot:=43,own:=20}] (some (.n Q6 46 (some .a)))),(5000006,.l [] [] [] [0,1,5,6,7,25] [{slot:=5,own:=20},kk 7] (Vu (x0,x1))),(6000009,.l [] [] [] [0,1,5,6] [{slot:=5,own:=20}] (G0 (x0,x1))),(7000001,.l [] [] [] [0,1,5,6] [{slot:=5,own:=20}] (Vv (x0,x1)))]) (kb:=[{slot:=5,own:=20}]) (kbx:=[{slot:=5,fz:=true}]) ((kN _ (mLen (sh:=Q6) x0) fun v0=>(kIfD (p:=x6<v0) (kJ1 (id:=7000001) x6 (fun v1 a9 v2=>(kIxR (l:=x0) (k:=x6) Z7 fun v3=>(kJbE (id:=5000006) (x5,x6,v3) (fun v4 a6 v5=>(kIf (c:=v3.fOp==2) (kXj (alts:=Vu (x0,x1)) a6 true (.here () rfl (.refl _) (.refl _)))
 (kIf (c:=v3.fOp==3) (kXj (alts:=Vu (x0,x1)) a6 true (.here () rfl (.refl _) (.refl _)))
 (kXj (alts:=Vu (x0,x1)) a6 false (.next (.here () rfl (.refl _) (.refl _)))))))
 (fun v4 a6=>(kJ1E (id:=6000009) v4.snd.fst (fun v7 a7 v8=>(kIf (c:= !v4.snd.snd.fa==x1) (kA (q:=(v4.fst.length+(1:Nat))*(256:Nat)≤(140737488355328:Nat)∧v4.fst.length+(1:Nat)≤(9223372036854775807:Nat)) (sh:=Q6) (l:=v4.fst) (kO (sh:=Q6) (v4.fst++[(Q0.mk v4.snd.snd)]) (mAR UN v4.fst v4.snd.snd) (nA v4.fst (Q0.mk v4.snd.snd)) fun v9=>(kXj (alts:=G0 (x0,x1)) a7 v9 (.here _ rfl (.refl _) (.refl _)))))
 (kXj (alts:=G0 (x0,x1)) a7 v4.fst (.here _ rfl (.refl _) (.refl _)))))
 (fun v7 a7 ac=>(kXj (alts:=Vv (x0,x1)) (u0:=v7) (by subst a7;subst a6;exact a9) ac (.here _ rfl (.refl _) (.refl _))))))
 (fun v4 a6=>(kC (sh:=Qn) (Q9u v4.snd.snd.fb) fun a8=>(kN _ (mLen (sh:=Q6) a8) fun ad=>(kIfD (p:=0<ad) (kA (q:=(v4.fst.length+(1:Nat))*(256:Nat)≤(140737488355328:Nat)∧v4.fst.length+(1:Nat)≤(9223372036854775807:Nat)) (sh:=Q6) (l:=v4.fst) (kO (sh:=Q6) (v4.fst++[(Q0.mk (ZH.mk v4.snd.snd.fOp v4.snd.snd.fa v4.snd.snd.fy v4.snd.snd.fB v4.snd.snd.fA v4.snd.snd.fe v4.snd.snd.fg a8:Qg))]) (mAR UN v4.fst (ZH.mk v4.snd.snd.fOp v4.snd.snd.fa v4.snd.snd.fy v4.snd.snd.fB v4.snd.snd.fA v4.snd.snd.fe v4.snd.snd.fg a8:Qg)) (nA v4.fst (Q0.mk (ZH.mk v4.snd.snd.fOp v4.snd.snd.fa v4.snd.snd.fy v4.snd.snd.fB v4.snd.snd.fA v4.snd.snd.fe v4.snd.snd.fg a8:Qg))) fun ae=>(kXj (alts:=Vv (x0,x1)) (u0:=v4.snd.fst) (by subst a6;exact a9) ae (.here _ rfl (.refl _) (.refl _)))))
 (kXj (alts:=Vv (x0,x1)) (u0:=v4.snd.fst) (by subst a6;exact a9) v4.fst (.here _ rfl (.refl _) (.refl _))))))))))
 (fun v1 af=>(kM0 (alts:=JG (x0,x1) ()) (Q9v x0 af (wr (v1+1))))))
 (kT (nM (sh:=Q6) x5) (kX (alts:=JG (x0,x1) ()) x5 (.here _ rfl (.refl _) (.refl _)))))) h))
theorem Sm(x0 x1 r)(h:Xu x0 x1=some r):PU 38 [Qn x0,eS x1] (Qn r):=(Tj x1).1 x0 r h
def Yl(s:Q9)(u:Unit)(o:Q9 ⊕ (Q9×Int)):List Alt:=lp o (.exit 0) (fun _=>[.ptr 0 0 0,.ptr 1 0 0,.undef]) (fun x=>[.cells 0 (Qj s).cells,.cells 0 (Qj x).cells]) .ret (fun x=>[.ptr 0 0 0,.ptr 1 0 0,ii x.2]) (fun x=>[.cells 0 (Qj s).cells,.cells 0 (Qj x.1).cells])
def Kb(s:Q9)(u:(Q9×Int))(o:Bool):List Alt:=jb o (fun b=>[.ptr 0 0 0,.ptr 1 0 0,ii (u.2),.bool b]) [.cells 0 (Qj s).cells,.cells 0 (Qj (u.1)).cells]
mutual
def Zf(x0:Q9):Option (Q9×Int):=
 G5 x0>>=fun v0=>
 if v0.snd !=0 then
 some (x0,(0:Int))
 else
 some ()>>=fun v1=>
 Z8 x0 (Q9.mk [] []) 0>>=fun v2=>(match v2 with
 | (.inl v3)=>
 some (x0,(0:Int))
 | (.inr v4)=>
 some (v4.fst,v4.snd))
 partial_fixpoint
def Z8(x1:Q9)(x2:Q9)(x6:Int):Option (Q9 ⊕ (Q9×Int)):=
 some (List.length x1.fc:Int)>>=fun v0=>
 if x6<v0 then
 some (x2,x6)>>=fun v1=>
 (ix x1.fc x6>>=fun v3=>
 if v3.fF==3 then
 Y2 x1.fb>>=fun v4=>
 ix x1.fc x6>>=fun v5=>
 Vw v4 v5.fa>>=fun v6=>if v6 then
 some false
 else
 some true
 else
 some false)>>=fun v2=>if v2 then
 ix x1.fc v1.snd>>=fun v8=>
 C5 x1.fc v8.fa>>=fun v9=>
 ix x1.fc v1.snd>>=fun a8=>
 Xu x1.fb a8.fa>>=fun a4=>
 Zf (Q9.mk v9 a4)>>=fun a5=>
 some ((Q9.mk v9 a4))>>=fun ac=>
 some (.inr (a5.fst,(wr (a5.snd+1))))
 else
 Z8 x1 v1.fst (wr (v1.snd+1))
 else
 some (.inl x2)
 partial_fixpoint
end
theorem IE:(∀(x0:Q9) (r:(Q9×Int)),Zf x0=some r→PU 10 [Qj x0] (YC r))∧(∀(x1:Q9) (x2:Q9) (x6:Int) (o:Q9 ⊕ (Q9×Int)),Z8 x1 x2 x6=some o→LO 10 5 71 [1,2,6] [.ptr 0 0 0,.ptr 1 0 0,ii x6] [.cells 0 (Qj x1).cells,.cells 0 (Qj x2).cells] [1,2,3] (Yl x1 () o)):=
 Zf.mutual_partial_correctness _ _
 (fun Z8 Q9o x0 r h=>
 Pu2 (hs:=[(11,.c Ji),(15,.split),(3000006,.l [] [1,2,6] [kk 1,kk 2] [1,2,3] [kk 1,kk 2] (Yl x0))]) ((kC (sh:=Ji) (Tx x0) fun v0=>(kIf (c:=v0.snd !=0) (kEr (enc:=YC) (x0,(0:Int)))
 (kL2 () (hL:=(fun y hy=>X7.le (.cons lr (.cons lr (.cons lr .nil))) (.cons (LeB.refl (Box.cells (0:Nat) [AV.sl (8:Nat) (List.map Q4 x0.fc),AV.sl (20:Nat) (List.map Q6 x0.fb)])) (.cons (LeB.cells (0:Nat) (.cons (LeV.nil 8) (.cons (LeV.nil 20) .nil))) .nil)) (Q9o x0 (Q9.mk [] []) 0 y hy))) (hA:=fun v1 v3=>(kEr (enc:=YC) (x0,(0:Int))))
 (hB:=fun v1 v4=>(kEr (enc:=YC) (v4.fst,v4.snd)))))) h))
 (fun Zf Z8 Q9n Q9o x1 x2 x6 o h=>
 Lp2 (hs:=[(20,.n eI 20 none),(21,.split),(27,.e Q4),(30,.split),(34,.c eLS),(38,.e Q4),(41,.cb),(50,.e Q4),(53,.c JX),(59,.e Q4),(62,.c Qn),(63,.n Qj 63 none),(64,.c YC),(5000007,.l [] [] [] [1,2,6,43] [kk 1,kk 2] (Kb x1))]) (kb:=[kk 1,kk 2]) (kbx:=[kk 1,kk 2]) ((kN _ (mLen (sh:=Q4) x1.fc) fun v0=>(kIfD (p:=x6<v0) (kJb (id:=5000007) (x2,x6) (fun v1 a6 v2=>(kIx (enc:=Q4) (l:=x1.fc) (k:=x6) fun v3=>(kIf (c:=v3.fF==3) (kC (sh:=eLS) (P9 x1.fb) fun v4=>(kIx (enc:=Q4) (l:=x1.fc) (k:=x6) fun v5=>(kCb (Hd v4 v5.fa) (kXj (alts:=Kb x1) a6 false (.next (.here () rfl (.refl _) (.refl _))))
 (kXj (alts:=Kb x1) a6 true (.here () rfl (.refl _) (.refl _))))))
 (kXj (alts:=Kb x1) a6 false (.next (.here () rfl (.refl _) (.refl _)))))))
 (fun v1=>(kIx (enc:=Q4) (l:=x1.fc) (k:=v1.snd) fun v8=>(kC (sh:=JX) (So x1.fc v8.fa) fun v9=>(kIx (enc:=Q4) (l:=x1.fc) (k:=v1.snd) fun ad=>(kC (sh:=Qn) (Sm x1.fb ad.fa) fun a8=>(kC (sh:=YC) (Q9n (Q9.mk v9 a8)) fun a9=>(kW (sh:=Qj) (Q9.mk v9 a8) lr fun ah=>(kX (alts:=Yl x1 ()) (.inr (a9.fst,(wr (a9.snd+1)))) (.next (.here _ rfl (.refl _) (.refl _)))))))))))
 (fun v1=>(kM0 (alts:=Yl x1 ()) (Q9o x1 v1.fst (wr (v1.snd+1))))))
 (kX (alts:=Yl x1 ()) (.inl x2) (.here _ rfl (.refl _) (.refl _))))) h))
theorem Hl(x0 r)(h:Zf x0=some r):PU 10 [Qj x0] (YC r):=(IE).1 x0 r h
def UO(s:((List Int)× (List Int)))(u:Unit)(o:Unit ⊕ Bool):List Alt:=lp o (.exit 0) (fun _=>[.undef]) (fun _=>[]) .ret (fun x=>[.bool x]) (fun _=>[])
def Kv(x0:List Int)(x1:List Int)(x5:Int):Option (Unit ⊕ Bool):=
 some (List.length x0:Int)>>=fun v0=>
 if x5<v0 then
 ix x0 x5>>=fun v1=>
 ix x1 x5>>=fun v2=>
 if v1 !=v2 then
 some (.inr false)
 else
 Kv x0 x1 (wr (x5+1))
 else
 some (.inl ())
 partial_fixpoint
theorem At(x0 x1 x5 o)(h:Kv x0 x1 x5=some o):LO 17 4 26 [0,1,5] [.sl 1 (List.map eI x0),.sl 1 (List.map eI x1),ii x5] [] [4] (UO (x0,x1) () o):=
 Kv.partial_correctness x0 x1 (fun x5 o=>LO 17 4 26 [0,1,5] [.sl 1 (List.map eI x0),.sl 1 (List.map eI x1),ii x5] [] [4] (UO (x0,x1) () o))
 (fun Kv Q79 x5 o h=>
 Lp2 (hs:=[(13,.n eI 13 none),(14,.split),(19,.e eI),(23,.e eI),(25,.split)]) (kb:=[]) (kbx:=[]) ((kN _ (mLen (sh:=eI) x0) fun v0=>(kIfD (p:=x5<v0) (kIx (enc:=eI) (l:=x0) (k:=x5) fun v1=>(kIx (enc:=eI) (l:=x1) (k:=x5) fun v2=>(kIf (c:=v1 !=v2) (kX (alts:=UO (x0,x1) ()) (.inr false) (.next (.here _ rfl (.refl _) (.refl _))))
 (kM0 (alts:=UO (x0,x1) ()) (Q79 (wr (x5+1)))))))
 (kX (alts:=UO (x0,x1) ()) (.inl ()) (.here _ rfl (.refl _) (.refl _))))) h)) x5 o h
def M7(x0:List Int)(x1:List Int):Option Bool:=
 some (List.length x0:Int)>>=fun v0=>
 some (List.length x1:Int)>>=fun v1=>
 if v0 !=v1 then
 some false
 else
 some ()>>=fun v2=>
 Kv x0 x1 0>>=fun v3=>(match v3 with
 | (.inl v4)=>
 some true
 | (.inr v5)=>
 some v5)
theorem BX(x0 x1 r)(h:M7 x0 x1=some r):PU 17 [eLI x0,eLI x1] (eB r):=
 Pu2 (hs:=[(7,.n eI 7 none),(9,.n eI 9 none),(10,.split),(3000005,.l [] [0,1,5] [] [4] [] (UO (x0,x1)))]) ((kN _ (mLen (sh:=eI) x0) fun v0=>(kN _ (mLen (sh:=eI) x1) fun v1=>(kIf (c:=v0 !=v1) (kEr (enc:=eB) false)
 (kL2 () (hL:=(At x0 x1 0)) (hA:=fun v2 v4=>(kEr (enc:=eB) true))
 (hB:=fun v2 v5=>(kEr (enc:=eB) v5)))))) h)
def U3(s:((List Q0)× (List Q0)))(u:Unit)(o:Unit ⊕ Bool):List Alt:=lp o (.exit 0) (fun _=>[.undef]) (fun _=>[]) .ret (fun x=>[.bool x]) (fun _=>[])
mutual
def JM(x0:List Q0)(x1:List Q0):Option Bool:=
 some (List.length x0:Int)>>=fun v0=>
 some (List.length x1:Int)>>=fun v1=>
 if v0 !=v1 then
 some false
 else
 some ()>>=fun v2=>
 Xo x0 x1 0>>=fun v3=>(match v3 with
 | (.inl v4)=>
 some true
 | (.inr v5)=>
 some v5)
 partial_fixpoint
def Xo(x0:List Q0)(x1:List Q0)(x5:Int):Option (Unit ⊕ Bool):=
 some (List.length x0:Int)>>=fun v0=>
 if x5<v0 then
 Option.map Q0.f (ix x0 x5)>>=fun v1=>
 Option.map Q0.f (ix x1 x5)>>=fun v2=>
 DR v1 v2>>=fun v3=>if v3 then
 Xo x0 x1 (wr (x5+1))
 else
 some (.inr false)
 else
 some (.inl ())
 partial_fixpoint
def DR(x0:Qg)(x1:Qg):Option Bool:=
 if x0.fOp==x1.fOp then
 if x0.fa==x1.fa then
 if x0.fy==x1.fy then
 if x0.fB==x1.fB then
 if x0.fA==x1.fA then
 Jd x0.fe x1.fe>>=fun v0=>if v0 then
 Kl x0.fg x1.fg>>=fun v1=>if v1 then
 JM x0.fb x1.fb>>=fun v2=>
 some v2
 else
 some false
 else
 some false
 else
 some false
 else
 some false
 else
 some false
 else
 some false
 else
 some false
 partial_fixpoint
end
theorem FE:(∀(x0:List Q0) (x1:List Q0) (r:Bool),JM x0 x1=some r→PU 39 [Qn x0,Qn x1] (eB r))∧(∀(x0:List Q0) (x1:List Q0) (x5:Int) (o:Unit ⊕ Bool),Xo x0 x1 x5=some o→LO 39 4 27 [0,1,5] [.sl 20 (List.map Q6 x0),.sl 20 (List.map Q6 x1),ii x5] [] [4] (U3 (x0,x1) () o))∧(∀(x0:Qg) (x1:Qg) (r:Bool),DR x0 x1=some r→PU 50 [Qp x0,Qp x1] (eB r)):=
 JM.mutual_partial_correctness _ _ _
 (fun Xo Q7h x0 x1 r h=>
 Pu2 (hs:=[(7,.n eI 7 none),(9,.n eI 9 none),(10,.split),(3000005,.l [] [0,1,5] [] [4] [] (U3 (x0,x1)))]) ((kN _ (mLen (sh:=Q6) x0) fun v0=>(kN _ (mLen (sh:=Q6) x1) fun v1=>(kIf (c:=v0 !=v1) (kEr (enc:=eB) false)
 (kL2 () (hL:=(Q7h x0 x1 0)) (hA:=fun v2 v4=>(kEr (enc:=eB) true))
 (hB:=fun v2 v5=>(kEr (enc:=eB) v5)))))) h))
 (fun Xo DR Q7h Q7f x0 x1 x5 o h=>
 Lp2 (hs:=[(13,.n eI 13 none),(14,.split),(19,.e Qp),(23,.e Qp),(25,.cb)]) (kb:=[]) (kbx:=[]) ((kN _ (mLen (sh:=Q6) x0) fun v0=>(kIfD (p:=x5<v0) (kIxR (l:=x0) (k:=x5) Z7 fun v1=>(kIxR (l:=x1) (k:=x5) Z7 fun v2=>(kCb (Q7f v1 v2) (kM0 (alts:=U3 (x0,x1) ()) (Q7h x0 x1 (wr (x5+1))))
 (kX (alts:=U3 (x0,x1) ()) (.inr false) (.next (.here _ rfl (.refl _) (.refl _)))))))
 (kX (alts:=U3 (x0,x1) ()) (.inl ()) (.here _ rfl (.refl _) (.refl _))))) h))
 (fun JM Q7g x0 x1 r h=>
 Pu2 (hs:=[(9,.split),(15,.split),(22,.split),(29,.split),(36,.split),(43,.cb),(50,.cb),(57,.c eB)]) ((kIf (c:=x0.fOp==x1.fOp) (kIf (c:=x0.fa==x1.fa) (kIf (c:=x0.fy==x1.fy) (kIf (c:=x0.fB==x1.fB) (kIf (c:=x0.fA==x1.fA) (kCb (IF x0.fe x1.fe) (kCb (RY x0.fg x1.fg) (kC (sh:=eB) (Q7g x0.fb x1.fb) fun v2=>(kEr (enc:=eB) v2))
 (kEr (enc:=eB) false))
 (kEr (enc:=eB) false))
 (kEr (enc:=eB) false))
 (kEr (enc:=eB) false))
 (kEr (enc:=eB) false))
 (kEr (enc:=eB) false))
 (kEr (enc:=eB) false)) h))
theorem PO(x0 x1 r)(h:JM x0 x1=some r):PU 39 [Qn x0,Qn x1] (eB r):=(FE).1 x0 x1 r h
def UR(s:(Q9×Q9))(u:Unit)(o:Unit ⊕ Bool):List Alt:=lp o (.exit 0) (fun _=>[.ptr 0 0 0,.ptr 1 0 0,.undef]) (fun _=>[.cells 0 (Qj s.1).cells,.cells 0 (Qj s.2).cells]) .ret (fun x=>[.ptr 0 0 0,.ptr 1 0 0,.bool x]) (fun _=>[.cells 0 (Qj s.1).cells,.cells 0 (Qj s.2).cells])
def Kp(s:(Q9×Q9))(u:Int)(o:Bool):List Alt:=jb o (fun b=>[.ptr 0 0 0,.ptr 1 0 0,ii u,.bool b]) [.cells 0 (Qj (s.1)).cells,.cells 0 (Qj (s.2)).cells]
def Kw(x2:Q9)(x3:Q9)(x5:Int):Option (Unit ⊕ Bool):=
 some (List.length x2.fc:Int)>>=fun v0=>
 if x5<v0 then
 ix x2.fc x5>>=fun v1=>
 ix x3.fc x5>>=fun v2=>
 some x5>>=fun v3=>
 (if !v1.fa==v2.fa then
 some true
 else
 if !(v1.fd.fk==v2.fd.fk&& (v1.fd.fm==v2.fd.fm&& (v1.fd.fv==v2.fd.fv&& (v1.fd.fo==v2.fd.fo&& (v1.fd.fw==v2.fd.fw&&true))))) then
 some true
 else
 if v1.fF !=v2.fF then
 some true
 else
 M7 v1.fC v2.fC>>=fun v5=>if v5 then
 some false
 else
 some true)>>=fun v4=>if v4 then
 some (.inr false)
 else
 Kw x2 x3 (wr (v3+1))
 else
 some (.inl ())
 partial_fixpoint
theorem Aw(x2 x3 x5 o)(h:Kw x2 x3 x5=some o):LO 11 4 64 [2,3,5] [.ptr 0 0 0,.ptr 1 0 0,ii x5] [.cells 0 (Qj x2).cells,.cells 0 (Qj x3).cells] [2,3,4] (UR (x2,x3) () o):=
 Kw.partial_correctness x2 x3 (fun x5 o=>LO 11 4 64 [2,3,5] [.ptr 0 0 0,.ptr 1 0 0,ii x5] [.cells 0 (Qj x2).cells,.cells 0 (Qj x3).cells] [2,3,4] (UR (x2,x3) () o))
 (fun Kw Q7e x5 o h=>
 Lp2 (hs:=[(18,.n eI 18 none),(19,.split),(25,.e Q4),(30,.e Q4),(36,.split),(42,.split),(49,.split),(56,.cb),(5000007,.l [] [] [] [2,3,5,58] [kk 2,kk 3] (Kp (x2,x3)))]) (kb:=[kk 2,kk 3]) (kbx:=[kk 2,kk 3]) ((kN _ (mLen (sh:=Q4) x2.fc) fun v0=>(kIfD (p:=x5<v0) (kIx (enc:=Q4) (l:=x2.fc) (k:=x5) fun v1=>(kIx (enc:=Q4) (l:=x3.fc) (k:=x5) fun v2=>(kJb (id:=5000007) x5 (fun v3 a3 v4=>(kIf (c:= !v1.fa==v2.fa) (kXj (alts:=Kp (x2,x3)) a3 true (.here () rfl (.refl _) (.refl _)))
 (kIf (c:= !(v1.fd.fk==v2.fd.fk&& (v1.fd.fm==v2.fd.fm&& (v1.fd.fv==v2.fd.fv&& (v1.fd.fo==v2.fd.fo&& (v1.fd.fw==v2.fd.fw&&true)))))) (kXj (alts:=Kp (x2,x3)) a3 true (.here () rfl (.refl _) (.refl _)))
 (kIf (c:=v1.fF !=v2.fF) (kXj (alts:=Kp (x2,x3)) a3 true (.here () rfl (.refl _) (.refl _)))
 (kCb (BX v1.fC v2.fC) (kXj (alts:=Kp (x2,x3)) a3 false (.next (.here () rfl (.refl _) (.refl _))))
 (kXj (alts:=Kp (x2,x3)) a3 true (.here () rfl (.refl _) (.refl _))))))))
 (fun v3=>(kX (alts:=UR (x2,x3) ()) (.inr false) (.next (.here _ rfl (.refl _) (.refl _)))))
 (fun v3=>(kM0 (alts:=UR (x2,x3) ()) (Q7e (wr (v3+1))))))))
 (kX (alts:=UR (x2,x3) ()) (.inl ()) (.here _ rfl (.refl _) (.refl _))))) h)) x5 o h
def We(x0:Q9)(x1:Q9):Option Bool:=
 some (List.length x0.fc:Int)>>=fun v0=>
 some (List.length x1.fc:Int)>>=fun v1=>
 if v0 !=v1 then
 some false
 else
 some ()>>=fun v2=>
 Kw x0 x1 0>>=fun v3=>(match v3 with
 | (.inl v4)=>
 JM x0.fb x1.fb>>=fun v5=>
 some v5
 | (.inr v6)=>
 some v6)
theorem BZ(x0 x1 r)(h:We x0 x1=some r):PU 11 [Qj x0,Qj x1] (eB r):=
 Pu2 (hs:=[(10,.n eI 10 none),(13,.n eI 13 none),(14,.split),(63,.c eB),(3000005,.l [] [2,3,5] [kk 2,kk 3] [2,3,4] [kk 2,kk 3] (UR (x0,x1)))]) ((kN _ (mLen (sh:=Q4) x0.fc) fun v0=>(kN _ (mLen (sh:=Q4) x1.fc) fun v1=>(kIf (c:=v0 !=v1) (kEr (enc:=eB) false)
 (kL2 () (hL:=(Aw x0 x1 0)) (hA:=fun v2 v4=>(kC (sh:=eB) (PO x0.fb x1.fb) fun v5=>(kEr (enc:=eB) v5)))
 (hB:=fun v2 v6=>(kEr (enc:=eB) v6)))))) h)
end Go.Proofs.YtkgphhemcglgnaaGreatDoor
end
section
namespace Go.Proofs.YtkgphhemcglgnaaGreatDoor
open Go HY
section
variable {α β γ ρ : Type}
def mapE(g:α→β×Int):List α→List β×Int
 | []=>([],0)
 |x::t=>if(g x).2≠0 then([],(g x).2) else if(mapE g t).2≠0 then([],(mapE g t).2) else((g x).1::(mapE g t).1,0)
theorem Q5h(g:α→β×Int):∀l,(mapE g l).2≠0→(mapE g l).1=[]
 | [],h=>rfl
 |x::t,h=>by
  rw[mapE] at h ⊢;split;·rfl
  ·split;·rfl
   ·rename_i h1 h2;rw[if_neg h1,if_neg h2] at h;exact absurd rfl h
theorem Fa(g:α→β×Int)(l:List α)(h:(mapE g l).2≠0):mapE g l=([],(mapE g l).2):=by
 have:=Q5h g l h;generalize mapE g l=r at*;obtain⟨a,b⟩:=r;simp only at this;rw[this]
theorem OC{δ:Type}(g:β→δ×Int)(k:α→β):∀l:List α,mapE (fun a=>g (k a)) l=mapE g (l.map k)
 | []=>rfl
 |x::t=>by rw[List.map_cons,mapE,mapE,OC g k t]
theorem T9(g:α→β×Int)(l:List α):mapE (fun a: {x//x∈l}=>g a.1) l.attach=mapE g l:=by
 rw[OC g (fun a: {x//x∈l}=>a.1)];simp
theorem M1{g:α→α×Int}:∀ {l:List α},(∀x∈l,g x=(x,0))→mapE g l=(l,0)
 | [],_=>rfl
 |x::t,h=>by rw[mapE,h x (by simp),M1 (l:=t) fun y hy=>h y (by simp[hy])];rfl
def res(x:Option (γ ⊕ ρ))(K:List β→γ)(Er:ρ→Int→Prop)(r:List β×Int):Prop:=(r.2=0→x=some (.inl (K r.1)))∧(r.2≠0→∃q,x=some (.inr q)∧Er q r.2)
theorem Rf{F:List α→Int→Option (γ ⊕ ρ)}{l:List α}(g:α→α×Int)(K:List α→γ)(Er:ρ→Int→Prop)
  (a5:∀a,a.length=l.length→F a l.length=some (.inl (K a)))
  (step:∀(i:Nat) x a,i<l.length→l[i]? =some x→x∈l→a.length=l.length→a[i]? =some x→((g x).2≠0→∃q,F a i=some (.inr q)∧Er q (g x).2)∧((g x).2=0→F a i=F (a.set i (g x).1) ((i+1:Nat):Int))):res (F l 0) K Er (mapE g l):=by
 have key:∀(t p d:List α),l=p++t→d.length=p.length→res (F (d++t) p.length) (fun r=>K (d++r)) Er (mapE g t):=by
  intro t
  induction t with
  |nil=>
   intro p d e hd;have hl:p.length=l.length:=by rw[e];simp
   refine⟨fun _=> ?_,fun h=>absurd rfl h⟩
   show F (d++[]) p.length=some (.inl (K (d++[])));rw[hl];exact a5 _ (by simp[hd,hl])
  |cons x t ih=>
   intro p d e hd;obtain⟨s1,s2⟩:=step p.length x (d++x::t) (by rw[e];simp) (by rw[e,List.getElem?_append_right (Nat.le_refl _)];simp) (by rw[e];simp) (by rw[e];simp[hd]) (by rw[← hd,List.getElem?_append_right (Nat.le_refl _)];simp)
   rw[mapE];by_cases h1:(g x).2=0
   ·rw[if_neg (by simpa using h1)]
    have hs:(d++x::t).set p.length (g x).1=(d++[(g x).1])++t:=by
     rw[← hd,List.set_append_right _ _ (Nat.le_refl _)];simp
    have:=ih (p++[x]) (d++[(g x).1]) (by rw[e];simp) (by simp[hd])
    rw[show((p++[x]).length:Int)=((p.length+1:Nat):Int) by simp,← hs,← s2 h1] at this
    refine⟨fun h=> ?_,fun h=> ?_⟩
    ·split at h;·rename_i h2;exact absurd h h2
     ·rename_i h2;rw[if_neg h2];have:=this.1 (by simpa using h2)
      rw[this];simp
    ·split at h
     ·rename_i h2;rw[if_pos h2];exact this.2 h2
     ·exact absurd rfl h
   ·rw[if_pos h1];exact⟨fun h=>absurd h h1,fun _=>s1 h1⟩
 exact key l [] [] rfl rfl
theorem ixN{l:List α}{i:Nat}{x:α}(h:l[i]? =some x):ix l (i:Int)=some x:=by
 unfold ix;rw[if_pos (by omega),Int.toNat_natCast,h]
theorem setSelf{l:List α}{i:Nat}{x:α}(h:l[i]? =some x):l.set i x=l:=by
 apply List.ext_getElem?;intro j;rw[List.getElem?_set];split
 ·rename_i e;subst e;rw[h,if_pos (List.getElem?_eq_some_iff.1 h).1]
 ·rfl
theorem getSet{l:List α}{i:Nat}{x:α}(h:i<l.length):(l.set i x)[i]? =some x:=by
 rw[List.getElem?_set,if_pos rfl,if_pos h]
end
def zI:Q7:=⟨⟨0,[]⟩,[],[]⟩
def zE:Q1:=QS.mk 0 [] ⟨0,0⟩ ⟨0,0,0,0,0⟩ ⟨0,[]⟩ [] []
def zS:Qg:=ZH.mk 0 [] 0 0 0 [] zE []
variable (f : gLin → gLin × Int)
def mI(x:Q7):Q7×Int:=
 if(f x.fj).2≠0 then(zI,(f x.fj).2) else if(mapE f x.fAt).2≠0 then(zI,(mapE f x.fAt).2) else(⟨(f x.fj).1,x.fu,(mapE f x.fAt).1⟩,0)
def mE1(x:Q1)(a:List Qa×Int):Qa×Int:=
 if(f x.fj).2≠0 then(.mk zE,(f x.fj).2) else if(mapE (mI f) x.fe).2≠0 then(.mk zE,(mapE (mI f) x.fe).2) else if a.2≠0 then(.mk zE,a.2)
 else(.mk (QS.mk x.fOp x.fa x.fx x.fd (f x.fj).1 (mapE (mI f) x.fe).1 a.1),0)
def mE:Qa→Qa×Int
 | .mk x=>mE1 f x (mapE (fun a: {e//e∈x.ff}=>mE a.1) x.ff.attach)
 termination_by e=>SizeOf.sizeOf e
 decreasing_by exact Qa.lt a.2
theorem mE_mk(x:Q1):mE f (.mk x)=mE1 f x (mapE (mE f) x.ff):=by
 rw[mE,T9 (fun a=>mE f a)]
def mS1(x:Qg)(b:List Q0×Int):Q0×Int:=
 if(mapE (mI f) x.fe).2≠0 then(.mk zS,(mapE (mI f) x.fe).2) else if(mE f (.mk x.fg)).2≠0 then(.mk zS,(mE f (.mk x.fg)).2) else if b.2≠0 then(.mk zS,b.2)
 else(.mk (ZH.mk x.fOp x.fa x.fy x.fB x.fA (mapE (mI f) x.fe).1 (mE f (.mk x.fg)).1.f b.1),0)
def mS:Q0→Q0×Int
 | .mk x=>mS1 f x (mapE (fun a: {e//e∈x.fb}=>mS a.1) x.fb.attach)
 termination_by e=>SizeOf.sizeOf e
 decreasing_by exact Q0.lt a.2
theorem mS_mk(x:Qg):mS f (.mk x)=mS1 f x (mapE (mS f) x.fb):=by
 rw[mS,T9 (fun a=>mS f a)]
end Go.Proofs.YtkgphhemcglgnaaGreatDoor
end
section
namespace Go.Proofs.YtkgphhemcglgnaaGreatDoor
open Go HY
section
variable {f : gLin → gLin × Int}
theorem Q3e(hf:∀l,okL l→QJ l=some (f l))(x0:List Q7)(i:Nat)(x:Q7)(hx:x0[i]? =some x)(hA:x.fAt.length*32≤140737488351232)(hL:∀l∈x.fAt,okL l)(v3:List Q7)(hv:i<v3.length):
  res (Qr x0 (v3,x.fAt) i x.fAt.length 0) (fun b=>(v3,b)) (fun q e=>q.1=[]∧q.2.1=e) (mapE f x.fAt):=by
 refine Rf (F:=fun b j=>Qr x0 (v3,b) i x.fAt.length j) f (fun b=>(v3,b)) (fun q e=>q.1=[]∧q.2.1=e) ?_ ?_
 ·intro a ha;show Qr x0 (v3,a) i x.fAt.length x.fAt.length=_;rw[Qr,if_neg (by omega)]
 ·intro j l b hj hl hm hb a6;have e0:Qr x0 (v3,b) i x.fAt.length j=if(f l).2≠0 then(v3[i]? >>=fun v4=>some (List.set v3 i (Q7.mk v4.fj v4.fu (b.set j (f l).1)))>>=fun v5=>some (.inr ([],(f l).2,v5))) else Qr x0 (v3,b.set j (f l).1) i x.fAt.length ((j+1:Nat):Int):=by
   rw[Qr,if_pos (by omega),if_pos ⟨by omega,by dsimp only;omega⟩,ixN hx,bS,ixN hl,bS,hf l (hL l hm),bS,if_pos ⟨by omega,by dsimp only;omega⟩]
   rw[if_pos (by simp;omega),bS,Int.toNat_natCast,Int.toNat_natCast,PE (by omega)]
   by_cases h:(f l).2=0;·rw[if_neg (by simp[h]),if_neg (by simp[h])]
   ·rw[if_pos (by simpa using h),if_pos (by simp),if_pos h]
  refine⟨fun h=> ?_,fun h=> ?_⟩
  ·obtain⟨v4,hv4⟩:∃v4,v3[i]? =some v4:=⟨_,List.getElem?_eq_getElem hv⟩;show ∃q,Qr x0 (v3,b) i x.fAt.length j=some (.inr q)∧_;rw[e0,if_pos h,hv4];exact⟨_,rfl,rfl,rfl⟩
  ·show Qr x0 (v3,b) i x.fAt.length j=_;rw[e0,if_neg (by simpa using h)]
theorem Q4g(hf:∀l,okL l→QJ l=some (f l))(x0:List Q7)(hl:x0.length*72≤140737488351232)(hI:∀x∈x0,okI x):
  res (Qt x0 x0 x0.length 0) (fun a=>a) (fun q e=>q=(([]:List Q7),e)) (mapE (mI f) x0):=by
 refine Rf (F:=fun a j=>Qt x0 a x0.length j) (mI f) (fun a=>a) (fun q e=>q=(([]:List Q7),e)) ?_ ?_
 ·intro a ha;show Qt x0 a x0.length x0.length=_;rw[Qt,if_neg (by omega)]
 ·intro i x a hi hx hm ha a8;obtain⟨k1,k2,k3⟩:=hI x hm;have a6:((a.set i ⟨(f x.fj).1,x.fu,x.fAt⟩)[i]?)=some ⟨(f x.fj).1,x.fu,x.fAt⟩:=getSet (by omega)
  have e0:Qt x0 a x0.length i=if(f x.fj).2≠0 then some (.inr ([],(f x.fj).2)) else(Qr x0 (a.set i ⟨(f x.fj).1,x.fu,x.fAt⟩,x.fAt) i x.fAt.length 0>>=fun v9=>(match v9 with
    | (.inl v10)=>
     v10.fst[i]? >>=fun a7=>
     some (List.set v10.fst i (Q7.mk a7.fj a7.fu v10.snd))>>=fun a9=>
     Qt x0 a9 x0.length ((i+1:Nat):Int)
    | (.inr v13)=>
     some (.inr (v13.fst,v13.snd.fst)))):=by
   rw[Qt,if_pos (by omega),ixN hx,bS,hf _ k1,bS,if_pos ⟨by omega,by omega⟩,Int.toNat_natCast,a8,bS,bS]
   by_cases h:(f x.fj).2=0
   ·rw[if_neg (by simp[h]),if_neg (by simp[h]),bS]
    unfold Jy;rw[if_pos ⟨by omega,by omega⟩,bS,if_pos ⟨by omega,by omega⟩,if_pos (by simp;omega),bS,bS,bS]
    simp only[Int.toNat_natCast,PE (show i≤4611686018427387904 by omega)]
    all_goals rfl
   ·rw[if_pos (by simpa using h),if_pos (by simp),if_pos h]
  have a4:=Q3e hf x0 i x hx k2 k3 (a.set i ⟨(f x.fj).1,x.fu,x.fAt⟩) (by simp;omega)
  have e1:(mI f x).2=if(f x.fj).2≠0 then(f x.fj).2 else if(mapE f x.fAt).2≠0 then(mapE f x.fAt).2 else 0:=by unfold mI;split;rfl;split;rfl;rfl
  refine⟨fun h=> ?_,fun h=> ?_⟩
  ·show ∃q,Qt x0 a x0.length i=some (.inr q)∧_;rw[e0];by_cases h1:(f x.fj).2=0
   ·rw[if_neg (by simpa using h1)]
    by_cases h2:(mapE f x.fAt).2=0;·rw[e1,if_neg (by simpa using h1),if_neg (by simpa using h2)] at h;exact absurd rfl h
    ·obtain⟨q,hq,a5⟩:=a4.2 h2;rw[hq,bS];refine⟨_,rfl,?_⟩;rw[e1,if_neg (by simpa using h1),if_pos h2]
     rw[a5.1,a5.2]
   ·rw[if_pos h1];exact⟨_,rfl,by rw[e1,if_pos h1]⟩
  ·show Qt x0 a x0.length i=_;rw[e0];by_cases h1:(f x.fj).2=0
   ·by_cases h2:(mapE f x.fAt).2=0
    ·rw[if_neg (by simpa using h1),a4.1 h2,bS]
     show((a.set i ⟨(f x.fj).1,x.fu,x.fAt⟩)[i]? >>=_)=_;rw[a6,bS,bS,List.set_set];unfold mI;rw[if_neg (by simpa using h1),if_neg (by simpa using h2)]
    ·rw[e1,if_neg (by simpa using h1),if_pos h2] at h;exact absurd h h2
   ·rw[e1,if_pos h1] at h;exact absurd h h1
theorem Bq(hf:∀l,okL l→QJ l=some (f l))(x0:List Q7)(hl:x0.length*72≤140737488351232)(hI:∀x∈x0,okI x):YH x0=some (mapE (mI f) x0):=by
 have h4:=Q4g hf x0 hl hI;unfold YH VC;rw[if_pos ⟨by omega,by omega⟩,bS,bS,bS]
 by_cases h:(mapE (mI f) x0).2=0
 ·rw[h4.1 h,bS];show some ((mapE (mI f) x0).1,(0:Int))=_;rw[← h]
 ·obtain⟨q,hq,rfl⟩:=h4.2 h;rw[hq,bS,Fa _ _ h]
theorem Q63(hf:∀l,okL l→QJ l=some (f l)):∀e,okE e→ZS e.f=some ((mE f e).1.f,(mE f e).2):=Qa.ind fun x ih=>by
 intro hw;obtain⟨k1,k2,k3,k4,k5⟩:=hw.of;rw[Qa.f_mk,mE_mk];unfold mE1;rw[ZS,hf _ k1,bS];by_cases h1:(f x.fj).2=0
 ·rw[if_neg (by simp[h1]),if_neg (by simp[h1]),Bq hf _ k2 k3,bS]
  by_cases h2:(mapE (mI f) x.fe).2=0
  ·rw[if_neg (by simp[h2]),if_neg (by simp[h2])]
   unfold VW;rw[if_pos ⟨by omega,by omega⟩,bS,bS,bS]
   have a3:res (Qu x zE (QS.mk x.fOp x.fa x.fx x.fd (f x.fj).1 (mapE (mI f) x.fe).1 x.ff) x.ff.length 0) (fun a=>(zE,(QS.mk x.fOp x.fa x.fx x.fd (f x.fj).1 (mapE (mI f) x.fe).1 a:Q1))) (fun q e=>q.1=zE∧q.2.1=e) (mapE (mE f) x.ff):=by
    refine Rf (F:=fun a j=>Qu x zE (QS.mk x.fOp x.fa x.fx x.fd (f x.fj).1 (mapE (mI f) x.fe).1 a) x.ff.length j) (mE f) (fun a=>(zE,(QS.mk x.fOp x.fa x.fx x.fd (f x.fj).1 (mapE (mI f) x.fe).1 a:Q1))) (fun q e=>q.1=zE∧q.2.1=e) ?_ ?_
    ·intro a ha;show Qu x zE _ x.ff.length x.ff.length=_;rw[Qu,if_neg (by omega)]
    ·intro j e a hj he hm ha a9;have e0:Qu x zE (QS.mk x.fOp x.fa x.fx x.fd (f x.fj).1 (mapE (mI f) x.fe).1 a) x.ff.length j=if(mE f e).2≠0 then some (.inr (zE,(mE f e).2,(QS.mk x.fOp x.fa x.fx x.fd (f x.fj).1 (mapE (mI f) x.fe).1 (a.set j (mE f e).1):Q1))) else Qu x zE (QS.mk x.fOp x.fa x.fx x.fd (f x.fj).1 (mapE (mI f) x.fe).1 (a.set j (mE f e).1)) x.ff.length ((j+1:Nat):Int):=by
      rw[Qu,if_pos (by omega),ixN he,omS,bS,ih e hm (k5 e hm),bS,if_pos ⟨by omega,by dsimp only;omega⟩,if_pos (by simp;omega),bS,Int.toNat_natCast,Qa.mk_f,PE (by omega)]
      by_cases h:(mE f e).2=0;·rw[if_neg (by simp[h]),if_neg (by simp[h])]
      ·rw[if_pos (by simpa using h),if_pos h];rfl
     refine⟨fun h=> ?_,fun h=> ?_⟩
     ·show ∃q,Qu x zE _ x.ff.length j=some (.inr q)∧_;rw[e0,if_pos h];exact⟨_,rfl,rfl,rfl⟩
     ·show Qu x zE _ x.ff.length j=_;rw[e0,if_neg (by simpa using h)]
   show(Qu x zE (QS.mk x.fOp x.fa x.fx x.fd (f x.fj).1 (mapE (mI f) x.fe).1 x.ff) x.ff.length 0>>=_)=_;by_cases h3:(mapE (mE f) x.ff).2=0;·rw[a3.1 h3,bS,if_neg (by simp[h3])];rfl
   ·obtain⟨q,hq,a4,a5⟩:=a3.2 h3;rw[hq,bS,if_pos h3];show some (q.fst,q.snd.fst)=_;rw[a4,a5];rfl
  ·rw[if_pos (by simpa using h2),if_pos h2];rfl
 ·rw[if_pos (by simpa using h1),if_pos h1];rfl
theorem Bp(hf:∀l,okL l→QJ l=some (f l))(l:List Q0)(hP:∀s∈l,okS s→QC s.f.fb=some (mapE (mS f) s.f.fb))(hw:okSs l):QC l=some (mapE (mS f) l):=by
 obtain⟨hl,hs⟩:=hw;rw[QC];unfold VY;rw[if_pos ⟨by omega,by omega⟩,bS,bS,bS]
 have h4:res (Qs l l l.length 0) (fun a=>a) (fun q e=>q=(([]:List Q0),e)) (mapE (mS f) l):=by
  refine Rf (F:=fun a j=>Qs l a l.length j) (mS f) (fun a=>a) (fun q e=>q=(([]:List Q0),e)) ?_ ?_
  ·intro a ha;show Qs l a l.length l.length=_;rw[Qs,if_neg (by omega)]
  ·intro i s a hi hx hm ha a6;obtain⟨x⟩:=s;obtain⟨k1,k2,k3,k4⟩:=(hs _ hm).of;have hE:=Q63 hf (.mk x.fg) k3;rw[Qa.f_mk] at hE;have hB:=hP _ hm (hs _ hm);rw[Q0.f_mk] at hB;have hg:∀y:Q0,(a.set i y)[i]? =some y:=fun y=>getSet (by omega)
   have e0:Qs l a l.length i=if(mapE (mI f) x.fe).2≠0 then some (.inr ([],(mapE (mI f) x.fe).2)) else if(mE f (.mk x.fg)).2≠0 then some (.inr ([],(mE f (.mk x.fg)).2)) else if(mapE (mS f) x.fb).2≠0 then some (.inr ([],(mapE (mS f) x.fb).2))
     else Qs l (a.set i (.mk (ZH.mk x.fOp x.fa x.fy x.fB x.fA (mapE (mI f) x.fe).1 (mE f (.mk x.fg)).1.f (mapE (mS f) x.fb).1))) l.length ((i+1:Nat):Int):=by
    rw[Qs,if_pos (by omega),bS]
    have a7:(Option.map Q0.f (ix l (i:Int))>>=fun v2=>
      if v2.fOp==(1:Int) then
      Option.map Q0.f (ix l (i:Int))>>=fun v3=>
      C4 v3.fa>>=fun v4=>
      if(0:Int)≤(i:Int)∧(i:Int)< (↑a.length:Int) then
      Option.map Q0.f a[(i:Int).toNat]? >>=fun v5=>
      some (List.set a (i:Int).toNat (Q0.mk (ZH.mk v5.fOp v4 v5.fy v5.fB v5.fA v5.fe v5.fg v5.fb:Qg)))>>=fun v6=>
      some v6
      else none
      else
      some a)=some a:=by
     rw[ixN hx,omS,bS];split
     ·rw[bS,show C4 (Q0.f (.mk x)).fa=some x.fa from rfl,bS,if_pos ⟨by omega,by omega⟩,Int.toNat_natCast,a6,omS,bS,bS]
      show some (a.set i (.mk x))=some a;rw[setSelf a6]
     ·rfl
    rw[a7,bS];rw[ixN hx,omS,bS,Q0.f_mk,Bq hf _ k1 k2,bS,if_pos ⟨by omega,by omega⟩]
    simp only[Int.toNat_natCast];rw[a6,omS,bS,bS,Q0.f_mk];by_cases h1:(mapE (mI f) x.fe).2=0
    ·rw[if_neg (by simp[h1]),if_neg (by simp[h1]),bS,hE,bS,if_pos ⟨by omega,by omega⟩,hg,omS,bS,bS,Q0.f_mk]
     by_cases h2:(mE f (.mk x.fg)).2=0
     ·rw[if_neg (by simp[h2]),if_neg (by simp[h2]),bS,hB,bS,if_pos ⟨by omega,by omega⟩,List.set_set,hg,omS,bS,bS,Q0.f_mk,List.set_set]
      by_cases h3:(mapE (mS f) x.fb).2=0;·rw[if_neg (by simp[h3]),if_neg (by simp[h3]),PE (by omega)]
      ·rw[if_pos (by simpa using h3),if_pos (by simp),if_pos h3]
     ·rw[if_pos (by simpa using h2),if_pos (by simp),if_pos h2]
    ·rw[if_pos (by simpa using h1),if_pos (by simp),if_pos h1]
   have e1:=mS_mk f x;unfold mS1 at e1;refine⟨fun h=> ?_,fun h=> ?_⟩
   ·show ∃q,Qs l a l.length i=some (.inr q)∧_;rw[e0,e1];rw[e1] at h;split;·exact⟨_,rfl,rfl⟩
    ·rename_i h1;rw[if_neg h1] at h;split;·exact⟨_,rfl,rfl⟩
     ·rename_i h2;rw[if_neg h2] at h;split;·exact⟨_,rfl,rfl⟩
      ·rename_i h3;rw[if_neg h3] at h;exact absurd rfl h
   ·show Qs l a l.length i=_;rw[e0,e1];rw[e1] at h;split;·rename_i h1;rw[if_pos h1] at h;exact absurd h h1
    ·rename_i h1;rw[if_neg h1] at h;split;·rename_i h2;rw[if_pos h2] at h;exact absurd h h2
     ·rename_i h2;rw[if_neg h2] at h;split;·rename_i h3;rw[if_pos h3] at h;exact absurd h h3
      ·rfl
 by_cases h:(mapE (mS f) l).2=0
 ·rw[h4.1 h,bS];show some ((mapE (mS f) l).1,(0:Int))=_;rw[← h]
 ·obtain⟨q,hq,rfl⟩:=h4.2 h;rw[hq,bS,Fa _ _ h]
theorem Q65(hf:∀l,okL l→QJ l=some (f l)):∀s,okS s→QC s.f.fb=some (mapE (mS f) s.f.fb):=Q0.ind fun x ih hw=>by
 rw[Q0.f_mk];exact Bp hf x.fb ih hw.of.2.2.2
theorem Q64(hf:∀l,okL l→QJ l=some (f l))(l:List Q0)(hw:okSs l):QC l=some (mapE (mS f) l):=
 Bp hf l (fun s _=>Q65 hf s) hw
end
end Go.Proofs.YtkgphhemcglgnaaGreatDoor
end
