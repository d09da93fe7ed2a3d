/- Proved here: for every input the law AutotuneCosts returns true, and its arguments read afterwards as they read before. Condition: none beyond the statement's own. -/
import Derived.Test.YtolcgikajjkjgaaGreatDoorP6
import Derived.HandedShaped
import Derived.Handy
import Derived.Lay
import Derived.ProofKit
import Derived.SevenTiedAt
import Derived.Shelf.Vars
import Derived.Test.YtolcgikajjkjgaaGreatDoorCards
import Derived.Test.YtolcgikajjkjgaaGreatDoorRows
import Derived.Test.YtolcgikajjkjgaaGreatDoorTie
import Derived.WalkKit
section
namespace Go.Proofs.YtolcgikajjkjgaaGreatDoor
open Go HY
set_option linter.unusedVariables false
set_option linter.unusedSimpArgs false
theorem Ad(n:Qi)(x:Q0):kd n (.mk x)=kd1 n x (x.fArgs.map (kd n)):=by rw[kd];simp
theorem kd_err(n:Qi)(e:Q6)(h:(kd n e).2≠0):kd n e=(zT,10):=by
 cases e with
 |mk x=>
  rw[Ad] at h ⊢;unfold kd1 at h ⊢;split;·rfl
  ·rename_i h1;rw[if_neg h1] at h;split;·rename_i h2;rw[if_pos h2] at h;exact absurd rfl h
   ·rename_i h2;rw[if_neg h2] at h;split;·rename_i h3;rw[if_pos h3] at h;exact absurd rfl h
    ·rename_i h3;rw[if_neg h3] at h;split;·rename_i h4;rw[if_pos h4] at h;exact absurd rfl h
     ·rename_i h4;rw[if_neg h4] at h;split;·rename_i h5;rw[if_pos h5] at h;exact absurd rfl h
      ·rename_i h5;rw[if_neg h5] at h;split;·rfl
       ·rename_i hl;rw[hl] at h;exact absurd rfl h
       ·rename_i hl;rw[hl] at h;simp only at h ⊢;split;·rfl
        ·rename_i h6;rw[if_neg h6] at h;split;·rename_i h7;rw[if_pos h7] at h;exact absurd rfl h
         ·rename_i h7;rw[if_neg h7] at h;exact absurd rfl h
theorem Gb{x:Q0}(h:K0 x=0):plE x=true∧raE x=true∧tyE x=true:=by
 unfold K0 at h;rcases Bool.eq_false_or_eq_true (plE x) with a1 | a1
 rotate_left
 ·simp[a1] at h
 rcases Bool.eq_false_or_eq_true (naE x) with a2 | a2
 rotate_left
 ·simp[a1,a2] at h
 rcases Bool.eq_false_or_eq_true (raE x) with a3 | a3
 rotate_left
 ·simp[a1,a2,a3] at h
 rcases Bool.eq_false_or_eq_true (tyE x) with a4 | a4
 rotate_left
 ·simp[a1,a2,a3,a4] at h
 exact⟨a1,a3,a4⟩
inductive Ar (x:Q0):Prop
 |a0 (h:x.fOp=1∨x.fOp=2∨x.fOp=3) (e:x.fArgs=[])
 |a1 (h:x.fOp=8∨x.fOp=12) (a:Q6) (e:x.fArgs=[a]) (c:isC a.f=false)
 |aN (h:x.fOp=18) (a:Q6) (e:x.fArgs=[a]) (c:isC a.f=true)
 |aB (h:x.fOp=16∨x.fOp=17) (a b:Q6) (e:x.fArgs=[a,b]) (c:isC a.f=true) (d:isC b.f=true)
 |aI (h:x.fOp=11) (a b c:Q6) (e:x.fArgs=[a,b,c]) (h1:isC a.f=true) (h2:isC b.f=false) (h3:isC c.f=false)
 |a2 (h:x.fOp≠1∧x.fOp≠2∧x.fOp≠3∧x.fOp≠8∧x.fOp≠12∧x.fOp≠18∧x.fOp≠16∧x.fOp≠17∧x.fOp≠11) (a b:Q6) (e:x.fArgs=[a,b]) (h1:isC a.f=false) (h2:isC b.f=false)
theorem len1{α:Type}{l:List α}(h:l.length=1):∃a,l=[a]:=List.length_eq_one_iff.1 h
theorem len2{α:Type}{l:List α}(h:l.length=2):∃a b,l=[a,b]:=by
 match l,h with
 | [a,b],_=>exact⟨a,b,rfl⟩
theorem len3{α:Type}{l:List α}(h:l.length=3):∃a b c,l=[a,b,c]:=by
 match l,h with
 | [a,b,c],_=>exact⟨a,b,c,rfl⟩
theorem ar_of{x:Q0}(hr:raE x=true)(ht:tyE x=true):Ar x:=by
 obtain⟨h1,_,_⟩:=Dx hr;have h2:argG x.fOp 0 x.fArgs=true:=by
  unfold tyE at ht;rw[Bool.and_eq_true] at ht;exact ht.2
 unfold Wd at h1;by_cases k0:x.fOp=1∨x.fOp=2∨x.fOp=3
 ·rw[if_pos k0] at h1;exact .a0 k0 (List.eq_nil_of_length_eq_zero (by omega))
 rw[if_neg k0] at h1;by_cases k1:x.fOp=8∨x.fOp=12∨x.fOp=18
 ·rw[if_pos k1] at h1;obtain⟨a,e⟩:=len1 (l:=x.fArgs) (by omega)
  rw[e] at h2;simp only[argG,Bool.and_true] at h2;by_cases k:x.fOp=18;·exact .aN k a e (by simpa[k,Ga] using h2)
  ·exact .a1 (by omega) a e (by rcases(show x.fOp=8∨x.fOp=12 by omega) with q | q<;>simpa[q,Ga] using h2)
 rw[if_neg k1] at h1;by_cases k2:x.fOp=11
 ·rw[if_pos k2] at h1;obtain⟨a,b,c,e⟩:=len3 (l:=x.fArgs) (by omega)
  rw[e] at h2;simp[argG,Ga,k2] at h2;exact .aI k2 a b c e h2.1 h2.2.1 h2.2.2
 rw[if_neg k2] at h1;obtain⟨a,b,e⟩:=len2 (l:=x.fArgs) (by omega)
 rw[e] at h2;by_cases k3:x.fOp=16∨x.fOp=17;·refine .aB k3 a b e ?_ ?_<;>rcases k3 with q | q<;>simp[argG,Ga,q] at h2<;>simp[h2]
 ·have q1:∀i,Ga x.fOp i=false:=fun i=>by
   unfold Ga;have:x.fOp≠16∧x.fOp≠17∧x.fOp≠18:=by omega
   simp[k2,this]
  simp[argG,q1] at h2;exact .a2 (by omega) a b e h2.1 h2.2
abbrev JB(e:Q6):Prop:=∀y∈Z1 e,K0 y.f=0
theorem JB.args{x:Q0}(h:JB (.mk x)):K0 x=0∧∀a∈x.fArgs,JB a:=by
 unfold JB at*;rw[CI] at h;refine⟨by have:=h (.mk x) (by simp);rwa [Q6.f_mk] at this,fun a ha y hy=>h y ?_⟩
 exact List.mem_cons_of_mem _ (List.mem_flatten.2 ⟨Z1 a,List.mem_map_of_mem ha,hy⟩)
def Jh(n:Qi):List Q6→Option (List Q8)
 | []=>some []
 |a::t=>if(kd n a).2≠0 then none else(Jh n t).map ((kd n a).1:: ·)
theorem IN(n:Qi):∀l,(match Jh n l with | none=>(l.map (kd n)).any (fun r=>r.2 !=0)=true | some ts=>(l.map (kd n)).any (fun r=>r.2 !=0)=false∧l.map (kd n)=ts.map fun t=>(t,(0:Int)))
 | []=>⟨rfl,rfl⟩
 |a::t=>by
  have ih:=IN n t;unfold Jh;by_cases h:(kd n a).2=0
  ·rw[if_neg (by simp[h])]
   cases hk:Jh n t with
   |none=>rw[hk] at ih;simp only[Option.map_none];rw[List.map_cons,List.any_cons,ih];simp
   |some ts=>
    rw[hk] at ih;simp only[Option.map_some];rw[List.map_cons,List.any_cons,ih.1,ih.2];refine⟨by simp[h],?_⟩
    rw[List.map_cons];congr 1;rw[← h]
  ·rw[if_pos h];simp only;rw[List.map_cons,List.any_cons];simp[h]
theorem El(c:Q1)(l:List Q6)(hl:l.length≤1000)(ih:∀a∈l,Ze c a.f=some (kd c.fnest a)):∀(t p:List Q6) (ts:List Q8),l=p++t→ts.length≤p.length→QV c zT ts l l.length p.length=some (match Jh c.fnest t with | none=>.inr (zT,10) | some us=>.inl (zT,ts++us))
 | [],p,ts,e,_=>by
  have:p.length=l.length:=by rw[e];simp
  rw[QV,if_neg (by omega)];simp[Jh]
 |a::t,p,ts,e,hts=>by
  have a3:(p.length:Int)<l.length:=by rw[e];simp;omega
  have h2:=El c l hl ih t (p++[a]) (ts++[(kd c.fnest a).1]) (by rw[e];simp) (by simp;omega)
  rw[show((p++[a]).length:Int)=(p.length:Int)+1 by simp] at h2
  rw[QV,if_pos a3,YE e,omS,bS,ih a (by rw[e];simp),bS,Jh]
  by_cases h:(kd c.fnest a).2=0
  ·rw[if_neg (by simp[h]),if_pos (by omega),bS,Zn (by omega) a3 (by omega),h2,if_neg (by simp[h])]
   cases Jh c.fnest t<;>simp
  ·rw[if_pos (by simp[h]),if_pos h]
   have:=kd_err c.fnest a h;rw[this]
theorem Sb(n:Qi)(x:Q0)(hl:x.fArgs.length≤1000)(ih:∀a∈x.fArgs,KN n a.f=some (kd n a)):∀(t p:List Q6) (ts:List Q8),x.fArgs=p++t→ts.length≤p.length→XG n x zT ts p.length=some (match Jh n t with | none=>.inr (zT,10) | some us=>.inl (zT,ts++((t.zip us).filter fun q=> !(isC q.1.f)).map (·.2)))
 | [],p,ts,e,_=>by
  have:p.length=x.fArgs.length:=by rw[e];simp
  rw[XG,bS,if_neg (by omega)];simp[Jh]
 |a::t,p,ts,e,hts=>by
  have a3:(p.length:Int)<x.fArgs.length:=by rw[e];simp;omega
  have h2:∀a4:List Q8,a4.length≤p.length+1→_:=fun a4 hh=>Sb n x hl ih t (p++[a]) a4 (by rw[e];simp) (by simp;omega)
  rw[show((p++[a]).length:Int)=(p.length:Int)+1 by simp] at h2
  rw[XG,bS,if_pos a3,YE e,omS,bS,ih a (by rw[e];simp),bS,Jh]
  simp only[bS,Gu];by_cases h:(kd n a).2=0
  ·rw[if_neg (show ¬((kd n a).2 !=0)=true by simp[h]),Zn (by omega) a3 (by omega),if_neg (show ¬(kd n a).2≠0 by simp[h]),if_pos (show(ts.length+1)*40≤140737488355328∧ts.length+1≤9223372036854775807 by omega)]
   cases hc:isC a.f with
   |true=>
    rw[if_pos rfl,h2 ts (by omega)]
    cases Jh n t<;>simp[hc]
   |false=>
    rw[if_neg (by simp),h2 _ (by simp;omega)]
    cases Jh n t<;>simp[hc]
  ·rw[if_pos (by simp[h]),if_pos h]
   have:=kd_err n a h;rw[this]<;>rfl
theorem RO(a b:Q8):(!(a.fKind==b.fKind&& (a.fBits==b.fBits&& (a.fFrac==b.fFrac&& (a.fRound==b.fRound&& (a.fOver==b.fOver&&true))))))=decide (a≠b):=by
 cases a;cases b;rw[Bool.eq_iff_iff];simp
theorem Fi{n:Qi}{x:Q0}(h:Jh n x.fArgs=none):kd1 n x (x.fArgs.map (kd n))=(zT,10):=by
 have:=IN n x.fArgs;rw[h] at this;unfold kd1;rw[if_pos this]
theorem IP{n:Qi}:∀ {l:List Q6} {ts:List Q8},Jh n l=some ts→ts.length=l.length
 | [],ts,h=>by cases h;rfl
 |a::t,ts,h=>by
  unfold Jh at h;split at h;·cases h
  ·cases hk:Jh n t with
   |none=>rw[hk] at h;cases h
   |some us=>rw[hk] at h;cases h;simp[IP hk]
theorem Fj{n:Qi}{x:Q0}{ts:List Q8}(h:Jh n x.fArgs=some ts):kd1 n x (x.fArgs.map (kd n))=if x.fOp=1∨x.fOp=12 then(x.fType,(0:Int)) else if x.fOp=2 then(⟨3,0,0,0,0⟩,0)
 else if x.fOp=3 then(((Xw n.fBufs x.fName).getD zBuf).fType,0) else if x.fOp=16∨x.fOp=17∨x.fOp=18 then(zT,0)
 else match ts.reverse with
  | []=>(zT,10)
  | [a]=>(a,0)
  |a::b::_=>if b≠a then(zT,10) else if isC x then(zT,0) else(a,0):=by
 have:=IN n x.fArgs;rw[h] at this;unfold kd1;rw[if_neg (by simp[this.1]),this.2,← List.map_reverse]
 cases ts.reverse with
 |nil=>rfl
 |cons a t=>cases t<;>rfl
theorem Q18(c:Q1)(hb:okBs c.fnest.fBufs):∀e:Q6,JB e→Ze c e.f=some (kd c.fnest e):=Q6.ind fun x ih hg=>by
 obtain⟨g1,g2⟩:=hg.args;obtain⟨_,hr,ht⟩:=Gb g1;have a4:=ar_of hr ht;have hl:x.fArgs.length≤1000:=by
  have:=(Dx hr).1;unfold Wd at this;split at this;·omega
  ·split at this;·omega
   ·split at this<;>omega
 have h0:QV c zT [] x.fArgs x.fArgs.length 0=_:=El c x.fArgs hl (fun a ha=>ih a ha (g2 a ha)) x.fArgs [] [] rfl (by simp)
 rw[Q6.f_mk,Ze,Ad];simp only[bS];rw[show(Q8.mk (0:Int) (0:Int) (0:Int) (0:Int) (0:Int))=zT from rfl,h0];cases hk:Jh c.fnest x.fArgs with
 |none=>rw[Fi hk];rfl
 |some ts=>
  rw[Fj hk];have a3:=IP hk;simp only[bS,List.nil_append,Mh _ _ hb,Co,RO];cases a4 with
  |a0 h e=>rcases h with h | h | h<;>simp[h,bS]
  |a1 h a e _=>
   rw[e] at a3;obtain⟨t,rfl⟩:=len1 (l:=ts) (by simpa using a3)
   rcases h with h | h
   ·simp[h,bS,ix]
   ·simp[h,bS]
  |aN h a e _=>simp[h,bS]
  |aB h a b e _ _=>rcases h with h | h<;>simp[h,bS]
  |aI h a b d e _ _ _=>
   rw[e] at a3;obtain⟨t,u,v,rfl⟩:=len3 (l:=ts) (by simpa using a3)
   have w1:wr (1:Int)=1:=by decide
   have w2:wr (2:Int)=2:=by decide
   have hc:isC x=false:=by simp[isC,h]
   by_cases q:u=v<;>simp[h,bS,ix,w1,w2,q,hc]
  |a2 h a b e _ _=>
   rw[e] at a3;obtain⟨t,u,rfl⟩:=len2 (l:=ts) (by simpa using a3)
   have w1:wr (0:Int)=0:=by decide
   have w2:wr (1:Int)=1:=by decide
   cases hc:isC x<;>by_cases q:t=u<;>simp[h,bS,ix,w1,w2,q]
theorem r_Kind(n:Qi)(hb:okBs n.fBufs):∀e:Q6,JB e→KN n e.f=some (kd n e):=Q6.ind fun x ih hg=>by
 obtain⟨g1,g2⟩:=hg.args;obtain⟨_,hr,ht⟩:=Gb g1;have a5:=ar_of hr ht;have hl:x.fArgs.length≤1000:=by
  have:=(Dx hr).1;unfold Wd at this;split at this;·omega
  ·split at this;·omega
   ·split at this<;>omega
 have h0:XG n x zT [] 0=_:=Sb n x hl (fun a ha=>ih a ha (g2 a ha)) x.fArgs [] [] rfl (by simp)
 rw[Q6.f_mk,KN,Ad];simp only[bS];rw[show(Q8.mk (0:Int) (0:Int) (0:Int) (0:Int) (0:Int))=zT from rfl,h0];cases hk:Jh n x.fArgs with
 |none=>rw[Fi hk];rfl
 |some ts=>
  rw[Fj hk];have a3:=IP hk;simp only[bS,List.nil_append,Mj _ _ hb,Gu,RO];cases a5 with
  |a0 h e=>
   rw[e] at a3 ⊢;obtain rfl:ts=[]:=List.eq_nil_of_length_eq_zero (by simpa using a3)
   rcases h with h | h | h<;>simp[h,bS]
  |a1 h a e h1=>
   rw[e] at a3 ⊢;obtain⟨t,rfl⟩:=len1 (l:=ts) (by simpa using a3)
   rcases h with h | h
   ·have hc:isC x=false:=by simp[isC,h]
    simp[h,bS,ix,h1,hc]
   ·simp[h,bS,h1]
  |aN h a e h1=>
   rw[e] at a3 ⊢;obtain⟨t,rfl⟩:=len1 (l:=ts) (by simpa using a3)
   have hc:isC x=true:=by simp[isC,h]
   simp[h,bS,h1,hc]
  |aB h a b e h1 h2=>
   rw[e] at a3 ⊢;obtain⟨t,u,rfl⟩:=len2 (l:=ts) (by simpa using a3)
   have hc:isC x=true:=by rcases h with h | h<;>simp[isC,h]
   rcases h with h | h<;>simp[h,bS,h1,h2,hc]
  |aI h a b d e h1 h2 h3=>
   rw[e] at a3 ⊢;obtain⟨t,u,v,rfl⟩:=len3 (l:=ts) (by simpa using a3)
   have hc:isC x=false:=by simp[isC,h]
   by_cases q:u=v<;>simp[h,bS,ix,q,hc,h1,h2,h3]
  |a2 h a b e h1 h2=>
   rw[e] at a3 ⊢;obtain⟨t,u,rfl⟩:=len2 (l:=ts) (by simpa using a3)
   cases hc:isC x<;>by_cases q:t=u<;>simp[h,bS,ix,q,h1,h2]
theorem fstE_0{α:Type}{f:α→Int}:∀ {l:List α},fstE f l=0→∀a∈l,f a=0
 | [],_,a,h=>by cases h
 |b::t,hf,a,h=>by
  rw[fstE] at hf;by_cases hb:f b=0
  ·rw[if_neg (by simp[hb])] at hf
   rcases List.mem_cons.1 h with rfl | h
   ·exact hb
   ·exact fstE_0 hf a h
  ·rw[if_pos hb] at hf;exact absurd hf hb
theorem Tv{x:Q0}(h:WV x=0):JB (.mk x)∧(Z1 (.mk x)).length≤2000:=by
 unfold WV at h;split at h;·cases h
 ·split at h;·cases h
  ·exact⟨fstE_0 h,by omega⟩
theorem Fz(c:Q1)(hb:okBs c.fnest.fBufs)(hs:c.fscope.length≤4611686018427387904):∀l:List Q6,(∀a∈l,okE a)→ZT c l=some (fstE (fun y=>Vs c.fnest c.fscope y.f) l)
 | [],_=>rfl
 |a::t,h=>by
  have ha:okE (.mk a.f):=by rw[Q6.mk_f];exact h a (by simp)
  rw[ZT,p_node c a.f ha hb hs,bS,Fz c hb hs t (fun b hb=>h b (by simp[hb])),fstE]
  by_cases hp:Vs c.fnest c.fscope a.f=0;·simp[hp]
  ·simp[hp]
theorem Mi(c:Q1)(x:Q0)(hx:okE (.mk x))(hb:okBs c.fnest.fBufs)(hs:c.fscope.length≤4611686018427387904):ZA c x=some (V7 c.fnest c.fscope x):=by
 unfold ZA V7;rw[Bi x hx,bS];by_cases h1:WV x=0
 ·obtain⟨hg,_⟩:=Tv h1;have hk:=Q18 c hb (.mk x) hg;rw[Q6.f_mk] at hk;rw[if_neg (by simp[h1]),if_neg (by simp[h1]),MS x (aE_of _ hx),bS,Fz c hb hs _ (IV _ hx),bS,hk]
  by_cases h2:fstE (fun y=>Vs c.fnest c.fscope y.f) (Z1 (.mk x))=0
  ·rw[if_pos h2,if_neg (by simp[h2])];rfl
  ·rw[if_neg h2,if_pos h2];rfl
 ·rw[if_pos (by simp[h1]),if_pos h1];rfl
theorem r_All:∀e:Q6,okE e→(Z1 e).length≤100000→JG e.f=some (Z1 e):=Q6.ind fun x ih hx hn=>by
 obtain⟨_,_,_,hA,a5⟩:=hx.of;rw[CI,List.length_cons] at hn;have key:∀(t p:List Q6),x.fArgs=p++t→YM x (.mk x::Y3 p) p.length=some (.mk x::Y3 x.fArgs):=by
  intro t
  induction t with
  |nil=>
   intro p e;have:p.length=x.fArgs.length:=by rw[e];simp
   rw[YM,bS,if_neg (by omega)];simp at e;rw[e]
  |cons a t a3=>
   intro p e;have a4:(p.length:Int)<x.fArgs.length:=by rw[e];simp;omega
   have a7:(Y3 p).length+(Z1 a).length≤(Y3 x.fArgs).length:=by
    rw[e];simp[Y3]
   have a3:=a3 (p++[a]) (by rw[e];simp)
   rw[show((p++[a]).length:Int)=(p.length:Int)+1 by simp,show Y3 (p++[a])=Y3 p++Z1 a by simp[Y3]] at a3
   have a6:a∈x.fArgs:=by rw[e];simp
   rw[YM,bS,if_pos a4,YE e,omS,bS,ih a a6 (a5 a a6) (by omega),bS,if_pos (by rw[List.length_cons,List.length_map];omega),bS,Zn (by omega) a4 (by omega)]
   exact a3
 have h0:YM x [.mk x] 0=_:=key x.fArgs [] rfl;rw[Q6.f_mk,JG];simp only[bS];rw[h0,bS,CI]
theorem H7(n:Qi)(bs:List Qt)(x:Q0)(hx:okE (.mk x))(hb:okBs n.fBufs)(hs:bs.length≤4611686018427387904):Jg n bs x=some (V7 n (bs.map (·.fName)) x):=by
 unfold Jg V7;rw[Bo x hx,bS];by_cases h1:WV x=0
 ·obtain⟨hg,a7⟩:=Tv h1;have hk:=r_Kind n hb (.mk x) hg;have hA:=r_All (.mk x) hx (by omega)
  rw[Q6.f_mk] at hk hA;have hL:X0 bs n zT (Z1 (.mk x)) 0=some (if fstE (fun y=>Vs n (bs.map (·.fName)) y.f) (Z1 (.mk x))≠0 then .inr (zT,fstE (fun y=>Vs n (bs.map (·.fName)) y.f) (Z1 (.mk x))) else .inl zT):=by
   refine Y7 (α:=Unit) (F:=fun _ i=>X0 bs n zT (Z1 (.mk x)) i) (l:=Z1 (.mk x)) (fun _ _=>True) (fun _ t=>if fstE (fun y=>Vs n (bs.map (·.fName)) y.f) t≠0 then .inr (zT,fstE (fun y=>Vs n (bs.map (·.fName)) y.f) t) else .inl zT) ?_ ?_ () trivial
   ·intro _ _;rw[X0,bS,if_neg (by omega)];simp[fstE]
   ·intro i y t _ h3 h4 hm a3 _ ih;have hy:okE (.mk y.f):=by rw[Q6.mk_f];exact IV _ hx y hm
    rw[X0,bS,if_pos h4,a3,omS,bS,r_node n bs y.f hy (Gb (hg y hm)).2.1 hb hs,bS,Zn h3 h4 (by omega),ih () trivial,fstE]
    by_cases hz:Vs n (bs.map (·.fName)) y.f=0;·simp[hz]
    ·simp[hz,bS,zT]
  rw[if_neg (by simp[h1]),if_neg (by simp[h1]),hA,bS,bS,show(Q8.mk (0:Int) (0:Int) (0:Int) (0:Int) (0:Int))=zT from rfl,hL,hk]
  by_cases h2:fstE (fun y=>Vs n (bs.map (·.fName)) y.f) (Z1 (.mk x))=0
  ·simp[h2,bS]
  ·simp[h2,bS]
 ·rw[if_pos (by simp[h1]),if_pos h1];rfl
end Go.Proofs.YtolcgikajjkjgaaGreatDoor
end
section
namespace Go.Proofs.YtolcgikajjkjgaaGreatDoor
open Go HY
set_option linter.unusedVariables false
set_option linter.unusedSimpArgs false
theorem ok_rdE{x:Qq}(hx:okS (.mk x)):okE (.mk (rdE x)):=by
 obtain⟨h1,h2,_,_⟩:=hx.of;exact .mk _ ⟨⟨by show(-9223372036854775808:Int)≤0;omega,by show(0:Int)≤9223372036854775807;omega⟩,by simp[rdE],by simp[rdE]⟩ h1 h2 (by simp[rdE]) (by simp[rdE])
theorem Q0u{n:Qi}{sc:List Str}{x:Qq}(h:(V7 n sc (rdE x)).2=0):(V7 n sc (rdE x)).1=((Xw n.fBufs x.fName).getD zBuf).fType:=by
 unfold V7 at h ⊢;split at h;·rename_i h1;exact absurd h h1
 ·rename_i h1;rw[if_neg h1];split at h;·rename_i h2;exact absurd h h2
  ·rename_i h2;rw[if_neg h2,Ad];simp[kd1,rdE]
theorem foldQ(x:Qq):(if(x.fOp==(3:Int))=true then if x.fFold< (1:Int) then some true else if(4:Int)<x.fFold then some true else some false else some false)=some (decide (x.fOp=3∧(x.fFold<1∨4<x.fFold))):=by
 by_cases h1:x.fOp=3<;>by_cases h2:x.fFold<1<;>by_cases h3:4<x.fFold<;>simp[h1,h2,h3]
theorem p_store(c:Q1)(x:Qq)(hx:okS (.mk x))(hb:okBs c.fnest.fBufs)(hs:c.fscope.length≤4611686018427387904):KM c x=some (WL c.fnest c.fscope x):=by
 obtain⟨_,_,hE,_⟩:=hx.of;unfold KM WL;rw[bS,show(Ka.mk (3:Int) x.fName (gVal.mk (0:Int) (0:Int)) (Q8.mk (0:Int) (0:Int) (0:Int) (0:Int) (0:Int)) (gLin.mk (0:Int) []) x.fIdx []:Q0)=rdE x from rfl,Mi c (rdE x) (ok_rdE hx) hb hs,bS,Mh _ _ hb,foldQ,Mi c x.fExpr hE hb hs];simp only[bS,Co,RO];have hk:= @Q0u c.fnest c.fscope x;generalize V7 c.fnest c.fscope (rdE x)=E1 at hk ⊢;generalize V7 c.fnest c.fscope x.fExpr=E2
 generalize (Xw c.fnest.fBufs x.fName).getD zBuf=B at hk ⊢;by_cases h1:E1.2=0
 ·rw[hk h1];by_cases h2:B.fUse=1;·simp[h1,h2]
  ·by_cases h3:x.fOp=3∧(x.fFold<1∨4<x.fFold);·simp[h1,h2,h3]
   ·by_cases h4:E2.2=0;·cases hc:isC x.fExpr<;>by_cases h5:E2.1=B.fType<;>simp[h1,h2,h3,h4,h5,bS]
    ·simp[h1,h2,h3,h4]
 ·simp[h1]
theorem r_store(n:Qi)(bs:List Qt)(x:Qq)(hx:okS (.mk x))(hb:okBs n.fBufs)(hs:bs.length≤4611686018427387904):Cg n bs x=some (WL n (bs.map (·.fName)) x):=by
 obtain⟨_,_,hE,_⟩:=hx.of;unfold Cg WL;rw[bS,show(Ka.mk (3:Int) x.fName (gVal.mk (0:Int) (0:Int)) (Q8.mk (0:Int) (0:Int) (0:Int) (0:Int) (0:Int)) (gLin.mk (0:Int) []) x.fIdx []:Q0)=rdE x from rfl,H7 n bs (rdE x) (ok_rdE hx) hb hs,bS,Mj _ _ hb,foldQ,H7 n bs x.fExpr hE hb hs];simp only[bS,Gu,RO];generalize V7 n (bs.map (·.fName)) (rdE x)=E1;generalize V7 n (bs.map (·.fName)) x.fExpr=E2;generalize (Xw n.fBufs x.fName).getD zBuf=B
 by_cases h1:E1.2=0
 ·by_cases h2:B.fUse=1;·simp[h1,h2,bS]
  ·by_cases h3:x.fOp=3∧(x.fFold<1∨4<x.fFold);·simp[h1,h2,h3,bS]
   ·by_cases h4:E2.2=0;·cases hc:isC x.fExpr<;>by_cases h5:E2.1=B.fType<;>simp[h1,h2,h3,h4,h5,bS]
    ·simp[h1,h2,h3,h4,bS]
 ·simp[h1]
theorem manyQ(x:Qq):(if x.fMany< (1:Int) then some true else if(65536:Int)<x.fMany then some true else if x.fMark< (0:Int) then some true else if(3:Int)<x.fMark then some true else some false)=some (decide (x.fMany<1∨65536<x.fMany∨x.fMark<0∨3<x.fMark)):=by
 by_cases h1:x.fMany<1<;>by_cases h2:65536<x.fMany<;>by_cases h3:x.fMark<0<;>by_cases h4:3<x.fMark<;>simp[h1,h2,h3,h4]
theorem p_loop(c:Q1)(x:Qq)(hb:okBs c.fnest.fBufs)(hs:c.floops.length≤4611686018427387904):V5 c x=some (La c.fnest c.floops x):=by
 unfold V5 La;rw[LQ,bS,Mh _ _ hb,LP _ _ hs,manyQ];cases h1:nm x.fName with
 |false=>simp
 |true=>
  cases h2:(Xw c.fnest.fBufs x.fName).isSome<;>cases h3:c.floops.contains x.fName<;>simp only[bS,Wc,Ds,Bool.or_true,Bool.or_false]
  ·by_cases h4:x.fMany<1∨65536<x.fMany∨x.fMark<0∨3<x.fMark<;>simp[h4]
  all_goals simp
theorem s_Has(l:List Str)(s:Str)(hl:l.length≤1048576):Gd l s=some (l.contains s):=by
 unfold Gd;rw[bS,Ig l s hl,bS];cases l.contains s<;>rfl
theorem PF(c:Q1)(x:Qq)(hx:okS (.mk x))(hb:okBs c.fnest.fBufs)(hs:c.fscope.length≤4611686018427387904)(hu:c.floops.length≤4611686018427387904):YL c x=some (V8 c.fnest c.fscope c.floops x):=by
 obtain⟨_,_,hE,_⟩:=hx.of;unfold YL V8;rw[p_plain,bS,p_loop c x hb hu,Mi c x.fExpr hE hb hs,Co,p_store c x hx hb hs];cases h1:plS x with
 |false=>simp
 |true=>
  by_cases h2:x.fOp=1;·simp[h2,bS]
  ·by_cases h3:x.fOp=4
   ·by_cases h4:(V7 c.fnest c.fscope x.fExpr).2=0;·cases h5:isC x.fExpr<;>simp[h3,h4,bS]
    ·simp[h3,h4,bS]
   ·simp[h2,h3,bS]
theorem r_one(n:Qi)(bs:List Qt)(a3:List Str)(x:Qq)(hx:okS (.mk x))(hb:okBs n.fBufs)(hs:bs.length≤4611686018427387904)(hu:a3.length≤1048576):WQ n bs a3 x=some (V8 n (bs.map (·.fName)) a3 x):=by
 obtain⟨_,_,hE,_⟩:=hx.of;unfold WQ V8;rw[Q1d,bS,Mj _ _ hb,bS,C5,bS,manyQ,s_Has _ _ hu,H7 n bs x.fExpr hE hb hs,Gu,r_store n bs x hx hb hs];cases h1:plS x with
 |false=>simp
 |true=>
  by_cases h2:x.fOp=1
  ·unfold La;cases h3:nm x.fName with
   |false=>simp[h2]
   |true=>
    cases h4:(Xw n.fBufs x.fName).isSome<;>cases h5:a3.contains x.fName
    ·by_cases h6:x.fMany<1∨65536<x.fMany∨x.fMark<0∨3<x.fMark<;>simp[h2,h6,bS]
    all_goals simp[h2,bS]
  ·by_cases h3:x.fOp=4
   ·by_cases h4:(V7 n (bs.map (·.fName)) x.fExpr).2=0;·cases h5:isC x.fExpr<;>simp[h3,h4,bS]
    ·simp[h3,h4,bS]
   ·simp[h2,h3,bS]
end Go.Proofs.YtolcgikajjkjgaaGreatDoor
end
section
namespace Go.Proofs.YtolcgikajjkjgaaGreatDoor
open Go HY
set_option linter.unusedVariables false
set_option linter.unusedSimpArgs false
def bdT(n:Qi)(sc:List Str)(a4:List Int)(l:List Qb)(i:Int)(a3:List Str):Fl:=bdL n sc a4 (l.map fun a=>(a.f,bd n a)) i a3
theorem Tu(n:Qi)(sc:List Str)(a4:List Int)(i:Int)(a3:List Str):bdT n sc a4 [] i a3=(a3,[],0):=rfl
theorem M9(n:Qi)(sc:List Str)(a4:List Int)(a:Qb)(t:List Qb)(i:Int)(a3:List Str):bdT n sc a4 (a::t) i a3=
  if V8 n sc a3 a.f≠0 then([],a4++[i],V8 n sc a3 a.f)
  else if a.f.fOp=1 then(if(bdB n (sc++[a.f.fName]) (a4++[i]) a.f.fBody (a3++[a.f.fName])).2.2≠0 then bdB n (sc++[a.f.fName]) (a4++[i]) a.f.fBody (a3++[a.f.fName]) else bdT n sc a4 t (i+1) (bdB n (sc++[a.f.fName]) (a4++[i]) a.f.fBody (a3++[a.f.fName])).1)
  else(if(bdB n sc (a4++[i]) a.f.fBody a3).2.2≠0 then bdB n sc (a4++[i]) a.f.fBody a3 else bdT n sc a4 t (i+1) (bdB n sc (a4++[i]) a.f.fBody a3).1):=by
 show bdL n sc a4 ((a.f,bd n a)::t.map fun a=>(a.f,bd n a)) i a3=_
 rw[bdL,bd_f,bd_f];rfl
theorem bdB_T(n:Qi)(sc:List Str)(a4:List Int)(l:List Qb)(a3:List Str):bdB n sc a4 l a3=bdT n sc a4 l 0 a3:=rfl
theorem F2(a:Qb)(t:List Qb):dpL (a::t)=max (dp a) (dpL t):=rfl
theorem PZ(n:Qi):∀l,okSs l→∀(sc:List Str) (a4:List Int) (a3:List Str),(bdB n sc a4 l a3).1.length≤a3.length+szL l:=UH fun l hl ih sc a4 a3=>by
 have key:∀(t:List Qb),(∀s∈t,s∈l)→∀(i:Int) (a3:List Str),(bdT n sc a4 t i a3).1.length≤a3.length+szL t:=by
  intro t
  induction t with
  |nil=>intro _ i a3;rw[Tu];simp
  |cons a t iht=>
   intro hm i a3;have h2:=iht (fun s hs=>hm s (by simp[hs]))
   rw[M9,LY,sz_f];split;·simp
   ·split
    ·split;·have:=ih a (hm a (by simp)) (sc++[a.f.fName]) (a4++[i]) (a3++[a.f.fName]);simp at this ⊢;omega
     ·have:=ih a (hm a (by simp)) (sc++[a.f.fName]) (a4++[i]) (a3++[a.f.fName])
      have:=h2 (i+1) (bdB n (sc++[a.f.fName]) (a4++[i]) a.f.fBody (a3++[a.f.fName])).1;simp at*;omega
    ·split;·have:=ih a (hm a (by simp)) sc (a4++[i]) a3;omega
     ·have:=ih a (hm a (by simp)) sc (a4++[i]) a3
      have:=h2 (i+1) (bdB n sc (a4++[i]) a.f.fBody a3).1;omega
 exact key l (fun _ h=>h) 0 a3
theorem O1(n:Qi):∀l,okSs l→∀(sc:List Str) (a4:List Int) (a3:List Str),((bdB n sc a4 l a3).2.2=0→(bdB n sc a4 l a3).2.1=[])∧((bdB n sc a4 l a3).2.2≠0→(bdB n sc a4 l a3).1=[]):=UH fun l hl ih sc a4 a3=>by
 have key:∀(t:List Qb),(∀s∈t,s∈l)→∀(i:Int) (a3:List Str),((bdT n sc a4 t i a3).2.2=0→(bdT n sc a4 t i a3).2.1=[])∧((bdT n sc a4 t i a3).2.2≠0→(bdT n sc a4 t i a3).1=[]):=by
  intro t
  induction t with
  |nil=>intro _ i a3;exact⟨fun _=>rfl,fun h=>absurd rfl h⟩
  |cons a t iht=>
   intro hm i a3;have h2:=iht (fun s hs=>hm s (by simp[hs]))
   rw[M9];split;·rename_i h;exact⟨fun h'=>absurd h' h,fun _=>rfl⟩
   ·split
    ·split;·exact ih a (hm a (by simp)) _ _ _
     ·exact h2 _ _
    ·split;·exact ih a (hm a (by simp)) _ _ _
     ·exact h2 _ _
 exact key l (fun _ h=>h) 0 a3
theorem p_body(n:Qi)(hb:okBs n.fBufs):∀l,okSs l→∀c:Q1,c.fnest=n→c.fscope.length+dpL l≤1000→c.fpath.length+dpL l≤1000→c.floops.length+szL l≤100000→
  wp (QM c l) (fun r=>r.1=(bdB n c.fscope c.fpath l c.floops).2.2∧(r.1≠0→r.2.fpath=(bdB n c.fscope c.fpath l c.floops).2.1)∧(r.1=0→r.2=⟨n,(bdB n c.fscope c.fpath l c.floops).1,c.fscope,c.fpath⟩)):=UH fun l hl ih c hn az aw b2=>by
 have e1:=hl.1;have b6:l.length≤4611686018427387904:=by omega
 have key:∀(t p:List Qb),l=p++t→∀c:Q1,c.fnest=n→c.fscope.length+dpL t≤1000→c.fpath.length+dpL t≤1000→c.floops.length+szL t≤100000→
   wp (QA c l l.length p.length) (fun o=>((bdT n c.fscope c.fpath t p.length c.floops).2.2=0∧o= .inl ⟨n,(bdT n c.fscope c.fpath t p.length c.floops).1,c.fscope,c.fpath⟩)∨((bdT n c.fscope c.fpath t p.length c.floops).2.2≠0∧∃c',o= .inr (c',(bdT n c.fscope c.fpath t p.length c.floops).2.2)∧c'.fpath=(bdT n c.fscope c.fpath t p.length c.floops).2.1)):=by
  intro t
  induction t with
  |nil=>
   intro p e c hn _ _ _;have:p.length=l.length:=by rw[e];simp
   rw[QA,if_neg (by omega),Tu]
   obtain⟨cn,cl,cs,cp⟩:=c;cases hn;exact Y8.2 (.inl ⟨rfl,rfl⟩)
  |cons a t ac=>
   intro p e c hn h1 h2 h3;obtain⟨cn,cl,cs,cp⟩:=c;simp only at hn h1 h2 h3;subst hn;have ah:(p.length:Int)<l.length:=by rw[e];simp;omega
   have ad:a∈l:=by rw[e];simp
   have aq:okS (.mk a.f):=by rw[Qb.mk_f];exact hl.2 a ad
   rw[F2,dp_f] at h1 h2;rw[LY,sz_f] at h3;have ac:=ac (p++[a]) (by rw[e];simp)
   rw[show(((p++[a]).length:Nat):Int)=(p.length:Int)+1 by simp] at ac
   have ai:=PF ⟨cn,cl,cs,cp++[(p.length:Int)]⟩ a.f aq hb (show cs.length≤_ by omega) (show cl.length≤_ by omega)
   simp only at ai;rw[QA,if_pos ah,YE e,omS,bS,M9];simp only;rw[if_pos ⟨by omega,by omega⟩,bS,ai,bS]
   by_cases hs:V8 cn cs cl a.f=0
   ·have ax:¬((V8 cn cs cl a.f !=(0:Int))=true):=by simp[hs]
    have ay:¬(V8 cn cs cl a.f≠0):=by simp[hs]
    rw[if_neg ax,bS,bS];simp only[if_neg ay];have rest:∀(c1:Q1) (a4 a3:List Str),c1=⟨cn,a3,a4,cp++[(p.length:Int)]⟩→(∃x,a4=cs++x)→a4.length+dpL a.f.fBody≤1000→a3.length+(szL a.f.fBody+szL t)≤100000→
      wp (QM c1 a.f.fBody>>=fun v7=>if(v7.fst !=(0:Int))=true then some (.inr (v7.snd,v7.fst)) else if True∧(0:Int)≤(cs.length:Int)∧(cs.length:Int)≤(v7.snd.fscope.length:Int) then
       if List.length (List.take (cs.length:Int).toNat v7.snd.fscope)=(cs.length:Int).toNat then
       some (List.take (cs.length:Int).toNat v7.snd.fscope)>>=fun v8=>
       if True∧(0:Int)≤wr ((v7.snd.fpath.length:Int) - (1:Int))∧wr ((v7.snd.fpath.length:Int) - (1:Int))≤(v7.snd.fpath.length:Int) then
       some ((v7.snd.fpath.length:Int):Int)>>=fun v9=>
       if List.length (List.take ((wr ((v7.snd.fpath.length:Int) - (1:Int))).toNat) v7.snd.fpath)=((wr ((v7.snd.fpath.length:Int) - (1:Int))).toNat) then
       some (List.take ((wr ((v7.snd.fpath.length:Int) - (1:Int))).toNat) v7.snd.fpath)>>=fun b3=>
       QA (Q1.mk v7.snd.fnest v7.snd.floops v8 b3) l l.length (wr ((p.length:Int)+(1:Int)))
       else none else none else none else none)
      (fun o=>((if(bdB cn a4 (cp++[(p.length:Int)]) a.f.fBody a3).2.2≠0 then bdB cn a4 (cp++[(p.length:Int)]) a.f.fBody a3 else bdT cn cs cp t ((p.length:Int)+1) (bdB cn a4 (cp++[(p.length:Int)]) a.f.fBody a3).1).2.2=0∧o= .inl ⟨cn,(if(bdB cn a4 (cp++[(p.length:Int)]) a.f.fBody a3).2.2≠0 then bdB cn a4 (cp++[(p.length:Int)]) a.f.fBody a3 else bdT cn cs cp t ((p.length:Int)+1) (bdB cn a4 (cp++[(p.length:Int)]) a.f.fBody a3).1).1,cs,cp⟩)∨
       ((if(bdB cn a4 (cp++[(p.length:Int)]) a.f.fBody a3).2.2≠0 then bdB cn a4 (cp++[(p.length:Int)]) a.f.fBody a3 else bdT cn cs cp t ((p.length:Int)+1) (bdB cn a4 (cp++[(p.length:Int)]) a.f.fBody a3).1).2.2≠0∧∃c',o= .inr (c',(if(bdB cn a4 (cp++[(p.length:Int)]) a.f.fBody a3).2.2≠0 then bdB cn a4 (cp++[(p.length:Int)]) a.f.fBody a3 else bdT cn cs cp t ((p.length:Int)+1) (bdB cn a4 (cp++[(p.length:Int)]) a.f.fBody a3).1).2.2)∧c'.fpath=(if(bdB cn a4 (cp++[(p.length:Int)]) a.f.fBody a3).2.2≠0 then bdB cn a4 (cp++[(p.length:Int)]) a.f.fBody a3 else bdT cn cs cp t ((p.length:Int)+1) (bdB cn a4 (cp++[(p.length:Int)]) a.f.fBody a3).1).2.1)):=by
     intro c1 a4 a3 hc1 ⟨xs,aj⟩ k1 k2;subst hc1;obtain⟨r,er,aa,ab,a8⟩:=ih a ad ⟨cn,a3,a4,cp++[(p.length:Int)]⟩ rfl (show a4.length+_≤1000 by omega) (show(cp++[(p.length:Int)]).length+_≤1000 by simp;omega) (show a3.length+_≤100000 by omega)
     have ar:=PZ cn a.f.fBody (hl.2 a ad).f a4 (cp++[(p.length:Int)]) a3;simp only at aa ab a8;generalize bdB cn a4 (cp++[(p.length:Int)]) a.f.fBody a3=B at aa ab a8 ar ⊢;obtain⟨r1,r2⟩:=r;simp only at aa ab a8;subst aa;rw[er,bS];simp only;by_cases hB:B.2.2=0
     ·have a8:=a8 hB;subst a8;have ao:¬((B.2.2 !=(0:Int))=true):=by simp[hB]
      have ap:¬(B.2.2≠0):=by simp[hB]
      rw[if_neg ao];simp only[if_neg ap];have hw:wr (((cp++[(p.length:Int)]).length:Nat) - 1:Int)=(cp.length:Int):=by rw[Z2 (by simp;omega)];simp
      have b0:List.take (cs.length:Int).toNat a4=cs:=by rw[aj];simp
      have b1:List.take (cp.length:Int).toNat (cp++[(p.length:Int)])=cp:=by simp
      rw[b0,hw,b1,if_pos (show True∧(0:Int)≤cs.length∧(cs.length:Int)≤a4.length from⟨trivial,by omega,by rw[aj];simp;omega⟩),if_pos (show List.length cs=(cs.length:Int).toNat by simp),bS,if_pos (show True∧(0:Int)≤cp.length∧(cp.length:Int)≤((cp++[(p.length:Int)]).length:Nat) from⟨trivial,by omega,by simp;omega⟩),bS,if_pos (show List.length cp=(cp.length:Int).toNat by simp),bS,Zn (by omega) ah (by omega)]
      exact ac ⟨cn,B.1,cs,cp⟩ rfl (show cs.length+_≤1000 by omega) (show cp.length+_≤1000 by omega) (show B.1.length+_≤100000 by omega)
     ·rw[if_pos (show(B.2.2 !=(0:Int))=true by simp[hB])]
      simp only[if_pos (show B.2.2≠0 from hB)];exact Y8.2 (.inr ⟨hB,r2,rfl,ab hB⟩)
    by_cases hop:a.f.fOp=1
    ·rw[if_pos (show(a.f.fOp==(1:Int))=true by simp[hop]),if_pos (show(cl.length+1)*16≤140737488355328∧cl.length+1≤9223372036854775807 from⟨by omega,by omega⟩),if_pos (show(cs.length+1)*16≤140737488355328∧cs.length+1≤9223372036854775807 from⟨by omega,by omega⟩),bS]
     simp only[if_pos hop];exact rest _ _ _ rfl ⟨_,rfl⟩ (by simp;omega) (by simp;omega)
    ·rw[if_neg (show ¬((a.f.fOp==(1:Int))=true) by simp[hop]),bS]
     simp only[if_neg hop];exact rest _ _ _ rfl ⟨[],by simp⟩ (by omega) (by omega)
   ·rw[if_pos (show(V8 cn cs cl a.f !=(0:Int))=true by simp[hs])]
    simp only[if_pos (show V8 cn cs cl a.f≠0 from hs)];exact Y8.2 (.inr ⟨hs,_,rfl,rfl⟩)
 have h0:=key l [] rfl c hn az aw b2;obtain⟨o,eo,ho⟩:=h0;rw[QM];simp only[bS];rw[show((List.length ([]:List Qb):Nat):Int)=0 from rfl] at eo ho;rw[eo,bS,bdB_T];rcases ho with⟨h1,rfl⟩ | ⟨h1,c',rfl,h2⟩
 ·exact Y8.2 ⟨h1.symm,fun h=>absurd rfl h,fun _=>rfl⟩
 ·exact Y8.2 ⟨rfl,fun _=>h2,fun h=>absurd h h1⟩
theorem p_valid(n:Qi)(hb:okBs n.fBufs)(hl:okSs n.fBody):U5 n=some (vd n):=by
 unfold U5 vd;rw[Q19 _ hl 40 (by omega) (by omega),bS]
 by_cases h1:dpL n.fBody≤40
 ·obtain⟨k,ek,a9,aa,_⟩:=p_count _ hl 2000 (by omega) (by omega)
  rw[if_pos (by simp;omega),if_neg (by omega),bS,ek,bS]
  by_cases h2:2000<szL n.fBody;·rw[if_pos (by omega),bS,if_pos rfl,if_pos (.inl h2)]
  ·rw[if_neg (by omega),bS]
   by_cases h3:128<n.fBufs.length;·rw[if_pos (by omega),bS,if_pos rfl,if_pos (.inr h3)]
   ·rw[if_neg (by omega),bS,if_neg (by simp),p_bufs _ hb.1,bS,if_neg (show ¬(2000<szL n.fBody∨128<n.fBufs.length) by omega)]
    by_cases h4:Kv [] n.fBufs=0
    ·obtain⟨r,er,q1,q2,q3⟩:=p_body n hb _ hl ⟨n,[],[],[]⟩ rfl (show 0+_≤1000 by omega) (show 0+_≤1000 by omega) (show 0+_≤100000 by omega)
     simp only at q1 q2 q3;have a3:(bdB n [] [] n.fBody []).2.2=0→(bdB n [] [] n.fBody []).2.1=[]:=(O1 n _ hl _ _ _).1;rw[if_neg (by simp[h4]),if_neg (by simp[h4]),er,bS,q1]
     by_cases h5:(bdB n [] [] n.fBody []).2.2=0;·rw[if_neg (by simp[h5]),a3 h5,h5]
     ·rw[if_pos (by simp[h5]),q2 (by rw[q1];exact h5)]
    ·rw[if_pos (by simp[h4]),if_pos (by simp[h4])]
 ·rw[if_neg (by simp;omega),if_pos (by omega)]
theorem r_body(n:Qi)(hb:okBs n.fBufs):∀l,okSs l→∀(bs:List Qt) (a4:List Str) (a5:List Int),bs.length+dpL l≤1000→a5.length+dpL l≤1000→a4.length+szL l≤100000→
  KO n bs a4 l a5=some ⟨(bdB n (bs.map (·.fName)) a5 l a4).1,(bdB n (bs.map (·.fName)) a5 l a4).2.1,(bdB n (bs.map (·.fName)) a5 l a4).2.2⟩:=UH fun l hl ih bs a4 a5 ah ae ai=>by
 have e1:=hl.1;have ak:l.length≤4611686018427387904:=by omega
 have key:∀(t p:List Qb),l=p++t→∀(a4:List Str),bs.length+dpL t≤1000→a5.length+dpL t≤1000→a4.length+szL t≤100000→
   Ym bs a4 l a5 n ⟨[],[],0⟩ p.length=some (if(bdT n (bs.map (·.fName)) a5 t p.length a4).2.2=0 then .inl ((bdT n (bs.map (·.fName)) a5 t p.length a4).1,⟨[],[],0⟩) else .inr ⟨(bdT n (bs.map (·.fName)) a5 t p.length a4).1,(bdT n (bs.map (·.fName)) a5 t p.length a4).2.1,(bdT n (bs.map (·.fName)) a5 t p.length a4).2.2⟩):=by
  intro t
  induction t with
  |nil=>
   intro p e a4 _ _ _;have:p.length=l.length:=by rw[e];simp
   rw[Ym,bS,if_neg (by omega),Tu];rfl
  |cons a t a7=>
   intro p e a4 h1 h2 h3;have aa:(p.length:Int)<l.length:=by rw[e];simp;omega
   have a8:a∈l:=by rw[e];simp
   have ac:okS (.mk a.f):=by rw[Qb.mk_f];exact hl.2 a a8
   rw[F2,dp_f] at h1 h2;rw[LY,sz_f] at h3;have a7:=a7 (p++[a]) (by rw[e];simp)
   rw[show(((p++[a]).length:Nat):Int)=(p.length:Int)+1 by simp] at a7
   rw[Ym,bS,if_pos aa,YE e];simp only[omS,bS];rw[if_pos ⟨trivial,by simp;omega,by simp;omega⟩]
   simp only[List.nil_append];rw[if_pos ⟨by omega,by omega⟩,r_one n bs a4 a.f ac hb (by omega) (by omega),bS,M9]
   by_cases hs:V8 n (bs.map (·.fName)) a4 a.f=0
   ·have af:¬((V8 n (bs.map (·.fName)) a4 a.f !=(0:Int))=true):=by simp[hs]
    have ag:¬(V8 n (bs.map (·.fName)) a4 a.f≠0):=by simp[hs]
    rw[if_neg af];simp only[if_neg ag];have rest:∀(a6:List Qt) (a3:List Str),a6.length+dpL a.f.fBody≤1000→a3.length+(szL a.f.fBody+szL t)≤100000→
      (KO n a6 a3 a.f.fBody (a5++[(p.length:Int)])>>=fun a9=>if(a9.fE !=(0:Int))=true then some (.inr a9) else Ym bs a9.fUsed l a5 n ⟨[],[],0⟩ (wr ((p.length:Int)+(1:Int))))=
      some (if(if(bdB n (a6.map (·.fName)) (a5++[(p.length:Int)]) a.f.fBody a3).2.2≠0 then bdB n (a6.map (·.fName)) (a5++[(p.length:Int)]) a.f.fBody a3 else bdT n (bs.map (·.fName)) a5 t ((p.length:Int)+1) (bdB n (a6.map (·.fName)) (a5++[(p.length:Int)]) a.f.fBody a3).1).2.2=0
       then .inl ((if(bdB n (a6.map (·.fName)) (a5++[(p.length:Int)]) a.f.fBody a3).2.2≠0 then bdB n (a6.map (·.fName)) (a5++[(p.length:Int)]) a.f.fBody a3 else bdT n (bs.map (·.fName)) a5 t ((p.length:Int)+1) (bdB n (a6.map (·.fName)) (a5++[(p.length:Int)]) a.f.fBody a3).1).1,⟨[],[],0⟩)
       else .inr ⟨(if(bdB n (a6.map (·.fName)) (a5++[(p.length:Int)]) a.f.fBody a3).2.2≠0 then bdB n (a6.map (·.fName)) (a5++[(p.length:Int)]) a.f.fBody a3 else bdT n (bs.map (·.fName)) a5 t ((p.length:Int)+1) (bdB n (a6.map (·.fName)) (a5++[(p.length:Int)]) a.f.fBody a3).1).1,
        (if(bdB n (a6.map (·.fName)) (a5++[(p.length:Int)]) a.f.fBody a3).2.2≠0 then bdB n (a6.map (·.fName)) (a5++[(p.length:Int)]) a.f.fBody a3 else bdT n (bs.map (·.fName)) a5 t ((p.length:Int)+1) (bdB n (a6.map (·.fName)) (a5++[(p.length:Int)]) a.f.fBody a3).1).2.1,
        (if(bdB n (a6.map (·.fName)) (a5++[(p.length:Int)]) a.f.fBody a3).2.2≠0 then bdB n (a6.map (·.fName)) (a5++[(p.length:Int)]) a.f.fBody a3 else bdT n (bs.map (·.fName)) a5 t ((p.length:Int)+1) (bdB n (a6.map (·.fName)) (a5++[(p.length:Int)]) a.f.fBody a3).1).2.2⟩):=by
     intro a6 a3 k1 k2;have hr:=ih a a8 a6 a3 (a5++[(p.length:Int)]) (by omega) (by simp;omega) (by omega)
     have ad:=PZ n a.f.fBody (hl.2 a a8).f (a6.map (·.fName)) (a5++[(p.length:Int)]) a3;rw[hr,bS];generalize bdB n (a6.map (·.fName)) (a5++[(p.length:Int)]) a.f.fBody a3=B at ad ⊢;by_cases hB:B.2.2=0
     ·rw[if_neg (show ¬((B.2.2 !=(0:Int))=true) by simp[hB])]
      simp only[if_neg (show ¬(B.2.2≠0) by simp[hB])]
      rw[Zn (by omega) aa (by omega)]
      exact a7 B.1 (by omega) (by omega) (by omega)
     ·rw[if_pos (show(B.2.2 !=(0:Int))=true by simp[hB])]
      simp only[if_pos (show B.2.2≠0 from hB)];rw[if_neg hB]
    by_cases hop:a.f.fOp=1
    ·rw[if_pos (show(a.f.fOp==(1:Int))=true by simp[hop])]
     simp only[if_pos hop];rw[if_pos ⟨trivial,by simp;omega,by simp;omega⟩,if_pos ⟨by simp,by simp;omega,by simp;omega⟩,if_pos ⟨trivial,by simp;omega,by simp;omega⟩,if_pos ⟨by simp,by simp;omega,by simp;omega⟩]
     simp only[bS];rw[YE e,omS,bS];have:=rest (bs++[⟨a.f.fName,a.f.fMany⟩]) (a4++[a.f.fName]) (by simp;omega) (by simp;omega)
     simp only[List.map_append,List.map_cons,List.map_nil] at this;exact this
    ·rw[if_neg (show ¬((a.f.fOp==(1:Int))=true) by simp[hop])]
     simp only[if_neg hop,bS];rw[YE e,omS,bS];exact rest bs a4 (by omega) (by omega)
   ·rw[if_pos (show(V8 n (bs.map (·.fName)) a4 a.f !=(0:Int))=true by simp[hs])]
    simp only[if_pos (show V8 n (bs.map (·.fName)) a4 a.f≠0 from hs)];rw[if_neg hs]
 have h0:=key l [] rfl a4 ah ae ai;rw[KO];simp only[bS];rw[show((List.length ([]:List Qb):Nat):Int)=0 from rfl] at h0;rw[h0,bS,bdB_T];have hw:=O1 n l hl (bs.map (·.fName)) a5 a4;rw[bdB_T] at hw;by_cases hz:(bdT n (bs.map (·.fName)) a5 l 0 a4).2.2=0
 ·rw[if_pos hz];simp only[bS];rw[hw.1 hz,hz]
 ·rw[if_neg hz]
theorem r_valid(n:Qi)(hb:okBs n.fBufs)(hl:okSs n.fBody):Gi n=some (vd n):=by
 unfold Gi vd;rw[Q1a _ hl 41 (by omega) (by omega),bS]
 by_cases h1:dpL n.fBody≤40
 ·obtain⟨k,ek,a5,a6,_⟩:=r_sizeS _ hl 2000 (by omega) (by omega)
  rw[if_neg (by omega),if_neg (by omega),bS,ek,bS]
  by_cases h2:2000<szL n.fBody;·rw[if_pos (by omega),bS,if_pos rfl,if_pos (.inl h2)]
  ·rw[if_neg (by omega),bS]
   by_cases h3:128<n.fBufs.length;·rw[if_pos (by omega),bS,if_pos rfl,if_pos (.inr h3)]
   ·rw[if_neg (by omega),bS,if_neg (by simp),r_bufs _ hb.1,bS,if_neg (show ¬(2000<szL n.fBody∨128<n.fBufs.length) by omega)]
    by_cases h4:Kv [] n.fBufs=0;·rw[if_neg (by simp[h4]),if_neg (by simp[h4]),r_body n hb _ hl [] [] [] (show 0+_≤1000 by omega) (show 0+_≤1000 by omega) (show 0+_≤100000 by omega),bS];rfl
    ·rw[if_pos (by simp[h4]),if_pos (by simp[h4])]
 ·rw[if_pos (by omega),if_pos (by omega)]
end Go.Proofs.YtolcgikajjkjgaaGreatDoor
end
section
namespace HY
open Go Go.RowKit
structure COk (P:Program) (gl:Nat→AV) (fv:Value) (xs:List (List AV)) (J:JT):Prop where
 base:JOk P gl 0 [] J
 call:∀k O Hc w x (vs:Array Value),J (some k) O Hc w→xs[k]? =some x→x.length=vs.size→(∀(j:Nat) (c:AV) (v:Value),x[j]? =some c→vs[j]? =some v→RelI Hc c v)→
  ∃g us,fv= .func (.func g) #[] us∧Ans P g (vs++us) w fun e w'=>∃v O' Hc',e= .returned v∧(∀H,RelI H (.tup []) v)∧JIn J O Hc w (some (k+1)) O' Hc' w'
structure CF (P:Program) (gl:Nat→AV) (fv:Value) (xs:List (List AV)) (f:Nat) (args:List AV) (p m:Nat):Prop where
 ok:∀J,COk P gl fv xs J→∀Hc w (vs:Array Value),J (some p) (fun _=>False) Hc w→args.length=vs.size→(∀(j:Nat) (c:AV) (v:Value),args[j]? =some c→vs[j]? =some v→RelI Hc c v)→
  Ans P f vs w fun e w'=>∃v O' Hc',e= .returned v∧(∀H,RelI H (.tup []) v)∧J (some m) O' Hc' w'
section
variable {P : Program} {gl : Nat → AV} {fv : Value} {xs : List (List AV)} {J : JT}
theorem COk.inn(hJ:COk P gl fv xs J){O0:Nat→Prop}{Hc0:HV}{w0:World}(a3:∀b,O0 b→b<w0.heap.size):COk P gl fv xs (JIn J O0 Hc0 w0) where
 base:=JIn.ok hJ.base a3
 call k O Hc w x vs h hx hl hr:=by
  obtain⟨h1,h2,h3,h4,h5⟩:=h;obtain⟨g,us,e,hA⟩:=hJ.call k _ Hc w x vs h1 hx hl hr;refine⟨g,us,e,hA.mono fun e w' ⟨v,O',Hc',e1,e2,q1,q2,q3,q4,q5⟩=>⟨v,O',Hc',e1,e2,⟨?_,h2.trans (q2.mono fun b hb=>.inl hb),fun b hb=> ?_,fun b o hb=> ?_,fun b o v hv=>q5 b o v (h5 b o v hv)⟩,q2.mono fun b hb=>.inr hb,q3,q4,q5⟩⟩
  ·have e:(fun b=>(O0 b∨O b)∨O' b)=fun b=>O0 b∨(O b∨O' b):=by funext b;exact propext or_assoc
   rw[← e];exact q1
  ·rcases hb with hb | hb
   ·exact h3 b hb
   ·exact Nat.le_trans h2.size (q3 b hb)
  ·rw[q4 b o (Nat.lt_of_lt_of_le hb h2.size)];exact h4 b o hb
def J2(J:JT)(p:Nat)(Hc0:HV):JT:=fun q O Hc w=>∃k,q=some k∧J (some (p+k)) O Hc w∧HV.le Hc0 Hc
theorem J2.ok(hJ:COk P gl fv xs J){g:Nat}{a3:List AV}{us:Array Value}{ys:List (List AV)}{p:Nat}{Hc0:HV}(hl:a3.length=us.size)(hr:∀(j:Nat) (c:AV) (v:Value),a3[j]? =some c→us[j]? =some v→RelI Hc0 c v)
  (hg:∀k y,ys[k]? =some y→CF P gl fv xs g (y++a3) (p+k) (p+k+1)):COk P gl (.func (.func g) #[] us) ys (J2 J p Hc0) where
 base:=
  {sat:=fun q O Hc w ⟨k,_,h,_⟩=>hJ.base.sat _ _ _ _ h
   low:=fun q O Hc w ⟨k,_,h,_⟩=>hJ.base.low _ _ _ _ h
   dis:=fun q O Hc w ⟨k,_,h,_⟩=>hJ.base.dis _ _ _ _ h
   gls:=fun q O Hc w ⟨k,_,h,_⟩=>hJ.base.gls _ _ _ _ h
   gv:=fun q O Hc w ⟨k,_,h,_⟩=>hJ.base.gv _ _ _ _ h
   own:=fun q O Hc w w' ⟨k,e,h,h2⟩ hb=>⟨k,e,hJ.base.own _ _ _ _ _ h hb,h2⟩
   pub:=fun q O Hc w H ⟨k,e,h,h2⟩ hs hk=>⟨k,e,hJ.base.pub _ _ _ _ H h hs hk,fun b o v hv=>Cq b o v (h2 b o v hv)⟩
   round:=fun k O Hc w x vs _ hx=>by simp at hx}
 call k O Hc w x vs h hx hxl hxr:=by
  obtain⟨k',e,h,h2⟩:=h;cases e;refine⟨g,us,rfl,?_⟩;have a7:=hJ.base.low _ _ _ _ h;have a9:JIn J O Hc w (some (p+k)) (fun _=>False) Hc w:=⟨by
   have e:(fun b=>O b∨False)=O:=by funext b;simp
   rw[e];exact h,Qa.refl _ _,fun _ h=>h.elim,fun _ _ _=>rfl,.refl _⟩
  refine((hg k x hx).ok _ (hJ.inn (Hc0:=Hc) (w0:=w) a7) Hc w (vs++us) a9 (by simp[hxl,hl]) fun j c v hc hv=> ?_).mono fun e w' ⟨v,O',Hc',e1,e2,q1,q2,q3,q4,q5⟩=>⟨v,O',Hc',e1,e2,⟨k+1,rfl,q1,fun b o v hv=>q5 b o v (h2 b o v hv)⟩,q2,q3,q4,q5⟩
  rw[List.getElem?_append] at hc;rw[Array.getElem?_append] at hv;split at hc
  ·rename_i hj;rw[if_pos (by omega)] at hv
   exact hxr j c v hc hv
  ·rename_i hj;rw[if_neg (by omega)] at hv
   exact(hr _ c v hc (by rw[hxl];exact hv)).mono h2
def cv1(ev:Operand→AV)(op:Op):Option (Value×List AV):=
 match op with
 | .call c=>match c.callee with
  | .value x=>match ev x with
   | .val v=>some (v,c.args.toList.map ev)
   |_=>none
  |_=>none
 |_=>none
def Rn:List AV→Option (List AV×Nat×List AV)
 | []=>none
 |a::r=>match r with
  | []=>match a with
   | .fn g caps=>match caps with
    | []=>none
    |c::cs=>some ([],g,c::cs)
   |_=>none
  |b::r'=>match Rn (b::r') with
   |some (i,g,caps)=>some (a::i,g,caps)
   |none=>none
theorem TR:∀ {l i:List AV} {g:Nat} {a3:List AV},Rn l=some (i,g,a3)→l=i++[.fn g a3]
 | [],_,_,_,h=>by cases h
 | [a],i,g,a3,h=>by
  cases a with
  |fn g' cs=>
   cases cs with
   |nil=>cases h
   |cons c cs=>cases h;rfl
  |_=>cases h
 |a::b::r,i,g,a3,h=>by
  simp only[Rn] at h;split at h
  ·rename_i i' g' a4 hc;cases h;rw[TR hc];rfl
  ·cases h
def cstep(P:Program)(gl:Nat→AV)(ch0:Qm)(wf:WF)(hs:QF)(fv:Value)(xs:List (List AV))(o:Oper)(p:Nat)(st:St)(K:Nat→St→Prop):Prop:=
 match Vd o.op with
 |true=>match cv1 (st.ev gl) o.op with
  |some (v,args)=>match optL (tree (fun _=>none) false 12) args with
   |some ts=>v=fv∧xs[p]? =some ts∧K (p+1) (st.putO o.dst (.tup []))
   |none=>False
  |none=>match XM (st.ev gl) o.op with
   |some (f,args)=>match args.any isVal with
    |true=>match optL (tree (fun _=>none) false 12) args with
     |some ts=>∃m,CF P gl fv xs f ts p m∧K m (st.putO o.dst (.tup []))
     |none=>False
    |false=>match Rn args with
     |some _=>match optL (tree (fun _=>none) false 12) args with
      |some ts=>match Rn ts with
       |some (i,g,caps)=>∃ys,(∀k y,ys[k]? =some y→CF P gl fv xs g (y++caps) (p+k) (p+k+1))∧(∀g' a3,CF P gl (.func (.func g') #[] a3) ys f (i++[.val (.func (.func g') #[] a3)]) 0 ys.length)∧K (p+ys.length) (st.putO o.dst (.tup []))
       |none=>False
      |none=>False
     |none=>NP P gl ch0 wf hs o st (K p)
   |none=>False
 |false=>NP P gl ch0 wf hs o st (K p)
def cseq(P:Program)(gl:Nat→AV)(ch0:Qm)(wf:WF)(hs:QF)(fv:Value)(xs:List (List AV))(all:List Oper):List Oper→Nat→St→(Nat→St→Prop)→Prop
 | [],p,st,K=>K p st
 |o::r,p,st,K=>match QU o.dst st.n with
  |true=>match DY o (gval all o st) with
   |some true=>cstep P gl ch0 wf hs fv xs o p st (fun p s=>cseq P gl ch0 wf hs fv xs all r p s K)
   |some false=>cseq P gl ch0 wf hs fv xs all r p (st.putO o.dst (.tup [])) K
   |none=>False
  |false=>False
structure CO (x:Exit×List AV) (m:Nat) (e:Exit) (p:Nat) (vs:List AV) (bs:List Box):Prop where
 ok:bs=[]∧e=x.1∧p=m∧vs=x.2
structure CL (P:Program) (gl:Nat→AV) (fv:Value) (xs:List (List AV)) (n:Nat) (c:Code) (ks:List Nat) (vs:List AV) (bs:List Box) (p:Nat) (kx:List Nat) (x:Exit×List AV) (m:Nat):Prop where
 ok:∀J,COk P gl fv xs J→∀(a:Act) (w:World),Fr gl J (some p) (Z5 n ks vs bs) a.tmps w→wpL P none 0 c (fun e a' w'=>∃st',(e=x.1∧st'=Z5 n kx x.2 [])∧a'.defers=a.defers∧Fr gl J (some m) st' a'.tmps w') a w
def Dq(P:Program)(gl:Nat→AV)(ch0:Qm)(wf:WF)(hs:QF)(js:List (Nat×JH))(fv:Value)(xs:List (List AV)):Nat→Code→Nat→St→(Exit→Nat→St→Prop)→Prop
 |0,_,_,_,_=>False
 |k+1,c,p,st,K=>match c with
  | .skip=>K .normal p st
  | .label _=>K .normal p st
  | .exit id=>K (.exit id) p st
  | .ret=>K .ret p st
  | .region id ops draw=>match draw with
   |true=>match Li ops.toList with
    |nf=>wpre hs id st (fun st=>Am P gl ch0 hs ops.toList st.nx nf (st.bump ops.toList.length) (fun s=>HJ hs (ops.toList.take nf) s (fun s=>cseq P gl ch0 wf hs fv xs ops.toList (ops.toList.drop nf) p s (K .normal))))
   |false=>cseq P gl ch0 wf hs fv xs ops.toList ops.toList p st (K .normal)
  | .seq a b=>Dq P gl ch0 wf hs js fv xs k a p st (fun e p s=>match U3 e with
    |true=>Dq P gl ch0 wf hs js fv xs k b p s K
    |false=>K e p s)
  | .cond c a b=>match st.ev gl c with
   | .bool t=>match t with
    |true=>Dq P gl ch0 wf hs js fv xs k a p st K
    |false=>Dq P gl ch0 wf hs js fv xs k b p st K
   |_=>False
  | .block id c=>Dq P gl ch0 wf hs js fv xs k c p st (fun e p s=>match exIs e id with
   |true=>K .normal p s
   |false=>K e p s)
  | .loop c=>match lkJ js (U7 c) with
   |some h=>match h with
    | ⟨ks,kb,kx,x,_⟩=>YQ kb st (fun s=>Jj [] ks kb s (fun vs bs=>∃m,CL P gl fv xs st.n c ks vs bs p kx x m∧K x.1 m (Z5 st.n kx x.2 [])))
   |none=>False
  |_=>False
variable {ch0 : Qm} {wf : WF} {hs : QF} {js : List (Nat × JH)}
theorem Hh{o:Oper}{a:Act}{w:World}{f:Nat}{vs:Array Value}{Qe:Ending→World→Prop}{next:Act→World→Prop}{Q:Exit→Act→World→Prop}{c:Call}(ho:o.op= .call c)(a7:(execOp a.eval o).run P w=(callFunc f vs).run P w)(a5:Ans P f vs w Qe)
  (a4:∀e w',Qe e w'→∃v,e=Ending.returned v∧next (a.put o.dst v) w'):o.wpIn (FW none) 0 P a w next Q:=by
 refine⟨fun _ _=>trivial,?_⟩
 rw[Oper.semAt_eq _ _ _ (fun c e=>by rw[ho] at e;cases e),a7]
 rcases a5 with⟨a6,a8⟩ | ⟨v,w',hv,hq⟩
 ·rw[a6 vs w];refine⟨(fun hh=>by simp[FW] at hh),Dp (a8.mono fun e w' hp=> ?_)⟩
  obtain⟨v,rfl,a3⟩:=a4 e w' hp;exact a3
 ·rw[hv];obtain⟨v',he,a3⟩:=a4 _ w' hq;cases he;exact a3
theorem AZ(h0:ch0.Ok P gl)(bc:WF.Ok P gl wf)(hJ:COk P gl fv xs J){o:Oper}{p:Nat}{st:St}{K:Nat→St→Prop}{a:Act}{w:World}(hd:QU o.dst st.n=true)(hw:cstep P gl ch0 wf hs fv xs o p st K)(hf:Fr gl J (some p) st a.tmps w)(next:Act→World→Prop)(Q:Exit→Act→World→Prop)
  (hn:∀a' w' p' st',K p' st'→a'.defers=a.defers→Fr gl J (some p') st' a'.tmps w'→next a' w'):o.wpIn (FW none) 0 P a w next Q:=by
 obtain⟨O,Hc,m,H,hr,a8,hj⟩:=hf.ex;have ab:NP P gl ch0 wf hs o st (K p)→o.wpIn (FW none) 0 P a w next Q:=fun hw=>
  I5 h0 bc hr hd hw none 0 next Q fun a' w' m' H' st' hk b5 hb b9=>hn a' w' p st' hk b5 (Fr.moved hJ.base hj hb (fun _ h=>h) (fun _ _ _=>rfl) b9)
 have af:=hJ.base.low _ _ _ _ hj;have ar:JIn J O Hc w (some p) (fun _=>False) Hc w:=⟨by
  have e:(fun b=>O b∨False)=O:=by funext b;simp
  rw[e];exact hj,Qa.refl _ _,fun _ h=>h.elim,fun _ _ _=>rfl,.refl _⟩
 have ai:∀q,K q (st.putO o.dst (.tup []))→∀(e:Ending) (w':World),(∃v O' Hc',e=Ending.returned v∧(∀H,RelI H (.tup []) v)∧JIn J O Hc w (some q) O' Hc' w')→∃v,e=Ending.returned v∧next (a.put o.dst v) w':=fun q hK e w' ao=>by
  obtain⟨v,O',Hc',rfl,ay,g1,g2,g3,g4,g5⟩:=ao;refine⟨v,rfl,hn _ _ _ _ hK (ZL _ _ _) ?_⟩;obtain⟨O2,Hc2,m2,H2,ba,au,b7⟩:=(Fr.turned hJ.base hr a8 g1 g2 g3 g4 g5).ex;exact⟨O2,Hc2,m2,H2,ba.putO hd (.imm _ _ (ay _)),au,b7⟩
 unfold cstep at hw;split at hw
 ·rename_i hc;split at hw
  ·rename_i v args hy;split at hw
   ·rename_i ts aa;obtain⟨rfl,hx,hK⟩:=hw;unfold cv1 at hy;split at hy
    ·rename_i c ho;split at hy
     ·rename_i x b4;split at hy
      ·rename_i v1 be;cases hy;have b1:=hr.ev x;rw[be] at b1;have ah:=b1.val_inv;have am:=WC hr c.args.toList;obtain⟨a7,a5⟩:=Nk (vs:=c.args.map a.eval) (by simp) (fun j y v hy hv=>am.2 j y v hy (by simpa using hv)) aa
       obtain⟨g,us,e,hA⟩:=hJ.call _ _ _ _ _ _ hj hx a7 (fun j t v ht hv=>(a5 j t v ht hv).mono a8)
       rw[e] at ah;refine Hh ho (f:=g) (vs:=c.args.map a.eval++us) ?_ hA (ai _ hK);unfold execOp;simp only[ho,resolve,b4,Sem.run_bind,ah,Deferred.ofValue,Sem.run_pure,Result.andThen_ok,invoke,Array.empty_append]
      ·cases hy
     ·cases hy
    ·cases hy
   ·cases hw
  ·split at hw
   ·rename_i f args ad;obtain⟨vs,ag,hl,az⟩:=LA hr ad;obtain⟨c,x,bf,ho,_⟩:=Uw ad;split at hw
    ·split at hw
     ·rename_i ts aa;obtain⟨q,aj,hK⟩:=hw;obtain⟨a7,a5⟩:=Nk hl az aa;exact Hh ho ag (aj.ok _ (hJ.inn (Hc0:=Hc) (w0:=w) af) Hc w vs ar a7 (fun j t v ht hv=>(a5 j t v ht hv).mono a8)) (ai _ hK)
     ·cases hw
    ·split at hw
     ·split at hw
      ·rename_i ts aa;split at hw
       ·rename_i i g a4 b3;obtain⟨ys,hg,aj,hK⟩:=hw;obtain⟨a7,a5⟩:=Nk hl az aa;have b0:=TR b3;subst b0;have bb:vs.size=i.length+1:=by rw[← a7];simp
        obtain⟨u,hu⟩:∃u,vs[i.length]? =some u:=⟨vs[i.length]'(by omega),Array.getElem?_eq_getElem (by omega)⟩
        have b6:RelI Hc (.fn g a4) u:=(a5 i.length _ u (by simp) hu).mono a8
        obtain⟨us,rfl,hul,hur⟩:∃us,u= .func (.func g) #[] us∧a4.length=us.size∧∀(j:Nat) (c:AV) (v:Value),a4[j]? =some c→us[j]? =some v→RelI Hc c v:=by
         cases b6 with
         |fn _ _ vs h hc=>exact⟨vs,rfl,h,hc⟩
        have b2:COk P gl (.func (.func g) #[] us) ys (J2 (JIn J O Hc w) p Hc):=J2.ok (hJ.inn (Hc0:=Hc) (w0:=w) af) hul hur fun k y hy=>hg k y hy
        refine Hh ho ag ((aj g us).ok _ b2 Hc w vs ⟨0,rfl,ar,.refl _⟩ (by simp[bb]) fun j t v ht hv=> ?_) fun e w' ⟨v,O',Hc',e1,e2,k,e3,e4,_⟩=>ai _ hK e w' ⟨v,O',Hc',e1,e2,by cases e3;exact e4⟩
        rw[List.getElem?_append] at ht;split at ht
        ·rename_i hj;exact(a5 j t v (by rw[List.getElem?_append_left hj];exact ht) hv).mono a8
        ·rename_i hj;have b8:j=i.length:=by
          rcases Nat.eq_or_lt_of_le (Nat.le_of_not_lt hj) with e | e
          ·exact e.symm
          ·rw[List.getElem?_eq_none (by simp;omega)] at ht;cases ht
         subst b8;simp at ht;subst ht;rw[hu] at hv;cases hv;exact .val _
       ·cases hw
      ·cases hw
     ·exact ab hw
   ·cases hw
 ·exact ab hw
theorem O4(h0:ch0.Ok P gl)(a5:WF.Ok P gl wf)(hJ:COk P gl fv xs J){all:List Oper}{d0:List Deferred}{K:Nat→St→Prop}{Q:Exit→Act→World→Prop}
  (hQ:∀(p:Nat) (sF:St) (a:Act) (w:World),K p sF→a.defers=d0→Fr gl J (some p) sF a.tmps w→Q .normal a w):
  ∀(a3 r:List Oper) (p:Nat) (st:St) (a:Act) (w:World),all=a3++r→cseq P gl ch0 wf hs fv xs all r p st K→a.defers=d0→Fr gl J (some p) st a.tmps w→wpOpsIn (FW none) 0 P all.toArray Q (List.range' a3.length r.length) a w
 |a3,[],p,st,a,w,_,hk,hd,hf=>hQ p st a w hk hd hf
 |a3,o::r,p,st,a,w,he,hk,hd,hf=>by
  simp only[List.length_cons,List.range'_succ,wpOpsIn];have ho:all.toArray[a3.length]? =some o:=by rw[List.getElem?_toArray,he,List.getElem?_append_right (Nat.le_refl _)];simp
  simp only[ho];have ih:=O4 h0 a5 hJ (all:=all) hQ (a3++[o]) r;simp only[List.length_append,List.length_cons,List.length_nil,Nat.zero_add,List.append_assoc,List.singleton_append] at ih;simp only[cseq] at hk;obtain⟨O,Hc,m,H,hr,aa,hj⟩:=hf.ex;split at hk
  ·rename_i a4;split at hk
   ·rename_i hg;rw[if_pos (Xc hr hg)];exact AZ h0 a5 hJ a4 hk hf _ _ fun a' w' p' s hs a6 a7=>ih p' s a' w' he hs (a6.trans hd) a7
   ·rename_i hg;rw[if_neg (by rw[Xc hr hg];simp)]
    exact⟨fun _ _=>trivial,ih _ _ _ w he hk ((ZL _ _ _).trans hd) ⟨O,Hc,m,H,hr.putO a4 (.tup [] #[] rfl (fun j c v hj=>by simp at hj)),aa,hj⟩⟩
   ·cases hk
  ·cases hk
theorem F0(h0:ch0.Ok P gl)(am:WF.Ok P gl wf)(hJ:COk P gl fv xs J){all:List Oper}(af:G3 all=true){nf:Nat}(a8:∀i,nf≤i→i<all.length→∀j,j<i→((Xx all []).getD i 0).testBit j=true){d0:List Deferred}{K:Nat→St→Prop}{Q:Exit→Act→World→Prop}
  (hQ:∀(p:Nat) (sF:St) (a:Act) (w:World),K p sF→a.defers=d0→Fr gl J (some p) sF a.tmps w→Q .normal a w):
  ∀(d k:Nat) (a3:Array Bool) (p:Nat) (st:St) (a:Act) (w:World),nf≤k→k+d=all.length→a3.size=all.length→(∀j,j<k→a3.getD j false=true)→(∀j,k≤j→a3.getD j false=false)→cseq P gl ch0 wf hs fv xs all (all.drop k) p st K→a.defers=d0→Fr gl J (some p) st a.tmps w→wpAnyIn (FW none) 0 P .any all.toArray Q d a3 a w
 |0,k,a3,p,st,a,w,_,hkd,hs',h1,_,hk,hd,hf=>by
  rw[List.drop_eq_nil_of_le (by omega)] at hk
  exact⟨CJ hs' fun j hj=>h1 j (by omega),hQ p st a w hk hd hf⟩
 |d+1,k,a3,p,st,a,w,hnk,hkd,hs',h1,h2,hk,hd,hf=>by
  have ad:k<all.length:=by omega
  obtain⟨o,ho⟩:∃o,all[k]? =some o:=⟨all[k],List.getElem?_eq_getElem ad⟩;have ab:all.drop k=o::all.drop (k+1):=by
   rw[List.drop_eq_getElem_cons ad];rw[List.getElem?_eq_getElem ad] at ho;cases ho;rfl
  rw[ab] at hk;have ih:=F0 h0 am hJ af a8 hQ d (k+1) (a3.setIfInBounds k true);have aa:∀j,j<k+1→(a3.setIfInBounds k true).getD j false=true:=fun j hj=>by
   by_cases e:j=k;·subst e;simp[Array.getD_eq_getD_getElem?,show j<a3.size by omega]
   ·rw[getD_set_ne false (Ne.symm e)];exact h1 j (by omega)
  have a5:∀j,k+1≤j→(a3.setIfInBounds k true).getD j false=false:=fun j hj=>by
   rw[getD_set_ne false (by omega)];exact h2 j (by omega)
  refine⟨fun a7=> ?_,fun i hi=> ?_⟩
  ·exfalso;have:k∈Region.ready .any all.toArray a3:=by
    rw[mem_ready];exact⟨by rw[Vr true (by omega)];exact h2 k (Nat.le_refl _),o,by rw[List.getElem?_toArray];exact ho,fun e he ao=>h1 e.on ((KC af _ o ho).before e he ao)⟩
   rw[a7] at this;cases this
  ·rw[mem_ready] at hi;obtain⟨ac,o',a4,ak⟩:=hi;rw[List.getElem?_toArray] at a4;have ax:i<all.length:=(List.getElem?_eq_some_iff.1 a4).1;rw[Vr true (by omega)] at ac
   have aw:i=k:=by
    rcases Nat.lt_trichotomy i k with az | aq | au
    ·rw[h1 i az] at ac;cases ac
    ·exact aq
    ·exfalso;have ai:N6 all fun q=>a3.getD q false || q==i:=fun q o2 ae a6 e he ah=>by
      by_cases hqi:q=i
      ·subst hqi;rw[a4] at ae;cases ae;simp only[ak e he ah,Bool.true_or]
      ·have b1:(q==i)=false:=by simpa using hqi
       have ba:q<k:=by
        rcases Nat.lt_or_ge q k with hl | hg
        ·exact hl
        ·have a6:(a3.getD q false || q==i)=true:=a6
         rw[h2 q hg,b1] at a6;cases a6
       have:=(KC af q o2 ae).before e he ah;simp only[h1 e.on (by omega),Bool.true_or]
     have:=G7 ai i k (a8 i (by omega) ax k au) (by simp)
     have b0:(k==i)=false:=by simp;omega
     rw[b0,h2 k (Nat.le_refl _)] at this;cases this
   subst aw;rw[ho] at a4;cases a4;simp only[cseq] at hk;obtain⟨O,Hc,m,H,hr,ay,hj⟩:=hf.ex;split at hk
   ·rename_i a9;unfold wpOpIn;simp only[List.getElem?_toArray,ho];split at hk
    ·rename_i hg;rw[if_pos (Xc hr hg)];exact AZ h0 am hJ a9 hk hf _ _ fun a' w' p' s b3 ap ar=>ih p' s a' w' (by omega) (by omega) (by simp[hs']) aa a5 b3 (ap.trans hd) ar
    ·rename_i hg;rw[if_neg (by rw[Xc hr hg];simp)]
     exact⟨fun _ _=>trivial,ih _ _ _ w (by omega) (by omega) (by simp[hs']) aa a5 hk ((ZL _ _ _).trans hd) ⟨O,Hc,m,H,hr.putO a9 (.tup [] #[] rfl (fun j c v hj=>by simp at hj)),ay,hj⟩⟩
    ·cases hk
   ·cases hk
theorem EG(h0:ch0.Ok P gl)(ag:WF.Ok P gl wf)(aa:P.follows .mixedOrders=true)(hJ:COk P gl fv xs J):∀(k:Nat) (c:Code) (p:Nat) (st:St) (K:Exit→Nat→St→Prop),Qx c=true→Qr c=false→Dq P gl ch0 wf hs js fv xs k c p st K→
  ∀(a:Act) (w:World),Fr gl J (some p) st a.tmps w→c.wpIn (FW none) 0 P (fun e a' w'=>∃p' st',K e p' st'∧a'.defers=a.defers∧Fr gl J (some p') st' a'.tmps w') a w
 |0,_,_,_,_,_,_,h=>h.elim
 |k+1,c,p,st,K,hok,hrg,h=>by
  have ih:=EG h0 ag aa hJ k;intro a w hf;cases c with
  |skip=>exact wpIn_skip ⟨p,st,h,rfl,hf⟩
  |label l=>exact wpIn_label ⟨p,st,h,rfl,hf⟩
  |exit id=>exact wpIn_exit ⟨p,st,h,rfl,hf⟩
  |ret=>exact wpIn_ret ⟨p,st,h,rfl,hf⟩
  |region id ops draw=>
   simp only[Dq] at h;cases draw with
   |true=>
    simp only[Qx,Bool.not_true,Bool.false_or,Bool.and_eq_true] at hok;simp only at h;obtain⟨O,Hc,m,H,hr,ak,hj⟩:=hf.ex;obtain⟨am,a9⟩:=MT (ms:=Xx ops.toList []) ops.toList.length;obtain⟨be,ac,h⟩:=OO (gl:=gl) h;obtain⟨m,H,hr⟩:=ac.2 _ _ _ _ _ _ _ hr;obtain⟨cb,F,s,au,hK,ap,hF⟩:=P5 h0 h;obtain⟨s1,hK,af⟩:=I3 (gl:=gl) hK;have:=Mk au aa hok.1 (id:=id) (nf:=Li ops.toList) (ro:=none) (n:=0) (Q:=fun e a' w'=>∃p' st',K e p' st'∧a'.defers=a.defers∧Fr gl J (some p') st' a'.tmps w') am a9 hr ap hF fun a8 a' w' m' H' ax ay az hd hb b2=>
     F0 h0 ag hJ hok.1 a9 (d0:=a.defers) (fun p s a' w' hk hd hf=>⟨p,s,hk,hd,hf⟩) _ (Li ops.toList) a8 p s1 a' w' (Nat.le_refl _) (Nat.add_sub_cancel' am) ax ay az hK hd (Fr.moved hJ.base hj hb (fun _ h=>h) (fun _ _ _=>rfl) (af.rel _ _ _ _ _ _ _ b2))
    simpa using this
   |false=>
    refine wpIn_region ?_;have:=O4 h0 ag hJ (hs:=hs) (all:=ops.toList) (d0:=a.defers) (Q:=fun e a' w'=>∃p' st',K e p' st'∧a'.defers=a.defers∧Fr gl J (some p') st' a'.tmps w') (fun p s a' w' hk hd hf=>⟨p,s,hk,hd,hf⟩) [] ops.toList p st a w rfl h rfl hf
    simpa[List.range_eq_range'] using this
  |seq x y=>
   simp only[Dq] at h;simp only[Qx,Bool.and_eq_true] at hok;simp only[Qr,Bool.or_eq_false_iff] at hrg;refine wpIn_seq (wpIn_mono (ih x p st _ hok.1 hrg.1 h a w hf) fun e a' w' hp=> ?_)
   obtain⟨p',s,hq,hd,a6⟩:=hp;split at hq
   ·rename_i he;obtain rfl:=Gk he;refine wpIn_mono (ih y p' s K hok.2 hrg.2 hq a' w' a6) fun e a2 w2 b0=> ?_
    obtain⟨p2,s2,b1,aw,ad⟩:=b0;exact⟨p2,s2,b1,aw.trans hd,ad⟩
   ·rename_i he;have:=Cz he;cases e with
    |normal=>exact absurd rfl this
    |_=>exact⟨p',s,hq,hd,a6⟩
  |cond c x y=>
   simp only[Dq] at h;simp only[Qx,Bool.and_eq_true] at hok;simp only[Qr,Bool.or_eq_false_iff] at hrg;obtain⟨O,Hc,m,H,hr,ak,hj⟩:=hf.ex;split at h
   ·rename_i t ht;have hv:=hr.ev c;rw[ht] at hv;cases t with
    |true=>exact wpIn_cond hv.bool_inv (ih x p st K hok.1 hrg.1 h a w hf)
    |false=>exact wpIn_cond hv.bool_inv (ih y p st K hok.2 hrg.2 h a w hf)
   ·cases h
  |block id c=>
   simp only[Dq] at h;simp only[Qx] at hok;simp only[Qr] at hrg;refine wpIn_block (wpIn_mono (ih c p st _ hok hrg h a w hf) fun e a' w' hp=> ?_)
   obtain⟨p',s,hq,hd,a6⟩:=hp;split at hq
   ·rename_i he;obtain rfl:=F7 he;simp only[Exit.inBlock,if_true];exact⟨p',s,hq,hd,a6⟩
   ·rename_i he;cases e with
    |exit i=>
     simp only[Exit.inBlock,if_neg (F6 he)];exact⟨p',s,hq,hd,a6⟩
    |_=>exact⟨p',s,hq,hd,a6⟩
  |loop c=>
   simp only[Dq] at h;split at h
   ·rename_i h2 _;obtain⟨ks,kb,kx,x,y⟩:=h2;simp only at h;obtain⟨s1,aj,h⟩:=Xj (gl:=gl) h;obtain⟨O,Hc,m,H,hr,ak,hj⟩:=hf.ex;obtain⟨m1,H1,b3⟩:=aj.2 _ _ _ _ _ _ _ hr;obtain⟨vs,bs,m2,⟨q,hL,hK⟩,ao⟩:=Vu b3 rfl h;rw[aj.1] at ao;have ad:=Fr.moved hJ.base hj (Qa.refl _ w) (fun _ h=>h) (fun _ _ _=>rfl) ao
    exact(wpL.mono (hL.ok J hJ a w ad) fun e a' w' ⟨s',⟨e1,e2⟩,d,f⟩=>⟨q,s',by subst e1;subst e2;exact hK,d,f⟩).loop
   ·exact h.elim
  |_=>exact h.elim
structure NxtC (P:Program) (gl:Nat→AV) (fv:Value) (xs:List (List AV)) (n:Nat) (c:Code) (ks:List Nat) (kx:List Nat) (x:Exit×List AV) (m:Nat) (vs:List AV) (bs:List Box) (p:Nat):Prop where
 ok:∃vs' bs',LeVs vs vs'∧LeBs bs bs'∧CL P gl fv xs n c ks vs' bs' p kx x m
def cround(P:Program)(gl:Nat→AV)(ch0:Qm)(wf:WF)(hs:QF)(js:List (Nat×JH))(fv:Value)(xs:List (List AV))(k n:Nat)(c:Code)(ks:List Nat)(kb:List KB)(vs:List AV)(bs:List Box)(p:Nat)(kx:List Nat)(x:Exit×List AV)(m:Nat)(N:List AV→List Box→Nat→Prop):Prop:=
 Dq P gl ch0 wf hs js fv xs k c p (Z5 n ks vs bs) (fun e p s=>match Nat.beq s.n n with
  |true=>match U3 e with
   |true=>YQ kb s (fun s=>Jj [] ks kb s (fun vs bs=>N vs bs p))
   |false=>Jj [] kx [] s (fun vs bs=>CO x m e p vs bs)
  |false=>False)
theorem CL.step(h0:ch0.Ok P gl)(aj:WF.Ok P gl wf)(a9:P.follows .mixedOrders=true){k n:Nat}{c:Code}(af:Qx c=true)(ai:Qr c=false){ks:List Nat}{kb:List KB}{vs:List AV}{bs:List Box}{p:Nat}{kx:List Nat}{x:Exit×List AV}{m:Nat}
  (hw:cround P gl ch0 wf hs js fv xs k n c ks kb vs bs p kx x m (NxtC P gl fv xs n c ks kx x m)):CL P gl fv xs n c ks vs bs p kx x m:=by
 refine⟨fun J hJ a w hf=>wpL.round ?_⟩
 refine wpIn_mono (EG h0 aj a9 hJ k c p _ _ af ai hw a w hf) fun e a2 w2 hp=> ?_
 obtain⟨p2,s,hq,a7,ae⟩:=hp;split at hq
 ·rename_i hn;have hn:=Nat.eq_of_beq_eq_true hn;obtain⟨O,Hc,m1,H,hr,b0,hj⟩:=ae.ex;split at hq
  ·rename_i he;obtain rfl:=Gk he;obtain⟨s2,hc,hq⟩:=Xj (gl:=gl) hq;obtain⟨m3,H3,ag⟩:=hc.2 _ _ _ _ _ _ _ hr;obtain⟨ak,ad,m4,hL,a4⟩:=Vu ag rfl hq;rw[hc.1,hn] at a4;obtain⟨b7,aq,lv,lb,hL⟩:=hL.ok;obtain⟨m5,H5,ah⟩:=(GA (gl:=gl) (n:=n) (ks:=ks) lv lb).2 _ _ _ _ _ _ _ a4;have a5:=Fr.moved hJ.base hj (Qa.refl _ w2) (fun _ h=>h) (fun _ _ _=>rfl) ah
   exact wpL.mono (hL.ok J hJ a2 w2 a5) fun e a3 w3 ⟨s',q,d,f⟩=>⟨s',q,d.trans a7,f⟩
  ·rename_i he;have:=Cz he;obtain⟨ak,ad,m4,hO,a4⟩:=Vu hr rfl hq;obtain⟨rfl,h1,h2,h3⟩:=hO.ok;rw[hn] at a4;have a5:=Fr.moved hJ.base hj (Qa.refl _ w2) (fun _ h=>h) (fun _ _ _=>rfl) a4
   subst h2;have a8:∃st',(e=x.1∧st'=Z5 n kx x.2 [])∧a2.defers=a.defers∧Fr gl J (some p2) st' a2.tmps w2:=⟨_,⟨h1,by rw[h3]⟩,a7,a5⟩
   cases e with
   |normal=>exact absurd rfl this
   |_=>exact a8
 ·cases hq
def cfun(P:Program)(gl:Nat→AV)(ch0:Qm)(wf:WF)(gd:Nat→Bool)(fl f:Nat)(hs:QF)(js:List (Nat×JH))(fv:Value)(xs:List (List AV))(args:List AV)(p m:Nat):Prop:=
 match gd f with
 |true=>match P.funcs[f]? with
  |some fn=>match fn.body with
   |some c=>match Nat.ble args.length fn.ntmps&& !Qr c with
    |true=>Dq P gl ch0 wf hs js fv xs fl c p ⟨fn.ntmps,YP 0 args,.nil,0⟩ (fun e p s=>match W9 e with
     |true=>match MH P s fn.results.toList with
      |some r=>match r with
       | .tup []=>p=m
       |_=>False
      |none=>False
     |false=>False)
    |false=>False
   |none=>False
  |none=>False
 |false=>False
theorem CF.of{gd:Nat→Bool}(h0:ch0.Ok P gl)(au:WF.Ok P gl wf)(hp:Gs P gd){fl f:Nat}{args:List AV}{p m:Nat}(hw:cfun P gl ch0 wf gd fl f hs js fv xs args p m):CF P gl fv xs f args p m:=by
 refine⟨fun J hJ Hc w vs hj hl a9=> ?_⟩
 unfold cfun at hw;split at hw
 ·rename_i hg;have a3:=hp.fn f hg;unfold okFn at a3;split at hw
  ·rename_i fn hf;rw[hf] at a3;simp only[Bool.and_eq_true,bne_iff_ne] at a3;obtain⟨ab,a3⟩:=a3;split at hw
   ·rename_i c aa;rw[aa] at a3;simp only at a3;split at hw
    ·rename_i a6;rw[Bool.and_eq_true,Bool.not_eq_true'] at a6;have aq:=a6.2;have a6:=Nat.le_of_ble_eq_true a6.1;refine .inl ⟨D5 hf (by simpa using ab) (by rw[aa];rfl),?_⟩
     have ad:=hJ.base.sat _ _ _ _ hj;have hh:RelH (fun _=>⟨0,0,0⟩) Hc (BO (fun _=>False) w) Hc gl (lkb .nil) 0 w:=
      {sat:=ad,old:=fun _ _ _=>rfl,low:=fun _ hk=>hk.1,fresh:=fun _ _=>QX _,box:=(fun _ _ hh=>by rw[QX] at hh;cases hh),sepR:=(fun _ _ hh=>by rw[QX] at hh;cases hh),injR:=(fun _ _ _ _ hh=>by rw[QX] at hh;cases hh),gl:=hJ.base.gls _ _ _ _ hj,ty:=(fun _ _ _ hh=>by rw[QX] at hh;cases hh),gv:=hJ.base.gv _ _ _ _ hj}
     have ap:RelS (fun _=>⟨0,0,0⟩) Hc (BO (fun _=>False) w) Hc gl [] ⟨fn.ntmps,YP 0 args,.nil,0⟩ (Act.mk (vs++Array.replicate (fn.ntmps - vs.size) Go.undef) []).tmps w:=by
      refine⟨hh,by simp;omega,fun k=> ?_,fun p hp=>by simp at hp⟩
      show RV Hc _ (lk .undef (YP 0 args) k) _;rw[D8,if_pos (Nat.zero_le _),Nat.sub_zero];cases hx:args[k]? with
      |none=>exact .imm _ _ (.undef _)
      |some x=>
       have hk:k<vs.size:=by rw[← hl];exact(List.getElem?_eq_some_iff.1 hx).1
       have hv:(vs++Array.replicate (fn.ntmps - vs.size) Go.undef).getD k Go.undef=vs[k]:=by
        rw[Array.getD_eq_getD_getElem?,Array.getElem?_append_left hk,Array.getElem?_eq_getElem hk];rfl
       rw[hv];exact .imm _ _ (a9 k x _ hx (Array.getElem?_eq_getElem hk))
     refine CallsIn.calls (F:=FW none) (n:=0) (callsIn_of_wp hf aa trivial (wpIn_mono (EG h0 au hp.mix hJ fl c p _ _ a3 aq hw _ w ⟨_,_,_,_,ap,.refl _,hj⟩) fun e a' w' hq=> ?_)) (fun k d hd=>by simp[FW] at hd)
     obtain⟨p',s,hK,hd,ak⟩:=hq;obtain⟨O,Hc',m',H',ao,aw,am⟩:=ak.ex;split at hK
     ·rename_i ai;split at hK
      ·rename_i r ac;split at hK
       ·subst hK;obtain⟨v,hv,ar⟩:=NX ao ac;have a7:∃v0 O' Hc',Ending.returned v= .returned v0∧(∀H,RelI H (.tup []) v0)∧J (some p') O' Hc' w':=⟨v,O,Hc',rfl,Ty ar rfl,am⟩;cases e with
        |normal=>exact⟨hd,v,hv,a7⟩
        |ret=>exact⟨hd,v,hv,a7⟩
        |_=>cases ai
       ·cases hK
      ·cases hK
     ·cases hK
    ·cases hw
   ·cases hw
  ·cases hw
 ·cases hw
end
end HY
end
section
namespace HY
open Go Go.RowKit
section
variable {P : Program} {gl : Nat → AV}
structure JV (gl:Nat→AV) (cs:Nat→List AV) (w:World) (B1:Nat→Prop) (H:HV) (rest:List (AV×Value)) (p:Option Nat) (O:Nat→Prop) (Hc:HV) (w':World):Prop where
 ex:∃(k:Nat) (C:Nat→Prop) (m':Nat→Lc) (H':HV),p=some k∧(∀b,O b∨C b→w.heap.size≤b∧b<w'.heap.size)∧(∀b,O b→∀o,H' b o=none)∧HV.le Hc H'∧(∀b o v,Hc b o=some v→B1 b∨C b)∧(∀b o,B1 b→H' b o=H b o)∧
  RelS m' H' (fun b=>B1 b∨O b∨C b) H' gl rest (Z5 0 [] [] [.cells 0 (cs k)]) #[] w'
 bel:Qa B1 w w'
 leH:HV.le H Hc
variable {cs : Nat → List AV} {w : World} {B1 : Nat → Prop} {H : HV} {rest : List (AV × Value)}
theorem JV.own(a7:∀b,B1 b→b<w.heap.size){p:Option Nat}{O:Nat→Prop}{Hc:HV}{w' aa:World}(h:JV gl cs w B1 H rest p O Hc w')(a3:Qa (BO O w') w' aa):JV gl cs w B1 H rest p (MG O w' aa) Hc aa:=by
 obtain⟨⟨k,C,m',H',h2,h3,h4,h5,h6,h7,h8⟩,a5,ae⟩:=h;have af:∀b,b<w.heap.size→¬O b:=fun b hb hO=>by have:=(h3 b (.inl hO)).1;omega
 have ad:∀b o v,H' b o=some v→BO O w' b:=fun b o v hv=>⟨KP h8.heap.sat hv,fun hO=>by rw[h4 b hO o] at hv;cases hv⟩
 have a8:∀id b,lkb (Z5 0 [] [] [.cells 0 (cs k)]).hp id=some b→Real b (m' id)→(m' id).g<w'.heap.size∧¬(B1 (m' id).g∨O (m' id).g∨C (m' id).g):=fun id b a4 hr=>⟨(h8.heap.sepR id b a4 hr).2.1,(h8.heap.sepR id b a4 hr).1⟩
 refine⟨⟨k,C,m',H',h2,fun b hb=> ?_,fun b hb o=> ?_,h5,h6,h7,?_⟩,a5.trans (a3.mono fun b hb=>⟨Nat.lt_of_lt_of_le (a7 b hb) a5.size,af b (a7 b hb)⟩),ae⟩
 ·rcases hb with(hb | hb) | hb
  ·exact⟨(h3 b (.inl hb)).1,Nat.lt_of_lt_of_le (h3 b (.inl hb)).2 a3.size⟩
  ·exact⟨Nat.le_trans a5.size hb.1,hb.2⟩
  ·exact⟨(h3 b (.inr hb)).1,Nat.lt_of_lt_of_le (h3 b (.inr hb)).2 a3.size⟩
 ·rcases hb with hb | hb
  ·exact h4 b hb o
  ·cases hh:H' b o with
   |none=>rfl
   |some v=>have:=KP h8.heap.sat hh;omega
 ·refine h8.world a3 ad (fun id b a4 hr=>⟨(a8 id b a4 hr).1,fun hO=>(a8 id b a4 hr).2 (.inr (.inl hO))⟩) (fun _ _ _=>rfl) (fun b hb=> ?_) (fun id b a4 hr hb=> ?_) (h8.heap.gv.to a3 fun b _ hb=> ?_)
  ·rcases hb with hb | (hb | hb) | hb
   ·have:=a7 b hb;have:=a3.size;have:=a5.size;omega
   ·exact Nat.lt_of_lt_of_le (h3 b (.inl hb)).2 a3.size
   ·exact hb.2
   ·exact Nat.lt_of_lt_of_le (h3 b (.inr hb)).2 a3.size
  ·obtain⟨x,y⟩:=a8 id b a4 hr;rcases hb with hb | (hb | hb) | hb
   ·exact y (.inl hb)
   ·exact y (.inr (.inl hb))
   ·have:=hb.1;omega
   ·exact y (.inr (.inr hb))
  ·rcases hb with hb | hb | hb
   ·exact .inl hb
   ·exact .inr (.inl (.inl hb))
   ·exact .inr (.inr hb)
theorem JV.pub(ae:∀b,B1 b→b<w.heap.size){p:Option Nat}{O:Nat→Prop}{Hc:HV}{w':World}{H2:HV}(h:JV gl cs w B1 H rest p O Hc w')(hs:HV.sat H2 w')(hk:∀b o v,H2 b o=some v→O b∨Hc b o=some v):JV gl cs w B1 H rest p (MB O H2) (unH Hc H2) w':=by
 obtain⟨⟨k,C,m',H',h2,h3,h4,h5,h6,h7,h8⟩,af,ai⟩:=h;have ab:∀b o v,unH H' H2 b o=some v→H' b o=some v∨(O b∧H2 b o=some v):=fun b o v hv=>by
  rcases LZ hv with e | ⟨e1,e2⟩
  ·exact .inl e
  ·rcases hk b o v e2 with hO | hc
   ·exact .inr ⟨hO,e2⟩
   ·rw[h5 b o v hc] at e1;cases e1
 have ag:∀id b,lkb (Z5 0 [] [] [.cells 0 (cs k)]).hp id=some b→Real b (m' id)→∀o,unH H' H2 (m' id).g o=none:=fun id b a5 hr o=>by
  obtain⟨x,y,z⟩:=h8.heap.sepR id b a5 hr;cases hh:unH H' H2 (m' id).g o with
  |none=>rfl
  |some v=>
   rcases ab _ _ _ hh with e | ⟨hO,_⟩
   ·rw[z o] at e;cases e
   ·exact absurd (.inr (.inl hO)) x
 have ah:=h8.know (H':=unH H' H2) (H0':=unH H' H2) Cq (OF h8.heap.sat hs) (fun _ _ _=>rfl) ag
 have a9:∀b,b<w.heap.size→¬O b:=fun b hb hO=>by have:=(h3 b (.inl hO)).1;omega
 have split:∀b,O b→MB O H2 b∨(O b∧∃o v,H2 b o=some v):=fun b hO=>by
  by_cases hx:∃o v,H2 b o=some v;·exact .inr ⟨hO,hx⟩
  ·exact .inl ⟨hO,HV.dom hx⟩
 refine⟨⟨k,fun b=>C b∨(O b∧∃o v,H2 b o=some v),m',unH H' H2,h2,fun b hb=> ?_,fun b hb o=> ?_,fun b o v hv=> ?_,fun b o v hv=> ?_,fun b o hb=> ?_,?_⟩,af,fun b o v hv=>Cq b o v (ai b o v hv)⟩
 ·rcases hb with hb | hb | hb
  ·exact h3 b (.inl hb.1)
  ·exact h3 b (.inr hb)
  ·exact h3 b (.inl hb.1)
 ·simp[unH,h4 b hb.1 o,hb.2 o]
 ·rcases LZ hv with e | ⟨_,e2⟩
  ·exact Cq b o v (h5 b o v e)
  ·rcases hk b o v e2 with hO | hc
   ·simp[unH,h4 b hO o,e2]
   ·exact Cq b o v (h5 b o v hc)
 ·rcases LZ hv with e | ⟨_,e2⟩
  ·rcases h6 b o v e with hb | hb
   ·exact .inl hb
   ·exact .inr (.inl hb)
  ·rcases hk b o v e2 with hO | hc
   ·exact .inr (.inr ⟨hO,o,v,e2⟩)
   ·rcases h6 b o v hc with hb | hb
    ·exact .inl hb
    ·exact .inr (.inl hb)
 ·have e1:H' b o=H b o:=h7 b o hb;cases hh:unH H' H2 b o with
  |none=>
   cases h9:H' b o with
   |none=>rw[← e1,h9]
   |some v=>rw[Cq b o v h9] at hh;cases hh
  |some v=>
   rcases ab _ _ _ hh with e | ⟨hO,e⟩
   ·rw[← e1,e]
   ·exact absurd hO (a9 b (ae b hb))
 ·refine ah.base (fun _ _ _=>rfl) (fun b hb=> ?_) (fun id b a5 hr hb=> ?_) (h8.heap.gv.sup fun b hb=> ?_)
  ·refine h8.heap.low b ?_;rcases hb with hb | hb | hb | hb
   ·exact .inl hb
   ·exact .inr (.inl hb.1)
   ·exact .inr (.inr hb)
   ·exact .inr (.inl hb.1)
  ·refine(h8.heap.sepR id b a5 hr).1 ?_;rcases hb with hb | hb | hb | hb
   ·exact .inl hb
   ·exact .inr (.inl hb.1)
   ·exact .inr (.inr hb)
   ·exact .inr (.inl hb.1)
  ·rcases hb with hb | hb | hb
   ·exact .inl hb
   ·rcases split b hb with hb | hb
    ·exact .inr (.inl hb)
    ·exact .inr (.inr (.inr hb))
   ·exact .inr (.inr (.inl hb))
theorem JV.ok(a3:∀b,B1 b→b<w.heap.size)(ac:∀g,RelI H (gl g) (.pointer (some ⟨g,0,none⟩)))(ab:∀g sz cs,gl g= .ip sz [.agg cs] 0 0→B1 g):JOk P gl 0 [] (JV gl cs w B1 H rest) where
 sat p O Hc w' h:=by
  obtain⟨⟨k,C,m',H',h2,h3,h4,h5,h6,h7,h8⟩,_,_⟩:=h;exact fun b o v hv=>h8.heap.sat b o v (h5 b o v hv)
 low p O Hc w' h b hb:=by
  obtain⟨⟨k,C,m',H',h2,h3,h4,h5,h6,h7,h8⟩,_,_⟩:=h;exact(h3 b (.inl hb)).2
 dis p O Hc w' h b hb o:=by
  obtain⟨⟨k,C,m',H',h2,h3,h4,h5,h6,h7,h8⟩,_,_⟩:=h;cases hh:Hc b o with
  |none=>rfl
  |some v=>rw[← h4 b hb o,h5 b o v hh]
 gls p O Hc w' h g:=(ac g).mono h.leH
 gv p O Hc w' h:=by
  obtain⟨⟨k,C,m',H',h2,h3,h4,h5,h6,h7,h8⟩,_,_⟩:=h;refine fun g sz cs hg=> ?_
  obtain⟨a,D,e,fr,x,y⟩:=h8.heap.gv g sz cs hg;exact⟨⟨WK x,fun hO=>by have:=(h3 g (.inl hO)).1;have:=a3 g (ab g sz cs hg);omega⟩,D,e,fr,x,y⟩
 own p O Hc w' w'' h hbl:=h.own a3 hbl
 pub p O Hc w' H2 h hs hk:=h.pub a3 hs hk
 round k O Hc w' x us h hx hxl hxr:=by simp at hx
theorem PuH.ofCF{f g:Nat}{init:List AV}{ys:List (List AV)}{cs:Nat→List AV}(hi:∀x∈init,∀H E v,RV H E x v→RelI H x v)
  (hg:∀k y,ys[k]? =some y→PuH P gl g (y++[.ptr 0 0 0]) [.cells 0 (cs k)] (.tup []) [.cells 0 (cs (k+1))])
  (hf:∀g' aq,CF P gl (.func (.func g') #[] aq) ys f (init++[.val (.func (.func g') #[] aq)]) 0 ys.length):PuH P gl f (init++[.fn g [.ptr 0 0 0]]) [.cells 0 (cs 0)] (.tup []) [.cells 0 (cs ys.length)]:=⟨fun m H B H0 rest w vs hh hl hv ah ap=>by
 have b8:vs.size=init.length+1:=by rw[← hl];simp
 obtain⟨u,hu⟩:∃u,vs[init.length]? =some u:=⟨vs[init.length]'(by omega),Array.getElem?_eq_getElem (by omega)⟩
 have b1:=hv init.length (.fn g [.ptr 0 0 0]) u (by simp) hu
 obtain⟨us,rfl,b9,ba⟩:=b1.fn_inv;obtain⟨pv,rfl⟩:∃pv,us= #[pv]:=by
  rcases us with⟨_ | ⟨a,_ | ⟨b,r⟩⟩⟩<;>simp at b9
  exact⟨a,rfl⟩
 have b6:=ba 0 (.ptr 0 0 0) pv rfl rfl;obtain⟨pr,rfl⟩:∃pr,rest=[(.ptr 0 0 0,pr)]:=by
  match rest,ah with
  | [(x,y)],e=>simp[G8] at e;subst e;exact⟨y,rfl⟩
  | [],e=>simp[G8] at e
  |_::_::_,e=>simp[G8] at e
 have b5:=ap _ (List.mem_singleton.2 rfl);have ac:(Q3 (lkb (hpOf 0 [.cells 0 (cs 0)])) m).loc 0 0=some (m 0):=Yd (by rw[UI];rfl)
 obtain rfl:pv=pr:=by
  obtain⟨a1,rfl,e1⟩:=b6.ptr_inv;obtain⟨a2,rfl,e2⟩:=b5.ptr_inv;rw[e1.2 _ ac,e2.2 _ ac]
 have am:lkb (hpOf 0 [.cells 0 (cs 0)]) 0=some (.cells 0 (cs 0)):=by rw[UI];rfl
 have af:∀id b,lkb (hpOf 0 [.cells 0 (cs 0)]) id=some b→id=0:=fun id b h=>by
  rw[UI] at h;cases id with
  |zero=>rfl
  |succ id=>simp at h
 obtain⟨s1,s2,s3⟩:=hh.sepR 0 _ am (Box.elder_real rfl _);have a5:∀b,B b→b<w.heap.size∧b≠(m 0).g:=fun b hb=>⟨hh.low b hb,fun e=>s1 (e▸hb)⟩
 have b3:∀g sz cs,gl g= .ip sz [.agg cs] 0 0→g<w.heap.size∧g≠(m 0).g:=fun g sz cs hg=>a5 g (hh.gv g sz cs hg).1
 have ak:GvOk gl (fun b=>b<w.heap.size∧b≠(m 0).g) w:=hh.gv.sup a5
 have b7:RelS m H (fun b=>(b<w.heap.size∧b≠(m 0).g)∨False∨False) H gl [(.ptr 0 0 0,pv)] (Z5 0 [] [] [.cells 0 (cs 0)]) #[] w:=
  ⟨hh.base (fun _ _ _=>rfl) (fun b hb=>by simp at hb;exact hb.1) (fun id b a8 hr hb=>by obtain rfl:=af id b a8;simp at hb) (ak.sup fun b hb=>.inl hb),rfl,fun k=>by
   have:(Z5 0 [] [] [.cells 0 (cs 0)]).get k=AV.undef:=by show lk AV.undef .nil k=_;exact IQ _ _
   rw[this];exact .imm _ _ (.undef _),ap⟩
 have hJ:COk P gl (.func (.func g) #[] #[pv]) ys (JV gl cs w (fun b=>b<w.heap.size∧b≠(m 0).g) H [(.ptr 0 0 0,pv)]):=
  {base:=JV.ok (fun b hb=>hb.1) hh.gl b3
   call:=fun k O Hc w1 x us hj hx bb bc=>by
    obtain⟨⟨k',C,m',H',h2,h3,h4,h5,h6,h7,h8⟩,a7,ao⟩:=hj;cases h2;refine⟨g,#[pv],rfl,?_⟩;have b0:=h8.heap;refine((hg k x hx).ok m' H' _ _ [(.ptr 0 0 0,pv)] w1 (us++ #[pv]) b0 (by simp[bb]) (fun j c v hc hv=> ?_) rfl h8.rest).mono fun e w2 ⟨v,m2,H2,e1,e2,e3,e4,e5⟩=> ?_
    ·rw[List.getElem?_append] at hc;rw[Array.getElem?_append] at hv;split at hc
     ·rename_i hj;rw[if_pos (by omega)] at hv
      exact .imm _ _ ((bc j c v hc hv).mono h5)
     ·rename_i hj;rw[if_neg (by omega)] at hv
      have h0:j - us.size=0:=by
       rcases Nat.eq_zero_or_pos (j - us.size) with e | e
       ·exact e
       ·rw[Array.getElem?_eq_none (by simp;omega)] at hv;cases hv
      rw[h0] at hv;rw[show j - x.length=0 by omega] at hc
      simp at hc hv;subst hc;subst hv;exact h8.rest _ (List.mem_singleton.2 rfl)
    ·have hold:∀b o,((b<w.heap.size∧b≠(m 0).g)∨O b∨C b)→H2 b o=H' b o:=fun b o hb=>e3.old b o hb
     refine⟨v,fun _=>False,Hc,e1,Ty e4 rfl,⟨⟨k+1,C,m2,H2,rfl,fun b hb=> ?_,fun b hb o=> ?_,fun b o v hv=> ?_,h6,fun b o hb=>(hold b o (.inl hb)).trans (h7 b o hb),?_⟩,a7.trans (e2.mono fun b hb=>.inl hb),ao⟩,e2.mono fun b hb=>.inr (.inl hb),fun b hb=>hb.elim,fun _ _ _=>rfl,.refl _⟩
     ·have a6:O b∨C b:=by simpa using hb
      exact⟨(h3 b a6).1,Nat.lt_of_lt_of_le (h3 b a6).2 e2.size⟩
     ·have a6:O b:=by simpa using hb
      rw[hold b o (.inr (.inl a6))];exact h4 b a6 o
     ·rw[hold b o ((h6 b o v hv).imp id .inr)];exact h5 b o v hv
     ·have e:(fun b=>(b<w.heap.size∧b≠(m 0).g)∨(O b∨False)∨C b)=fun b=>(b<w.heap.size∧b≠(m 0).g)∨O b∨C b:=by funext b;simp
      rw[e];exact⟨e3.base (fun _ _ _=>rfl) e3.low (fun id b af hr=>(e3.sepR id b af hr).1) e3.gv,rfl,fun q=>by
       have:(Z5 0 [] [] [.cells 0 (cs (k+1))]).get q=AV.undef:=by show lk AV.undef .nil q=_;exact IQ _ _
       rw[this];exact .imm _ _ (.undef _),e5⟩}
 refine((hf g #[pv]).ok _ hJ H w vs ⟨⟨0,fun _=>False,m,H,rfl,fun b hb=>by simp at hb,fun b hb=>hb.elim,.refl _,fun b o v hv=>.inl ⟨KP hh.sat hv,fun e=>by subst e;rw[s3 o] at hv;cases hv⟩,fun _ _ _=>rfl,b7⟩,Qa.refl _ _,.refl _⟩ (by simp[b8]) fun j c v hc a9=> ?_).mono fun e w' ⟨v,O',Hc',e1,e2,⟨k,C,m',H',h2,h3,h4,h5,h6,h7,h8⟩,a7,ao⟩=> ?_
 ·rw[List.getElem?_append] at hc;split at hc
  ·rename_i hj;exact hi c (List.mem_of_getElem? hc) _ _ _ (hv j c v (by rw[List.getElem?_append_left hj];exact hc) a9)
  ·rename_i hj;have b4:j=init.length:=by
    rcases Nat.eq_or_lt_of_le (Nat.le_of_not_lt hj) with e | e
    ·exact e.symm
    ·rw[Array.getElem?_eq_none (by omega)] at a9;cases a9
   subst b4;simp at hc;subst hc;rw[hu] at a9;cases a9;exact .val _
 ·cases h2;refine⟨v,m',H',e1,a7.mono a5,h8.heap.base (fun b o hb=>(h7 b o (a5 b hb)).trans (hh.old b o hb)) (fun b hb=>Nat.lt_of_lt_of_le (hh.low b hb) a7.size) (fun id b a8 hr hb=>(h8.heap.sepR id b a8 hr).1 (.inl (a5 _ hb))) (hh.gv.to a7 fun b _ hb=>hb),.imm _ _ (e2 H'),h8.rest⟩⟩
end
end HY
end
noncomputable section
namespace Go.Proofs.YtolcgikajjkjgaaGreatDoor
open Go HY
set_option maxRecDepth 1000000
set_option linter.unusedVariables false
def Ui(s:(Int×Q0))(u:Int)(o:Int):List Alt:=[⟨fun(x:Int)=>x=o,.exit 2,fun x=>[ii s.1,.ptr 0 0 0,ii x,ii u],fun x=>[.cells 0 (Q2 s.2).cells]⟩]
def VX(s:(Int×Q0×Int))(u:(Int×Int))(o:Bool):List Alt:=jb o (fun b=>[ii (s.1),.ptr 0 0 0,ii (u.1),ii (s.2.2),ii (u.2),.bool b]) [.cells 0 (Q2 (s.2.1)).cells]
def Yh(x1:Int)(x2:Q0)(x5:Int)(x6:Int)(x7:Int):Option Int:=
 some (x5,x7)>>=fun v0=>
 (ix x2.fIdx x6>>=fun v2=>
 some (List.length v2.fAt:Int)>>=fun v3=>
 if x7<v3 then
 if x5≤x1 then
 some true
 else
 some false
 else
 some false)>>=fun v1=>if v1 then
 ix x2.fIdx x6>>=fun v5=>
 ix v5.fAt v0.snd>>=fun v6=>
 some (List.length v6.fL:Int)>>=fun v7=>
 some (wr (v0.fst+v7):Int)>>=fun v8=>
 Yh x1 x2 v8 x6 (wr (v0.snd+(1:Int)))
 else
 some v0.fst
 partial_fixpoint
theorem R6(x1:Int)(x2:Q0)(x5:Int)(x6:Int)(x7:Int)(o:Int)(h:Yh x1 x2 x5 x6 x7=some o):LO 41 7 101 [1,2,5,6,7] [ii x1,.ptr 0 0 0,ii x5,ii x6,ii x7] [.cells 0 (Q2 x2).cells] [1,2,5,6] (Ui (x1,x2) x6 o):=
 Yh.partial_correctness x1 x2 x6 (fun x5 x7 o=>LO 41 7 101 [1,2,5,6,7] [ii x1,.ptr 0 0 0,ii x5,ii x6,ii x7] [.cells 0 (Q2 x2).cells] [1,2,5,6] (Ui (x1,x2) x6 o))
 (fun Yh Q2v x5 x7 o h=>
 Lp2 (hs:=[(5,.n eI 5 none),(5,.n eI 5 none),(52,.e Q4),(55,.n eI 55 none),(56,.split),(60,.split),(68,.e Q4),(72,.e Qh),(75,.n eI 75 none),(5,.n eI 5 none),(5,.n eI 5 none),(5000007,.l [] [] [] [1,2,5,6,7,61] [kk 2] (VX (x1,x2,x6)))]) (kb:=[kk 2]) (kbx:=[kk 2]) ((kJb (id:=5000007) (x5,x7) (fun v0 a8 v1=>(kIx (enc:=Q4) (l:=x2.fIdx) (k:=x6) fun v2=>(kN _ (mLen (sh:=Qh) v2.fAt) fun v3=>(kIfD (p:=x7<v3) (kIfD (p:=x5≤x1) (kXj (alts:=VX (x1,x2,x6)) a8 true (.here () rfl (.refl _) (.refl _)))
 (kXj (alts:=VX (x1,x2,x6)) a8 false (.next (.here () rfl (.refl _) (.refl _)))))
 (kXj (alts:=VX (x1,x2,x6)) a8 false (.next (.here () rfl (.refl _) (.refl _))))))))
 (fun v0=>(kIx (enc:=Q4) (l:=x2.fIdx) (k:=x6) fun v5=>(kIx (enc:=Qh) (l:=v5.fAt) (k:=v0.snd) fun v6=>(kN _ (mLen (sh:=Qp) v6.fL) fun v7=>(kN (wr (v0.fst+v7)) rfl fun v8=>(kM0 (alts:=Ui (x1,x2) x6) (Q2v v8 (wr (v0.snd+(1:Int))))))))))
 (fun v0=>(kX (alts:=Ui (x1,x2) x6) v0.fst (.here _ rfl (.refl _) (.refl _))))) h)) x5 x7 o h
def Uh(s:(Int×Q0))(u:Unit)(o:Int):List Alt:=[⟨fun(x:Int)=>x=o,.exit 0,fun x=>[ii s.1,.ptr 0 0 0,ii x],fun x=>[.cells 0 (Q2 s.2).cells]⟩]
def VW(s:(Int×Q0))(u:(Int×Int))(o:Bool):List Alt:=jb o (fun b=>[ii (s.1),.ptr 0 0 0,ii (u.1),ii (u.2),.bool b]) [.cells 0 (Q2 (s.2)).cells]
def Yg(x1:Int)(x2:Q0)(x5:Int)(x6:Int):Option Int:=
 some (x5,x6)>>=fun v0=>
 (some (List.length x2.fIdx:Int)>>=fun v2=>
 if x6<v2 then
 if x5≤x1 then
 some true
 else
 some false
 else
 some false)>>=fun v1=>if v1 then
 ix x2.fIdx v0.snd>>=fun v4=>
 ix x2.fIdx v0.snd>>=fun v5=>
 some (List.length v4.fLin.fL:Int)>>=fun v6=>
 some (List.length v5.fAt:Int)>>=fun v7=>
 some (wr (wr (v0.fst+(↑(List.map Qp v4.fLin.fL).length:Int))+v7):Int)>>=fun v8=>
 some v0.snd>>=fun v9=>
 Yh x1 x2 v8 v0.snd (0:Int)>>=fun a5=>
 Yg x1 x2 a5 (wr (v9+(1:Int)))
 else
 some v0.fst
 partial_fixpoint
theorem R5(x1:Int)(x2:Q0)(x5:Int)(x6:Int)(o:Int)(h:Yg x1 x2 x5 x6=some o):LO 41 3 101 [1,2,5,6] [ii x1,.ptr 0 0 0,ii x5,ii x6] [.cells 0 (Q2 x2).cells] [1,2,5] (Uh (x1,x2) () o):=
 Yg.partial_correctness x1 x2 (fun x5 x6 o=>LO 41 3 101 [1,2,5,6] [ii x1,.ptr 0 0 0,ii x5,ii x6] [.cells 0 (Q2 x2).cells] [1,2,5] (Uh (x1,x2) () o))
 (fun Yg Q2u x5 x6 o h=>
 Lp2 (hs:=[(5,.n eI 5 none),(21,.n eI 21 none),(22,.split),(26,.split),(34,.e Q4),(38,.n eI 38 none),(43,.e Q4),(46,.n eI 46 none),(5,.n eI 5 none),(5,.n eI 5 none),(5,.n eI 5 none),(3000008,.l [] [1,2,5,6,7] [kk 2] [1,2,5,6] [kk 2] (Ui (x1,x2))),(5000003,.l [] [] [] [1,2,5,6,27] [kk 2] (VW (x1,x2)))]) (kb:=[kk 2]) (kbx:=[kk 2]) ((kJb (id:=5000003) (x5,x6) (fun v0 a8 v1=>(kN _ (mLen (sh:=Q4) x2.fIdx) fun v2=>(kIfD (p:=x6<v2) (kIfD (p:=x5≤x1) (kXj (alts:=VW (x1,x2)) a8 true (.here () rfl (.refl _) (.refl _)))
 (kXj (alts:=VW (x1,x2)) a8 false (.next (.here () rfl (.refl _) (.refl _)))))
 (kXj (alts:=VW (x1,x2)) a8 false (.next (.here () rfl (.refl _) (.refl _)))))))
 (fun v0=>(kIx (enc:=Q4) (l:=x2.fIdx) (k:=v0.snd) fun v4=>(kIx (enc:=Q4) (l:=x2.fIdx) (k:=v0.snd) fun v5=>(kN _ (mLen (sh:=Qp) v4.fLin.fL) fun v6=>(kN _ (mLen (sh:=Qh) v5.fAt) fun v7=>(kN (wr (wr (v0.fst+(↑(List.map Qp v4.fLin.fL).length:Int))+v7)) rfl fun v8=>(kL1 v0.snd (R6 x1 x2 v8 v0.snd (0:Int)) fun v9 a9=>(kM0 (alts:=Uh (x1,x2) ()) (Q2u a9 (wr (v9+(1:Int))))))))))))
 (fun v0=>(kX (alts:=Uh (x1,x2) ()) v0.fst (.here _ rfl (.refl _) (.refl _))))) h)) x5 x6 o h
def JR(s:(Int×Q0))(u:Unit)(o:Int):List Alt:=[⟨fun(x:Int)=>x=o,.exit 4,fun x=>[ii x],fun x=>[]⟩]
def VY(s:(Int×Q0))(u:(Int×Int))(o:Bool):List Alt:=jb o (fun b=>[ii (s.1),.ptr 0 0 0,ii (u.1),ii (u.2),.bool b]) [.cells 0 (Q2 (s.2)).cells]
mutual
def KK(x0:Q0)(x1:Int):Option Int:=
 some (List.length x0.fLin.fL:Int)>>=fun v0=>
 some (List.length x0.fIdx:Int)>>=fun v1=>
 some (wr (wr ((1:Int)+v0)+v1):Int)>>=fun v2=>
 some ()>>=fun v3=>
 Yg x1 x0 v2 (0:Int)>>=fun v5=>
 some ()>>=fun v6=>
 XR x1 x0 v5 (0:Int)>>=fun v8=>
 some v8
 partial_fixpoint
def XR(x1:Int)(x2:Q0)(x5:Int)(x8:Int):Option Int:=
 some (x5,x8)>>=fun v0=>
 (some (List.length x2.fArgs:Int)>>=fun v2=>
 if x8<v2 then
 if x5≤x1 then
 some true
 else
 some false
 else
 some false)>>=fun v1=>if v1 then
 Option.map Q6.f (ix x2.fArgs v0.snd)>>=fun v4=>
 KK v4 (wr (x1 - v0.fst))>>=fun v5=>
 some (wr (v0.fst+v5):Int)>>=fun v6=>
 XR x1 x2 v6 (wr (v0.snd+(1:Int)))
 else
 some v0.fst
 partial_fixpoint
end
theorem Su:(∀(x0:Q0) (x1:Int) (r:Int),KK x0 x1=some r→PU 41 [Q2 x0,eI x1] (eI r))∧(∀(x1:Int) (x2:Q0) (x5:Int) (x8:Int) (o:Int),XR x1 x2 x5 x8=some o→LO 41 11 101 [1,2,5,8] [ii x1,.ptr 0 0 0,ii x5,ii x8] [.cells 0 (Q2 x2).cells] [5] (JR (x1,x2) () o)):=
 KK.mutual_partial_correctness (fun x0 x1 r=>PU 41 [Q2 x0,eI x1] (eI r)) (fun x1 x2 x5 x8 o=>LO 41 11 101 [1,2,5,8] [ii x1,.ptr 0 0 0,ii x5,ii x8] [.cells 0 (Q2 x2).cells] [5] (JR (x1,x2) () o))
 (fun XR Q2t x0 x1 r h=>
 Pu2 (hs:=[(12,.n eI 12 none),(16,.n eI 16 none),(5,.n eI 5 none),(5,.n eI 5 none),(5,.n eI 5 none),(5,.n eI 5 none),(3000012,.l [] [1,2,5,8] [kk 2] [5] [] (JR (x1,x0))),(3000004,.l [] [1,2,5,6] [kk 2] [1,2,5] [kk 2] (Uh (x1,x0)))]) ((kN _ (mLen (sh:=Qp) x0.fLin.fL) fun v0=>(kN _ (mLen (sh:=Q4) x0.fIdx) fun v1=>(kN (wr (wr ((1:Int)+v0)+v1)) rfl fun v2=>(kL1 () (R5 x1 x0 v2 (0:Int)) fun v3 v5=>(kL1 () (Q2t x1 x0 v5 (0:Int)) fun v6 v8=>(kEr (enc:=eI) v8)))))) h))
 (fun KK XR Q2q Q2t x1 x2 x5 x8 o h=>
 Lp2 (hs:=[(5,.n eI 5 none),(5,.n eI 5 none),(5,.n eI 5 none),(80,.n eI 80 none),(81,.split),(85,.split),(93,.e Q2),(98,.c eI),(5,.n eI 5 none),(5000011,.l [] [] [] [1,2,5,8,86] [kk 2] (VY (x1,x2)))]) (kb:=[kk 2]) (kbx:=[]) ((kJb (id:=5000011) (x5,x8) (fun v0 a7 v1=>(kN _ (mLen (sh:=Qo) x2.fArgs) fun v2=>(kIfD (p:=x8<v2) (kIfD (p:=x5≤x1) (kXj (alts:=VY (x1,x2)) a7 true (.here () rfl (.refl _) (.refl _)))
 (kXj (alts:=VY (x1,x2)) a7 false (.next (.here () rfl (.refl _) (.refl _)))))
 (kXj (alts:=VY (x1,x2)) a7 false (.next (.here () rfl (.refl _) (.refl _)))))))
 (fun v0=>(kIxR (l:=x2.fArgs) (k:=v0.snd) XD fun v4=>(kC (sh:=eI) (Q2q v4 (wr (x1 - v0.fst))) fun v5=>(kN (wr (v0.fst+v5)) rfl fun v6=>(kM0 (alts:=JR (x1,x2) ()) (Q2t x1 x2 v6 (wr (v0.snd+(1:Int)))))))))
 (fun v0=>(kX (alts:=JR (x1,x2) ()) v0.fst (.here _ rfl (.refl _) (.refl _))))) h))
theorem Ix(x0:Q0)(x1:Int)(r:Int)(h:KK x0 x1=some r):PU 41 [Q2 x0,eI x1] (eI r):=(Su).1 x0 x1 r h
def KF(s:((List Qb)×Int))(u:Unit)(o:Int):List Alt:=[⟨fun(x:Int)=>x=o,.exit 0,fun x=>[ii x],fun x=>[]⟩]
def Kd(s:((List Qb)×Int))(u:(Int×Int))(o:Bool):List Alt:=jb o (fun b=>[.sl 20 (List.map Qg (s.1)),ii (s.2),ii (u.1),ii (u.2),.bool b]) []
mutual
def Y9(x0:List Qb)(x1:Int):Option Int:=
 some (List.length x0:Int)>>=fun v0=>
 some (v0:Int)>>=fun v1=>
 some ()>>=fun v2=>
 ZC x0 x1 v1 (0:Int)>>=fun v4=>
 some v4
 partial_fixpoint
def ZC(x0:List Qb)(x1:Int)(x5:Int)(x6:Int):Option Int:=
 some (x5,x6)>>=fun v0=>
 (some (List.length x0:Int)>>=fun v2=>
 if x6<v2 then
 if x5≤x1 then
 some true
 else
 some false
 else
 some false)>>=fun v1=>if v1 then
 Option.map Qb.f (ix x0 v0.snd)>>=fun v4=>
 KK v4.fExpr x1>>=fun v5=>
 Option.map Qb.f (ix x0 v0.snd)>>=fun v6=>
 KK (Ka.mk (0:Int) [] (gVal.mk (0:Int) (0:Int)) (Q8.mk (0:Int) (0:Int) (0:Int) (0:Int) (0:Int)) (gLin.mk (0:Int) []) v6.fIdx []:Q0) x1>>=fun v7=>
 Option.map Qb.f (ix x0 v0.snd)>>=fun v8=>
 Y9 v8.fBody (if true=true then max (0:Int) (wr (x1 - v0.fst)) else min (0:Int) (wr (x1 - v0.fst)))>>=fun v9=>
 some ((Ka.mk (0:Int) [] (gVal.mk (0:Int) (0:Int)) (Q8.mk (0:Int) (0:Int) (0:Int) (0:Int) (0:Int)) (gLin.mk (0:Int) []) v6.fIdx []:Q0))>>=fun ab=>
 some (wr (wr (wr (v0.fst+v5)+v7)+v9):Int)>>=fun a6=>
 ZC x0 x1 a6 (wr (v0.snd+(1:Int)))
 else
 some v0.fst
 partial_fixpoint
end
theorem It:(∀(x0:List Qb) (x1:Int) (r:Int),Y9 x0 x1=some r→PU 17 [Zx x0,eI x1] (eI r))∧(∀(x0:List Qb) (x1:Int) (x5:Int) (x6:Int) (o:Int),ZC x0 x1 x5 x6=some o→LO 17 3 50 [0,1,5,6] [.sl 20 (List.map Qg x0),ii x1,ii x5,ii x6] [] [5] (KF (x0,x1) () o)):=
 Y9.mutual_partial_correctness (fun x0 x1 r=>PU 17 [Zx x0,eI x1] (eI r)) (fun x0 x1 x5 x6 o=>LO 17 3 50 [0,1,5,6] [.sl 20 (List.map Qg x0),ii x1,ii x5,ii x6] [] [5] (KF (x0,x1) () o))
 (fun ZC Q2s x0 x1 r h=>
 Pu2 (hs:=[(8,.n eI 8 none),(5,.n eI 5 none),(3000004,.l [] [0,1,5,6] [] [5] [] (KF (x0,x1)))]) ((kN _ (mLen (sh:=Qg) x0) fun v0=>(kN v0 rfl fun v1=>(kL1 () (Q2s x0 x1 v1 (0:Int)) fun v2 v4=>(kEr (enc:=eI) v4)))) h))
 (fun Y9 ZC Q2r Q2s x0 x1 x5 x6 o h=>
 Lp2 (hs:=[(11,.n eI 11 none),(12,.split),(16,.split),(23,.e Qv),(27,.c eI),(31,.e Qv),(34,.n Q2 34 none),(36,.c eI),(40,.e Qv),(47,.c eI),(5,.n eI 5 none),(5000003,.l [] [] [] [0,1,5,6,17] [] (Kd (x0,x1)))]) (kb:=[]) (kbx:=[]) ((kJb (id:=5000003) (x5,x6) (fun v0 a6 v1=>(kN _ (mLen (sh:=Qg) x0) fun v2=>(kIfD (p:=x6<v2) (kIfD (p:=x5≤x1) (kXj (alts:=Kd (x0,x1)) a6 true (.here () rfl (.refl _) (.refl _)))
 (kXj (alts:=Kd (x0,x1)) a6 false (.next (.here () rfl (.refl _) (.refl _)))))
 (kXj (alts:=Kd (x0,x1)) a6 false (.next (.here () rfl (.refl _) (.refl _)))))))
 (fun v0=>(kIxR (l:=x0) (k:=v0.snd) YD fun v4=>(kC (sh:=eI) (Ix v4.fExpr x1) fun v5=>(kIxR (l:=x0) (k:=v0.snd) YD fun v6=>(kC (sh:=eI) (fun y hy=>Pu.le (Ix (Ka.mk (0:Int) [] (gVal.mk (0:Int) (0:Int)) (Q8.mk (0:Int) (0:Int) (0:Int) (0:Int) (0:Int)) (gLin.mk (0:Int) []) v6.fIdx []:Q0) x1 y hy) (.cons (LeT.agg (.cons (LeT.refl (ii (0:Int))) (.cons (LeT.refl (AV.str [])) (.cons (LeT.refl (ii (0:Int))) (.cons (LeT.refl (ii (0:Int))) (.cons (LeT.refl (ii (0:Int))) (.cons (LeT.refl (ii (0:Int))) (.cons (LeT.refl (ii (0:Int))) (.cons (LeT.refl (ii (0:Int))) (.cons (LeT.refl (ii (0:Int))) (.cons (LeT.refl (ii (0:Int))) (.cons (LeT.nil 2) (.cons (LeT.refl (AV.sl (4:Nat) (List.map Q4 v6.fIdx))) (.cons (LeT.nil 13) .nil)))))))))))))) (.cons (LeT.refl (ii x1)) .nil)) (LeT.refl _)) fun v7=>(kIxR (l:=x0) (k:=v0.snd) YD fun v8=>(kC (sh:=eI) (Q2r v8.fBody (if true=true then max (0:Int) (wr (x1 - v0.fst)) else min (0:Int) (wr (x1 - v0.fst)))) fun v9=>(kW (sh:=Q2) (Ka.mk (0:Int) [] (gVal.mk (0:Int) (0:Int)) (Q8.mk (0:Int) (0:Int) (0:Int) (0:Int) (0:Int)) (gLin.mk (0:Int) []) v6.fIdx []:Q0) (LeV.agg (.cons (LeV.refl (ii (0:Int))) (.cons (LeV.refl (AV.str [])) (.cons (LeV.refl (ii (0:Int))) (.cons (LeV.refl (ii (0:Int))) (.cons (LeV.refl (ii (0:Int))) (.cons (LeV.refl (ii (0:Int))) (.cons (LeV.refl (ii (0:Int))) (.cons (LeV.refl (ii (0:Int))) (.cons (LeV.refl (ii (0:Int))) (.cons (LeV.refl (ii (0:Int))) (.cons (LeV.nil 2) (.cons (LeV.refl (AV.sl (4:Nat) (List.map Q4 v6.fIdx))) (.cons (LeV.nil 13) .nil)))))))))))))) fun af=>(kN (wr (wr (wr (v0.fst+v5)+v7)+v9)) rfl fun aa=>(kM0 (alts:=KF (x0,x1) ()) (Q2s x0 x1 aa (wr (v0.snd+(1:Int))))))))))))))
 (fun v0=>(kX (alts:=KF (x0,x1) ()) v0.fst (.here _ rfl (.refl _) (.refl _))))) h))
theorem HR(x0:List Qb)(x1:Int)(r:Int)(h:Y9 x0 x1=some r):PU 17 [Zx x0,eI x1] (eI r):=(It).1 x0 x1 r h
def Ch(x0:Qi):Option Bool:=
 some (List.length x0.fBufs:Int)>>=fun v0=>
 if v0≤(40:Int) then
 Y9 x0.fBody (400:Int)>>=fun v1=>
 some (decide (v1≤(400:Int)))
 else
 some false
theorem SU(x0:Qi)(r:Bool)(h:Ch x0=some r):PU 5 [Qw x0] (eB r):=
 Pu2 (hs:=[(5,.n eI 5 none),(6,.split),(10,.c eI)]) ((kN _ (mLen (sh:=Q7) x0.fBufs) fun v0=>(kIfD (p:=v0≤(40:Int)) (kC (sh:=eI) (HR x0.fBody (400:Int)) fun v1=>(kEr (enc:=eB) (decide (v1≤(400:Int)))))
 (kEr (enc:=eB) false))) h)
def VM(s:List Qf)(u:Unit)(o:Int):List Alt:=[⟨fun(x:Int)=>x=o,.exit 0,fun x=>[ii x],fun x=>[]⟩]
def JX(s:List Qf)(u:Int)(o:Int):List Alt:=[⟨fun(x:Int)=>x=o,.normal,fun x=>[.sl 4 (List.map Q4 s),ii x,ii u],fun x=>[]⟩]
def X1(x0:List Qf)(x3:Int)(x4:Int):Option Int:=
 some (List.length x0:Int)>>=fun v0=>
 if x4<v0 then
 some x4>>=fun v1=>
 (ix x0 x4>>=fun v3=>
 if !v3.fFrom==[] then
 some (wr (x3+(1:Int)))
 else
 some x3)>>=fun v4=>
 X1 x0 v4 (wr (v1+(1:Int)))
 else
 some x3
 partial_fixpoint
theorem IB(x0:List Qf)(x3:Int)(x4:Int)(o:Int)(h:X1 x0 x3 x4=some o):LO 80 3 20 [0,3,4] [.sl 4 (List.map Q4 x0),ii x3,ii x4] [] [3] (VM x0 () o):=
 X1.partial_correctness x0 (fun x3 x4 o=>LO 80 3 20 [0,3,4] [.sl 4 (List.map Q4 x0),ii x3,ii x4] [] [3] (VM x0 () o))
 (fun X1 Q4k x3 x4 o h=>
 Lp2 (hs:=[(7,.n eI 7 none),(8,.split),(13,.e Q4),(16,.split),(7000001,.l [] [] [] [0,3,4] [] (JX x0))]) (kb:=[]) (kbx:=[]) ((kN _ (mLen (sh:=Q4) x0) fun v0=>(kIfD (p:=x4<v0) (kJ1 (id:=7000001) x4 (fun v1 a6 v2=>(kIx (enc:=Q4) (l:=x0) (k:=x4) fun v3=>(kIf (c:= !v3.fFrom==[]) (kXj (alts:=JX x0) a6 (wr (x3+(1:Int))) (.here _ rfl (.refl _) (.refl _)))
 (kXj (alts:=JX x0) a6 x3 (.here _ rfl (.refl _) (.refl _))))))
 (fun v1 v4=>(kM0 (alts:=VM x0 ()) (Q4k v4 (wr (v1+(1:Int)))))))
 (kX (alts:=VM x0 ()) x3 (.here _ rfl (.refl _) (.refl _))))) h)) x3 x4 o h
def Ur(x0:List Qf):Option Int:=
 some ()>>=fun v0=>
 X1 x0 (0:Int) (0:Int)>>=fun v2=>
 some v2
theorem Mx(x0:List Qf)(r:Int)(h:Ur x0=some r):PU 80 [Kn x0] (eI r):=
 Pu2 (hs:=[(3000004,.l [] [0,3,4] [] [3] [] (VM x0))]) ((kL1 () (IB x0 (0:Int) (0:Int)) fun v0 v2=>(kEr (enc:=eI) v2)) h)
def XB(x0:Int)(x1:Int):Option Int:=
 some (if false=true then max (wr (x0+x1)) (1099511627776:Int) else min (wr (x0+x1)) (1099511627776:Int))
theorem K8(x0:Int)(x1:Int)(r:Int)(h:XB x0 x1=some r):PU 27 [eI x0,eI x1] (eI r):=
 Pu2 (hs:=[]) ((kEr (enc:=eI) (if false=true then max (wr (x0+x1)) (1099511627776:Int) else min (wr (x0+x1)) (1099511627776:Int))) h)
def UG(x0:Q5)(x1:Q5):Option Q5:=
 XB x0.fLoops x1.fLoops>>=fun v0=>
 XB x0.fReads x1.fReads>>=fun v1=>
 XB x0.fWrites x1.fWrites>>=fun v2=>
 XB x0.fOps x1.fOps>>=fun v3=>
 XB x0.fWords x1.fWords>>=fun v4=>
 some ((Q5.mk v0 v1 v2 v3 v4))>>=fun v5=>
 some v5
theorem WS(x0:Q5)(x1:Q5)(r:Q5)(h:UG x0 x1=some r):PU 57 [Q9 x0,Q9 x1] (Q9 r):=
 Pu2 (hs:=[(9,.c eI),(14,.c eI),(19,.c eI),(24,.c eI),(29,.c eI),(30,.n Q9 30 none)]) ((kC (sh:=eI) (K8 x0.fLoops x1.fLoops) fun v0=>(kC (sh:=eI) (K8 x0.fReads x1.fReads) fun v1=>(kC (sh:=eI) (K8 x0.fWrites x1.fWrites) fun v2=>(kC (sh:=eI) (K8 x0.fOps x1.fOps) fun v3=>(kC (sh:=eI) (K8 x0.fWords x1.fWords) fun v4=>(kW (sh:=Q9) (Q5.mk v0 v1 v2 v3 v4) lr fun v5=>(kEr (enc:=Q9) v5))))))) h)
def JW(s:Q0)(u:Q5)(o:Q5):List Alt:=[⟨fun(x:Q5)=>x=o,.exit 1,fun x=>[.ptr 0 0 0,.ptr 1 0 0],fun x=>[.cells 0 (Q9 u).cells,.cells 0 (Q9 x).cells]⟩]
def QK(s:Q0)(u:(Q5×Q5))(o:Bool):List Alt:=jb o (fun b=>[.ptr 0 0 0,.ptr 1 0 0,.ptr 2 0 0,.bool b]) [.cells 0 (Q2 s).cells,.cells 0 (Q9 (u.1)).cells,.cells 0 (Q9 (u.2)).cells]
def Ja(s:Q0)(u:Q5)(o:Q5):List Alt:=[⟨fun(x:Q5)=>x=o,.normal,fun x=>[.ptr 0 0 0,.ptr 1 0 0,.ptr 2 0 0],fun x=>[.cells 0 (Q2 s).cells,.cells 0 (Q9 u).cells,.cells 0 (Q9 x).cells]⟩]
mutual
def YC(x0:Q0):Option Q5:=
 some ((Q5.mk (0:Int) (0:Int) (0:Int) (0:Int) (0:Int)))>>=fun v0=>
 some (Q5.mk (0:Int) (0:Int) (0:Int) (0:Int) (0:Int))>>=fun v1=>
 (if x0.fOp==(3:Int) then
 Ur x0.fIdx>>=fun v3=>
 some (Q5.mk v0.fLoops (wr ((1:Int)+v3)) v0.fWrites v0.fOps v0.fWords)
 else
 some ((Q5.mk (0:Int) (0:Int) (0:Int) (0:Int) (0:Int)),v0)>>=fun v4=>
 (if x0.fOp==(4:Int) then
 some true
 else
 if x0.fOp==(5:Int) then
 some true
 else
 if x0.fOp==(6:Int) then
 some true
 else
 if x0.fOp==(7:Int) then
 some true
 else
 if x0.fOp==(8:Int) then
 some true
 else
 if x0.fOp==(9:Int) then
 some true
 else
 if x0.fOp==(10:Int) then
 some true
 else
 if x0.fOp==(12:Int) then
 some true
 else
 if x0.fOp==(13:Int) then
 some true
 else
 if x0.fOp==(14:Int) then
 some true
 else
 if x0.fOp==(15:Int) then
 some true
 else
 some false)>>=fun v5=>if v5 then
 some (Q5.mk v4.snd.fLoops v4.snd.fReads v4.snd.fWrites (1:Int) v4.snd.fWords)
 else
 some v4.snd)>>=fun v8=>
 some v1>>=fun v9=>
 ZN x0 v8 (0:Int)>>=fun a6=>
 some a6
 partial_fixpoint
def ZN(x1:Q0)(x3:Q5)(x4:Int):Option Q5:=
 some (List.length x1.fArgs:Int)>>=fun v0=>
 if x4<v0 then
 Option.map Q6.f (ix x1.fArgs x4)>>=fun v1=>
 YC v1>>=fun v2=>
 UG x3 v2>>=fun v3=>
 ZN x1 v3 (wr (x4+(1:Int)))
 else
 some x3
 partial_fixpoint
end
theorem SC:(∀(x0:Q0) (r:Q5),YC x0=some r→PU 79 [Q2 x0] (Q9 r))∧(∀(x1:Q0) (x3:Q5) (x4:Int) (o:Q5),ZN x1 x3 x4=some o→∀(x2:Q5),LO 79 18 44 [1,2,3,4] [.ptr 0 0 0,.ptr 1 0 0,.ptr 2 0 0,ii x4] [.cells 0 (Q2 x1).cells,.cells 0 (Q9 x2).cells,.cells 0 (Q9 x3).cells] [2,3] (JW x1 x2 o)):=
 YC.mutual_partial_correctness (fun x0 r=>PU 79 [Q2 x0] (Q9 r)) (fun x1 x3 x4 o=>∀(x2:Q5),LO 79 18 44 [1,2,3,4] [.ptr 0 0 0,.ptr 1 0 0,.ptr 2 0 0,ii x4] [.cells 0 (Q2 x1).cells,.cells 0 (Q9 x2).cells,.cells 0 (Q9 x3).cells] [2,3] (JW x1 x2 o))
 (fun ZN Q4j x0 r h=>
 Pu2 (hs:=[(5,.n Q9 5 none),(9,.split),(12,.c eI),(15,.split),(15,.split),(15,.split),(15,.split),(15,.split),(15,.split),(15,.split),(15,.split),(15,.split),(15,.split),(15,.split),(3000019,.l [] [1,2,3,4] [kk 1,kk 2,kk 3] [2,3] [kk 2,kk 3] (JW x0)),(6000007,.l [] [] [] [1,2,3,15] [kk 1,kk 2,kk 3] (QK x0)),(7000000,.l [] [] [] [1,2,3] [kk 1,kk 2,kk 3] (Ja x0))]) ((kW (sh:=Q9) (Q5.mk (0:Int) (0:Int) (0:Int) (0:Int) (0:Int)) lr fun v0=>(kJ1 (id:=7000000) (Q5.mk (0:Int) (0:Int) (0:Int) (0:Int) (0:Int)) (fun v1 a9 v2=>(kIf (c:=x0.fOp==(3:Int)) (kC (sh:=eI) (Mx x0.fIdx) fun v3=>(kXj (alts:=Ja x0) a9 (Q5.mk v0.fLoops (wr ((1:Int)+v3)) v0.fWrites v0.fOps v0.fWords) (.here _ rfl (.refl _) (.refl _))))
 (kJbE (id:=6000007) ((Q5.mk (0:Int) (0:Int) (0:Int) (0:Int) (0:Int)),v0) (fun v4 a4 v5=>(kIf (c:=x0.fOp==(4:Int)) (kXj (alts:=QK x0) a4 true (.here () rfl (.refl _) (.refl _)))
 (kIf (c:=x0.fOp==(5:Int)) (kXj (alts:=QK x0) a4 true (.here () rfl (.refl _) (.refl _)))
 (kIf (c:=x0.fOp==(6:Int)) (kXj (alts:=QK x0) a4 true (.here () rfl (.refl _) (.refl _)))
 (kIf (c:=x0.fOp==(7:Int)) (kXj (alts:=QK x0) a4 true (.here () rfl (.refl _) (.refl _)))
 (kIf (c:=x0.fOp==(8:Int)) (kXj (alts:=QK x0) a4 true (.here () rfl (.refl _) (.refl _)))
 (kIf (c:=x0.fOp==(9:Int)) (kXj (alts:=QK x0) a4 true (.here () rfl (.refl _) (.refl _)))
 (kIf (c:=x0.fOp==(10:Int)) (kXj (alts:=QK x0) a4 true (.here () rfl (.refl _) (.refl _)))
 (kIf (c:=x0.fOp==(12:Int)) (kXj (alts:=QK x0) a4 true (.here () rfl (.refl _) (.refl _)))
 (kIf (c:=x0.fOp==(13:Int)) (kXj (alts:=QK x0) a4 true (.here () rfl (.refl _) (.refl _)))
 (kIf (c:=x0.fOp==(14:Int)) (kXj (alts:=QK x0) a4 true (.here () rfl (.refl _) (.refl _)))
 (kIf (c:=x0.fOp==(15:Int)) (kXj (alts:=QK x0) a4 true (.here () rfl (.refl _) (.refl _)))
 (kXj (alts:=QK x0) a4 false (.next (.here () rfl (.refl _) (.refl _))))))))))))))))
 (fun v4 a4=>(kXj (alts:=Ja x0) (u0:=v4.fst) (by subst a4;exact a9) (Q5.mk v4.snd.fLoops v4.snd.fReads v4.snd.fWrites (1:Int) v4.snd.fWords) (.here _ rfl (.refl _) (.refl _))))
 (fun v4 a4=>(kXj (alts:=Ja x0) (u0:=v4.fst) (by subst a4;exact a9) v4.snd (.here _ rfl (.refl _) (.refl _)))))))
 (fun v1 v8=>(kL1 v1 (fun y hy=>Q4j x0 v8 (0:Int) y hy v1) fun v9 ae=>(kEr (enc:=Q9) ae))))) h))
 (fun YC ZN Q4i Q4j x1 x3 x4 o h x2=>
 Lp2 (hs:=[(31,.n eI 31 none),(32,.split),(39,.e Q2),(41,.c Q9),(42,.c Q9)]) (kb:=[kk 1,kk 2,kk 3]) (kbx:=[kk 2,kk 3]) ((kN _ (mLen (sh:=Qo) x1.fArgs) fun v0=>(kIfD (p:=x4<v0) (kIxR (l:=x1.fArgs) (k:=x4) XD fun v1=>(kC (sh:=Q9) (Q4i v1) fun v2=>(kC (sh:=Q9) (WS x3 v2) fun v3=>(kM0 (alts:=JW x1 x2) (fun y hy=>Q4j x1 v3 (wr (x4+(1:Int))) y hy x2)))))
 (kX (alts:=JW x1 x2) x3 (.here _ rfl (.refl _) (.refl _))))) h))
theorem AM(x0:Q0)(r:Q5)(h:YC x0=some r):PU 79 [Q2 x0] (Q9 r):=(SC).1 x0 r h
def VF(s:(Int×Int))(u:Unit)(o:Bool):List Alt:=jb o (fun b=>[ii (s.1),ii (s.2),.bool b]) []
def Ue(x0:Int)(x1:Int):Option Int:=
 some ()>>=fun v0=>
 (if(0:Int)<x0 then
 if x0≠(0:Int) then
 if wr (Int.tdiv (1099511627776:Int) x0)<x1 then
 some true
 else
 some false
 else none
 else
 some false)>>=fun v1=>if v1 then
 some (1099511627776:Int)
 else
 some (wr (x0*x1))
theorem Cm(x0:Int)(x1:Int)(r:Int)(h:Ue x0 x1=some r):PU 108 [eI x0,eI x1] (eI r):=
 Pu2 (hs:=[(6,.split),(10,.s),(11,.split),(5000001,.l [] [] [] [0,1,12] [] (VF (x0,x1)))]) ((kJb (id:=5000001) () (fun v0 a5 v1=>(kIfD (p:=(0:Int)<x0) (kG (p:=x0≠(0:Int)) (kIfD (p:=wr (Int.tdiv (1099511627776:Int) x0)<x1) (kXj (alts:=VF (x0,x1)) a5 true (.here () rfl (.refl _) (.refl _)))
 (kXj (alts:=VF (x0,x1)) a5 false (.next (.here () rfl (.refl _) (.refl _))))))
 (kXj (alts:=VF (x0,x1)) a5 false (.next (.here () rfl (.refl _) (.refl _))))))
 (fun v0=>(kEr (enc:=eI) (1099511627776:Int)))
 (fun v0=>(kEr (enc:=eI) (wr (x0*x1))))) h)
def Ci(x0:Q5)(x1:Int):Option Q5:=
 Ue x0.fLoops x1>>=fun v0=>
 Ue x0.fReads x1>>=fun v1=>
 Ue x0.fWrites x1>>=fun v2=>
 Ue x0.fOps x1>>=fun v3=>
 some ((Q5.mk v0 v1 v2 v3 (0:Int)))>>=fun v4=>
 some v4
theorem SV(x0:Q5)(x1:Int)(r:Q5)(h:Ci x0 x1=some r):PU 81 [Q9 x0,eI x1] (Q9 r):=
 Pu2 (hs:=[(8,.c eI),(12,.c eI),(16,.c eI),(20,.c eI),(21,.n Q9 21 none)]) ((kC (sh:=eI) (Cm x0.fLoops x1) fun v0=>(kC (sh:=eI) (Cm x0.fReads x1) fun v1=>(kC (sh:=eI) (Cm x0.fWrites x1) fun v2=>(kC (sh:=eI) (Cm x0.fOps x1) fun v3=>(kW (sh:=Q9) (Q5.mk v0 v1 v2 v3 (0:Int)) lr fun v4=>(kEr (enc:=Q9) v4)))))) h)
def JY(s:List Qb)(u:Q5)(o:Q5):List Alt:=[⟨fun(x:Q5)=>x=o,.exit 0,fun x=>[.ptr 0 0 0,.ptr 1 0 0],fun x=>[.cells 0 (Q9 u).cells,.cells 0 (Q9 x).cells]⟩]
def Jb(s:Qq)(u:(Q5×Q5×Int))(o:Bool):List Alt:=jb o (fun b=>[.ptr 0 0 0,.ptr 1 0 0,.ptr 2 0 0,ii (u.2.2),.bool b]) [.cells 0 (Qv s).cells,.cells 0 (Q9 (u.1)).cells,.cells 0 (Q9 (u.2.1)).cells]
mutual
def Kj(x0:List Qb):Option Q5:=
 some ((Q5.mk (0:Int) (0:Int) (0:Int) (0:Int) (0:Int)))>>=fun v0=>
 some (Q5.mk (0:Int) (0:Int) (0:Int) (0:Int) (0:Int))>>=fun v1=>
 XY x0 v0 (0:Int)>>=fun v3=>
 some v3
 partial_fixpoint
def XY(x0:List Qb)(x3:Q5)(x4:Int):Option Q5:=
 some (List.length x0:Int)>>=fun v0=>
 if x4<v0 then
 Option.map Qb.f (ix x0 x4)>>=fun v1=>
 GP v1>>=fun v2=>
 UG x3 v2>>=fun v3=>
 XY x0 v3 (wr (x4+(1:Int)))
 else
 some x3
 partial_fixpoint
def GP(x0:Qq):Option Q5:=
 YC x0.fExpr>>=fun v0=>
 some ((Q5.mk (0:Int) (0:Int) (0:Int) (0:Int) (0:Int)),v0,x0.fOp)>>=fun v1=>
 (if x0.fOp==(2:Int) then
 some true
 else
 if x0.fOp==(3:Int) then
 some true
 else
 some false)>>=fun v2=>if v2 then
 Ur x0.fIdx>>=fun v4=>
 XB v1.snd.fst.fReads v4>>=fun v5=>
 XB v1.snd.fst.fWrites (1:Int)>>=fun v6=>
 if x0.fOp==(3:Int) then
 XB v5 (1:Int)>>=fun v7=>
 XB v1.snd.fst.fOps (1:Int)>>=fun v8=>
 some (Q5.mk v1.snd.fst.fLoops v7 v6 v8 v1.snd.fst.fWords)
 else
 some (Q5.mk v1.snd.fst.fLoops v5 v6 v1.snd.fst.fOps v1.snd.fst.fWords)
 else
 if v1.snd.snd==(1:Int) then
 Kj x0.fBody>>=fun a5=>
 Ci a5 x0.fMany>>=fun a6=>
 some ((Q5.mk (if false=true then max x0.fMany (1099511627776:Int) else min x0.fMany (1099511627776:Int)) (0:Int) (0:Int) (0:Int) (0:Int)))>>=fun a7=>
 UG a7 a6>>=fun a8=>
 some a8
 else
 if v1.snd.snd==(4:Int) then
 Kj x0.fBody>>=fun a9=>
 UG v1.snd.fst a9>>=fun aa=>
 some aa
 else
 some v1.snd.fst
 partial_fixpoint
end
theorem Td:(∀(x0:List Qb) (r:Q5),Kj x0=some r→PU 26 [Zx x0] (Q9 r))∧(∀(x0:List Qb) (x3:Q5) (x4:Int) (o:Q5),XY x0 x3 x4=some o→∀(x2:Q5),LO 26 3 20 [0,2,3,4] [.sl 20 (List.map Qg x0),.ptr 0 0 0,.ptr 1 0 0,ii x4] [.cells 0 (Q9 x2).cells,.cells 0 (Q9 x3).cells] [2,3] (JY x0 x2 o))∧(∀(x0:Qq) (r:Q5),GP x0=some r→PU 58 [Qv x0] (Q9 r)):=
 Kj.mutual_partial_correctness (fun x0 r=>PU 26 [Zx x0] (Q9 r)) (fun x0 x3 x4 o=>∀(x2:Q5),LO 26 3 20 [0,2,3,4] [.sl 20 (List.map Qg x0),.ptr 0 0 0,.ptr 1 0 0,ii x4] [.cells 0 (Q9 x2).cells,.cells 0 (Q9 x3).cells] [2,3] (JY x0 x2 o)) (fun x0 r=>PU 58 [Qv x0] (Q9 r))
 (fun XY Q4n x0 r h=>
 Pu2 (hs:=[(5,.n Q9 5 none),(3000004,.l [] [0,2,3,4] [kk 2,kk 3] [2,3] [kk 2,kk 3] (JY x0))]) ((kW (sh:=Q9) (Q5.mk (0:Int) (0:Int) (0:Int) (0:Int) (0:Int)) lr fun v0=>(kL1 (Q5.mk (0:Int) (0:Int) (0:Int) (0:Int) (0:Int)) (fun y hy=>Q4n x0 v0 (0:Int) y hy (Q5.mk (0:Int) (0:Int) (0:Int) (0:Int) (0:Int))) fun v1 v3=>(kEr (enc:=Q9) v3))) h))
 (fun XY GP Q4n Q4l x0 x3 x4 o h x2=>
 Lp2 (hs:=[(8,.n eI 8 none),(9,.split),(15,.e Qv),(17,.c Q9),(18,.c Q9)]) (kb:=[kk 2,kk 3]) (kbx:=[kk 2,kk 3]) ((kN _ (mLen (sh:=Qg) x0) fun v0=>(kIfD (p:=x4<v0) (kIxR (l:=x0) (k:=x4) YD fun v1=>(kC (sh:=Q9) (Q4l v1) fun v2=>(kC (sh:=Q9) (WS x3 v2) fun v3=>(kM0 (alts:=JY x0 x2) (fun y hy=>Q4n x0 v3 (wr (x4+(1:Int))) y hy x2)))))
 (kX (alts:=JY x0 x2) x3 (.here _ rfl (.refl _) (.refl _))))) h))
 (fun Kj Q4m x0 r h=>
 Pu2 (hs:=[(6,.c Q9),(9,.split),(9,.split),(16,.c eI),(17,.c eI),(21,.c eI),(25,.split),(28,.c eI),(32,.c eI),(35,.split),(39,.n Q9 39 none),(42,.c Q9),(45,.c Q9),(46,.c Q9),(48,.split),(52,.c Q9),(53,.c Q9),(6000005,.l [] [] [] [1,2,3,8,9] [kk 1,kk 2,kk 3] (Jb x0))]) ((kC (sh:=Q9) (AM x0.fExpr) fun v0=>(kJb (id:=6000005) ((Q5.mk (0:Int) (0:Int) (0:Int) (0:Int) (0:Int)),v0,x0.fOp) (fun v1 a7 v2=>(kIf (c:=x0.fOp==(2:Int)) (kXj (alts:=Jb x0) a7 true (.here () rfl (.refl _) (.refl _)))
 (kIf (c:=x0.fOp==(3:Int)) (kXj (alts:=Jb x0) a7 true (.here () rfl (.refl _) (.refl _)))
 (kXj (alts:=Jb x0) a7 false (.next (.here () rfl (.refl _) (.refl _)))))))
 (fun v1=>(kC (sh:=eI) (Mx x0.fIdx) fun v4=>(kC (sh:=eI) (K8 v1.snd.fst.fReads v4) fun v5=>(kC (sh:=eI) (K8 v1.snd.fst.fWrites (1:Int)) fun v6=>(kIf (c:=x0.fOp==(3:Int)) (kC (sh:=eI) (K8 v5 (1:Int)) fun v7=>(kC (sh:=eI) (K8 v1.snd.fst.fOps (1:Int)) fun v8=>(kEr (enc:=Q9) (Q5.mk v1.snd.fst.fLoops v7 v6 v8 v1.snd.fst.fWords))))
 (kEr (enc:=Q9) (Q5.mk v1.snd.fst.fLoops v5 v6 v1.snd.fst.fOps v1.snd.fst.fWords)))))))
 (fun v1=>(kIf (c:=v1.snd.snd==(1:Int)) (kC (sh:=Q9) (Q4m x0.fBody) fun ab=>(kC (sh:=Q9) (SV ab x0.fMany) fun ac=>(kW (sh:=Q9) (Q5.mk (if false=true then max x0.fMany (1099511627776:Int) else min x0.fMany (1099511627776:Int)) (0:Int) (0:Int) (0:Int) (0:Int)) lr fun ad=>(kC (sh:=Q9) (WS ad ac) fun ae=>(kEr (enc:=Q9) ae)))))
 (kIf (c:=v1.snd.snd==(4:Int)) (kC (sh:=Q9) (Q4m x0.fBody) fun af=>(kC (sh:=Q9) (WS v1.snd.fst af) fun ag=>(kEr (enc:=Q9) ag)))
 (kEr (enc:=Q9) v1.snd.fst)))))) h))
theorem SW(x0:List Qb)(r:Q5)(h:Kj x0=some r):PU 26 [Zx x0] (Q9 r):=(Td).1 x0 r h
def Ul(s:List Int)(u:Unit)(o:Int):List Alt:=[⟨fun(x:Int)=>x=o,.exit 0,fun x=>[ii x],fun x=>[]⟩]
def YT(x0:List Int)(x3:Int)(x4:Int):Option Int:=
 some (List.length x0:Int)>>=fun v0=>
 if x4<v0 then
 ix x0 x4>>=fun v1=>
 some (wr (x3*v1):Int)>>=fun v2=>
 YT x0 v2 (wr (x4+(1:Int)))
 else
 some x3
 partial_fixpoint
theorem Rd(x0:List Int)(x3:Int)(x4:Int)(o:Int)(h:YT x0 x3 x4=some o):LO 28 5 21 [0,3,4] [.sl 1 (List.map eI x0),ii x3,ii x4] [] [3] (Ul x0 () o):=
 YT.partial_correctness x0 (fun x3 x4 o=>LO 28 5 21 [0,3,4] [.sl 1 (List.map eI x0),ii x3,ii x4] [] [3] (Ul x0 () o))
 (fun YT Q3j x3 x4 o h=>
 Lp2 (hs:=[(10,.n eI 10 none),(11,.split),(17,.e eI),(3,.n eI 3 none)]) (kb:=[]) (kbx:=[]) ((kN _ (mLen (sh:=eI) x0) fun v0=>(kIfD (p:=x4<v0) (kIx (enc:=eI) (l:=x0) (k:=x4) fun v1=>(kN (wr (x3*v1)) rfl fun v2=>(kM0 (alts:=Ul x0 ()) (Q3j v2 (wr (x4+(1:Int)))))))
 (kX (alts:=Ul x0 ()) x3 (.here _ rfl (.refl _) (.refl _))))) h)) x3 x4 o h
def CS(x0:List Int):Option Int:=
 U0 x0>>=fun v0=>
 if v0 !=(0:Int) then
 some (0:Int)
 else
 some ((1:Int):Int)>>=fun v1=>
 some ()>>=fun v2=>
 YT x0 v1 (0:Int)>>=fun v4=>
 some v4
theorem AA(x0:List Int)(r:Int)(h:CS x0=some r):PU 28 [eLI x0] (eI r):=
 Pu2 (hs:=[(6,.c eI),(7,.split),(3,.n eI 3 none),(3000006,.l [] [0,3,4] [] [3] [] (Ul x0))]) ((kC (sh:=eI) (M6 x0) fun v0=>(kIf (c:=v0 !=(0:Int)) (kEr (enc:=eI) (0:Int))
 (kN (1:Int) rfl fun v1=>(kL1 () (Rd x0 v1 (0:Int)) fun v2 v4=>(kEr (enc:=eI) v4))))) h)
def Up(s:Qi)(u:Q5)(o:Q5):List Alt:=[⟨fun(x:Q5)=>x=o,.exit 0,fun x=>[.ptr 0 0 0,.ptr 1 0 0],fun x=>[.cells 0 (Q9 u).cells,.cells 0 (Q9 x).cells]⟩]
def UU(s:(Qi×Q5))(u:Int)(o:Q5):List Alt:=[⟨fun(x:Q5)=>x=o,.normal,fun x=>[.ptr 0 0 0,.ptr 1 0 0,.ptr 2 0 0,ii u],fun x=>[.cells 0 (Qw (s.1)).cells,.cells 0 (Q9 (s.2)).cells,.cells 0 (Q9 x).cells]⟩]
def Yr(x1:Qi)(x6:Q5)(x7:Int):Option Q5:=
 some (List.length x1.fBufs:Int)>>=fun v0=>
 if x7<v0 then
 some x7>>=fun v1=>
 (ix x1.fBufs x7>>=fun v3=>
 if v3.fUse !=(1:Int) then
 ix x1.fBufs x7>>=fun v4=>
 CS v4.fDims>>=fun v5=>
 XB x6.fWords v5>>=fun v6=>
 some (Q5.mk x6.fLoops x6.fReads x6.fWrites x6.fOps v6)
 else
 some x6)>>=fun v7=>
 Yr x1 v7 (wr (v1+(1:Int)))
 else
 some x6
 partial_fixpoint
theorem Rh(x1:Qi)(x2:Q5)(x6:Q5)(x7:Int)(o:Q5)(h:Yr x1 x6 x7=some o):LO 8 6 46 [1,2,6,7] [.ptr 0 0 0,.ptr 1 0 0,.ptr 2 0 0,ii x7] [.cells 0 (Qw x1).cells,.cells 0 (Q9 x2).cells,.cells 0 (Q9 x6).cells] [2,6] (Up x1 x2 o):=
 Yr.partial_correctness x1 (fun x6 x7 o=>∀(x2:Q5),LO 8 6 46 [1,2,6,7] [.ptr 0 0 0,.ptr 1 0 0,.ptr 2 0 0,ii x7] [.cells 0 (Qw x1).cells,.cells 0 (Q9 x2).cells,.cells 0 (Q9 x6).cells] [2,6] (Up x1 x2 o))
 (fun Yr Q4h x6 x7 o h x2=>
 Lp2 (hs:=[(23,.n eI 23 none),(24,.split),(30,.e Q7),(33,.split),(39,.e Q7),(42,.c eI),(43,.c eI),(7000001,.l [] [] [] [1,2,6,7] [kk 1,kk 2,kk 6] (UU (x1,x2)))]) (kb:=[kk 1,kk 2,kk 6]) (kbx:=[kk 2,kk 6]) ((kN _ (mLen (sh:=Q7) x1.fBufs) fun v0=>(kIfD (p:=x7<v0) (kJ1 (id:=7000001) x7 (fun v1 a7 v2=>(kIx (enc:=Q7) (l:=x1.fBufs) (k:=x7) fun v3=>(kIf (c:=v3.fUse !=(1:Int)) (kIx (enc:=Q7) (l:=x1.fBufs) (k:=x7) fun v4=>(kC (sh:=eI) (AA v4.fDims) fun v5=>(kC (sh:=eI) (K8 x6.fWords v5) fun v6=>(kXj (alts:=UU (x1,x2)) a7 (Q5.mk x6.fLoops x6.fReads x6.fWrites x6.fOps v6) (.here _ rfl (.refl _) (.refl _))))))
 (kXj (alts:=UU (x1,x2)) a7 x6 (.here _ rfl (.refl _) (.refl _))))))
 (fun v1 v7=>(kM0 (alts:=Up x1 x2) (fun y hy=>Q4h v7 (wr (v1+(1:Int))) y hy x2))))
 (kX (alts:=Up x1 x2) x6 (.here _ rfl (.refl _) (.refl _))))) h)) x6 x7 o h x2
def CZ(x0:Qi):Option (Q5×Int):=
 Gi x0>>=fun v0=>
 if v0.snd !=(0:Int) then
 some ((Q5.mk (0:Int) (0:Int) (0:Int) (0:Int) (0:Int)))>>=fun v1=>
 some (v1,v0.snd)
 else
 Kj x0.fBody>>=fun v2=>
 some (Q5.mk (0:Int) (0:Int) (0:Int) (0:Int) (0:Int))>>=fun v3=>
 Yr x0 v2 (0:Int)>>=fun v5=>
 some (v5,(0:Int))
theorem AL(x0:Qi)(r:(Q5×Int))(h:CZ x0=some r):PU 8 [Qw x0] (VG r):=
 Pu2 (hs:=[(10,.c Vq),(14,.split),(15,.n Q9 15 none),(19,.c Q9),(3000007,.l [] [1,2,6,7] [kk 1,kk 2,kk 6] [2,6] [kk 2,kk 6] (Up x0))]) ((kC (sh:=Vq) (EB x0) fun v0=>(kIf (c:=v0.snd !=(0:Int)) (kW (sh:=Q9) (Q5.mk (0:Int) (0:Int) (0:Int) (0:Int) (0:Int)) lr fun v1=>(kEr (enc:=VG) (v1,v0.snd)))
 (kC (sh:=Q9) (SW x0.fBody) fun v2=>(kL1 (Q5.mk (0:Int) (0:Int) (0:Int) (0:Int) (0:Int)) (Rh x0 (Q5.mk (0:Int) (0:Int) (0:Int) (0:Int) (0:Int)) v2 (0:Int)) fun v3 v5=>(kEr (enc:=VG) (v5,(0:Int))))))) h)
def Yf(x0:Int)(x1:Int):Option Int:=
 some (if false=true then max (wr (x0+x1)) (1099511627776:Int) else min (wr (x0+x1)) (1099511627776:Int))
theorem Yt(x0:Int)(x1:Int)(r:Int)(h:Yf x0 x1=some r):PU 23 [eI x0,eI x1] (eI r):=
 Pu2 (hs:=[]) ((kEr (enc:=eI) (if false=true then max (wr (x0+x1)) (1099511627776:Int) else min (wr (x0+x1)) (1099511627776:Int))) h)
def UV(x0:Q5)(x1:Q5):Option Q5:=
 Yf x0.fLoops x1.fLoops>>=fun v0=>
 Yf x0.fReads x1.fReads>>=fun v1=>
 Yf x0.fWrites x1.fWrites>>=fun v2=>
 Yf x0.fOps x1.fOps>>=fun v3=>
 Yf x0.fWords x1.fWords>>=fun v4=>
 some ((Q5.mk v0 v1 v2 v3 v4))>>=fun v5=>
 some v5
theorem MY(x0:Q5)(x1:Q5)(r:Q5)(h:UV x0 x1=some r):PU 22 [Q9 x0,Q9 x1] (Q9 r):=
 Pu2 (hs:=[(9,.c eI),(14,.c eI),(19,.c eI),(24,.c eI),(29,.c eI),(30,.n Q9 30 none)]) ((kC (sh:=eI) (Yt x0.fLoops x1.fLoops) fun v0=>(kC (sh:=eI) (Yt x0.fReads x1.fReads) fun v1=>(kC (sh:=eI) (Yt x0.fWrites x1.fWrites) fun v2=>(kC (sh:=eI) (Yt x0.fOps x1.fOps) fun v3=>(kC (sh:=eI) (Yt x0.fWords x1.fWords) fun v4=>(kW (sh:=Q9) (Q5.mk v0 v1 v2 v3 v4) lr fun v5=>(kEr (enc:=Q9) v5))))))) h)
def Uq(s:Unit)(u:((List Int)×Int))(o:Int):List Alt:=[⟨fun(x:Int)=>x=o,.exit 0,fun x=>[ii x],fun x=>[]⟩]
def YU(x3:Int)(x9:List Int)(a4:Int)(a3:Int):Option Int:=
 if a3<a4 then
 ix x9 a3>>=fun v0=>
 some (wr (x3*v0):Int)>>=fun v1=>
 YU v1 x9 a4 (wr (a3+(1:Int)))
 else
 some x3
 partial_fixpoint
theorem Ri(x3:Int)(x9:List Int)(a3:Int)(a4:Int)(o:Int)(h:YU x3 x9 a3 a4=some o):LO 24 5 20 [3,9,10,11] [ii x3,.sl 1 (List.map eI x9),ii a3,ii a4] [] [3] (Uq () (x9,a3) o):=
 YU.partial_correctness x9 a3 (fun x3 a4 o=>LO 24 5 20 [3,9,10,11] [ii x3,.sl 1 (List.map eI x9),ii a3,ii a4] [] [3] (Uq () (x9,a3) o))
 (fun YU Q4o x3 a4 o h=>
 Lp2 (hs:=[(12,.split),(13,.e eI),(3,.n eI 3 none)]) (kb:=[]) (kbx:=[]) ((kIfD (p:=a4<a3) (kIx (enc:=eI) (l:=x9) (k:=a4) fun v0=>(kN (wr (x3*v0)) rfl fun v1=>(kM0 (alts:=Uq () (x9,a3)) (Q4o v1 (wr (a4+(1:Int)))))))
 (kX (alts:=Uq () (x9,a3)) x3 (.here _ rfl (.refl _) (.refl _)))) h)) x3 a4 o h
def W0(x0:List Int):Option Int:=
 U1 x0>>=fun v0=>
 if v0 !=(0:Int) then
 some (0:Int)
 else
 some ((1:Int):Int)>>=fun v1=>
 some (List.length x0:Int)>>=fun v2=>
 some (x0,v2)>>=fun v3=>
 YU v1 x0 v2 (0:Int)>>=fun v5=>
 some v5
theorem AN(x0:List Int)(r:Int)(h:W0 x0=some r):PU 24 [eLI x0] (eI r):=
 Pu2 (hs:=[(7,.c eI),(8,.split),(10,.n eI 10 none),(3,.n eI 3 none),(3000006,.l [] [3,9,10,11] [] [3] [] (Uq ()))]) ((kC (sh:=eI) (M7 x0) fun v0=>(kIf (c:=v0 !=(0:Int)) (kEr (enc:=eI) (0:Int))
 (kN (1:Int) rfl fun v1=>(kN _ (mLen (sh:=eI) x0) fun v2=>(kL1 (x0,v2) (Ri v1 x0 v2 (0:Int)) fun v3 v5=>(kEr (enc:=eI) v5)))))) h)
def Kp(s:Unit)(u:((List Qf)×Int))(o:Int):List Alt:=[⟨fun(x:Int)=>x=o,.exit 0,fun x=>[ii x],fun x=>[]⟩]
def VL(s:((List Qf)×Int))(u:Int)(o:Int):List Alt:=[⟨fun(x:Int)=>x=o,.normal,fun x=>[ii x,.sl 4 (List.map Q4 (s.1)),ii (s.2),ii u],fun x=>[]⟩]
def Zw(x3:Int)(x6:List Qf)(x7:Int)(x8:Int):Option Int:=
 if x8<x7 then
 some x8>>=fun v0=>
 (ix x6 x8>>=fun v2=>
 if !v2.fFrom==[] then
 some (wr (x3+(1:Int)))
 else
 some x3)>>=fun v3=>
 Zw v3 x6 x7 (wr (v0+(1:Int)))
 else
 some x3
 partial_fixpoint
theorem MX(x3:Int)(x6:List Qf)(x7:Int)(x8:Int)(o:Int)(h:Zw x3 x6 x7 x8=some o):LO 49 3 19 [3,6,7,8] [ii x3,.sl 4 (List.map Q4 x6),ii x7,ii x8] [] [3] (Kp () (x6,x7) o):=
 Zw.partial_correctness x6 x7 (fun x3 x8 o=>LO 49 3 19 [3,6,7,8] [ii x3,.sl 4 (List.map Q4 x6),ii x7,ii x8] [] [3] (Kp () (x6,x7) o))
 (fun Zw Q2g x3 x8 o h=>
 Lp2 (hs:=[(9,.split),(10,.e Q4),(14,.split),(7000001,.l [] [] [] [3,6,7,8] [] (VL (x6,x7)))]) (kb:=[]) (kbx:=[]) ((kIfD (p:=x8<x7) (kJ1 (id:=7000001) x8 (fun v0 a7 v1=>(kIx (enc:=Q4) (l:=x6) (k:=x8) fun v2=>(kIf (c:= !v2.fFrom==[]) (kXj (alts:=VL (x6,x7)) a7 (wr (x3+(1:Int))) (.here _ rfl (.refl _) (.refl _)))
 (kXj (alts:=VL (x6,x7)) a7 x3 (.here _ rfl (.refl _) (.refl _))))))
 (fun v0 v3=>(kM0 (alts:=Kp () (x6,x7)) (Q2g v3 (wr (v0+(1:Int)))))))
 (kX (alts:=Kp () (x6,x7)) x3 (.here _ rfl (.refl _) (.refl _)))) h)) x3 x8 o h
def VN(x0:List Qf):Option Int:=
 some (List.length x0:Int)>>=fun v0=>
 some (x0,v0)>>=fun v1=>
 Zw (0:Int) x0 v0 (0:Int)>>=fun v3=>
 some v3
theorem N8(x0:List Qf)(r:Int)(h:VN x0=some r):PU 49 [Kn x0] (eI r):=
 Pu2 (hs:=[(7,.n eI 7 none),(3000004,.l [] [3,6,7,8] [] [3] [] (Kp ()))]) ((kN _ (mLen (sh:=Q4) x0) fun v0=>(kL1 (x0,v0) (MX (0:Int) x0 v0 (0:Int)) fun v1 v3=>(kEr (enc:=eI) v3))) h)
def VK(s:Unit)(u:(Q5× (List Q6)×Int))(o:Q5):List Alt:=[⟨fun(x:Q5)=>x=o,.exit 1,fun x=>[.ptr 0 0 0,.ptr 1 0 0],fun x=>[.cells 0 (Q9 u.1).cells,.cells 0 (Q9 x).cells]⟩]
def Yy(s:Q0)(u:(Q5×Q5))(o:Bool):List Alt:=jb o (fun b=>[.ptr 0 0 0,.ptr 1 0 0,.ptr 2 0 0,.bool b]) [.cells 0 (Q2 s).cells,.cells 0 (Q9 (u.1)).cells,.cells 0 (Q9 (u.2)).cells]
def KD(s:Q0)(u:Q5)(o:Q5):List Alt:=[⟨fun(x:Q5)=>x=o,.normal,fun x=>[.ptr 0 0 0,.ptr 1 0 0,.ptr 2 0 0],fun x=>[.cells 0 (Q2 s).cells,.cells 0 (Q9 u).cells,.cells 0 (Q9 x).cells]⟩]
mutual
def KI(x0:Q0):Option Q5:=
 some (Q5.mk (0:Int) (0:Int) (0:Int) (0:Int) (0:Int))>>=fun v0=>
 (if x0.fOp==(3:Int) then
 VN x0.fIdx>>=fun v2=>
 some (Q5.mk (0:Int) (wr ((1:Int)+v2)) (0:Int) (0:Int) (0:Int))
 else
 some ((Q5.mk (0:Int) (0:Int) (0:Int) (0:Int) (0:Int)),(Q5.mk (0:Int) (0:Int) (0:Int) (0:Int) (0:Int)))>>=fun v3=>
 (if(4:Int)≤x0.fOp then
 if x0.fOp≤(15:Int) then
 if x0.fOp !=(11:Int) then
 some true
 else
 some false
 else
 some false
 else
 some false)>>=fun v4=>if v4 then
 some (Q5.mk v3.snd.fLoops v3.snd.fReads v3.snd.fWrites (1:Int) v3.snd.fWords)
 else
 some v3.snd)>>=fun v7=>
 some (List.length x0.fArgs:Int)>>=fun v8=>
 some (v0,x0.fArgs,v8)>>=fun v9=>
 ZX v7 x0.fArgs v8 (0:Int)>>=fun a5=>
 some a5
 partial_fixpoint
def ZX(x3:Q5)(a4:List Q6)(a5:Int)(a3:Int):Option Q5:=
 if a3<a5 then
 Option.map Q6.f (ix a4 a3)>>=fun v0=>
 KI v0>>=fun v1=>
 UV x3 v1>>=fun v2=>
 ZX v2 a4 a5 (wr (a3+(1:Int)))
 else
 some x3
 partial_fixpoint
end
theorem Ep:(∀(x0:Q0) (r:Q5),KI x0=some r→PU 48 [Q2 x0] (Q9 r))∧(∀(x3:Q5) (a3:List Q6) (a4:Int) (a7:Int) (o:Q5),ZX x3 a3 a4 a7=some o→∀(x2:Q5),LO 48 7 43 [2,3,31,32,33] [.ptr 0 0 0,.ptr 1 0 0,.sl 13 (List.map Qo a3),ii a4,ii a7] [.cells 0 (Q9 x2).cells,.cells 0 (Q9 x3).cells] [2,3] (VK () (x2,a3,a4) o)):=
 KI.mutual_partial_correctness (fun x0 r=>PU 48 [Q2 x0] (Q9 r)) (fun x3 a3 a4 a7 o=>∀(x2:Q5),LO 48 7 43 [2,3,31,32,33] [.ptr 0 0 0,.ptr 1 0 0,.sl 13 (List.map Qo a3),ii a4,ii a7] [.cells 0 (Q9 x2).cells,.cells 0 (Q9 x3).cells] [2,3] (VK () (x2,a3,a4) o))
 (fun ZX Q2f x0 r h=>
 Pu2 (hs:=[(9,.split),(12,.c eI),(18,.split),(22,.split),(27,.split),(32,.n eI 32 none),(3000008,.l [] [2,3,31,32,33] [kk 2,kk 3] [2,3] [kk 2,kk 3] (VK ())),(5000004,.l [] [] [] [1,2,3,15] [kk 1,kk 2,kk 3] (Yy x0)),(7000000,.l [] [] [] [1,2,3] [kk 1,kk 2,kk 3] (KD x0))]) ((kJ1 (id:=7000000) (Q5.mk (0:Int) (0:Int) (0:Int) (0:Int) (0:Int)) (fun v0 aa v1=>(kIf (c:=x0.fOp==(3:Int)) (kC (sh:=eI) (N8 x0.fIdx) fun v2=>(kXj (alts:=KD x0) aa (Q5.mk (0:Int) (wr ((1:Int)+v2)) (0:Int) (0:Int) (0:Int)) (.here _ rfl (.refl _) (.refl _))))
 (kJbE (id:=5000004) ((Q5.mk (0:Int) (0:Int) (0:Int) (0:Int) (0:Int)),(Q5.mk (0:Int) (0:Int) (0:Int) (0:Int) (0:Int))) (fun v3 a6 v4=>(kIfD (p:=(4:Int)≤x0.fOp) (kIfD (p:=x0.fOp≤(15:Int)) (kIf (c:=x0.fOp !=(11:Int)) (kXj (alts:=Yy x0) a6 true (.here () rfl (.refl _) (.refl _)))
 (kXj (alts:=Yy x0) a6 false (.next (.here () rfl (.refl _) (.refl _)))))
 (kXj (alts:=Yy x0) a6 false (.next (.here () rfl (.refl _) (.refl _)))))
 (kXj (alts:=Yy x0) a6 false (.next (.here () rfl (.refl _) (.refl _))))))
 (fun v3 a6=>(kXj (alts:=KD x0) (u0:=v3.fst) (by subst a6;exact aa) (Q5.mk v3.snd.fLoops v3.snd.fReads v3.snd.fWrites (1:Int) v3.snd.fWords) (.here _ rfl (.refl _) (.refl _))))
 (fun v3 a6=>(kXj (alts:=KD x0) (u0:=v3.fst) (by subst a6;exact aa) v3.snd (.here _ rfl (.refl _) (.refl _)))))))
 (fun v0 v7=>(kN _ (mLen (sh:=Qo) x0.fArgs) fun v8=>(kL1 (v0,x0.fArgs,v8) (fun y hy=>Q2f v7 x0.fArgs v8 (0:Int) y hy v0) fun v9 ae=>(kEr (enc:=Q9) ae))))) h))
 (fun KI ZX Q2e Q2f x3 a3 a4 a7 o h x2=>
 Lp2 (hs:=[(34,.split),(35,.e Q2),(39,.c Q9),(40,.c Q9)]) (kb:=[kk 2,kk 3]) (kbx:=[kk 2,kk 3]) ((kIfD (p:=a7<a4) (kIxR (l:=a3) (k:=a7) XD fun v0=>(kC (sh:=Q9) (Q2e v0) fun v1=>(kC (sh:=Q9) (MY x3 v1) fun v2=>(kM0 (alts:=VK () (x2,a3,a4)) (fun y hy=>Q2f v2 a3 a4 (wr (a7+(1:Int))) y hy x2)))))
 (kX (alts:=VK () (x2,a3,a4)) x3 (.here _ rfl (.refl _) (.refl _)))) h))
theorem Mv(x0:Q0)(r:Q5)(h:KI x0=some r):PU 48 [Q2 x0] (Q9 r):=(Ep).1 x0 r h
def Kx(s:(Int×Int))(u:Unit)(o:Bool):List Alt:=jb o (fun b=>[ii (s.1),ii (s.2),.bool b]) []
def Ct(x0:Int)(x1:Int):Option Int:=
 some ()>>=fun v0=>
 (if(0:Int)<x0 then
 if x0≠(0:Int) then
 if wr (Int.tdiv (1099511627776:Int) x0)<x1 then
 some true
 else
 some false
 else none
 else
 some false)>>=fun v1=>if v1 then
 some (1099511627776:Int)
 else
 some (wr (x0*x1))
theorem Gj(x0:Int)(x1:Int)(r:Int)(h:Ct x0 x1=some r):PU 51 [eI x0,eI x1] (eI r):=
 Pu2 (hs:=[(6,.split),(10,.s),(11,.split),(5000001,.l [] [] [] [0,1,12] [] (Kx (x0,x1)))]) ((kJb (id:=5000001) () (fun v0 a5 v1=>(kIfD (p:=(0:Int)<x0) (kG (p:=x0≠(0:Int)) (kIfD (p:=wr (Int.tdiv (1099511627776:Int) x0)<x1) (kXj (alts:=Kx (x0,x1)) a5 true (.here () rfl (.refl _) (.refl _)))
 (kXj (alts:=Kx (x0,x1)) a5 false (.next (.here () rfl (.refl _) (.refl _))))))
 (kXj (alts:=Kx (x0,x1)) a5 false (.next (.here () rfl (.refl _) (.refl _))))))
 (fun v0=>(kEr (enc:=eI) (1099511627776:Int)))
 (fun v0=>(kEr (enc:=eI) (wr (x0*x1))))) h)
end Go.Proofs.YtolcgikajjkjgaaGreatDoor
end
noncomputable section
namespace Go.Proofs.YtolcgikajjkjgaaGreatDoor
open Go HY
set_option maxRecDepth 1000000
set_option linter.unusedVariables false
def NB(r:Q5):AV:=.tup []
def Ny(r:Q5):List Box:=[.cells 0 (Q9 r).cells]
def DH(x0:Q5)(x1:Q5):Option Q5:=
 UV x1 x0>>=fun v0=>
 some v0
theorem HP(x0:Q5)(x1:Q5)(r:Q5)(h:DH x0 x1=some r):PH 21 [Q9 x0,.ptr 0 0 0] [.cells 0 (Q9 x1).cells] (NB r) (Ny r):=
 PuH2 (hs:=[(5,.c Q9)]) (kb:=[kk 1]) ((kC (sh:=Q9) (MY x1 x0) fun v0=>(kEH (enc:=NB) (bt:=Ny) v0 ⟨.refl _,.refl _⟩)) h)
end Go.Proofs.YtolcgikajjkjgaaGreatDoor
end
section
namespace Go.Proofs.YtolcgikajjkjgaaGreatDoor
open Go HY
set_option maxRecDepth 1000000
set_option linter.unusedVariables false
noncomputable def CW(f:Nat)(hs:QF)(js:List (Nat×JH))(fv:Value)(xs:List (List AV))(args:List AV)(p m:Nat):Prop:=cfun Tryz.prog gls ch0 wf0 gds 2000 f hs js fv xs args p m
theorem CF1{φ:Prop}{f:Nat}{hs:QF}{js:List (Nat×JH)}{fv:Value}{xs:List (List AV)}{args:List AV}{p m:Nat}(e:φ=CW f hs js fv xs args p m)(h:φ):CF Tryz.prog gls fv xs f args p m:=CF.of (hs:=hs) (js:=js) G2 Gw Wf (show CW f hs js fv xs args p m from e▸h)
abbrev CLo(f r n:Nat)(fv:Value)(xs:List (List AV))(ks:List Nat)(vs:List AV)(bs:List Box)(p:Nat)(kx:List Nat)(x:Exit×List AV)(m:Nat):Prop:=CL Tryz.prog gls fv xs n (YV Tryz.prog f (r+1)) ks vs bs p kx x m
noncomputable def CWR(f r n:Nat)(hs:QF)(js:List (Nat×JH))(fv:Value)(xs:List (List AV))(ks:List Nat)(kb:List KB)(vs:List AV)(bs:List Box)(p:Nat)(kx:List Nat)(x:Exit×List AV)(m:Nat):Prop:=
 cround Tryz.prog gls ch0 wf0 hs js fv xs 2000 n (YV Tryz.prog f (r+1)) ks kb vs bs p kx x m (NxtC Tryz.prog gls fv xs n (YV Tryz.prog f (r+1)) ks kx x m)
theorem CL1{φ:Prop}{f r n:Nat}{hs:QF}{js:List (Nat×JH)}{fv:Value}{xs:List (List AV)}{ks:List Nat}{kb:List KB}{vs:List AV}{bs:List Box}{p:Nat}{kx:List Nat}{x:Exit×List AV}{m:Nat}(a3:(Qx (YV Tryz.prog f (r+1))&& !Qr (YV Tryz.prog f (r+1)))=true)(e:φ=CWR f r n hs js fv xs ks kb vs bs p kx x m)(h:φ):CLo f r n fv xs ks vs bs p kx x m:=by
 simp only[Bool.and_eq_true,Bool.not_eq_true'] at a3;exact CL.step (hs:=hs) (js:=js) G2 Gw LJ a3.1 a3.2 (show CWR f r n hs js fv xs ks kb vs bs p kx x m from e▸h)
end Go.Proofs.YtolcgikajjkjgaaGreatDoor
end
section
namespace Go.Proofs.YtolcgikajjkjgaaGreatDoor
open Go HY
set_option linter.unusedVariables false
set_option linter.unusedSimpArgs false
def zC:Q5:=⟨0,0,0,0,0⟩
def sumC(a b:Q5):Q5:=⟨min (a.fLoops+b.fLoops) 1099511627776,min (a.fReads+b.fReads) 1099511627776,min (a.fWrites+b.fWrites) 1099511627776,min (a.fOps+b.fOps) 1099511627776,min (a.fWords+b.fWords) 1099511627776⟩
def tmC(m:Int)(c:Q5):Q5:=⟨min (m*c.fLoops) 1099511627776,min (m*c.fReads) 1099511627776,min (m*c.fWrites) 1099511627776,min (m*c.fOps) 1099511627776,0⟩
def okN(n:Int):Prop:=0≤n∧n≤1099511627776
structure okC (c:Q5):Prop where
 l:okN c.fLoops
 r:okN c.fReads
 w:okN c.fWrites
 o:okN c.fOps
 m:okN c.fWords
theorem Cs:okC zC:=by constructor<;>exact⟨by decide,by decide⟩
theorem We{a b:Int}(ha:okN a)(hb:okN b):Yf a b=some (min (a+b) 1099511627776):=by
 unfold okN at*;unfold Yf;rw[Z2 (by omega)];simp
theorem C4{a b:Int}(ha:okN a)(hb:okN b):XB a b=some (min (a+b) 1099511627776):=by
 unfold okN at*;unfold XB;rw[Z2 (by omega)];simp
theorem G9{a b:Q5}(ha:okC a)(hb:okC b):okC (sumC a b):=by
 obtain⟨a1,a2,a3,a4,a5⟩:=ha;obtain⟨b1,b2,b3,b4,b5⟩:=hb;unfold okN at*;constructor<;>unfold okN<;>simp only[sumC]<;>omega
theorem p_sum{a b:Q5}(ha:okC a)(hb:okC b):UV a b=some (sumC a b):=by
 unfold UV;rw[We ha.l hb.l,bS,We ha.r hb.r,bS,We ha.w hb.w,bS,We ha.o hb.o,bS,We ha.m hb.m];rfl
theorem Af{a b:Q5}(ha:okC a)(hb:okC b):UG a b=some (sumC a b):=by
 unfold UG;rw[C4 ha.l hb.l,bS,C4 ha.r hb.r,bS,C4 ha.w hb.w,bS,C4 ha.o hb.o,bS,C4 ha.m hb.m];rfl
theorem timesQ{a b:Int}(ha:okN a)(hb:okN b):(0<a∧(1099511627776:Int).tdiv a<b→(1099511627776:Int)=min (a*b) 1099511627776)∧(¬(0<a∧(1099511627776:Int).tdiv a<b)→a*b=min (a*b) 1099511627776∧ -9223372036854775808≤a*b∧a*b≤9223372036854775807)∧(0<a→0≤(1099511627776:Int).tdiv a∧(1099511627776:Int).tdiv a≤1099511627776):=by
 unfold okN at*;rcases Int.lt_or_eq_of_le ha.1 with h | h
 ·have e:(1099511627776:Int).tdiv a=1099511627776/a:=Int.tdiv_eq_ediv_of_nonneg (by omega)
  rw[e];have h0:0≤(1099511627776:Int)/a:=Int.ediv_nonneg (by omega) (by omega)
  have h1:(1099511627776:Int)/a≤1099511627776:=Int.ediv_le_self _ (by omega)
  refine⟨fun⟨_,a6⟩=> ?_,fun hn=> ?_,fun _=>⟨h0,h1⟩⟩
  ·have:¬(b≤1099511627776/a):=by omega
   rw[Int.le_ediv_iff_mul_le h] at this;rw[Int.mul_comm] at this;omega
  ·have:b≤1099511627776/a:=by
    rcases Int.lt_or_le ((1099511627776:Int)/a) b with q | q
    ·exact absurd ⟨h,q⟩ hn
    ·exact q
   rw[Int.le_ediv_iff_mul_le h,Int.mul_comm] at this;have h3:0≤a*b:=Int.mul_nonneg ha.1 hb.1;omega
 ·subst h;simp<;>decide
theorem Le{a b:Int}(ha:okN a)(hb:okN b):Ct a b=some (min (a*b) 1099511627776):=by
 obtain⟨h1,h2,h3⟩:=timesQ ha hb;unfold Ct;rw[bS];by_cases h:0<a
 ·have h3:=h3 h;rw[if_pos h,if_pos (show a≠0 by omega),Z2 (by omega)]
  by_cases hc:(1099511627776:Int).tdiv a<b;·rw[if_pos hc,bS,if_pos rfl];exact congrArg some (h1 ⟨h,hc⟩)
  ·rw[if_neg hc,bS,if_neg (by simp),Z2 (h2 (fun q=>hc q.2)).2];exact congrArg some (h2 (fun q=>hc q.2)).1
 ·rw[if_neg h,bS,if_neg (by simp),Z2 (h2 (fun q=>h q.1)).2];exact congrArg some (h2 (fun q=>h q.1)).1
theorem HF{a b:Int}(ha:okN a)(hb:okN b):Ue a b=some (min (a*b) 1099511627776):=Le ha hb
theorem He{m:Int}{c:Q5}(hm:okN m)(hc:okC c):okC (tmC m c):=by
 obtain⟨c1,c2,c3,c4,c5⟩:=hc;unfold okN at*;have q:∀x:Int,0≤x→0≤m*x:=fun x hx=>Int.mul_nonneg hm.1 hx
 have:=q _ c1.1;have:=q _ c2.1;have:=q _ c3.1;have:=q _ c4.1;constructor<;>unfold okN<;>simp only[tmC]<;>omega
theorem r_scale{c:Q5}{m:Int}(hm:okN m)(hc:okC c):Ci c m=some (tmC m c):=by
 unfold Ci;rw[HF hc.l hm,bS,HF hc.r hm,bS,HF hc.w hm,bS,HF hc.o hm];simp only[bS,tmC,Int.mul_comm]
theorem minA(a b c:Int)(ha:okN a)(hc:okN c):min (min (a+b) 1099511627776+c) 1099511627776=min (a+min (b+c) 1099511627776) 1099511627776:=by unfold okN at*;omega
theorem LX{a b c:Q5}(ha:okC a)(hc:okC c):sumC (sumC a b) c=sumC a (sumC b c):=by
 simp only[sumC,minA _ _ _ ha.l hc.l,minA _ _ _ ha.r hc.r,minA _ _ _ ha.w hc.w,minA _ _ _ ha.o hc.o,minA _ _ _ ha.m hc.m]
theorem Q02{a:Q5}(ha:okC a):sumC a zC=a:=by
 obtain⟨a1,a2,a3,a4,a5⟩:=a;obtain⟨h1,h2,h3,h4,h5⟩:=ha;unfold okN at*;simp only at h1 h2 h3 h4 h5;simp only[sumC,zC,Q5.mk.injEq];omega
theorem minM{m a b:Int}(hm:0≤m)(ha:okN a)(hb:okN b):min (m*min (a+b) 1099511627776) 1099511627776=min (min (m*a) 1099511627776+min (m*b) 1099511627776) 1099511627776:=by
 unfold okN at*;have h1:0≤m*a:=Int.mul_nonneg hm ha.1;have h2:0≤m*b:=Int.mul_nonneg hm hb.1;by_cases h:a+b≤1099511627776;·rw[Int.min_eq_left h,Int.mul_add];omega
 ·rw[Int.min_eq_right (show(1099511627776:Int)≤a+b by omega)]
  rcases Int.lt_or_eq_of_le hm with q | q
  ·have e1:(1099511627776:Int)≤m*1099511627776:=by omega
   have e2:m*(a+b)≥1*(a+b):=Int.mul_le_mul_of_nonneg_right (by omega) (by omega)
   rw[Int.mul_add] at e2;omega
  ·subst q;simp<;>decide
theorem tmC_sum{m:Int}{a b:Q5}(hm:0≤m)(ha:okC a)(hb:okC b):tmC m (sumC a b)=sumC (tmC m a) (tmC m b):=by
 simp only[tmC,sumC,minM hm ha.l hb.l,minM hm ha.r hb.r,minM hm ha.w hb.w,minM hm ha.o hb.o];rfl
theorem Q1k{m:Int}:tmC m zC=zC:=by simp[tmC,zC]<;>decide
def gth(l:List Qf):Int:=((l.filter fun i=> !(i.fFrom==[])).length:Nat)
theorem Fg(i:Qf)(t:List Qf):gth (i::t)=(if !(i.fFrom==[]) then 1 else 0)+gth t:=by
 unfold gth;rw[List.filter_cons];split;·simp;omega
 ·simp
theorem L7(l:List Qf):0≤gth l∧gth l≤l.length:=by
 unfold gth;have:=List.length_filter_le (fun i:Qf=> !(i.fFrom==[])) l
 omega
theorem S6(l:List Qf)(hl:l.length≤1000):VN l=some (gth l):=by
 have key:Zw 0 l l.length 0=some (0+gth l):=by
  refine Y7 (F:=fun a i=>Zw a l l.length i) (l:=l) (fun a t=>0≤a∧a+t.length≤1000) (fun a t=>a+gth t) ?_ ?_ 0 ⟨by omega,by omega⟩
  ·intro a _;rw[Zw,if_neg (by omega)];simp[gth]
  ·intro i x t a h0 h1 _ a3 hI ih;rw[Zw,if_pos h1,bS,a3,bS,Zn h0 h1 (by omega),Fg]
   simp only[List.length_cons] at hI;by_cases hc:(!(x.fFrom==[]))=true;·rw[if_pos hc,if_pos hc,bS,Z2 (by omega),ih _ (by omega)];congr 1;omega
   ·rw[if_neg hc,if_neg hc,bS,ih _ (by omega)];congr 1;omega
 unfold VN;simp only[bS];rw[key,bS];simp
theorem Sc(l:List Qf)(hl:l.length≤1000):Ur l=some (gth l):=by
 have key:X1 l 0 0=some (0+gth l):=by
  refine Y7 (F:=fun a i=>X1 l a i) (l:=l) (fun a t=>0≤a∧a+t.length≤1000) (fun a t=>a+gth t) ?_ ?_ 0 ⟨by omega,by omega⟩
  ·intro a _;rw[X1,bS,if_neg (by omega)];simp[gth]
  ·intro i x t a h0 h1 _ a3 hI ih;rw[X1,bS,if_pos h1,bS,a3,bS,Zn h0 h1 (by omega),Fg]
   simp only[List.length_cons] at hI;by_cases hc:(!(x.fFrom==[]))=true;·rw[if_pos hc,if_pos hc,bS,Z2 (by omega),ih _ (by omega)];congr 1;omega
   ·rw[if_neg hc,if_neg hc,bS,ih _ (by omega)];congr 1;omega
 unfold Ur;simp only[bS];rw[key,bS];simp
def ownE(x:Q0):Q5:=if x.fOp=3 then⟨0,1+gth x.fIdx,0,0,0⟩ else if 4≤x.fOp∧x.fOp≤15∧x.fOp≠11 then⟨0,0,0,1,0⟩ else zC
def exC:Q6→Q5
 | .mk x=>(x.fArgs.attach.map fun a=>exC a.1).foldl sumC (ownE x)
 termination_by e=>SizeOf.sizeOf e
 decreasing_by exact Q6.lt a.2
theorem F5(x:Q0):exC (.mk x)=(x.fArgs.map exC).foldl sumC (ownE x):=by rw[exC];simp
theorem TB{x:Q0}(hl:x.fIdx.length≤6):okC (ownE x)∧(ownE x).fLoops=0∧(ownE x).fWrites=0∧(ownE x).fWords=0:=by
 have:=L7 x.fIdx;unfold ownE;split
 ·refine⟨?_,rfl,rfl,rfl⟩;constructor<;>unfold okN<;>simp only<;>omega
 ·split
  ·refine⟨?_,rfl,rfl,rfl⟩;constructor<;>unfold okN<;>simp only<;>omega
  ·exact⟨Cs,rfl,rfl,rfl⟩
theorem D6:∀ {l:List Q5} {c:Q5},okC c→(∀x∈l,okC x)→okC (l.foldl sumC c)
 | [],c,h,_=>h
 |x::t,c,h,hl=>D6 (l:=t) (c:=sumC c x) (G9 h (hl x (by simp))) fun y hy=>hl y (by simp[hy])
theorem O7:∀ {l:List Q5} {c:Q5},c.fLoops=0→c.fWrites=0→c.fWords=0→(∀x∈l,x.fLoops=0∧x.fWrites=0∧x.fWords=0)→(l.foldl sumC c).fLoops=0∧(l.foldl sumC c).fWrites=0∧(l.foldl sumC c).fWords=0
 | [],c,a,b,d,_=>⟨a,b,d⟩
 |x::t,c,a,b,d,hl=>by
  obtain⟨e1,e2,e3⟩:=hl x (by simp)
  refine O7 (c:=sumC c x) ?_ ?_ ?_ fun y hy=>hl y (by simp[hy])<;>simp[sumC,a,b,d,e1,e2,e3]<;>decide
theorem Wa:∀e:Q6,JB e→okC (exC e)∧(exC e).fLoops=0∧(exC e).fWrites=0∧(exC e).fWords=0:=Q6.ind fun x ih hg=>by
 obtain⟨g1,g2⟩:=hg.args;have hx:=(Dx (Gb g1).2.1).2.1;obtain⟨o1,o2,o3,o4⟩:=TB hx;rw[F5];refine⟨D6 o1 fun y hy=> ?_,O7 o2 o3 o4 fun y hy=> ?_⟩<;>obtain⟨a,ha,rfl⟩:=List.mem_map.1 hy
 ·exact(ih a ha (g2 a ha)).1
 ·exact(ih a ha (g2 a ha)).2
theorem TY{x:Q0}(g1:K0 x=0):x.fArgs.length≤1000:=by
 have:=(Dx (Gb g1).2.1).1;unfold Wd at this;split at this;·omega
 ·split at this;·omega
  ·split at this<;>omega
theorem p_exC:∀e:Q6,JB e→KI e.f=some (exC e):=Q6.ind fun x ih hg=>by
 obtain⟨g1,g2⟩:=hg.args;have hx:=(Dx (Gb g1).2.1).2.1;have hl:=TY g1;obtain⟨o1,_⟩:=TB hx;have ag:=L7 x.fIdx;have hL:∀c,okC c→ZX c x.fArgs x.fArgs.length 0=some ((x.fArgs.map exC).foldl sumC c):=fun c hc=>by
  refine Y7 (F:=fun a i=>ZX a x.fArgs x.fArgs.length i) (l:=x.fArgs) (fun a _=>okC a) (fun a t=>(t.map exC).foldl sumC a) ?_ ?_ c hc
  ·intro a _;rw[ZX,if_neg (by omega)];rfl
  ·intro i y t a h0 h1 hm a5 hI a7;have hy:=(Wa y (g2 y hm)).1;rw[ZX,if_pos h1,a5,omS,bS,ih y hm (g2 y hm),bS,p_sum hI hy,bS,Zn h0 h1 (by omega),a7 _ (G9 hI hy)];rfl
 have a3:∀k:Q5→Option Q5,((if(x.fOp==(3:Int))=true then VN x.fIdx>>=fun v2=>some (Q5.mk (0:Int) (wr ((1:Int)+v2)) (0:Int) (0:Int) (0:Int)) else
   some ((Q5.mk (0:Int) (0:Int) (0:Int) (0:Int) (0:Int)),(Q5.mk (0:Int) (0:Int) (0:Int) (0:Int) (0:Int)))>>=fun v3=>
   (if(4:Int)≤x.fOp then if x.fOp≤(15:Int) then if(x.fOp !=(11:Int))=true then some true else some false else some false else some false)>>=fun v4=>if v4=true then
   some (Q5.mk v3.snd.fLoops v3.snd.fReads v3.snd.fWrites (1:Int) v3.snd.fWords) else some v3.snd)>>=k)=k (ownE x):=fun k=>by
  rw[S6 _ (by omega)]
  unfold ownE;by_cases h3:x.fOp=3
  ·simp only[h3,bS,if_pos,beq_self_eq_true];rw[Z2 (by omega)]
  ·rw[if_neg (by simp[h3]),if_neg h3]
   by_cases h4:4≤x.fOp<;>by_cases h5:x.fOp≤15<;>by_cases h6:x.fOp=11<;>simp[h4,h5,h6,bS,zC]
 rw[Q6.f_mk,KI,F5,bS,a3];simp only[bS];rw[hL _ o1,bS]
theorem r_exC:∀e:Q6,JB e→YC e.f=some (exC e):=Q6.ind fun x ih hg=>by
 obtain⟨g1,g2⟩:=hg.args;have hx:=(Dx (Gb g1).2.1).2.1;have hl:=TY g1;obtain⟨o1,_⟩:=TB hx;have ag:=L7 x.fIdx;have hL:∀c,okC c→ZN x c 0=some ((x.fArgs.map exC).foldl sumC c):=fun c hc=>by
  refine Y7 (F:=fun a i=>ZN x a i) (l:=x.fArgs) (fun a _=>okC a) (fun a t=>(t.map exC).foldl sumC a) ?_ ?_ c hc
  ·intro a _;rw[ZN,bS,if_neg (by omega)];rfl
  ·intro i y t a h0 h1 hm a4 hI a6;have hy:=(Wa y (g2 y hm)).1;rw[ZN,bS,if_pos h1,a4,omS,bS,ih y hm (g2 y hm),bS,Af hI hy,bS,Zn h0 h1 (by omega),a6 _ (G9 hI hy)];rfl
 have hq:(if(x.fOp==(4:Int))=true then some true else if(x.fOp==(5:Int))=true then some true else if(x.fOp==(6:Int))=true then some true else if(x.fOp==(7:Int))=true then some true else if(x.fOp==(8:Int))=true then some true else if(x.fOp==(9:Int))=true then some true else if(x.fOp==(10:Int))=true then some true else if(x.fOp==(12:Int))=true then some true else if(x.fOp==(13:Int))=true then some true else if(x.fOp==(14:Int))=true then some true else if(x.fOp==(15:Int))=true then some true else some false)=some (decide (4≤x.fOp∧x.fOp≤15∧x.fOp≠11)):=by
  by_cases h:4≤x.fOp∧x.fOp≤15∧x.fOp≠11
  ·rw[decide_eq_true h];simp only[beq_iff_eq]
   repeat (first | rfl | (split;rfl))
   omega
  ·rw[decide_eq_false h];simp only[beq_iff_eq]
   repeat (rw[if_neg (by omega)])
 rw[Q6.f_mk,YC,F5];simp only[bS,hq];rw[Sc _ (by omega)]
 have e1:(x.fOp==(3:Int))=decide (x.fOp=3):=rfl;rw[show ownE x=(if x.fOp=3 then⟨0,1+gth x.fIdx,0,0,0⟩ else if 4≤x.fOp∧x.fOp≤15∧x.fOp≠11 then⟨0,0,0,1,0⟩ else zC:Q5) from rfl] at*
 by_cases h3:x.fOp=3
 ·simp only[h3,if_pos,bS,beq_self_eq_true] at o1 ⊢;rw[Z2 (by omega),hL _ o1,bS]
 ·rw[if_neg (by simp[h3])]
  rw[if_neg h3] at o1 ⊢;by_cases h4:4≤x.fOp∧x.fOp≤15∧x.fOp≠11
  ·rw[if_pos h4] at o1 ⊢;rw[if_pos (by simpa using h4),bS,hL _ o1,bS]
  ·rw[if_neg h4] at o1 ⊢;rw[if_neg (by simpa using h4),bS]
   exact(congrArg (· >>=fun a7=>some a7) (hL _ o1)).trans rfl
def szD(d:List Int):Int:=if DB d=0 then(V9 1 d).getD 0 else 0
theorem szStep(d:List Int){F:Int→Int→Option Int}(h0:∀a,F a d.length=some a)(h1:∀a (i:Int) x,0≤i→i<d.length→ix d i=some x→F a i=F (wr (a*x)) (wr (i+1)))(hl:d.length≤6):
  ∀m,V9 1 d=some m→F 1 0=some m:=fun m hm=>by
 have key:∀(t p:List Int) (a:Int),d=p++t→1≤a→a≤4096→V9 a t=some m→F a p.length=some m:=by
  intro t
  induction t with
  |nil=>
   intro p a e _ _ h;have:p.length=d.length:=by rw[e];simp
   cases h;rw[this,h0]
  |cons v t ih=>
   intro p a e ha a8 h;have a3:(p.length:Int)<d.length:=by rw[e];simp;omega
   simp only[V9] at h;split at h;·cases h
   ·rename_i hc;have hv:1≤v:=by omega
    have h2:1≤a*v:=by have:=Int.mul_le_mul ha hv (by omega) (by omega);omega
    rw[h1 a p.length v (by omega) a3 (YE e),Z2 (by omega),Zn (by omega) a3 (by omega)]
    have:=ih (p++[v]) (a*v) (by rw[e];simp) h2 (by omega) h
    rw[show((p++[v]).length:Int)=(p.length:Int)+1 by simp] at this
    exact this
 exact key d [] 1 rfl (by omega) (by omega) hm
theorem TK{d:List Int}(h:DB d=0):d.length≤6∧∃m,V9 1 d=some m∧okN m:=by
 unfold DB at h;split at h;·cases h
 ·split at h;·cases h
  ·split at h
   ·rename_i h1 _ h3;obtain⟨m,hm⟩:=Option.isSome_iff_exists.1 h3;have:=Sh (by omega) hm
    exact⟨by omega,m,hm,by unfold okN;omega⟩
   ·cases h
theorem FX(d:List Int):okN (szD d):=by
 unfold szD;split
 ·rename_i h;obtain⟨_,m,hm,hk⟩:=TK h;rw[hm];exact hk
 ·unfold okN;omega
theorem p_szD(d:List Int):W0 d=some (szD d):=by
 unfold W0 szD;rw[Oo,bS];by_cases h:DB d=0
 ·obtain⟨hl,m,hm,_⟩:=TK h;rw[if_neg (by simp[h]),if_pos h,hm]
  simp only[bS];rw[szStep d (F:=fun a i=>YU a d d.length i) (fun a=>by rw[YU,if_neg (by omega)]) (fun a i x h0 h1 hx=>by rw[YU,if_pos h1,hx,bS,bS]) hl m hm];rfl
 ·rw[if_pos (by simp[h]),if_neg h]
theorem r_szD(d:List Int):CS d=some (szD d):=by
 unfold CS szD;rw[Ot,bS];by_cases h:DB d=0
 ·obtain⟨hl,m,hm,_⟩:=TK h;rw[if_neg (by simp[h]),if_pos h,hm]
  simp only[bS];rw[szStep d (F:=fun a i=>YT d a i) (fun a=>by rw[YT,bS,if_neg (by omega)]) (fun a i x h0 h1 hx=>by rw[YT,bS,if_pos h1,hx,bS,bS]) hl m hm];rfl
 ·rw[if_pos (by simp[h]),if_neg h]
end Go.Proofs.YtolcgikajjkjgaaGreatDoor
end
section
namespace Go.Proofs.YtolcgikajjkjgaaGreatDoor
open Go HY
set_option maxRecDepth 1000000
set_option linter.unusedVariables false
set_option linter.unusedSimpArgs false
def ownS(x:Qq):Q5:=
 if x.fOp=3 then⟨(exC (.mk x.fExpr)).fLoops,min (min ((exC (.mk x.fExpr)).fReads+gth x.fIdx) 1099511627776+1) 1099511627776,1,min ((exC (.mk x.fExpr)).fOps+1) 1099511627776,(exC (.mk x.fExpr)).fWords⟩
 else⟨(exC (.mk x.fExpr)).fLoops,min ((exC (.mk x.fExpr)).fReads+gth x.fIdx) 1099511627776,1,(exC (.mk x.fExpr)).fOps,(exC (.mk x.fExpr)).fWords⟩
def stX(x:Qq)(b:List Q5):List Q5:=
 if x.fOp=2∨x.fOp=3 then [ownS x] else if x.fOp=4 then exC (.mk x.fExpr)::b else if x.fOp=1 then⟨x.fMany,0,0,0,0⟩::b.map (tmC x.fMany) else []
def stC:Qb→List Q5
 | .mk x=>stX x (x.fBody.attach.map fun a=>stC a.1).flatten
 termination_by e=>SizeOf.sizeOf e
 decreasing_by exact Qb.lt a.2
def stL(l:List Qb):List Q5:=(l.map stC).flatten
theorem RM(s:Qb):stC s=stX s.f (stL s.f.fBody):=by
 cases s with
 |mk x=>rw[stC];simp[stL,Qb.f]
theorem LW(s:Qb)(t:List Qb):stL (s::t)=stC s++stL t:=by simp[stL]
def IK(x:Q0):Prop:=x.fOp=0∧x.fArgs=[]
theorem Ba{x:Q0}(h:IK x):∃z,YC x=some z:=by
 obtain⟨h1,h2⟩:=h;have hL:∀c,ZN x c 0=some c:=fun c=>by rw[ZN,bS,if_neg (by simp[h2])]
 refine⟨zC,?_⟩;rw[YC];simp[h1,bS,hL,zC]
inductive gdS:Qb→Prop
 |mk (x:Qq) (ho:x.fOp=1∨x.fOp=2∨x.fOp=3∨x.fOp=4) (hs:x.fOp=2∨x.fOp=3→JB (.mk x.fExpr)∧x.fIdx.length≤6) (hi:x.fOp=4→JB (.mk x.fExpr)) (hf:x.fOp=1→1≤x.fMany∧x.fMany≤65536) (hz:x.fOp=1→IK x.fExpr) (hl:x.fBody.length≤4611686018427387904) (hb:∀a∈x.fBody,gdS a):gdS (.mk x)
theorem gdS.of{s:Qb}(h:gdS s):(s.f.fOp=1∨s.f.fOp=2∨s.f.fOp=3∨s.f.fOp=4)∧(s.f.fOp=2∨s.f.fOp=3→JB (.mk s.f.fExpr)∧s.f.fIdx.length≤6)∧(s.f.fOp=4→JB (.mk s.f.fExpr))∧(s.f.fOp=1→1≤s.f.fMany∧s.f.fMany≤65536)∧(s.f.fOp=1→IK s.f.fExpr)∧s.f.fBody.length≤4611686018427387904∧∀a∈s.f.fBody,gdS a:=by
 cases h with
 |mk x a b c d z e f=>exact⟨a,b,c,d,z,e,f⟩
theorem CB{m:Int}(h:1≤m∧m≤65536):okC ⟨m,0,0,0,0⟩∧okN m:=by
 refine⟨?_,by unfold okN;omega⟩
 constructor<;>unfold okN<;>simp only<;>omega
theorem Ol{x:Qq}(hg:JB (.mk x.fExpr))(hi:x.fIdx.length≤6):okC (ownS x):=by
 obtain⟨⟨a1,a2,a3,a4,a5⟩,b1,b2,b3⟩:=Wa _ hg;have:=L7 x.fIdx;unfold okN at*;unfold ownS;split<;>constructor<;>unfold okN<;>simp only<;>omega
theorem IF{P:List Qb→Prop}(h:∀l,(∀s∈l,gdS s)→(∀s∈l,P s.f.fBody)→P l):∀l,(∀s∈l,gdS s)→P l:=by
 have key:∀s:Qb,gdS s→P s.f.fBody:=Qb.ind fun x ih hx=>h _ hx.of.2.2.2.2.2.2 fun s hs=>ih s hs (hx.of.2.2.2.2.2.2 s hs)
 exact fun l hl=>h l hl fun s hs=>key s (hl s hs)
theorem Mq:∀l,(∀s∈l,gdS s)→∀c∈stL l,okC c:=IF fun l hl ih c hc=>by
 obtain⟨q,hq,hc⟩:=List.mem_flatten.1 hc;obtain⟨s,hs,rfl⟩:=List.mem_map.1 hq;obtain⟨ho,a4,h4,h1,_,_,_⟩:=(hl s hs).of;rw[RM] at hc;unfold stX at hc;split at hc
 ·rename_i h;simp at hc;subst hc;exact Ol (a4 h).1 (a4 h).2
 ·split at hc
  ·rename_i h;rcases List.mem_cons.1 hc with rfl | hc
   ·exact(Wa _ (h4 h)).1
   ·exact ih s hs c hc
  ·split at hc
   ·rename_i h;rcases List.mem_cons.1 hc with rfl | hc
    ·exact(CB (h1 h)).1
    ·obtain⟨y,hy,rfl⟩:=List.mem_map.1 hc;exact He (CB (h1 h)).2 (ih s hs y hy)
   ·cases hc
theorem Fb:∀(L:List Q5) (a c:Q5),okC a→okC c→(∀x∈L,okC x)→L.foldl sumC (sumC a c)=sumC a (L.foldl sumC c)
 | [],a,c,_,_,_=>rfl
 |x::t,a,c,ha,hc,h=>by
  simp only[List.foldl_cons];rw[LX ha (h x (by simp)),Fb t a (sumC c x) ha (G9 hc (h x (by simp))) fun y hy=>h y (by simp[hy])]
theorem TX{L:List Q5}{c:Q5}(hc:okC c)(h:∀x∈L,okC x):L.foldl sumC c=sumC c (L.foldl sumC zC):=by
 have:=Fb L c zC hc Cs h
 rwa [Q02 hc] at this
theorem O8{m:Int}(hm:okN m):∀(L:List Q5) (a:Q5),okC a→(∀x∈L,okC x)→(L.map (tmC m)).foldl sumC (tmC m a)=tmC m (L.foldl sumC a)
 | [],a,_,_=>rfl
 |x::t,a,ha,h=>by
  simp only[List.map_cons,List.foldl_cons];rw[← tmC_sum hm.1 ha (h x (by simp)),O8 hm t (sumC a x) (G9 ha (h x (by simp))) fun y hy=>h y (by simp[hy])]
def rfX(x:Qq)(b:Q5):Q5:=
 if x.fOp=2∨x.fOp=3 then ownS x else if x.fOp=1 then sumC ⟨x.fMany,0,0,0,0⟩ (tmC x.fMany b) else if x.fOp=4 then sumC (exC (.mk x.fExpr)) b else zC
def rfC(s:Qb):Q5:=rfX s.f ((stL s.f.fBody).foldl sumC zC)
theorem Q0w{s:Qb}(hs:gdS s){c:Q5}(hc:okC c):(stC s).foldl sumC c=sumC c (rfC s):=by
 obtain⟨ho,a8,h4,h1,_,_,hb⟩:=hs.of;have hB:=Mq _ hb;have a3:=D6 Cs hB;rw[RM];unfold stX rfC rfX;by_cases h:s.f.fOp=2∨s.f.fOp=3;·rw[if_pos h,if_pos h];rfl
 ·rw[if_neg h,if_neg h];by_cases q:s.f.fOp=4
  ·rw[if_pos q,if_neg (by omega),if_pos q]
   have:=(Wa _ (h4 q)).1;rw[List.foldl_cons,TX (G9 hc this) hB,LX hc a3]
  ·have q1:s.f.fOp=1:=by omega
   obtain⟨m1,m2⟩:=CB (h1 q1);rw[if_neg q,if_pos q1,if_pos q1,List.foldl_cons,TX (G9 hc m1) (fun x hx=>by obtain⟨y,hy,rfl⟩:=List.mem_map.1 hx;exact He m2 (hB y hy))]
   have e:((stL s.f.fBody).map (tmC s.f.fMany)).foldl sumC zC=tmC s.f.fMany ((stL s.f.fBody).foldl sumC zC):=by
    have:=O8 m2 (stL s.f.fBody) zC Cs hB
    rwa [Q1k] at this
   rw[e,LX hc (He m2 a3)]
theorem FO{s:Qb}(hs:gdS s):okC (rfC s):=by
 obtain⟨ho,a3,h4,h1,_,_,hb⟩:=hs.of;have a4:=D6 Cs (Mq _ hb);unfold rfC rfX;split;·rename_i h;exact Ol (a3 h).1 (a3 h).2
 ·split;·rename_i h;exact G9 (CB (h1 h)).1 (He (CB (h1 h)).2 a4)
  ·split;·rename_i h;exact G9 (Wa _ (h4 h)).1 a4
   ·exact Cs
theorem Fa:∀(l:List Qb) (c:Q5),(∀s∈l,gdS s)→okC c→(stL l).foldl sumC c=(l.map rfC).foldl sumC c
 | [],c,_,_=>rfl
 |s::t,c,h,hc=>by
  have hs:=h s (by simp)
  rw[LW,List.foldl_append,Q0w hs hc,List.map_cons,List.foldl_cons,Fa t _ (fun y hy=>h y (by simp[hy])) (G9 hc (FO hs))]
theorem r_stmts:∀l,(∀s∈l,gdS s)→l.length≤4611686018427387904→Kj l=some ((stL l).foldl sumC zC):=IF fun l hl ih aa=>by
 have ai:∀s∈l,GP s.f=some (rfC s):=fun s hs=>by
  obtain⟨ho,ae,h4,h1,hz,af,hb⟩:=(hl s hs).of;have a7:=D6 Cs (Mq _ hb);have a6:=ih s hs af;have a9:JB (.mk s.f.fExpr)→YC s.f.fExpr=some (exC (.mk s.f.fExpr)):=fun h=>by have:=r_exC _ h;rwa [Q6.f_mk] at this
  rw[GP];unfold rfC rfX;by_cases h:s.f.fOp=2∨s.f.fOp=3
  ·obtain⟨g1,g2⟩:=ae h;obtain⟨⟨a1,a2,a3,a4,a5⟩,b1,b2,b3⟩:=Wa _ g1;have az:=L7 s.f.fIdx;have n1:okN (gth s.f.fIdx):=by unfold okN;omega
   have n2:okN (1:Int):=by unfold okN;omega
   have n3:okN (min ((exC (.mk s.f.fExpr)).fReads+gth s.f.fIdx) 1099511627776):=by unfold okN at*;omega
   rw[a9 g1,bS,bS,if_pos h,Sc _ (by omega)]
   have hc:(if(s.f.fOp==(2:Int))=true then some true else if(s.f.fOp==(3:Int))=true then some true else some false)=some true:=by rcases h with h | h<;>simp[h]
   rw[hc,bS,if_pos rfl,bS];simp only;rw[C4 a2 n1,bS,C4 a3 n2,bS,C4 n3 n2,C4 a4 n2];unfold ownS;by_cases h3:s.f.fOp=3;·simp[h3,bS,b2]<;>decide
   ·rw[if_neg (by simp[h3]),if_neg h3];simp[b2]<;>decide
  ·have hc:(if(s.f.fOp==(2:Int))=true then some true else if(s.f.fOp==(3:Int))=true then some true else some false)=some false:=by
    have:s.f.fOp≠2∧s.f.fOp≠3:=by omega
    simp[this]
   rw[if_neg h];by_cases q1:s.f.fOp=1
   ·obtain⟨m1,m2⟩:=CB (h1 q1);obtain⟨z,aj⟩:=Ba (hz q1);rw[aj,bS,bS,hc,bS,if_neg (by simp),if_pos (by simp[q1]),a6,bS,r_scale m2 a7,bS,bS,if_pos q1]
    have e:(if false=true then max s.f.fMany (1099511627776:Int) else min s.f.fMany (1099511627776:Int))=s.f.fMany:=by have:=h1 q1;simp;omega
    rw[e,Af m1 (He m2 a7)];rfl
   ·have q4:s.f.fOp=4:=by omega
    rw[a9 (h4 q4),bS,bS,hc,bS,if_neg (by simp),if_neg (by simp[q1]),if_pos (by simp[q4]),a6,bS,if_neg q1,if_pos q4]
    simp only;rw[Af (Wa _ (h4 q4)).1 a7];rfl
 have hL:XY l zC 0=some ((l.map rfC).foldl sumC zC):=by
  refine Y7 (F:=fun a i=>XY l a i) (l:=l) (fun a _=>okC a) (fun a t=>(t.map rfC).foldl sumC a) ?_ ?_ zC Cs
  ·intro a _;rw[XY,bS,if_neg (by omega)];rfl
  ·intro i y t a h0 h1 hm ag hI ak;rw[XY,bS,if_pos h1,ag,omS,bS,ai y hm,bS,Af hI (FO (hl y hm)),bS,Zn h0 h1 aa,ak _ (G9 hI (FO (hl y hm)))];rfl
 rw[Kj];simp only[bS];rw[show(Q5.mk (0:Int) (0:Int) (0:Int) (0:Int) (0:Int))=zC from rfl,hL,bS,Fa l zC hl Cs]
end Go.Proofs.YtolcgikajjkjgaaGreatDoor
end
section
namespace Go.Proofs.YtolcgikajjkjgaaGreatDoor
open Go HY
set_option maxRecDepth 1000000
set_option linter.unusedVariables false
abbrev fnV(g:Nat)(us:Array Value):Value:=.func (.func g) #[] us
theorem cf_clo{g:Nat}{us:Array Value}{xs:List (List AV)}{s:Qq}{c:Q5}{p:Nat}(hm:okN s.fMany)(hc:okC c)(hx:xs[p]? =some [Q9 (tmC s.fMany c)]):CF Tryz.prog gls (fnV g us) xs 50 [Q9 c,.ip 1 [.agg [.val (fnV g us)]] 0 0,.ip 20 [Qv s] 0 0] p (p+1):=
 CF1 (φ:=∃a:Int,PU 51 [eI s.fMany,eI c.fLoops] (eI a)∧∃b:Int,PU 51 [eI s.fMany,eI c.fReads] (eI b)∧∃d:Int,PU 51 [eI s.fMany,eI c.fWrites] (eI d)∧∃e:Int,PU 51 [eI s.fMany,eI c.fOps] (eI e)∧fnV g us=fnV g us∧xs[p]? =some [Q9 ⟨a,b,d,e,0⟩]∧p+1=p+1)
  (hs:=[(9,.c eI),(14,.c eI),(19,.c eI),(24,.c eI)]) (js:=[]) (by kernel_rfl)
  ⟨_,Gj _ _ _ (Le hm hc.l),_,Gj _ _ _ (Le hm hc.r),_,Gj _ _ _ (Le hm hc.w),_,Gj _ _ _ (Le hm hc.o),rfl,hx,rfl⟩
def CFB(l:List Qb):Prop:=∀(g:Nat) (us:Array Value) (xs:List (List AV)) (p:Nat),(∀(j:Nat) (c:Q5),(stL l)[j]? =some c→xs[p+j]? =some [Q9 c])→CF Tryz.prog gls (fnV g us) xs 20 [Zx l,.val (fnV g us)] p (p+(stL l).length)
abbrev nxV(g:Nat)(us:Array Value)(xs:List (List AV))(l:List Qb)(n i:Int)(m p:Nat):Prop:=NxtC Tryz.prog gls (fnV g us) xs 66 (YV Tryz.prog 20 (2+1)) [3,7,8,9] [] (.exit 0,[]) m [.ip 1 [.agg [.val (fnV g us)]] 0 0,.sl 20 (l.map Qg),.int .i64 n,.int .i64 (wr (i+1))] [] p
abbrev st2(g:Nat)(us:Array Value)(xs:List (List AV))(l:List Qb)(n i:Int)(m p:Nat)(x:Qq):Prop:=∃c:Q5,PU 48 [Q2 x.fExpr] (Q9 c)∧∃a:Int,PU 49 [.sl 4 (x.fIdx.map Q4)] (eI a)∧∃b:Int,PU 23 [eI c.fReads,eI a] (eI b)∧
 ((x.fOp==(3:Int))=true→∃r:Int,PU 23 [eI b,eI 1] (eI r)∧∃o:Int,PU 23 [eI c.fOps,eI 1] (eI o)∧fnV g us=fnV g us∧xs[p]? =some [Q9 ⟨c.fLoops,r,1,o,c.fWords⟩]∧nxV g us xs l n i m (p+1))∧
 ((x.fOp==(3:Int))=false→fnV g us=fnV g us∧xs[p]? =some [Q9 ⟨c.fLoops,b,1,c.fOps,c.fWords⟩]∧nxV g us xs l n i m (p+1))
abbrev st4(g:Nat)(us:Array Value)(xs:List (List AV))(l:List Qb)(n i:Int)(m p:Nat)(x:Qq):Prop:=∃c:Q5,PU 48 [Q2 x.fExpr] (Q9 c)∧fnV g us=fnV g us∧xs[p]? =some [Q9 c]∧∃q,CF Tryz.prog gls (fnV g us) xs 20 [.sl 20 (x.fBody.map Qg),.val (fnV g us)] (p+1) q∧nxV g us xs l n i m q
abbrev st1(g:Nat)(us:Array Value)(xs:List (List AV))(l:List Qb)(n i:Int)(m p:Nat)(x:Qq):Prop:=fnV g us=fnV g us∧xs[p]? =some [Q9 ⟨x.fMany,0,0,0,0⟩]∧∃ys:List (List AV),(∀(k:Nat) (y:List AV),ys[k]? =some y→CF Tryz.prog gls (fnV g us) xs 50 (y++[.ip 1 [.agg [.val (fnV g us)]] 0 0,.ip 20 [Qv x] 0 0]) (p+1+k) (p+1+k+1))∧
 (∀(g':Nat) (a3:Array Value),CF Tryz.prog gls (fnV g' a3) ys 20 [.sl 20 (x.fBody.map Qg),.val (fnV g' a3)] 0 ys.length)∧nxV g us xs l n i m (p+1+ys.length)
abbrev roundV(g:Nat)(us:Array Value)(xs:List (List AV))(l:List Qb)(n i:Int)(m p:Nat):Prop:=(decide (i<n)=true→∃x:Qq,((0:Int)≤i∧(l.map Qg)[i.toNat]? =some (Qv x))∧
  ((x.fOp==(2:Int))=true→st2 g us xs l n i m p x)∧((x.fOp==(2:Int))=false→((x.fOp==(3:Int))=true→st2 g us xs l n i m p x)∧((x.fOp==(3:Int))=false→((x.fOp==(4:Int))=true→st4 g us xs l n i m p x)∧((x.fOp==(4:Int))=false→
   ((x.fOp==(1:Int))=true→st1 g us xs l n i m p x)∧((x.fOp==(1:Int))=false→nxV g us xs l n i m p)))))∧(decide (i<n)=false→CO (.exit 0,[]) m (.exit 0) p [] [])
theorem AT{g:Nat}{us:Array Value}{xs:List (List AV)}{l:List Qb}{n i:Int}{m p:Nat}(h:roundV g us xs l n i m p):CLo 20 2 66 (fnV g us) xs [3,7,8,9] [.ip 1 [.agg [.val (fnV g us)]] 0 0,.sl 20 (l.map Qg),.int .i64 n,.int .i64 i] [] p [] (.exit 0,[]) m:=
 CL1 (hs:=[(10,.split),(16,.split),(17,.split),(31,.split),(44,.split),(55,.split),(11,.e Qv),(20,.c Q9),(25,.c eI),(26,.c eI),(34,.c eI),(37,.c eI),(48,.c Q9),(63,.z [{slot:=5,fz:=true}] none)]) (js:=[]) (kb:=[]) (by kernel_rfl) (show roundV g us xs l n i m p=_ by kernel_rfl) h
theorem cf_fun{g:Nat}{us:Array Value}{xs:List (List AV)}{l:List Qb}{p m:Nat}(h:CLo 20 2 66 (fnV g us) xs [3,7,8,9] [.ip 1 [.agg [.val (fnV g us)]] 0 0,.sl 20 (l.map Qg),.int .i64 ((l.map Qg).length:Nat),.int .i64 0] [] p [] (.exit 0,[]) m):CF Tryz.prog gls (fnV g us) xs 20 [Zx l,.val (fnV g us)] p m:=
 CF1 (φ:=∃q,CLo 20 2 66 (fnV g us) xs [3,7,8,9] [.ip 1 [.agg [.val (fnV g us)]] 0 0,.sl 20 (l.map Qg),.int .i64 ((l.map Qg).length:Nat),.int .i64 0] [] p [] (.exit 0,[]) q∧q=m) (hs:=[(7,.z [{slot:=3,fz:=true}] none)]) (js:=[(3,⟨[3,7,8,9],[],[],(.exit 0,[]),(.ret,[])⟩)]) (by kernel_rfl) ⟨m,h,rfl⟩
theorem AU{g:Nat}{us:Array Value}{xs:List (List AV)}{l:List Qb}(af:l.length≤4611686018427387904)(hl:∀s∈l,gdS s)(hB:∀s∈l,CFB s.f.fBody):
  ∀(t a6:List Qb) (p:Nat),l=a6++t→(∀(j:Nat) (c:Q5),(stL t)[j]? =some c→xs[p+j]? =some [Q9 c])→
   CLo 20 2 66 (fnV g us) xs [3,7,8,9] [.ip 1 [.agg [.val (fnV g us)]] 0 0,.sl 20 (l.map Qg),.int .i64 l.length,.int .i64 a6.length] [] p [] (.exit 0,[]) (p+(stL t).length)
 | [],a6,p,e,_=>AT ⟨fun h=>by
   have:=of_decide_eq_true h;rw[e] at this;simp at this,fun _=>⟨rfl,rfl,rfl,rfl⟩⟩
 |s::t,a6,p,e,hx=>by
  have hs:s∈l:=by rw[e];simp
  have b4:a6.length<l.length:=by rw[e];simp
  obtain⟨ho,ai,h4,h1,hz,az,hb⟩:=(hl s hs).of;rw[LW,List.length_append];have nx:∀q,q=p+(stC s).length→nxV g us xs l l.length a6.length (p+((stC s).length+(stL t).length)) q:=fun q hq=>by
   refine⟨_,_,.refl _,.refl _,?_⟩;have:=AU (g:=g) (us:=us) af hl hB t (a6++[s]) q (by rw[e];simp) fun j c hj=>by
    have:=hx ((stC s).length+j) c (by rw[LW,List.getElem?_append_right (Nat.le_add_right _ _),Nat.add_sub_cancel_left];exact hj)
    rw[hq,Nat.add_assoc];exact this
   rw[hq] at this ⊢;rw[show wr ((a6.length:Int)+1)=(((a6++[s]).length:Nat):Int) by rw[Z2 (by omega)];simp,← Nat.add_assoc]
   exact this
  have a8:∀(j:Nat) (c:Q5),(stC s)[j]? =some c→xs[p+j]? =some [Q9 c]:=fun j c hj=>hx j c (by rw[LW,List.getElem?_append_left (List.getElem?_eq_some_iff.1 hj).1];exact hj)
  have ag:s.f.fOp=2∨s.f.fOp=3→st2 g us xs l l.length a6.length (p+((stC s).length+(stL t).length)) p s.f:=fun h=>by
   obtain⟨g1,g2⟩:=ai h;obtain⟨⟨a1,a2,a3,a4,a5⟩,b1,b2,b3⟩:=Wa _ g1;have b0:=L7 s.f.fIdx;have n1:okN (gth s.f.fIdx):=by unfold okN;omega
   have n2:okN (1:Int):=by unfold okN;omega
   have n3:okN (min ((exC (.mk s.f.fExpr)).fReads+gth s.f.fIdx) 1099511627776):=by unfold okN at*;omega
   have a9:=p_exC _ g1;rw[Q6.f_mk] at a9;have e1:stC s=[ownS s.f]:=by rw[RM,stX,if_pos h]
   have aa:=a8 0 (ownS s.f) (by rw[e1];rfl)
   refine⟨_,Mv _ _ a9,_,N8 _ _ (S6 _ (by omega)),_,Yt _ _ _ (We a2 n1),fun h3=>⟨_,Yt _ _ _ (We n3 n2),_,Yt _ _ _ (We a4 n2),rfl,?_,nx _ (by rw[e1];rfl)⟩,fun h3=>⟨rfl,?_,nx _ (by rw[e1];rfl)⟩⟩
   ·have h3:s.f.fOp=3:=by simpa using h3
    rw[ownS,if_pos h3] at aa;exact aa
   ·have h3:¬s.f.fOp=3:=by simpa using h3
    rw[ownS,if_neg h3] at aa;exact aa
  refine AT ⟨fun _=>⟨s.f,⟨by omega,?_⟩,fun h=>ag (.inl (by simpa using h)),fun q2=>⟨fun h=>ag (.inr (by simpa using h)),fun q3=>⟨fun q4=> ?_,fun q4=>⟨fun q1=> ?_,fun q1=> ?_⟩⟩⟩⟩,fun h=>absurd (of_decide_eq_false h) (by omega)⟩
  ·rw[List.getElem?_map,Int.toNat_natCast,e,List.getElem?_append_right (Nat.le_refl _)];simp[YD]
  ·have q4:s.f.fOp=4:=by simpa using q4
   have g1:=h4 q4;have a9:=p_exC _ g1;rw[Q6.f_mk] at a9;have e1:stC s=exC (.mk s.f.fExpr)::stL s.f.fBody:=by rw[RM,stX,if_neg (by omega),if_pos q4]
   refine⟨_,Mv _ _ a9,rfl,a8 0 _ (by rw[e1];rfl),_,hB s hs g us xs (p+1) (fun j c hj=> ?_),nx _ (by rw[e1];simp;omega)⟩
   have:=a8 (j+1) c (by rw[e1,List.getElem?_cons_succ];exact hj)
   rw[show p+1+j=p+(j+1) by omega];exact this
  ·have q1:s.f.fOp=1:=by simpa using q1
   obtain⟨m1,m2⟩:=CB (h1 q1);have e1:stC s=⟨s.f.fMany,0,0,0,0⟩::(stL s.f.fBody).map (tmC s.f.fMany):=by rw[RM,stX,if_neg (by omega),if_neg (by omega),if_pos q1]
   refine⟨rfl,a8 0 _ (by rw[e1];rfl),(stL s.f.fBody).map (fun c=>[Q9 c]),fun k y hk=> ?_,fun g' aj=> ?_,nx _ (by rw[e1];simp;omega)⟩
   ·rw[List.getElem?_map,Option.map_eq_some_iff] at hk;obtain⟨c,hc,rfl⟩:=hk;refine cf_clo m2 (Mq _ hb c (List.mem_of_getElem? hc)) ?_;have:=a8 (k+1) (tmC s.f.fMany c) (by rw[e1,List.getElem?_cons_succ,List.getElem?_map,hc];rfl)
    rw[show p+1+k=p+(k+1) by omega];exact this
   ·have:=hB s hs g' aj ((stL s.f.fBody).map (fun c=>[Q9 c])) 0 fun j c hj=>by rw[Nat.zero_add,List.getElem?_map,hj];rfl
    rw[Nat.zero_add] at this;rw[List.length_map];exact this
  ·exfalso;have q1:¬s.f.fOp=1:=by simpa using q1
   have q2:¬s.f.fOp=2:=by simpa using q2
   have q3:¬s.f.fOp=3:=by simpa using q3
   have q4:¬s.f.fOp=4:=by simpa using q4
   omega
theorem Q0q:∀l,(∀s∈l,gdS s)→l.length≤4611686018427387904→CFB l:=IF fun l hl ih a3 g us xs p hx=>by
 refine cf_fun ?_;have:=AU (g:=g) (us:=us) a3 hl (fun s hs=>ih s hs (hl s hs).of.2.2.2.2.2.1) l [] p rfl hx
 rw[List.length_map];exact this
theorem P_visit(l:List Qb)(c:Q5)(hl:∀s∈l,gdS s)(a4:l.length≤4611686018427387904)(hc:okC c):PH 20 [Zx l,.fn 21 [.ptr 0 0 0]] [.cells 0 (Q9 c).cells] (.tup []) [.cells 0 (Q9 ((stL l).foldl sumC c)).cells]:=by
 have a3:=Mq l hl;have h:=PuH.ofCF (P:=Tryz.prog) (gl:=gls) (f:=20) (g:=21) (init:=[Zx l]) (ys:=(stL l).map fun c=>[Q9 c]) (cs:=fun k=>(Q9 (((stL l).take k).foldl sumC c)).cells)
  (fun x hx H E v hv=>by
   rw[List.mem_singleton] at hx;subst hx;cases hv with | imm _ _ h=>exact h)
  (fun k y hk=>by
   rw[List.getElem?_map,Option.map_eq_some_iff] at hk;obtain⟨x,hx,rfl⟩:=hk;have a8:=a3 x (List.mem_of_getElem? hx);have a7:((stL l).take k).foldl sumC c |>okC:=D6 hc fun y hy=>a3 y (List.mem_of_mem_take hy)
   have e:(stL l).take (k+1)=(stL l).take k++[x]:=by
    obtain⟨h1,h2⟩:=List.getElem?_eq_some_iff.1 hx;rw[List.take_succ_eq_append_getElem h1,h2]
   have h2:=HP x _ _ (show DH x (((stL l).take k).foldl sumC c)=some (sumC (((stL l).take k).foldl sumC c) x) by unfold DH;rw[p_sum a7 a8];rfl)
   simp only[e,List.foldl_append];exact h2)
  (fun g' a9=>by
   have:=Q0q l hl a4 g' a9 ((stL l).map fun c=>[Q9 c]) 0 fun j c hj=>by rw[Nat.zero_add,List.getElem?_map,hj];rfl
   rw[Nat.zero_add] at this;rw[List.length_map];exact this)
 simp only[List.take_zero,List.foldl_nil,List.length_map,List.take_length] at h;exact h
end Go.Proofs.YtolcgikajjkjgaaGreatDoor
end
noncomputable section
namespace Go.Proofs.YtolcgikajjkjgaaGreatDoor
open Go HY
set_option maxRecDepth 1000000
set_option linter.unusedVariables false
def VJ(s:Unit)(u:(Q5× (List Qc)×Int))(o:Q5):List Alt:=[⟨fun(x:Q5)=>x=o,.exit 0,fun x=>[.ptr 0 0 0,.ptr 1 0 0],fun x=>[.cells 0 (Q9 u.1).cells,.cells 0 (Q9 x).cells]⟩]
def JP(s:(Q5× (List Qc)×Int))(u:Int)(o:Q5):List Alt:=[⟨fun(x:Q5)=>x=o,.normal,fun x=>[.ptr 0 0 0,.ptr 1 0 0,.sl 8 (List.map Q7 (s.2.1)),ii (s.2.2),ii u],fun x=>[.cells 0 (Q9 (s.1)).cells,.cells 0 (Q9 x).cells]⟩]
def ZW(x6:Q5)(a5:List Qc)(a6:Int)(a3:Int):Option Q5:=
 if a3<a6 then
 some a3>>=fun v0=>
 (ix a5 a3>>=fun v2=>
 if v2.fUse !=(1:Int) then
 W0 v2.fDims>>=fun v3=>
 Yf x6.fWords v3>>=fun v4=>
 some (Q5.mk x6.fLoops x6.fReads x6.fWrites x6.fOps v4)
 else
 some x6)>>=fun v5=>
 ZW v5 a5 a6 (wr (v0+(1:Int)))
 else
 some x6
 partial_fixpoint
theorem Iv(x2:Q5)(x6:Q5)(a3:List Qc)(a4:Int)(a5:Int)(o:Q5)(h:ZW x6 a3 a4 a5=some o):LO 7 7 41 [2,6,23,24,25] [.ptr 0 0 0,.ptr 1 0 0,.sl 8 (List.map Q7 a3),ii a4,ii a5] [.cells 0 (Q9 x2).cells,.cells 0 (Q9 x6).cells] [2,6] (VJ () (x2,a3,a4) o):=
 ZW.partial_correctness a3 a4 (fun x6 a5 o=>∀(x2:Q5),LO 7 7 41 [2,6,23,24,25] [.ptr 0 0 0,.ptr 1 0 0,.sl 8 (List.map Q7 a3),ii a4,ii a5] [.cells 0 (Q9 x2).cells,.cells 0 (Q9 x6).cells] [2,6] (VJ () (x2,a3,a4) o))
 (fun ZW Q2d x6 a5 o h x2=>
 Lp2 (hs:=[(26,.split),(27,.e Q7),(31,.split),(36,.c eI),(37,.c eI),(7000001,.l [] [] [] [2,6,23,24,25] [kk 2,kk 6] (JP (x2,a3,a4)))]) (kb:=[kk 2,kk 6]) (kbx:=[kk 2,kk 6]) ((kIfD (p:=a5<a4) (kJ1 (id:=7000001) a5 (fun v0 a8 v1=>(kIx (enc:=Q7) (l:=a3) (k:=a5) fun v2=>(kIf (c:=v2.fUse !=(1:Int)) (kC (sh:=eI) (AN v2.fDims) fun v3=>(kC (sh:=eI) (Yt x6.fWords v3) fun v4=>(kXj (alts:=JP (x2,a3,a4)) a8 (Q5.mk x6.fLoops x6.fReads x6.fWrites x6.fOps v4) (.here _ rfl (.refl _) (.refl _)))))
 (kXj (alts:=JP (x2,a3,a4)) a8 x6 (.here _ rfl (.refl _) (.refl _))))))
 (fun v0 v5=>(kM0 (alts:=VJ () (x2,a3,a4)) (fun y hy=>Q2d v5 (wr (v0+(1:Int))) y hy x2))))
 (kX (alts:=VJ () (x2,a3,a4)) x6 (.here _ rfl (.refl _) (.refl _)))) h)) x6 a5 o h x2
def Ts(r:Q5):AV:=.tup []
def T9(r:Q5):List Box:=[.cells 0 (Q9 r).cells]
open Classical in
def Gc(l:List Qb)(c:Q5):Option Q5:=if h:(∀s∈l,gdS s)∧l.length≤4611686018427387904∧okC c then some ((stL l).foldl sumC c) else none
theorem s_visit{l:List Qb}{c:Q5}(hl:∀s∈l,gdS s)(a3:l.length≤4611686018427387904)(hc:okC c):Gc l c=some ((stL l).foldl sumC c):=dif_pos ⟨hl,a3,hc⟩
theorem Er(l:List Qb)(c:Q5)(r:Q5)(h:Gc l c=some r):PH 20 [Zx l,.fn 21 [.ptr 0 0 0]] [.cells 0 (Q9 c).cells] (Ts r) (T9 r):=by
 unfold Gc at h;split at h
 ·rename_i hc;cases h;exact P_visit l c hc.1 hc.2.1 hc.2.2
 ·cases h
def GD(x0:Qi):Option (Q5×Int):=
 U5 x0>>=fun v0=>
 if v0.snd !=(0:Int) then
 some ((Q5.mk (0:Int) (0:Int) (0:Int) (0:Int) (0:Int)))>>=fun v1=>
 some (v1,v0.snd)
 else
 Gc x0.fBody (Q5.mk (0:Int) (0:Int) (0:Int) (0:Int) (0:Int))>>=fun v2=>
 some (List.length x0.fBufs:Int)>>=fun v3=>
 some ((Q5.mk (0:Int) (0:Int) (0:Int) (0:Int) (0:Int)),x0.fBufs,v3)>>=fun v4=>
 ZW v2 x0.fBufs v3 (0:Int)>>=fun v6=>
 some (v6,(0:Int))
theorem R3(x0:Qi)(r:(Q5×Int))(h:GD x0=some r):PU 7 [Qw x0] (VG r):=
 Pu2 (hs:=[(11,.c Vq),(15,.split),(16,.n Q9 16 none),(21,.h [{slot:=1,path:=[0]}] Ts T9),(24,.n eI 24 none),(3000008,.l [] [2,6,23,24,25] [kk 2,kk 6] [2,6] [kk 2,kk 6] (VJ ()))]) ((kC (sh:=Vq) (Il x0) fun v0=>(kIf (c:=v0.snd !=(0:Int)) (kW (sh:=Q9) (Q5.mk (0:Int) (0:Int) (0:Int) (0:Int) (0:Int)) lr fun v1=>(kEr (enc:=VG) (v1,v0.snd)))
 (kH (sh:=Ts) (bt:=T9) (Er x0.fBody (Q5.mk (0:Int) (0:Int) (0:Int) (0:Int) (0:Int))) fun v2=>(kN _ (mLen (sh:=Q7) x0.fBufs) fun v3=>(kL1 ((Q5.mk (0:Int) (0:Int) (0:Int) (0:Int) (0:Int)),x0.fBufs,v3) (Iv (Q5.mk (0:Int) (0:Int) (0:Int) (0:Int) (0:Int)) v2 x0.fBufs v3 (0:Int)) fun v4 v6=>(kEr (enc:=VG) (v6,(0:Int)))))))) h)
end Go.Proofs.YtolcgikajjkjgaaGreatDoor
end
section
namespace Go.Proofs.YtolcgikajjkjgaaGreatDoor
open Go HY
set_option maxRecDepth 1000000
theorem ex_run:HY.isTrue (xcallM Tryz.prog gls gds 100000 xe0 Fn 60 6 [] .nil 0)=true:=by kernel_rfl
theorem ex_ok:Pu Tryz.prog gls 6 [] (.bool true):=by
 have h:=ex_run;unfold HY.isTrue at h;split at h
 ·rename_i r hr;exact Pu.ofCall (Sp Wf Pc S2 60 _ _ _ _ _ _ _ hr).zero rfl
 ·cases h
noncomputable def Ca:Option Bool:=some true
theorem Ib(r:Bool)(h:Ca=some r):PU 6 [] (.bool r):=by
 cases h;exact ex_ok
end Go.Proofs.YtolcgikajjkjgaaGreatDoor
end
noncomputable section
namespace Go.Proofs.YtolcgikajjkjgaaGreatDoor
open Go HY
set_option maxRecDepth 1000000
set_option linter.unusedVariables false
def UX(x0:Qi):Option Bool:=
 Ch x0>>=fun v0=>if v0 then
 GD x0>>=fun v1=>
 CZ x0>>=fun v2=>
 if v1.fst.fLoops==v2.fst.fLoops&& (v1.fst.fReads==v2.fst.fReads&& (v1.fst.fWrites==v2.fst.fWrites&& (v1.fst.fOps==v2.fst.fOps&& (v1.fst.fWords==v2.fst.fWords&&true)))) then
 if v1.snd==v2.snd then
 Ca>>=fun v3=>
 some v3
 else
 some false
 else
 some false
 else
 Ca>>=fun v4=>
 some v4
theorem MZ(x0:Qi)(r:Bool)(h:UX x0=some r):PU 3 [Qw x0] (eB r):=
 Pu2 (hs:=[(8,.cb),(10,.c eB),(13,.c VG),(18,.c VG),(23,.split),(27,.split),(30,.c eB)]) ((kCb (SU x0) (kC (sh:=VG) (R3 x0) fun v1=>(kC (sh:=VG) (AL x0) fun v2=>(kIf (c:=v1.fst.fLoops==v2.fst.fLoops&& (v1.fst.fReads==v2.fst.fReads&& (v1.fst.fWrites==v2.fst.fWrites&& (v1.fst.fOps==v2.fst.fOps&& (v1.fst.fWords==v2.fst.fWords&&true))))) (kIf (c:=v1.snd==v2.snd) (kC (sh:=eB) (Ib) fun v3=>(kEr (enc:=eB) v3))
 (kEr (enc:=eB) false))
 (kEr (enc:=eB) false))))
 (kC (sh:=eB) (Ib) fun v4=>(kEr (enc:=eB) v4))) h)
end Go.Proofs.YtolcgikajjkjgaaGreatDoor
end
section
namespace Go.Proofs.YtolcgikajjkjgaaGreatDoor
open Go HY
set_option linter.unusedVariables false
set_option linter.unusedSimpArgs false
abbrev an{α:Type}(x:Option α):Prop:=wp x (fun _=>True)
theorem B6(m:Int)(x:Q0)(k:Int)(y:Qf)(hy:ix x.fIdx k=some y)(hl:y.fAt.length≤4611686018427387904)(a:Int):an (Yh m x a k 0):=by
 refine Ru (F:=fun a i=>Yh m x a k i) y.fAt.length (fun _ _=>True) ?_ ?_ 0 a (by omega) (by omega) trivial
 ·intro a _;rw[Yh,bS,hy,bS,bS,if_neg (by omega),bS,if_neg (by simp)];exact Y8.2 trivial
 ·intro i a h0 h1 _ ih;rw[Yh,bS,hy,bS,bS,if_pos h1];by_cases hc:a≤m
  ·obtain⟨z,hz,_⟩:=Ac h0 h1;rw[if_pos hc,bS,if_pos rfl,bS];simp only[hz,bS];rw[Zn h0 h1 hl];exact ih _ trivial
  ·rw[if_neg hc,bS,if_neg (by simp)];exact Y8.2 trivial
theorem B5(m:Int)(x:Q0)(hl:x.fIdx.length≤4611686018427387904)(hi:∀i∈x.fIdx,i.fAt.length≤4611686018427387904)(a:Int):an (Yg m x a 0):=by
 refine Ru (F:=fun a i=>Yg m x a i) x.fIdx.length (fun _ _=>True) ?_ ?_ 0 a (by omega) (by omega) trivial
 ·intro a _;rw[Yg,bS,bS,if_neg (by omega),bS,if_neg (by simp)];exact Y8.2 trivial
 ·intro i a h0 h1 _ ih;rw[Yg,bS,bS,if_pos h1];by_cases hc:a≤m
  ·obtain⟨z,hz,a4⟩:=Ac h0 h1;rw[if_pos hc,bS,if_pos rfl];simp only[hz,bS];obtain⟨r,er,_⟩:=B6 m x i z hz (hi z a4) (wr (wr (a+(List.map Qp z.fLin.fL).length)+z.fAt.length));rw[er,bS,Zn h0 h1 hl];exact ih _ trivial
  ·rw[if_neg hc,bS,if_neg (by simp)];exact Y8.2 trivial
theorem PX:∀e:Q6,okE e→∀m,an (KK e.f m):=Q6.ind fun x ih hx m=>by
 obtain⟨_,h2,h3,h4,h5⟩:=hx.of;obtain⟨r,er,_⟩:=B5 m x (by omega) (fun i hi=>by have:=(h3 i hi).2.1;omega) (wr (wr (1+(x.fLin.fL.length:Int))+x.fIdx.length))
 have hL:∀a,an (XR m x a 0):=fun a=>by
  refine Ru (F:=fun a i=>XR m x a i) x.fArgs.length (fun _ _=>True) ?_ ?_ 0 a (by omega) (by omega) trivial
  ·intro a _;rw[XR,bS,bS,if_neg (by omega),bS,if_neg (by simp)];exact Y8.2 trivial
  ·intro i a h0 h1 _ a6;rw[XR,bS,bS,if_pos h1];by_cases hc:a≤m
   ·obtain⟨z,hz,a3⟩:=Ac h0 h1;obtain⟨q,eq,_⟩:=ih z a3 (h5 z a3) (wr (m - a));rw[if_pos hc,bS,if_pos rfl];simp only[hz,omS,bS,eq];rw[Zn h0 h1 (by omega)]
    exact a6 _ trivial
   ·rw[if_neg hc,bS,if_neg (by simp)];exact Y8.2 trivial
 obtain⟨r2,a4,_⟩:=hL r;rw[Q6.f_mk,KK];simp only[bS,er,a4];exact Y8.2 trivial
theorem AO:∀l,okSs l→∀m,an (Y9 l m):=UH fun l hl ih m=>by
 have ac:=hl.1;have hL:∀a,an (ZC l m a 0):=fun a=>by
  refine Ru (F:=fun a i=>ZC l m a i) l.length (fun _ _=>True) ?_ ?_ 0 a (by omega) (by omega) trivial
  ·intro a _;rw[ZC,bS,bS,if_neg (by omega),bS,if_neg (by simp)];exact Y8.2 trivial
  ·intro i a h0 h1 _ a9;rw[ZC,bS,bS,if_pos h1];by_cases hc:a≤m
   ·obtain⟨z,hz,a5⟩:=Ac h0 h1;have a8:okS (.mk z.f):=by rw[Qb.mk_f];exact hl.2 z a5
    obtain⟨i1,i2,hE,_⟩:=a8.of;obtain⟨q1,a3,_⟩:=PX (.mk z.f.fExpr) hE m;obtain⟨q2,a4,_⟩:=PX (.mk (Ka.mk (0:Int) [] (gVal.mk (0:Int) (0:Int)) (Q8.mk (0:Int) (0:Int) (0:Int) (0:Int) (0:Int)) (gLin.mk (0:Int) []) z.f.fIdx [])) (.mk _ ⟨⟨by show(-9223372036854775808:Int)≤0;omega,by show(0:Int)≤9223372036854775807;omega⟩,by simp,by simp⟩ i1 i2 (by simp) (by simp)) m
    obtain⟨q3,a6,_⟩:=ih z a5 (max (0:Int) (wr (m - a)));rw[Q6.f_mk] at a3 a4;rw[if_pos hc,bS,if_pos rfl];simp only[hz,omS,bS,a3,a4,if_true,a6];rw[Zn h0 h1 (by omega)]
    exact a9 _ trivial
   ·rw[if_neg hc,bS,if_neg (by simp)];exact Y8.2 trivial
 obtain⟨r,er,_⟩:=hL l.length;rw[Y9];simp only[bS,er];exact Y8.2 trivial
theorem a_Small(n:Qi)(hl:okSs n.fBody):∃b,Ch n=some b:=by
 unfold Ch;rw[bS];split
 ·obtain⟨r,er,_⟩:=AO _ hl 400;rw[er,bS];exact⟨_,rfl⟩
 ·exact⟨_,rfl⟩
theorem Tw{n:Qi}{sc:List Str}{x:Q0}(h:(V7 n sc x).2=0):JB (.mk x):=by
 unfold V7 at h;split at h;·rename_i h1;exact absurd h h1
 ·rename_i h1;exact(Tv (by simpa using h1)).1
theorem stErr_0{n:Qi}{sc a4:List Str}{x:Qq}(h:V8 n sc a4 x=0):(x.fOp=1∨x.fOp=2∨x.fOp=3∨x.fOp=4)∧(x.fOp=2∨x.fOp=3→JB (.mk x.fExpr)∧x.fIdx.length≤6)∧(x.fOp=4→JB (.mk x.fExpr))∧(x.fOp=1→1≤x.fMany∧x.fMany≤65536)∧(x.fOp=1→IK x.fExpr):=by
 unfold V8 at h;split at h;·cases h
 ·rename_i hp;have hp:plS x=true:=by simpa using hp
  obtain⟨p1,_,_,_,_,p6,_⟩:=(TC x).1 hp;have hz:x.fOp=1→IK x.fExpr:=fun e=>by
   obtain⟨a,_,_,_,_,_,_,b⟩:=(EK x.fExpr).1 (p6 e);exact⟨a,List.eq_nil_of_length_eq_zero b⟩
  by_cases h1:x.fOp=1
  ·rw[if_pos h1] at h;refine⟨p1,fun q=>absurd q (by omega),fun q=>absurd q (by omega),fun _=> ?_,hz⟩
   unfold La at h;split at h;·cases h
   ·split at h;·cases h
    ·split at h;·cases h
     ·omega
  ·rw[if_neg h1] at h;by_cases h4:x.fOp=4
   ·rw[if_pos h4] at h;refine⟨p1,fun q=>absurd q (by omega),fun _=> ?_,fun q=>absurd q h1,fun q=>absurd q h1⟩
    split at h;·rename_i hq;exact absurd h hq
    ·rename_i hq;exact Tw (by simpa using hq)
   ·rw[if_neg h4] at h;refine⟨p1,fun _=> ?_,fun q=>absurd q h4,fun q=>absurd q h1,fun q=>absurd q h1⟩
    unfold WL at h;split at h;·rename_i hq;exact absurd h hq
    ·rename_i a5;split at h;·cases h
     ·split at h;·rename_i hq;exact absurd h hq
      ·rename_i a6;refine⟨Tw (by simpa using a6),?_⟩
       have:=Tw (n:=n) (sc:=sc) (x:=rdE x) (by simpa using a5)
       exact(Dx (Gb this.args.1).2.1).2.1
theorem bdT_0(n:Qi)(sc:List Str)(a7:List Int):∀(t:List Qb) (i:Int) (a5:List Str),(bdT n sc a7 t i a5).2.2=0→∀s∈t,(∃a6 a4,V8 n a6 a4 s.f=0)∧∃a6 a9 a4,(bdB n a6 a9 s.f.fBody a4).2.2=0
 | [],_,_,_,s,hs=>by cases hs
 |a::t,i,a5,h,s,hs=>by
  rw[M9] at h;split at h;·rename_i hq;exact absurd h hq
  ·rename_i hq;have hq:V8 n sc a5 a.f=0:=by simpa using hq
   split at h
   ·split at h;·rename_i a3;exact absurd h a3
    ·rename_i a3;rcases List.mem_cons.1 hs with rfl | hs
     ·exact⟨⟨_,_,hq⟩,_,_,_,by simpa using a3⟩
     ·exact bdT_0 n sc a7 t _ _ h s hs
   ·split at h;·rename_i a3;exact absurd h a3
    ·rename_i a3;rcases List.mem_cons.1 hs with rfl | hs
     ·exact⟨⟨_,_,hq⟩,_,_,_,by simpa using a3⟩
     ·exact bdT_0 n sc a7 t _ _ h s hs
theorem gd_body(n:Qi):∀l,okSs l→∀sc a4 a3,(bdB n sc a4 l a3).2.2=0→∀s∈l,gdS s:=UH fun l hl ih sc a4 a3 h s hs=>by
 obtain⟨⟨a9,u1,h1⟩,a5,w2,u2,h2⟩:=bdT_0 n sc a4 l 0 a3 h s hs;obtain⟨a,b,c,d,z⟩:=stErr_0 h1;have hb:=(hl.2 s hs).f;have:=gdS.mk s.f a b c d z (by have:=hb.1;omega) (ih s hs a5 w2 u2 h2)
 rwa [Qb.mk_f] at this
theorem Ff(n:Qi)(hl:okSs n.fBody)(h:(vd n).2=0):∀s∈n.fBody,gdS s:=by
 unfold vd at h;split at h;·cases h
 ·split at h;·cases h
  ·split at h;·rename_i hq;exact absurd h hq
   ·exact gd_body n _ hl [] [] [] h
def wdC(c:Q5)(b:Qc):Q5:=if b.fUse=1 then c else⟨c.fLoops,c.fReads,c.fWrites,c.fOps,min (c.fWords+szD b.fDims) 1099511627776⟩
theorem wdC_ok{c:Q5}(h:okC c)(b:Qc):okC (wdC c b):=by
 obtain⟨a1,a2,a3,a4,a5⟩:=h;have:=FX b.fDims;unfold wdC;split;·exact⟨a1,a2,a3,a4,a5⟩
 ·exact⟨a1,a2,a3,a4,by unfold okN at*;simp only;omega⟩
def csC(n:Qi):Q5×Int:=if(vd n).2≠0 then(zC,(vd n).2) else(n.fBufs.foldl wdC ((stL n.fBody).foldl sumC zC),0)
theorem p_Cost(n:Qi)(hb:okBs n.fBufs)(hl:okSs n.fBody):GD n=some (csC n):=by
 have a8:=hl.1;unfold GD csC;rw[p_valid n hb hl,bS];by_cases h:(vd n).2=0
 ·have hg:=Ff n hl h;have hc:=D6 Cs (Mq _ hg);rw[if_neg (by simp[h]),if_neg (by simp[h]),show(Q5.mk (0:Int) (0:Int) (0:Int) (0:Int) (0:Int))=zC from rfl,s_visit hg (by omega) Cs]
  simp only[bS];have hL:ZW ((stL n.fBody).foldl sumC zC) n.fBufs n.fBufs.length 0=some (n.fBufs.foldl wdC ((stL n.fBody).foldl sumC zC)):=by
   refine Y7 (F:=fun a i=>ZW a n.fBufs n.fBufs.length i) (l:=n.fBufs) (fun a _=>okC a) (fun a t=>t.foldl wdC a) ?_ ?_ _ hc
   ·intro a _;rw[ZW,if_neg (by omega)];rfl
   ·intro i y t a h0 h1 hm a4 hI ih;have:=hb.1;rw[ZW,if_pos h1,bS,a4,bS,p_szD,bS,We hI.m (FX _),Zn h0 h1 (by omega),List.foldl_cons]
    by_cases hu:y.fUse=1;·rw[if_neg (by simp[hu]),bS,show wdC a y=a by rw[wdC,if_pos hu]];exact ih a hI
    ·rw[if_pos (by simp[hu]),bS,bS]
     have e:wdC a y=⟨a.fLoops,a.fReads,a.fWrites,a.fOps,min (a.fWords+szD y.fDims) 1099511627776⟩:=by rw[wdC,if_neg hu]
     rw[e];exact ih _ (e▸wdC_ok hI y)
  rw[hL,bS]
 ·rw[if_pos (by simp[h]),if_pos h];rfl
theorem r_Cost(n:Qi)(hb:okBs n.fBufs)(hl:okSs n.fBody):CZ n=some (csC n):=by
 have a8:=hl.1;unfold CZ csC;rw[r_valid n hb hl,bS];by_cases h:(vd n).2=0
 ·have hg:=Ff n hl h;have hc:=D6 Cs (Mq _ hg);rw[if_neg (by simp[h]),if_neg (by simp[h]),r_stmts _ hg (by omega)]
  simp only[bS];have hL:Yr n ((stL n.fBody).foldl sumC zC) 0=some (n.fBufs.foldl wdC ((stL n.fBody).foldl sumC zC)):=by
   refine Y7 (F:=fun a i=>Yr n a i) (l:=n.fBufs) (fun a _=>okC a) (fun a t=>t.foldl wdC a) ?_ ?_ _ hc
   ·intro a _;rw[Yr,bS,if_neg (by omega)];rfl
   ·intro i y t a h0 h1 hm a4 hI ih;have:=hb.1;rw[Yr,bS,if_pos h1,bS,a4,bS,bS,r_szD,bS,C4 hI.m (FX _),Zn h0 h1 (by omega),List.foldl_cons]
    by_cases hu:y.fUse=1;·rw[if_neg (by simp[hu]),bS,show wdC a y=a by rw[wdC,if_pos hu]];exact ih a hI
    ·rw[if_pos (by simp[hu]),bS,bS]
     have e:wdC a y=⟨a.fLoops,a.fReads,a.fWrites,a.fOps,min (a.fWords+szD y.fDims) 1099511627776⟩:=by rw[wdC,if_neg hu]
     rw[e];exact ih _ (e▸wdC_ok hI y)
  rw[hL,bS]
 ·rw[if_pos (by simp[h]),if_pos h];rfl
theorem s_law(n:Qi)(hb:okBs n.fBufs)(hl:okSs n.fBody):UX n=some true:=by
 obtain⟨b,hs⟩:=a_Small n hl;unfold UX;rw[hs,bS,p_Cost n hb hl,r_Cost n hb hl];cases b<;>simp[bS,Ca]
end Go.Proofs.YtolcgikajjkjgaaGreatDoor
end
section
namespace Go.Proofs.YtolcgikajjkjgaaGreatDoor
open Go HY Go.RowKit Go.ChangeShapes Go.WideShapes
set_option maxRecDepth 1000000
set_option linter.unusedVariables false
def EN(x:Q8):Prop:=True∧True∧True∧True∧True∧True
theorem u3:Tryz.prog.underlying 3=some (.int .i64):=by kernel_rfl
def LM(x:Qc):Prop:=True∧EN x.fType∧(x.fDims.length*Tryz.prog.bytesOf 3≤reachBytes∧∀a∈x.fDims,True)∧True∧True
theorem u44:Tryz.prog.underlying 44=some (.slice 3):=by kernel_rfl
theorem c44:Tryz.prog.cellsOf 3=1:=by kernel_rfl
theorem u9:Tryz.prog.underlying 9=some .string:=by kernel_rfl
def Fs(x:Zp):Prop:=True∧fits x.fBy∧True
theorem u2:Tryz.prog.underlying 2=some (.int .i64):=by kernel_rfl
def Ld(x:gLin):Prop:=fits x.fK∧(x.fL.length*Tryz.prog.bytesOf 74≤reachBytes∧∀a∈x.fL,Fs a)∧True
theorem u49:Tryz.prog.underlying 49=some (.slice 74):=by kernel_rfl
theorem c49:Tryz.prog.cellsOf 74=2:=by kernel_rfl
def MD(x:Qf):Prop:=Ld x.fLin∧True∧(x.fAt.length*Tryz.prog.bytesOf 51≤reachBytes∧∀a∈x.fAt,Ld a)∧True
theorem u75:Tryz.prog.underlying 75=some (.slice 51):=by kernel_rfl
theorem c75:Tryz.prog.cellsOf 51=2:=by kernel_rfl
def Oj(x:gVal):Prop:=fits x.fN∧fits x.fD∧True
inductive Mf:Q6→Prop
 |mk (x:Q0) (h0:True) (h1:True) (h2:Oj x.fVal) (h3:EN x.fType) (h4:Ld x.fLin) (h5:(x.fIdx.length*Tryz.prog.bytesOf 77≤reachBytes∧∀a∈x.fIdx,MD a)) (h6:x.fArgs.length*Tryz.prog.bytesOf 55≤reachBytes) (g6:∀a∈x.fArgs,Mf a):Mf (.mk x)
theorem u53:Tryz.prog.underlying 53=some (.slice 55):=by kernel_rfl
theorem c53:Tryz.prog.cellsOf 55=13:=by kernel_rfl
theorem u52:Tryz.prog.underlying 52=some (.slice 77):=by kernel_rfl
theorem c52:Tryz.prog.cellsOf 77=4:=by kernel_rfl
inductive WD:Qb→Prop
 |mk (x:Qq) (h0:True) (h1:True) (h2:True) (h3:True) (h4:True) (h5:(x.fIdx.length*Tryz.prog.bytesOf 77≤reachBytes∧∀a∈x.fIdx,MD a)) (h6:Mf (.mk x.fExpr)) (h7:x.fBody.length*Tryz.prog.bytesOf 57≤reachBytes) (g7:∀a∈x.fBody,WD a):WD (.mk x)
theorem u23:Tryz.prog.underlying 23=some (.slice 57):=by kernel_rfl
theorem c23:Tryz.prog.cellsOf 57=20:=by kernel_rfl
def Ft(x:Qi):Prop:=(x.fBufs.length*Tryz.prog.bytesOf 46≤reachBytes∧∀a∈x.fBufs,LM a)∧(x.fBody.length*Tryz.prog.bytesOf 57≤reachBytes∧∀a∈x.fBody,WD a)∧True
theorem u22:Tryz.prog.underlying 22=some (.slice 46):=by kernel_rfl
theorem c22:Tryz.prog.cellsOf 46=8:=by kernel_rfl
section
variable {H : Type} {enc : TypeId × Value → H} {w : World} {base : Nat} {spare : Nat → Bool} {held : Bool}
theorem Ah{P:Program}(n:Nat){t:TypeId}(ht:P.underlying t=some (.int .i64)):Xu enc P w base spare held n t (fun a:Int=>[.int .i64 a]) (fun a d=>Sz P t d→fits a):=
 (Se n ht).to id (fun _=>rfl) fun a d h _=>by
  have h1:=h.1;simp only[Lit.wf,Bool.and_eq_true,decide_eq_true_eq] at h1;have e1:IntKind.i64.min= -9223372036854775808:=by decide
  have e2:IntKind.i64.max=9223372036854775807:=by decide
  rw[e1,e2] at h1;exact h1
theorem FI(n:Nat):Xu enc Tryz.prog w base spare held n 43 (fun x:Q8=>(Qd x).cells) (fun x d=>Sz Tryz.prog 43 d→EN x):=
 ((Gl Tryz.underlying43 (by kernel_rfl) (Zv (Cp n u3) (Zv (Cp n u3) (Zv (Cp n u3) (Zv (Cp n u3) (Zv (Cp n u3) (NK n))))))).to (fun x=>Q8.mk x.1 x.2.1 x.2.2.1 x.2.2.2.1 x.2.2.2.2.1) (fun _=>rfl) (fun a d h hz=>h hz)).le (Nat.le_succ n)
theorem Bu(n:Nat):Xu enc Tryz.prog w base spare held n 46 (fun x:Qc=>(Q7 x).cells) (fun x d=>Sz Tryz.prog 46 d→LM x):=
 ((Gl Tryz.underlying46 (by kernel_rfl) (Zv (RK n u9) (Zv (FI n) (Zv ((DA eI u44 c44 (by decide) (fun _=>rfl) (Cp n u3)).le (Nat.le_succ _)) (Zv (Cp n u3) (NK n)))))).to (fun x=>Qc.mk x.1 x.2.1 x.2.2.1 x.2.2.2.1) (fun _=>rfl) (fun a d h hz=>h hz)).le (Nat.le_succ n)
theorem Q1g(n:Nat):Xu enc Tryz.prog w base spare held n 74 (fun x:Zp=>(Qp x).cells) (fun x d=>Sz Tryz.prog 74 d→Fs x):=
 ((Gl Tryz.underlying74 (by kernel_rfl) (Zv (RK n u9) (Zv (Ah n u2) (NK n)))).to (fun x=>Zp.mk x.1 x.2.1) (fun _=>rfl) (fun a d h hz=>h hz)).le (Nat.le_succ n)
theorem TD(n:Nat):Xu enc Tryz.prog w base spare held n 51 (fun x:gLin=>(Qh x).cells) (fun x d=>Sz Tryz.prog 51 d→Ld x):=
 ((Gl Tryz.underlying51 (by kernel_rfl) (Zv (Ah n u2) (Zv ((DA Qp u49 c49 (by decide) (fun _=>rfl) (Q1g n)).le (Nat.le_succ _)) (NK n)))).to (fun x=>gLin.mk x.1 x.2.1) (fun _=>rfl) (fun a d h hz=>h hz)).le (Nat.le_succ n)
theorem Sd(n:Nat):Xu enc Tryz.prog w base spare held n 77 (fun x:Qf=>(Q4 x).cells) (fun x d=>Sz Tryz.prog 77 d→MD x):=
 ((Gl Tryz.underlying77 (by kernel_rfl) (Zv (TD n) (Zv (RK n u9) (Zv ((DA Qh u75 c75 (by decide) (fun _=>rfl) (TD n)).le (Nat.le_succ _)) (NK n))))).to (fun x=>Qf.mk x.1 x.2.1 x.2.2.1) (fun _=>rfl) (fun a d h hz=>h hz)).le (Nat.le_succ n)
theorem rd_gVal(n:Nat):Xu enc Tryz.prog w base spare held n 48 (fun x:gVal=>(W8 x).cells) (fun x d=>Sz Tryz.prog 48 d→Oj x):=
 ((Gl Tryz.underlying48 (by kernel_rfl) (Zv (Ah n u2) (Zv (Ah n u2) (NK n)))).to (fun x=>gVal.mk x.1 x.2.1) (fun _=>rfl) (fun a d h hz=>h hz)).le (Nat.le_succ n)
theorem FG:∀n,Xu enc Tryz.prog w base spare held n 55 (fun x:Q0=>(Q2 x).cells) (fun x d=>Sz Tryz.prog 55 d→Mf (.mk x))
 |0=>rzZero _ _
 |n+1=>(Gl Tryz.underlying55 (by kernel_rfl) (Zv (Cp n u3) (Zv (RK n u9) (Zv (rd_gVal n) (Zv (FI n) (Zv (TD n) (Zv ((DA Q4 u52 c52 (by decide) (fun _=>rfl) (Sd n)).le (Nat.le_succ _)) (Zv ((DA Qo u53 c53 (by decide) (fun _=>rfl) ((FG n).to Q6.mk (fun x=>by rw[TV]) (fun x d h=>h))).le (Nat.le_succ _)) (NK n))))))))).to (fun x=>(Ka.mk x.1 x.2.1 x.2.2.1 x.2.2.2.1 x.2.2.2.2.1 x.2.2.2.2.2.1 x.2.2.2.2.2.2.1:Q0)) (fun _=>rfl) (fun a d h hz=>by obtain⟨p0,p1,p2,p3,p4,p5,p6,_⟩:=h hz;exact .mk _ p0 p1 p2 p3 p4 p5 p6.1 p6.2)
theorem FH:∀n,Xu enc Tryz.prog w base spare held n 57 (fun x:Qq=>(Qv x).cells) (fun x d=>Sz Tryz.prog 57 d→WD (.mk x))
 |0=>rzZero _ _
 |n+1=>(Gl Tryz.underlying57 (by kernel_rfl) (Zv (Cp n u3) (Zv (RK n u9) (Zv (Cp n u3) (Zv (Cp n u3) (Zv (Cp n u3) (Zv ((DA Q4 u52 c52 (by decide) (fun _=>rfl) (Sd n)).le (Nat.le_succ _)) (Zv (FG n) (Zv ((DA Qg u23 c23 (by decide) (fun _=>rfl) ((FH n).to Qb.mk (fun x=>by rw[TW]) (fun x d h=>h))).le (Nat.le_succ _)) (NK n)))))))))).to (fun x=>(Rr.mk x.1 x.2.1 x.2.2.1 x.2.2.2.1 x.2.2.2.2.1 x.2.2.2.2.2.1 x.2.2.2.2.2.2.1 x.2.2.2.2.2.2.2.1:Qq)) (fun _=>rfl) (fun a d h hz=>by obtain⟨p0,p1,p2,p3,p4,p5,p6,p7,_⟩:=h hz;exact .mk _ p0 p1 p2 p3 p4 p5 p6 p7.1 p7.2)
theorem BZ(n:Nat):Xu enc Tryz.prog w base spare held n 57 (fun x:Qb=>(Qg x).cells) (fun x d=>Sz Tryz.prog 57 d→WD x):=(FH n).to Qb.mk (fun x=>by rw[TW]) (fun x d h=>h)
theorem Q1h(n:Nat):Xu enc Tryz.prog w base spare held n 25 (fun x:Qi=>(Qw x).cells) (fun x d=>Sz Tryz.prog 25 d→Ft x):=
 ((Gl Tryz.underlying25 (by kernel_rfl) (Zv ((DA Q7 u22 c22 (by decide) (fun _=>rfl) (Bu n)).le (Nat.le_succ _)) (Zv ((DA Qg u23 c23 (by decide) (fun _=>rfl) (BZ n)).le (Nat.le_succ _)) (NK n)))).to (fun x=>Qi.mk x.1 x.2.1) (fun _=>rfl) (fun a d h hz=>h hz)).le (Nat.le_succ n)
end
theorem Wh:reachBytes=140737488351232:=rfl
theorem Py:Tryz.prog.bytesOf 74=24:=by kernel_rfl
theorem B7:Tryz.prog.bytesOf 51=32:=by kernel_rfl
theorem IH:Tryz.prog.bytesOf 77=72:=by kernel_rfl
theorem Px:Tryz.prog.bytesOf 55=160:=by kernel_rfl
theorem Eb:Tryz.prog.bytesOf 57=256:=by kernel_rfl
theorem okL_r{l:gLin}(h:Ld l):okL l:=by
 obtain⟨h1,⟨h2,h3⟩,_⟩:=h;rw[Py,Wh] at h2;exact⟨h1,h2,fun m hm=>(h3 m hm).2.1⟩
theorem okI_r{x:Qf}(h:MD x):okI x:=by
 obtain⟨h1,_,⟨h2,h3⟩,_⟩:=h;rw[B7,Wh] at h2;exact⟨okL_r h1,h2,fun l hl=>okL_r (h3 l hl)⟩
theorem okE_r:∀e,Mf e→okE e:=Q6.ind fun x ih h=>by
 cases h with
 |mk _ h0 h1 h2 h3 h4 h5 h6 g6=>
  rw[Px,Wh] at h6;have a3:=h5.1;rw[IH,Wh] at a3;exact .mk x (okL_r h4) a3 (fun i hi=>okI_r (h5.2 i hi)) h6 (fun a ha=>ih a ha (g6 a ha))
theorem okS_r:∀e,WD e→okS e:=Qb.ind fun x ih h=>by
 cases h with
 |mk _ h0 h1 h2 h3 h4 h5 h6 h7 g7=>
  rw[Eb,Wh] at h7;have a3:=h5.1;rw[IH,Wh] at a3;exact .mk x a3 (fun i hi=>okI_r (h5.2 i hi)) (okE_r _ h6) h7 (fun a ha=>ih a ha (g7 a ha))
theorem BJ:Tryz.prog.bytesOf 3=8:=by kernel_rfl
theorem A0:1≤Tryz.prog.bytesOf 46:=of_decide_eq_true (by kernel_rfl)
theorem okBf_r{b:Qc}(h:LM b):okBf b:=by
 obtain⟨_,_,⟨h1,_⟩,_⟩:=h;rw[BJ,Wh] at h1;unfold okBf;omega
theorem okN_r{n:Qi}(h:Ft n):okBs n.fBufs∧okSs n.fBody:=by
 obtain⟨⟨h1,h2⟩,⟨h3,h4⟩,_⟩:=h;rw[Wh] at h1;rw[Eb,Wh] at h3;have hb:=Nat.le_mul_of_pos_right n.fBufs.length A0;exact⟨⟨by omega,fun b hb=>okBf_r (h2 b hb)⟩,h3,fun s hs=>okS_r s (h4 s hs)⟩
end Go.Proofs.YtolcgikajjkjgaaGreatDoor
end
section
namespace HY
open Go Go.RowKit Go.ChangeShapes Go.WideShapes Go.ChangeAt
theorem Ih{H:Type}{enc:TypeId×Value→H}{P:Program}(hl:laidOutB P=true){W W':World}(hb:Below W.heap.size W W'):∀ {ts:List TypeId} {vs:List Value} {ds:List (DataW H)} {ps:List MemPlace},
  (∀t∈ts,P.readableRec t=true∧t<P.types.size)→DataW.TrodAll enc P W 0 (fun _=>true) true ts vs ds ps→(∀p∈ps,p.block<W.heap.size)→DataW.TrodAll enc P W' 0 (fun b=>decide (b<W.heap.size)) true ts vs ds ps
 | [],[],[],_,_,h,_=>h
 |t::ts,v::vs,d::ds,_,ht,⟨p,q,h1,h2,e⟩,hp=>
  ⟨p,q,Below.trod hl (ht t (List.mem_cons_self ..)).1 (ht t (List.mem_cons_self ..)).2 h1 hb (fun x hx=>hp x (by rw[e];exact List.mem_append_left _ hx)),
   Ih hl hb (fun t' h'=>ht t' (List.mem_cons_of_mem _ h')) h2 (fun x hx=>hp x (by rw[e];exact List.mem_append_right _ hx)),e⟩
 | [],_::_,_,_,_,h,_=>h.elim
 | [],[],_::_,_,_,h,_=>h.elim
 |_::_,[],_,_,_,h,_=>h.elim
 |_::_,_::_,[],_,_,h,_=>h.elim
structure LawOk (P:Program) (f:Func) (tb:TypeId):Prop where
 laid:laidOutB P=true
 pars:(f.params.toList.all fun t=>P.readableRec t&&decide (t<P.types.size))=true
 res:f.resultTypes= #[tb]
 bool:P.underlying tb=some .bool
theorem BX{H:Type}{enc:TypeId×Value→H}{P:Program}{f:Func}{tb:TypeId}(a3:LawOk P f tb){s:ChangeSpec}{W W':World}{args:Array Value}{ds gs:List (DataW H)}{before:List MemPlace}(hv:s.vars=[])
  (hW:DataW.Whole enc P f.params.toList s.vars false W args.toList ds gs before) (a4:s.fn H (ds++gs)= {results:=[.lit (.bool true)],args:=ds}) (hb:Below W.heap.size W W'):s.post enc P f false true false false W args (.bool true) W':=by
 have a9:=hW.lt;have a8:=hW;obtain⟨p,q,hA,hV,rfl,_,_⟩:=hW;rw[hv] at hV;obtain⟨rfl,rfl⟩:gs=[]∧q=[]:=by
  cases gs with
  |nil=>exact⟨rfl,hV⟩
  |cons=>exact hV.elim
 have hp:=a3.pars;rw[List.all_eq_true] at hp;refine⟨ds,[],p++[],[],p,[],a8,?_,?_,?_,hb.frame _,fun h=>by cases h⟩
 ·rw[a4,a3.res];exact⟨[],[],shut_bool a3.bool _,rfl,rfl⟩
 ·rw[a4];exact Ih a3.laid hb (fun t ht=>by have:=hp t ht;simp only[Bool.and_eq_true,decide_eq_true_eq] at this;exact this) hA (fun x hx=>a9 x (List.mem_append_left _ hx))
 ·rw[a4,hv];exact rfl
end HY
end
section
namespace HY
open Go Go.RowKit Go.ChangeShapes Go.WideShapes Go.ChangeAt
theorem Be{P:Program}{gl:Nat→AV}{f:FuncId}{args:List AV}(a5:M0 P f)(h:Pu P gl f args (.bool true)){W:World}{vs:Array Value}(hl:args.length=vs.size)(a6:∀g,RelI (HV.full W) (gl g) (.pointer (some ⟨g,0,none⟩)))(a7:GvOk gl (fun k=>k<W.heap.size) W)
  (hr:∀(j:Nat) (x:AV) (v:Value),args[j]? =some x→vs[j]? =some v→RelI (HV.full W) x v):Calls P f vs W fun e W'=>e= .returned (.bool true)∧Below W.heap.size W W':=by
 refine(Ans.calls (he:=a5)<| h.ok (fun _=>⟨0,0,0⟩) (HV.full W) (fun k=>k<W.heap.size) (HV.full W) W vs
  {sat:=Q0x W,old:=fun _ _ _=>rfl,low:=fun _ h=>h,fresh:=fun _ _=>QX _,box:=(fun _ _ hh=>by rw[QX] at hh;cases hh),sepR:=(fun _ _ hh=>by rw[QX] at hh;cases hh),injR:=(fun _ _ _ _ hh=>by rw[QX] at hh;cases hh),gv:=a7,gl:=a6,ty:=(fun _ _ _ hh=>by rw[QX] at hh;cases hh)} hl
  (fun j x v hx hv=>.imm _ _ (hr j x v hx hv))).mono fun e W' a4=> ?_
 obtain⟨v,m',H',he,hb,_,hv⟩:=a4;have:=hv.bool_inv;subst this;exact⟨he,hb.toB⟩
theorem Bb{H:Type}{enc:TypeId×Value→H}{C:Checked}{os:Os}{f:FuncId}{fn:Func}{s:ChangeSpec}{X:World→Prop}(hX:∀w w':World,w.heap=w'.heap→X w→X w')
  (own:ownKnob C.prog.godebug=none) (a3:os.Started) (a5:C.prog.inits.idxOf? f=none) (ab:C.prog.funcs[f]? =some fn)
  (a4:∃(w:World) (tape:Tape) (i:Input),w.os=os∧(w.forCall tape i).Shaped C.prog∧i.vars=[]∧Input.okWide C.prog (w.forCall tape i) .any w.heap.size f i∧
   ((s.pre enc C.prog fn [] false (w.forCall tape i).memory i.args∧X (w.forCall tape i).memory)∧sizedMet enc C.prog fn (OpenSpec.ofChange s) false (w.forCall tape i).memory i.args)∧({}:Assume).holds C.prog (lone (Frame.enter C.prog f i.args .normal) [] (w.forCall tape i)))
  (EH:∀(W:World) (base:Nat) (args:Array Value) (ds gs:List (DataW H)) (before:List MemPlace),
   (∀(j:Nat) t v,fn.params[j]? =some t→args[j]? =some v→Value.okWide C.prog W .any base t v)→DataW.Whole enc C.prog fn.params.toList s.vars false W args.toList ds gs before→X W→W.ShapedOpen C.prog→(DataW.weightsEach C.prog (fn.params.toList++s.plain.varTypes C.prog) (ds++gs)).all (· ≤reachBytes)=true→
   Calls C.prog f args W fun e W'=>∃v,e= .returned v∧s.post enc C.prog fn false true false false W args v W'):
  ReturnsInHanded {} C os f .any (fun w args=>(s.pre enc C.prog fn [] false w args∧X w)∧sizedMet enc C.prog fn (OpenSpec.ofChange s) false w args) (s.post enc C.prog fn false true false false):=by
 refine returnsInHanded_of_calls own a3 a5 a4 fun w tape i _ ad _ ac a7 _=> ?_
 obtain⟨_,_,_,aa,a6,_,_,_,_,a8⟩:=ac;obtain rfl:aa=fn:=Option.some.inj (a6.symm.trans ab);obtain⟨⟨⟨ds,gs,before,hw,_⟩,hx⟩,hz⟩:=a7;refine(EH (w.forCall tape i) w.heap.size i.args ds gs before a8 (DataW.Whole.of_heap (w':=w.forCall tape i) (by rfl) hw) (hX _ _ (by rfl) hx) ad (hz.weights hw)).mono fun e W' ⟨v,he,hp⟩=> ?_
 subst he;exact ChangeSpec.post_blind hp
theorem Eg{P:Program}{w:World}:∀ {l:List (String×DataW Unit)} {ps:List MemPlace} (i:Nat) {n:String} {d:DataW Unit},DataW.LaidVars P w l ps→l[i]? =some (n,d)→
  ∃g t cs a3 p,P.globalNamed n=some g∧(P.globals[g]?).map (·.type)=some t∧w.var? P n=some cs∧DataW.trod (fun _=>()) P w 0 (fun _=>true) false a3 t cs.toList=some (d,p)
 | [],_,i,_,_,_,hi=>by simp at hi
 | (n0,d0)::r,ps,i,n,d,h,hi=>by
  obtain⟨g,t,cs,a3,p,q,h1,h2,h3,h4,h5,_⟩:=h;cases i with
  |zero=>cases hi;exact⟨g,t,cs,a3,p,h1,h2,h3,h4⟩
  |succ i=>exact Eg i h5 hi
def litZ(k:IntKind)(z:Int):DataW Unit:=.lit (.int k z)
theorem Bd{P:Program}{w:World}{laid:List (String×DataW Unit)}(hm:laidMetH P laid w)(a9:(laid.all fun x=>x.2.handleName?.isNone)=true)(i:Nat){n:String}{k:IntKind}{zs:List Int}(hi:laid[i]? =some (n,.agg (zs.map (litZ k))))
  {g t e:Nat} (hg:P.globalNamed n=some g) (a7:(P.globals[g]?).map (·.type)=some t) (hu:P.underlying t=some (.array zs.length e)) (hc:P.cellsOf e=1) (aa:P.underlying e=some (.int k)) (j:Nat) (z:Int) (hj:zs[j]? =some z):
  w.cell? ⟨g,j,none⟩=some (.int k z):=by
 rw[MakeChecks.laidMetH_plain _ _ _ a9] at hm;obtain⟨ps,hl,_,_⟩:=hm;obtain⟨g',t',cs,ae,p,e1,e2,e3,e4⟩:=Eg i hl hi;rw[hg] at e1;cases e1;rw[a7] at e2;cases e2;obtain⟨xs,m,rfl,ab,au,az,a6⟩:=DataW.trod_array hu e4;rw[World.var?_cell hg e3 j];have a8:j<zs.length:=(List.getElem?_eq_some_iff.1 hj).1;have h1:=a6 j a8;rw[hc] at h1;have a3:xs[j]? =some (xs[j]'(by omega)):=List.getElem?_eq_getElem (by omega)
 rw[a3] at h1;obtain⟨v,h2,h3,_⟩:=DataW.trod_int aa h1;have h4:(xs.map (·.1))[j]? =some (.lit (.int k v)):=by rw[List.getElem?_map,a3,Option.map_some,h3]
 have h5:(.agg (zs.map (litZ k)):DataW Unit)= .agg (xs.map (·.1)):=congrArg Prod.fst ab;have h6:zs.map (litZ k)=xs.map (·.1):=by injection h5
 rw[← h6,List.getElem?_map,hj,Option.map_some] at h4;simp only[litZ,Option.some.injEq,DataW.lit.injEq,Lit.int.injEq,true_and] at h4;subst h4;have h7:=congrArg (·[0]?) h2;simp only[Nat.mul_one,List.getElem?_take,List.getElem?_drop,Nat.add_zero] at h7;simpa using h7
theorem tab_rel{W:World}{g:Nat}{k:IntKind}{zs:List Int}(hz:0<zs.length)(h:∀(j:Nat) (z:Int),zs[j]? =some z→W.cell? ⟨g,j,none⟩=some (.int k z)):RelI (HV.full W) (.ip zs.length [.agg (zs.map (.int k))] 0 0) (.pointer (some ⟨g,0,none⟩)):=by
 have a5:∀(i:Nat) (x:AV),[AV.agg (zs.map (AV.int k))][i]? =some x→i=0∧x= .agg (zs.map (.int k)):=fun i x hx=>by
  cases i with
  |zero=>simp at hx;exact⟨rfl,hx.symm⟩
  |succ i=>simp at hx
 have a7:∀(j:Nat) (c:AV),(zs.map (AV.int k))[j]? =some c→∃z,zs[j]? =some z∧c= .int k z:=fun j c hc=>by
  rw[List.getElem?_map,Option.map_eq_some_iff] at hc;obtain⟨z,h1,rfl⟩:=hc;exact⟨z,h1,rfl⟩
 suffices hs:RelI (HV.full W) (.ip zs.length [.agg (zs.map (.int k))] 0 0) (.pointer (some ⟨g,0+0*zs.length+0,none⟩)) by
  rwa [show 0+0*zs.length+0=0 by omega] at hs
 refine RelI.ip zs.length [.agg (zs.map (.int k))] g 0 0 0 (fun _ j=>.int k ((zs[j]?).getD 0)) hz (by simp) (fun i x hx=> ?_) (fun i x j c hx hc=> ?_) (fun i x j c hx hc=> ?_)
 ·obtain⟨rfl,rfl⟩:=a5 i x hx;show(zs.map (AV.int k)).length=_;simp
 ·obtain⟨rfl,rfl⟩:=a5 i x hx;obtain⟨z,a4,rfl⟩:=a7 j c hc;rw[a4];refine⟨?_,rfl⟩;show W.cell? ⟨g,0+0*zs.length+j,none⟩=_;rw[show 0+0*zs.length+j=j by omega]
  exact h j z a4
 ·obtain⟨rfl,rfl⟩:=a5 i x hx;obtain⟨z,a4,rfl⟩:=a7 j c hc;rw[a4];exact .int _ _
theorem tab_gv{P:Program}{W:World}(h:W.ShapedOpen P){g n t:Nat}{zero:Array Value}(hg:g<P.globals.size)(h0:((begin P (fun _ _=>0) default).world.heap[g]?).bind Obj.row? =some (zero,t))(hz:zero.size=n):g<W.heap.size∧∃C e fr,W.heap[g]? =some (.cells C e fr)∧C.size=n:=by
 obtain⟨cs,h1,h2,_⟩:=h.1 g zero t hg h0;refine⟨?_,cs,t,_,h1,by omega⟩
 rcases Nat.lt_or_ge g W.heap.size with h | h
 ·exact h
 ·rw[Array.getElem?_eq_none h] at h1;cases h1
end HY
end
section
namespace Go.Proofs.YtolcgikajjkjgaaGreatDoor
open Go HY Go.RowKit Go.ChangeShapes Go.WideShapes Go.ChangeAt
set_option linter.unusedVariables false
theorem own:ownKnob Tryz.prog.godebug=none:=by kernel_rfl
theorem lawOk:LawOk Tryz.prog Tryz.f3 4:=⟨by kernel_rfl,by kernel_rfl,by kernel_rfl,by kernel_rfl⟩
def Hy:List (String×DataW Unit):=[("unicode.White_Space",Rows.laid_unicode_White_Space),("strings.asciiSpace",Rows.laid_strings_asciiSpace)]
def spZ:List Int:=List.replicate 9 0++List.replicate 5 1++List.replicate 18 0++[1]++List.replicate 223 0
theorem sp_eq:spaces=spZ.map (.int .u8):=by kernel_rfl
theorem laid_sp:Rows.laid_strings_asciiSpace= .agg (spZ.map (litZ .u8)):=by kernel_rfl
theorem Bn{a b:Nat}(h:Nat.blt a b=true):a<b:=Nat.le_of_ble_eq_true h
set_option maxRecDepth 100000 in
theorem gls_ok{W:World}(h:laidMetH Tryz.prog Hy W)(g:Nat):RelI (HV.full W) (gls g) (.pointer (some ⟨g,0,none⟩)):=by
 unfold gls;cases h1:Nat.beq g 0 with
 |true=>
  obtain rfl:=Nat.eq_of_beq_eq_true h1;have:=tab_rel (W:=W) (g:=0) (k:=.u8) (zs:=spZ) (Bn (by kernel_rfl)) fun j z hj=>Bd h (by kernel_rfl) 1 (n:= "strings.asciiSpace") (by rw[← laid_sp];rfl) (g:=0) (t:=209) (e:=5) (by kernel_rfl) (by kernel_rfl) (by kernel_rfl) (by kernel_rfl) (by kernel_rfl) j z hj
  rw[← sp_eq] at this;exact this
 |false=>exact .undef _
theorem gv_ok{W:World}(h:W.ShapedOpen Tryz.prog):GvOk gls (fun k=>k<W.heap.size) W:=fun g sz cs hg=>by
 unfold gls at hg;cases h1:Nat.beq g 0 with
 |true=>
  obtain rfl:=Nat.eq_of_beq_eq_true h1;cases hg;exact tab_gv h (g:=0) (n:=256) (zero:=Array.replicate 256 (.int .u8 0)) (t:=209) (of_decide_eq_true (by kernel_rfl)) (by kernel_rfl) (by kernel_rfl)
 |false=>rw[h1] at hg;cases hg
theorem relAgg{K:HV}{ys:List AV}{cs:Array Value}(h:RelL K ys (Value.agg cs).cells.toList):RelI K (.agg ys) (.agg cs):=by
 have hc:(Value.agg cs).cells=cs:=rfl;rw[hc] at h;refine .agg ys cs (by rw[h.1];simp) (fun v hv=> ?_) fun j a v ha hv=>(h.2 j a v ha (by simpa using hv)).2
 obtain⟨j,hj,rfl⟩:=Array.mem_iff_getElem.1 hv;have hl:j<ys.length:=by have:=h.1;simp at this;omega
 obtain⟨h1,h2⟩:=h.2 j ys[j] cs[j] (List.getElem?_eq_getElem hl) (by simp[hj])
 exact h2.oneCell h1
set_option maxRecDepth 100000 in
theorem EH(H:Type)(enc:TypeId×Value→H)(W:World)(base:Nat)(args:Array Value)(ds gs:List (DataW H))(before:List MemPlace)
  (a3:∀(j:Nat) t v,Tryz.f3.params[j]? =some t→args[j]? =some v→Value.okWide Tryz.prog W .any base t v)
  (hW:DataW.Whole enc Tryz.prog Tryz.f3.params.toList Rows.autotuneCostsSpec.vars false W args.toList ds gs before)
  (hL:laidMetH Tryz.prog Hy W) (hS:W.ShapedOpen Tryz.prog) (hz:(DataW.weightsEach Tryz.prog (Tryz.f3.params.toList++Rows.autotuneCostsSpec.plain.varTypes Tryz.prog) (ds++gs)).all (· ≤reachBytes)=true):
  Calls Tryz.prog 3 args W fun e W'=>∃v,e= .returned v∧Rows.autotuneCostsSpec.post enc Tryz.prog Tryz.f3 false true false false W args v W':=by
 have a7:=hW;obtain⟨p,q,a6,hV,rfl,am,ao⟩:=hW;have hA:DataW.TrodAll enc Tryz.prog W 0 (fun _=>true) true Tryz.f3.params.toList args.toList ds p:=a6
 rw[Tryz.params3] at hA a3 hz;obtain⟨v0,aq,d0,ah,p0,q0,a5,rfl,rfl,h0,r0⟩:=trodAll_cons hA;obtain⟨rfl,rfl,rfl⟩:=trodAll_nil r0;obtain rfl:args= #[v0]:=by cases args;simp_all
 obtain⟨rfl,rfl⟩:=trodVars_none hV;have a4:SzE Tryz.prog [25] [d0]:=fun k hk=>by
  have:=List.all_eq_true.1 hz k hk;simpa using this
 obtain⟨z0,a4⟩:=a4.cons;obtain⟨c0,rfl,_⟩:=okWide_struct Tryz.underlying25 (a3 0 25 v0 rfl rfl);obtain⟨x0,i0,a8⟩:=Xu.arg (Q1h (enc:=enc) (w:=W) (base:=0) (spare:=fun _=>true) (held:=true)) h0
 refine(Be (Gt (by kernel_rfl)) (MZ x0 true (s_law x0 (okN_r (i0 z0)).1 (okN_r (i0 z0)).2)) (W:=W) rfl (gls_ok hL) (gv_ok hS) fun j t v ht hv=> ?_).mono fun e W' ⟨he,hb⟩=>⟨_,he,BX lawOk rfl a7 rfl hb⟩
 match j with
 |0=>cases ht;cases hv;exact relAgg a8
 |j+1=>cases ht
set_option maxRecDepth 100000 in
theorem lifted(os:Os)(a3:os.Started)(H:Type)(enc:TypeId×Value→H):
  ReturnsInHanded {} Tryz.checked os 3 .any (fun w args=>(Rows.autotuneCostsSpec.pre enc Tryz.prog Tryz.f3 [] false w args∧laidMetH Tryz.prog Hy w)∧sizedMet enc Tryz.prog Tryz.f3 (OpenSpec.ofChange Rows.autotuneCostsSpec) false w args)
   (Rows.autotuneCostsSpec.post enc Tryz.prog Tryz.f3 false true false false):=by
 refine Bb (C:=Tryz.checked) (X:=fun w=>laidMetH Tryz.prog Hy w) (fun _ _ hh h=>h.of_heap hh) own a3 (by kernel_rfl) Tryz.func3
  (ChangeSpec.witness_shaped (enc:=enc) (C:=Tryz.checked) (os:=os) (X:=fun w _=>laidMetH Tryz.prog Hy w) false (World.laidAll Tryz.prog os Hy)
   #[.agg #[.slice none 0 0,.slice none 0 0]] 8 (World.laidAll_os _ _ _)
   (World.shaped_of_ZipB (by kernel_rfl) (by kernel_rfl)) (by kernel_rfl) (by kernel_rfl) (by kernel_rfl)
   (by rw[MakeChecks.laidMetH_plain _ _ _ (by kernel_rfl)];exact laidMet_laidAll _ (by kernel_rfl) (by kernel_rfl))) ?_
 intro W base args ds gs before a4 hW hL hS hz;exact EH H enc W base args ds gs before a4 hW hL hS hz
theorem Q00:Rows.AutotuneCostsSaid:=
 OpenClaim.holds_of_wide 3 Tryz.f3 rfl rfl rfl rfl rfl rfl rfl ⟨rfl,rfl,rfl,rfl,rfl⟩ rfl rfl rfl rfl rfl (by kernel_rfl) Tryz.func3 (by kernel_rfl)
  (of_decide_eq_true (by kernel_rfl)) (by unfold Func.isWrapper;first | (rw[if_pos (by decide+kernel)];kernel_rfl) | (rw[if_neg (by decide+kernel)];exact⟨rfl,rfl⟩))
  (fun os a3 H enc _=>lifted os a3 H enc)
theorem proved:Rows.AutotuneCostsCardSaid:=
 Claim7.holds_tied_plain_at .later [] [.listed,.data] true (true,"e7b776e497e40b0af3a67795bb7d447ef9dce8f2baa0f9e8db909fe05838c071") false Q00 (fun _ h=>by cases h) (by kernel_rfl) (fun _ h=>by cases h) autotuneCosts_row_tie rfl ⟨rfl,rfl⟩ (by kernel_rfl) rfl
  (fun f fn hf a4=>by
   obtain rfl:f=3:=Option.some.inj ((show Tryz.prog.funcNamed "brocade/brocadelaw45.AutotuneCosts" =some 3 by kernel_rfl).symm.trans hf) |>.symm
   obtain rfl:fn=Tryz.f3:=(Option.some.inj (Tryz.func3.symm.trans a4)).symm;exact⟨by kernel_rfl,fun j t ht=>by
    rw[Tryz.params3] at ht;have hm:t∈ [25]:=by simpa using Array.mem_of_getElem? ht
    have a3:([25].all fun u=> !Tryz.prog.wantsStandIn u)=true:=by kernel_rfl
    exact(show Tryz.prog.wantsStandIn t=false by simpa using List.all_eq_true.1 a3 t hm)⟩)
  (by kernel_rfl)
end Go.Proofs.YtolcgikajjkjgaaGreatDoor
end
