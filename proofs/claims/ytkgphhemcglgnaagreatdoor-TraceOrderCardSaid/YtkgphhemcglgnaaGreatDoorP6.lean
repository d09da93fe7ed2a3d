/- Proved in the last of these texts: for every input the law returns true and its arguments read afterwards as they read before. This text: a part of the proof. -/
import Derived.Test.YtkgphhemcglgnaaGreatDoorP5
set_option linter.unusedVariables false
set_option linter.unusedSimpArgs false
set_option linter.unusedSectionVars false
set_option linter.defProp false
namespace Go.Proofs.YtkgphhemcglgnaaGreatDoor
open Go HY
theorem PL(x:Q3):ZY (.mk x)= .mk x::Lb x.fe:=Ep x
theorem PJ(a:Nat)(l:List Nat):maxL (a::l)=max a (maxL l):=rfl
theorem dpE_mk(x:Q3):dpE (.mk x)=1+maxL (x.fe.map dpE):=by rw[dpE];simp
theorem P9:∀e:Qc,1≤dpE e:=fun e=>by cases e;rw[dpE_mk];omega
theorem p_depth:∀e:Qc,okE e→∀m:Int,1≤m→m≤100→VK e.f m=some (min (dpE e:Int) m):=Qc.ind fun x ih hx m h1 h2=>by
 obtain⟨_,_,_,hA,a4⟩:=hx.of;rw[Qc.f_mk,VK];by_cases hm:m≤1;·rw[if_pos hm];have:=P9 (.mk x);congr 1;omega
 ·rw[if_neg hm,bS,bS];have hL:YP m 1 x.fe x.fe.length 0=some (max 1 (min (1+maxL (x.fe.map dpE):Int) m)):=by
   refine My (F:=fun d i=>YP m d x.fe x.fe.length i) (l:=x.fe) (fun d _=>1≤d∧d≤m) (fun d t=>max d (min (1+maxL (t.map dpE):Int) m)) ?_ ?_ 1 (by omega)
   ·intro d hd;rw[YP,if_neg (by omega)]
    simp[maxL];omega
   ·intro i y t d h3 h4 a3 a5 hd a6;rw[YP,if_pos h4,a5,omS,bS,ZB (n:=m - 1) (by omega),ih y a3 (a4 y a3) (m - 1) (by omega) (by omega),bS,if_pos rfl,YU h3 h4 (by omega),ZB (by have:=P9 y;omega)]
    have hp:=P9 y;rw[a6 _ (by omega),List.map_cons,PJ]
    congr 1;omega
  rw[hL,bS,dpE_mk];congr 1;omega
theorem Q08:∀(l:List Qc) (c:Int),0≤c→c≤2000→Ub l c=some (min (c+l.length) 2001)
 | [],c,h0,h1=>by rw[Ub];congr 1;simp;omega
 |a::t,c,h0,h1=>by
  rw[Ub,bS,ZB (by omega)]
  by_cases h:2000<c+1;·rw[if_pos h];congr 1;simp;omega
  ·rw[if_neg h,Q08 t (c+1) (by omega) (by omega)];congr 1;simp;omega
theorem OW:∀e:Qc,okE e→aE e:=Qc.ind fun x ih hx=>by
 obtain⟨_,_,_,hA,a3⟩:=hx.of;exact .mk x (by omega) (fun a ha=>ih a ha (a3 a ha))
theorem p_Size(x:Q3)(hx:okE (.mk x)):MK x=some (min ((ZY (.mk x)).length:Int) 2001):=by
 unfold MK;rw[Hm x (OW _ hx),bS,Q08 _ 0 (by omega) (by omega),bS];congr 1;show min (0+((ZY (.mk x)).length:Int)) 2001=_;omega
theorem PN:∀e:Qc,okE e→∀y∈ZY e,okE y:=Qc.ind fun x ih hx y hy=>by
 obtain⟨_,_,_,hA,a3⟩:=hx.of;rw[PL] at hy;rcases List.mem_cons.1 hy with rfl | hy
 ·exact hx
 ·unfold Lb at hy;obtain⟨l,hl,a5⟩:=List.mem_flatten.1 hy;obtain⟨a,ha,rfl⟩:=List.mem_map.1 hl;exact ih a ha (a3 a ha) y a5
theorem RS:∀(l:List Qc),(∀a∈l,okE a)→J6 l=some (fstE (fun y=>CB y.f) l)
 | [],_=>rfl
 |a::t,h=>by
  have ha:okE (.mk a.f):=by rw[Qc.mk_f];exact h a (by simp)
  rw[J6,Q2i a.f ha,bS,RS t (fun b hb=>h b (by simp[hb])),fstE]
  by_cases hp:CB a.f=0;·simp[hp]
  ·simp[hp]
theorem F0(x:Q3)(hx:okE (.mk x)):Ul x=some (GJ x):=by
 unfold Ul GJ NG;have hd:=p_depth (.mk x) hx 41 (by omega) (by omega)
 rw[Qc.f_mk] at hd;rw[hd,bS,bS,p_Size x hx,Hm x (OW _ hx)];by_cases h1:40<dpE (.mk x);·rw[if_pos h1,if_pos (by omega)]
 ·rw[if_neg h1,if_neg (by omega),bS]
  by_cases h2:2000< (ZY (.mk x)).length;·rw[if_pos h2,if_pos (by omega)]
  ·rw[if_neg h2,if_neg (by omega),bS,RS _ (PN _ hx),bS]
def cmpZ(a b:Int):Int:=if a<b then -1 else if b<a then 1 else 0
theorem AL(a b:Int):cmpZ a b=0↔a=b:=by unfold cmpZ;grind
theorem IR(a b:Int):ZC a b=some (cmpZ a b):=by unfold ZC Uk cmpZ;simp only[bS];grind
theorem Q3o(a b:Int):Ky a b=some (cmpZ a b):=by unfold Ky J5 cmpZ;simp only[bS];grind
theorem p_order(a b:Int):Dd a b=some (cmpZ a b):=by unfold Dd cmpZ;grind
theorem p_Or(l:List Int)(hl:l.length≤100):∃r,G2 l=some r∧(r=0↔∀x∈l,x=0):=by
  have key:∀(t p:List Int),l=p++t→∃r,YO 0 l l.length p.length=some r∧(match r with | .inl _=>∀x∈t,x=0 | .inr k=>k≠0∧¬ ∀x∈t,x=0):=by
    intro t
    induction t with
    | nil => intro p e; have : p.length = l.length := by rw [e]; simp
             exact⟨_,by rw[YO,if_neg (by omega)],by simp⟩
    |cons c t ih=>
      intro p e;have a3:(p.length:Int)<l.length:=by rw[e];simp;omega
      rw[YO,if_pos a3,Vo e,bS,YU (by omega) a3 (by omega)]
      by_cases hc:c=0
      · rw[if_neg (by simp[hc])]
        have:=ih (p++[c]) (by rw[e];simp)
        rw[show((p++[c]).length:Int)=(p.length:Int)+1 by simp] at this
        obtain⟨r,e1,e2⟩:=this;refine⟨r,e1,?_⟩;cases r with
        |inl u=>simpa[hc] using e2
        |inr k=>exact⟨e2.1,fun h=>e2.2 (fun x hx=>h x (by simp[hx]))⟩
      · exact⟨_,if_pos (by simp[hc]),hc,fun h=>hc (h c (by simp))⟩
  obtain⟨r,e1,e2⟩:=key l [] rfl;have a4:YO 0 l l.length 0=some r:=e1;unfold G2;simp only[bS];rw[a4];cases r with
  |inl u=>exact⟨0,rfl,by simpa using e2⟩
  |inr k=>exact⟨k,rfl,⟨fun h=>absurd h e2.1,fun h=>absurd h e2.2⟩⟩
theorem Q9j(s:Str):∃r,Ks s []=some r∧(r=0↔s=[]):=by
 unfold Ks Yt XV;cases s with
 |nil=>exact⟨0,rfl,by simp⟩
 |cons a t=>exact⟨1,rfl,by simp⟩
theorem Q9i(l:gLin):∃r,J0 l ⟨0,[]⟩=some r∧(r=0↔zLn l=true):=by
 unfold J0 Y1 zLn;cases l with
 |mk k t=>
  cases t with
  |nil=>
   simp only[bS];rw[QX,if_neg (by simp)]
   simp only[bS,p_order];exact⟨cmpZ k 0,by simp,by simp[AL]⟩
  |cons a t=>
   simp only[bS];rw[QX,if_pos (by simp<;>omega)]
   refine⟨1,?_,by simp⟩
   rw[show ix (a::t) 0=some a from rfl];simp[bS]
theorem Q9g(l:List Q5):∃r,X6 l []=some r∧(r=0↔l.length=0):=by
 unfold X6;simp only[bS,IR];by_cases h:l.length=0
 ·have:l=[]:=cqn h;subst this;refine⟨0,?_,by simp⟩
  unfold XS;simp only[bS];rw[if_neg (by simp;rfl),Zl,if_neg (by simp)]
  simp[bS]
 ·have:cmpZ l.length (([]:List Q5).length:Nat)≠0:=by rw[Ne,AL];simpa using h
  exact⟨_,if_pos (by simpa using this),⟨fun e=>absurd e this,fun e=>absurd e h⟩⟩
theorem Q9f(l:List Qc):∃r,Xl l []=some r∧(r=0↔l.length=0):=by
 rw[Xl];simp only[bS,IR];by_cases h:l.length=0
 ·have:l=[]:=cqn h;subst this;refine⟨0,?_,by simp⟩
  rw[Y0];simp only[bS];rw[if_neg (by simp;rfl),Zp,if_neg (by simp)]
  simp[bS]
 ·have:cmpZ l.length (([]:List Qc).length:Nat)≠0:=by rw[Ne,AL];simpa using h
  exact⟨_,if_pos (by simpa using this),⟨fun e=>absurd e this,fun e=>absurd e h⟩⟩
theorem Q98(x:Q3):isZE x=true↔(x.fOp=0∧x.fc=[]∧x.fp.fN=0∧x.fp.fD=0∧(x.fb.fx=0∧x.fb.fA=0∧x.fb.fB=0∧x.fb.fy=0∧x.fb.fC=0)∧zLn x.fm=true∧x.fg.length=0∧x.fe.length=0):=by
 unfold isZE;have e1:x.fb=zT↔(x.fb.fx=0∧x.fb.fA=0∧x.fb.fB=0∧x.fb.fy=0∧x.fb.fC=0):=by
  cases x.fb;simp[zT]
 rw[decide_eq_true_iff,e1]
theorem Q78(x:Q3):Ja x=some (isZE x):=by
 unfold Ja MJ;rw[bS,Vs,IR,Q3o,Q3o];unfold Um;rw[IR,IR,IR,IR,IR];simp only[bS];obtain⟨s,es,hs⟩:=Q9j x.fc;obtain⟨t,et,ht⟩:=p_Or [cmpZ x.fb.fx 0,cmpZ x.fb.fA 0,cmpZ x.fb.fB 0,cmpZ x.fb.fy 0,cmpZ x.fb.fC 0] (by simp)
 obtain⟨u,eu,hu⟩:=Q9i x.fm;rw[es,et,eu];simp only[bS];obtain⟨v,ev,hv⟩:=p_Or [cmpZ x.fOp 0,s,cmpZ x.fp.fN 0,cmpZ x.fp.fD 0,t,u] (by simp)
 obtain⟨i,ei,hi⟩:=Q9g x.fg;obtain⟨a,ea,ha⟩:=Q9f x.fe;rw[ev,bS,ei,ea];simp only[bS,List.mem_cons,List.not_mem_nil,or_false,forall_eq_or_imp,forall_eq,AL] at ht hv ⊢;have hz:=Q98 x;rw[← hu,← ht,← hs,← hi,← ha] at hz;by_cases h1:v=0
 ·rw[if_neg (by simp[h1])]
  by_cases h2:i=0
  ·rw[if_neg (by simp[h2]),bS,bS]
   congr 1;rw[Bool.eq_iff_iff,hz,beq_iff_eq];have:=hv.1 h1;constructor;·intro h;exact⟨this.1,this.2.1,this.2.2.1,this.2.2.2.1,this.2.2.2.2.1,this.2.2.2.2.2,h2,h⟩
   ·intro h;exact h.2.2.2.2.2.2.2
  ·rw[if_pos (by simp[h2]),bS,bS]
   congr 1;rw[Bool.eq_iff_iff,hz,beq_iff_eq];exact⟨fun h=>absurd h h2,fun h=>h.2.2.2.2.2.2.1⟩
 ·rw[if_pos (by simp[h1]),bS,bS]
  congr 1;rw[Bool.eq_iff_iff,hz,beq_iff_eq];exact⟨fun h=>absurd h h1,fun h=>absurd (hv.2 ⟨h.1,h.2.1,h.2.2.1,h.2.2.2.1,h.2.2.2.2.1,h.2.2.2.2.2.1⟩) h1⟩
theorem plS_iff(x:Qf):plS x=true↔((x.fOp=1∨x.fOp=2∨x.fOp=3∨x.fOp=4)∧(x.fOp=4→x.fc=[])∧(x.fOp≠1→x.fE=0∧x.fI=0)∧(x.fOp≠3→x.fH=0)∧(¬(x.fOp=2∨x.fOp=3)→x.fg.length=0)∧(x.fOp=1→isZE x.fo=true)∧(x.fOp=2∨x.fOp=3→x.fd.length=0)):=by
 unfold plS;rw[decide_eq_true_iff]
theorem p_plain(x:Qf):Jb x=some (plS x):=by
 have hq:=plS_iff x;unfold Jb;rw[Q78];generalize plS x=Q at*;generalize isZE x.fo=Z at*;generalize x.fg.length=I at*;generalize x.fd.length=J at*;have hJ:((J:Int)=0)↔J=0:=by omega
 simp only[bS,bI,Cv,DC,if_true,if_false,cqk,beq_iff_eq,bne_iff_ne,Bool.not_eq_true',beq_eq_false_iff_ne];by_cases h1:x.fOp=1;·simp[h1,hJ] at hq ⊢;grind
 by_cases h2:x.fOp=2;·simp[h2,hJ] at hq ⊢;grind
 by_cases h3:x.fOp=3;·simp[h3,hJ] at hq ⊢;grind
 by_cases h4:x.fOp=4;·simp[h4,hJ] at hq ⊢;grind
 simp[h1,h2,h3,h4] at hq ⊢;grind
def okBf(b:Qr):Prop:=b.fJ.length*8≤140737488351232
def okBs(l:List Qr):Prop:=l.length≤140737488351232∧∀b∈l,okBf b
theorem Q09(b:Qr)(h:okBf b):YY b=some b:=by
 unfold YY Xm;unfold okBf at h;rw[if_pos (by omega)];rfl
theorem Q4y(b:Qr)(l:List Qr)(s:Str):VD (b::l) s=if(b.fc==s)=true then some b else VD l s:=by
 unfold VD;rw[List.find?_cons];cases b.fc==s<;>rfl
theorem Ih(n:Qp)(s:Str)(h:okBs n.fq):XZ n s=some ((VD n.fq s).getD zBuf,(VD n.fq s).isSome):=by
 obtain⟨hl,hb⟩:=h;have hL:Xe s n zBuf n.fq.length 0=some (match VD n.fq s with | some b=>.inr (b,true) | none=>.inl zBuf):=by
  refine My (α:=Unit) (F:=fun _ i=>Xe s n zBuf n.fq.length i) (l:=n.fq) (fun _ _=>True) (fun _ t=>match VD t s with | some b=>.inr (b,true) | none=>.inl zBuf) ?_ ?_ () trivial
  ·intro _ _;rw[Xe,if_neg (by omega)];rfl
  ·intro i y t _ h0 h1 hm a3 _ ih;rw[Xe,if_pos h1,a3,bS,bS,Q09 y (hb y hm),bS,YU h0 h1 (by omega),ih () trivial,Q4y]
   cases y.fc==s<;>rfl
 unfold XZ;simp only[bS];rw[show(Qr.mk [] (Qb.mk (0:Int) (0:Int) (0:Int) (0:Int) (0:Int)) [] (0:Int))=zBuf from rfl,hL];cases VD n.fq s<;>rfl
theorem p_cfB(l:List Qr)(b:Qr)(hl:l.length≤4611686018427387904):ZI l b=some (l.any fun x=>x.fc==b.fc):=by
 obtain⟨r,e,h⟩:=idxF (l:=l) (q:=fun x=>x.fc==b.fc) (L:=QY l b l.length) hl (fun i=>by rw[QY]) (fun x _=>by unfold V1;rfl)
 unfold ZI Y2;simp only[bS];rw[e];cases r with
 |inl a=>simp only[bS];rw[h];rfl
 |inr k=>simp only[bS];rw[h.2];simp[h.1]
theorem p_bufs(l:List Qr)(hl:l.length≤140737488351232):Kl l=some (Dg [] l):=by
 have key:∀(t p:List Qr),l=p++t→Zm l l.length p.length=some (if Dg p t≠0 then .inr (Dg p t) else .inl ()):=by
  intro t
  induction t with
  |nil=>
   intro p e;have:p.length=l.length:=by rw[e];simp
   rw[Zm,if_neg (by omega)];simp[Dg]
  |cons b t ih=>
   intro p e;have a7:(p.length:Int)<l.length:=by rw[e];simp;omega
   have ih:=ih (p++[b]) (by rw[e];simp)
   rw[show((p++[b]).length:Int)=(p.length:Int)+1 by simp] at ih
   have aa:List.drop 0 (List.take ((p.length:Int)).toNat l)=p:=by rw[cqm,e];simp
   have a8:(0:Int)≤0∧(0:Int)≤(p.length:Int)∧(p.length:Int)≤((List.map Ql l).length:Int):=⟨by omega,by omega,by rw[List.length_map];omega⟩
   rw[Zm,if_pos a7,Vo e,bS,Ex,bS,if_pos a8,aa,bS,p_cfB p b (by omega),bS,Cz,bS,p_shape,bS,bS,YU (by omega) a7 (by omega),ih]
   rw[Dg];rcases Bool.eq_false_or_eq_true (nm b.fc) with a1 | a1
   rotate_left
   ·simp[a1]
   rcases Bool.eq_false_or_eq_true (p.any fun x=>x.fc==b.fc) with a2 | a2
   ·simp[a1,a2]
   rcases Bool.eq_false_or_eq_true (tyOK b.fb) with a3 | a3
   rotate_left
   ·simp[a1,a2,a3]
   by_cases a4:Fe b.fJ=0
   rotate_left
   ·simp[a1,a2,a3,a4]
   by_cases a5:b.fP<1;·simp[a1,a2,a3,a4,a5,bS]
   by_cases a6:3<b.fP;·simp[a1,a2,a3,a4,a5,a6,bS]
   ·simp[a1,a2,a3,a4,a5,a6,bS]
 have h0:Zm l l.length 0=_:=key l [] rfl;unfold Kl;simp only[bS];rw[h0];by_cases hz:Dg [] l=0<;>simp[hz,bS]
theorem dp_f(s:Q0):dp s=1+dpL s.f.fd:=by
 cases s with
 |mk x=>rw[dp];simp[dpL,Q0.f]
theorem okS.f{s:Q0}(h:okS s):okSs s.f.fd:=by
 cases s with
 |mk x=>exact h.of.2.2.2
theorem GG{P:List Q0→Prop}(h:∀l,okSs l→(∀s∈l,P s.f.fd)→P l):∀l,okSs l→P l:=by
 have key:∀s:Q0,okS s→P s.f.fd:=Q0.ind fun x ih hx=>by
  have hb:=hx.of.2.2.2;exact h _ hb fun s hs=>ih s hs (hb.2 s hs)
 exact fun l hl=>h l hl fun s hs=>key s (hl.2 s hs)
theorem Q9m:∀l,okSs l→∀m:Int,0≤m→m≤1000→YI l m=some (decide ((dpL l:Int)≤m)):=GG fun l hl ih m h0 h1=>by
 have a3:l.length≤4611686018427387904:=by have:=hl.1;omega
 have hL:Xf l m l.length 0=some (if l.all (fun s=>decide ((dp s:Int)≤m)) then .inl () else .inr false):=by
  refine stepF (L:=Xf l m l.length) a3 (by rw[Xf,if_neg (by omega)]) (fun i y h2 h3 hm a5=> ?_)
  rw[Xf,if_pos h3,bS,a5,omS,bS];by_cases hc:m<1;·rw[if_pos hc,bS,if_pos rfl,if_neg (by simp[dp_f];omega)]
  ·rw[if_neg hc,ZB (n:=m - 1) (by omega),ih y hm (m - 1) (by omega) (by omega),bS]
   by_cases hd:(dpL y.f.fd:Int)≤m - 1
   ·have:(dp y:Int)≤m:=by rw[dp_f];omega
    simp[hd,this,bS]
   ·have:¬(dp y:Int)≤m:=by rw[dp_f];omega
    simp[hd,this,bS]
 have a4:l.all (fun s=>decide ((dp s:Int)≤m))=decide ((dpL l:Int)≤m):=by
  unfold dpL;clear hL ih hl a3
  induction l with
  |nil=>simp[maxL,h0]
  |cons a t ih=>
   rw[List.all_cons,ih,List.map_cons,PJ,Bool.eq_iff_iff,cqb,decide_eq_true_iff,decide_eq_true_iff,decide_eq_true_iff];omega
 rw[YI];simp only[bS];rw[hL,a4];by_cases hc:(dpL l:Int)≤m<;>simp[hc,bS]
theorem sz_f(s:Q0):sz s=1+szL s.f.fd:=by
 cases s with
 |mk x=>rw[sz];simp[szL,Q0.f]
theorem Nh(s:Q0)(l:List Q0):szL (s::l)=sz s+szL l:=by simp[szL]
def szB(l:List Q0):Nat:=(l.map fun s=>szL s.f.fd).sum
theorem szL_B(l:List Q0):szL l=l.length+szB l:=by
 induction l with
 |nil=>rfl
 |cons s t ih=>rw[Nh,sz_f,ih];simp[szB];omega
theorem Q9z(s:Q0)(t:List Q0):szB (s::t)=szL s.f.fd+szB t:=by simp[szB]
abbrev cntQ(T k r:Int):Prop:=(T≤k→r=T)∧(k<T→k<r)∧r≤k+549755813888
theorem p_count:∀l,okSs l→∀k:Int,0≤k→k≤2000→wp (XJ l k) (cntQ (szL l) k):=GG fun l hl ih k h0 h1=>by
 have e1:=hl.1;rw[XJ];simp only[bS];have hL:wp (ZE l k l.length l.length 0) (cntQ (szL l) k):=by
  refine Q3h (F:=fun c i=>ZE l k c l.length i) (l:=l) (fun c t=>0≤c∧c≤k+549755813888∧(c+szB t=(szL l:Int)∨(k<c∧k< (szL l:Int)))) ?_ ?_ _ ⟨by omega,by omega,.inl (by rw[szL_B];omega)⟩
  ·intro c hI;rw[ZE,if_neg (by omega)]
   refine QG.2 ?_;simp[szB] at hI;unfold cntQ;omega
  ·intro i y t c h2 h3 hm a4 _ hI a6;rw[ZE,if_pos h3];rw[Q9z] at hI;by_cases hc:k<c
   ·rw[if_pos hc];refine QG.2 ?_;unfold cntQ;omega
   ·rw[if_neg hc,a4,omS,bS,ZB (n:=k - c) (by omega),YU h2 h3 (by omega)]
    obtain⟨r,er,hr⟩:=ih y hm (k - c) (by omega) (by omega)
    rw[er,bS,bS];unfold cntQ at hr;rw[ZB (n:=c+r) (by omega)]
    exact a6 _ ⟨by omega,by omega,by omega⟩
 obtain⟨r,er,hr⟩:=hL;rw[er,bS];exact QG.2 hr
theorem p_cfM(l:List Qo)(c:Q2)(hl:l.length≤4611686018427387904)(hs:c.fi.length≤4611686018427387904):ZV l c=some (l.any fun m=> !(c.fi.contains m.fc)):=by
 obtain⟨r,e,h⟩:=idxF (l:=l) (q:=fun m=> !(c.fi.contains m.fc)) (L:=Zb l c l.length) hl (fun i=>by rw[Zb]) (fun x _=>by unfold Kh;rw[LK _ _ hs];rfl)
 unfold ZV Yw;simp only[bS];rw[e];cases r with
 |inl a=>simp only[bS];rw[h];rfl
 |inr k=>simp only[bS];rw[h.2];simp[h.1]
theorem RT(c:Q2)(l:gLin)(hl:okL l)(hs:c.fi.length≤4611686018427387904):X0 c l=some (inS c.fi l):=by
 unfold X0 inS;rw[p_cfM _ _ (by have:=hl.2.1;omega) hs,bS,Hy]
theorem p_cfL(l:List gLin)(c:Q2)(hl:l.length≤4611686018427387904)(ha:∀a∈l,okL a)(hs:c.fi.length≤4611686018427387904):X7 l c=some (l.any fun a=> !(inS c.fi a)):=by
 obtain⟨r,e,h⟩:=idxF (l:=l) (q:=fun a=> !(inS c.fi a)) (L:=Zg l c l.length) hl (fun i=>by rw[Zg]) (fun x hx=>by unfold V2;rw[RT _ _ (ha x hx) hs];rfl)
 unfold X7 YC;simp only[bS];rw[e];cases r with
 |inl a=>simp only[bS];rw[h];rfl
 |inr k=>simp only[bS];rw[h.2];simp[h.1]
theorem Q79(c:Q2)(l:List Q5)(hl:l.length≤4611686018427387904)(hi:∀i∈l,okI i)(hs:c.fi.length≤4611686018427387904)(b:Bool):QU c b l l.length 0=some (b&&l.all fun i=>(GL i).all (inS c.fi)):=by
 refine My (F:=fun b i=>QU c b l l.length i) (l:=l) (fun _ _=>True) (fun b t=>b&&t.all fun i=>(GL i).all (inS c.fi)) ?_ ?_ b trivial
 ·intro b _;rw[QU,if_neg (by omega)];simp
 ·intro i y t b h0 h1 hm a3 _ ih;have hy:=hi y hm;rw[QU,if_pos h1,a3,bS,RT c y.fm hy.1 hs,bS,p_cfL y.fAt c (by have:=hy.2.1;omega) hy.2.2 hs,bS,YU h0 h1 hl,ih _ trivial,ih _ trivial,Hy]
  simp only[GL,List.all_cons];cases b<;>cases inS c.fi y.fm<;>simp
theorem Q5i(c:Q2)(l:List Q5)(hl:l.length≤4611686018427387904)(hb:okBs c.fk.fq):QW c l l.length 0=some (if Cb c.fk l≠0 then .inr (Cb c.fk l) else .inl ()):=by
 refine My (α:=Unit) (F:=fun _ i=>QW c l l.length i) (l:=l) (fun _ _=>True) (fun _ t=>if Cb c.fk t≠0 then .inr (Cb c.fk t) else .inl ()) ?_ ?_ () trivial
 ·intro _ _;rw[QW,if_neg (by omega)];simp[Cb]
 ·intro i y t _ h0 h1 hm a3 _ ih;rw[QW,if_pos h1,a3,bS,Ih _ _ hb,bS,bS,bS,YU h0 h1 hl,ih () trivial,Cb];by_cases hf:y.fF=[];·simp[hf]
  ·simp only[hf,if_false,beq_iff_eq];cases VD c.fk.fq y.fF with
   |none=>simp
   |some b=>
    by_cases h2:b.fb.fx=3
    ·by_cases h3:b.fJ.length=y.fAt.length;·simp[h2,h3]
     ·simp[h2,h3];omega
    ·simp[h2]
theorem Q5f(n:Qp)(sc:List Str)(x:Q3):Nt n sc x=if(inS sc x.fm&&x.fg.all fun i=>(GL i).all (inS sc))=false then 9 else if x.fOp≠3 then 0 else match VD n.fq x.fc with
 |none=>9
 |some b=>if b.fJ.length≠x.fg.length then 11 else Cb n x.fg:=by
 unfold Nt;have:(UW x).all (inS sc)=(inS sc x.fm&&x.fg.all fun i=>(GL i).all (inS sc)):=by
  unfold UW;rw[List.all_cons];congr 1;generalize x.fg=l
  induction l with
  |nil=>rfl
  |cons a t ih=>simp only[List.map_cons,List.flatten_cons,List.all_append,List.all_cons];rw[ih]
 rw[this]<;>rfl
theorem p_node(c:Q2)(x:Q3)(hx:okE (.mk x))(hb:okBs c.fk.fq)(hs:c.fi.length≤4611686018427387904):Kn c x=some (Nt c.fk c.fi x):=by
 obtain⟨h1,h2,h3,h4,h5⟩:=hx.of;have hI:x.fg.length≤4611686018427387904:=by omega
 rw[Q5f];unfold Kn;rw[RT c _ h1 hs];simp only[bS];rw[Q79 c _ hI h3 hs,bS];generalize (inS c.fi x.fm&&x.fg.all fun i=>(GL i).all (inS c.fi))=A
 rw[Ih _ _ hb,Q5i c _ hI hb];simp only[bS];cases A with
 |false=>simp
 |true=>
  by_cases ho:x.fOp=3
  ·simp only[ho,if_true,bne_self_eq_false,cqk,if_false];cases VD c.fk.fq x.fc with
   |none=>simp
   |some b=>
    by_cases h6:b.fJ.length=x.fg.length
    ·by_cases h7:Cb c.fk x.fg=0;·simp[h6,h7,bS]
     ·simp[h6,h7,bS]
    ·have:¬(b.fJ.length:Int)=x.fg.length:=by omega
     simp[h6,this]
  ·simp[ho]
theorem Pj{x:Q3}(h:raE x=true):(x.fe.length:Int)=Tn x.fOp∧x.fg.length≤6∧∀i∈x.fg,i.fAt.length≤6:=by
 unfold raE at h;rw[cqb,decide_eq_true_iff,cqt] at h;exact⟨h.1.1,h.1.2,fun i hi=>by simpa using h.2 i hi⟩
theorem kd_mk(n:Qp)(x:Q3):kd n (.mk x)=kd1 n x (x.fe.map (kd n)):=by rw[kd];simp
theorem kd_err(n:Qp)(e:Qc)(h:(kd n e).2≠0):kd n e=(zT,10):=by
 cases e with
 |mk x=>
  rw[kd_mk] at h ⊢;unfold kd1 at h ⊢;split;·rfl
  ·rename_i h1;rw[if_neg h1] at h;split;·rename_i h2;rw[if_pos h2] at h;exact absurd rfl h
   ·rename_i h2;rw[if_neg h2] at h;split;·rename_i h3;rw[if_pos h3] at h;exact absurd rfl h
    ·rename_i h3;rw[if_neg h3] at h;split;·rename_i h4;rw[if_pos h4] at h;exact absurd rfl h
     ·rename_i h4;rw[if_neg h4] at h;split;·rename_i h5;rw[if_pos h5] at h;exact absurd rfl h
      ·rename_i h5;rw[if_neg h5] at h;split;·rfl
       ·rename_i hl;rw[hl] at h;exact absurd rfl h
       ·rename_i hl;rw[hl] at h;simp only at h ⊢;split;·rfl
        ·rename_i h6;rw[if_neg h6] at h;split;·rename_i h7;rw[if_pos h7] at h;exact absurd rfl h
         ·rename_i h7;rw[if_neg h7] at h;exact absurd rfl h
theorem RU{x:Q3}(h:CB x=0):plE x=true∧raE x=true∧tyE x=true:=by
 unfold CB at h;rcases Bool.eq_false_or_eq_true (plE x) with a1 | a1
 rotate_left
 ·simp[a1] at h
 rcases Bool.eq_false_or_eq_true (naE x) with a2 | a2
 rotate_left
 ·simp[a1,a2] at h
 rcases Bool.eq_false_or_eq_true (raE x) with a3 | a3
 rotate_left
 ·simp[a1,a2,a3] at h
 rcases Bool.eq_false_or_eq_true (tyE x) with a4 | a4
 rotate_left
 ·simp[a1,a2,a3,a4] at h
 exact⟨a1,a3,a4⟩
inductive Ar (x:Q3):Prop
 |a0 (h:x.fOp=1∨x.fOp=2∨x.fOp=3) (e:x.fe=[])
 |a1 (h:x.fOp=8∨x.fOp=12) (a:Qc) (e:x.fe=[a]) (c:isC a.f=false)
 |aN (h:x.fOp=18) (a:Qc) (e:x.fe=[a]) (c:isC a.f=true)
 |aB (h:x.fOp=16∨x.fOp=17) (a b:Qc) (e:x.fe=[a,b]) (c:isC a.f=true) (d:isC b.f=true)
 |aI (h:x.fOp=11) (a b c:Qc) (e:x.fe=[a,b,c]) (h1:isC a.f=true) (h2:isC b.f=false) (h3:isC c.f=false)
 |a2 (h:x.fOp≠1∧x.fOp≠2∧x.fOp≠3∧x.fOp≠8∧x.fOp≠12∧x.fOp≠18∧x.fOp≠16∧x.fOp≠17∧x.fOp≠11) (a b:Qc) (e:x.fe=[a,b]) (h1:isC a.f=false) (h2:isC b.f=false)
theorem len1{α:Type}{l:List α}(h:l.length=1):∃a,l=[a]:=List.length_eq_one_iff.1 h
theorem len2{α:Type}{l:List α}(h:l.length=2):∃a b,l=[a,b]:=by
 match l,h with
 | [a,b],_=>exact⟨a,b,rfl⟩
theorem len3{α:Type}{l:List α}(h:l.length=3):∃a b c,l=[a,b,c]:=by
 match l,h with
 | [a,b,c],_=>exact⟨a,b,c,rfl⟩
theorem ar_of{x:Q3}(hr:raE x=true)(ht:tyE x=true):Ar x:=by
 obtain⟨h1,_,_⟩:=Pj hr;have h2:argG x.fOp 0 x.fe=true:=by
  unfold tyE at ht;rw[cqb] at ht;exact ht.2
 unfold Tn at h1;by_cases k0:x.fOp=1∨x.fOp=2∨x.fOp=3
 ·rw[if_pos k0] at h1;exact .a0 k0 (cqn (by omega))
 rw[if_neg k0] at h1;by_cases k1:x.fOp=8∨x.fOp=12∨x.fOp=18
 ·rw[if_pos k1] at h1;obtain⟨a,e⟩:=len1 (l:=x.fe) (by omega)
  rw[e] at h2;simp only[argG,Bool.and_true] at h2;by_cases k:x.fOp=18;·exact .aN k a e (by simpa[k,WI] using h2)
  ·exact .a1 (by omega) a e (by rcases(show x.fOp=8∨x.fOp=12 by omega) with q | q<;>simpa[q,WI] using h2)
 rw[if_neg k1] at h1;by_cases k2:x.fOp=11
 ·rw[if_pos k2] at h1;obtain⟨a,b,c,e⟩:=len3 (l:=x.fe) (by omega)
  rw[e] at h2;simp[argG,WI,k2] at h2;exact .aI k2 a b c e h2.1 h2.2.1 h2.2.2
 rw[if_neg k2] at h1;obtain⟨a,b,e⟩:=len2 (l:=x.fe) (by omega)
 rw[e] at h2;by_cases k3:x.fOp=16∨x.fOp=17;·refine .aB k3 a b e ?_ ?_<;>rcases k3 with q | q<;>simp[argG,WI,q] at h2<;>simp[h2]
 ·have q1:∀i,WI x.fOp i=false:=fun i=>by
   unfold WI;have:x.fOp≠16∧x.fOp≠17∧x.fOp≠18:=by omega
   simp[k2,this]
  simp[argG,q1] at h2;exact .a2 (by omega) a b e h2.1 h2.2
abbrev Eh(e:Qc):Prop:=∀y∈ZY e,CB y.f=0
theorem Eh.args{x:Q3}(h:Eh (.mk x)):CB x=0∧∀a∈x.fe,Eh a:=by
 unfold Eh at*;rw[PL] at h;refine⟨by have:=h (.mk x) (by simp);rwa [Qc.f_mk] at this,fun a ha y hy=>h y ?_⟩
 exact List.mem_cons_of_mem _ (List.mem_flatten.2 ⟨ZY a,List.mem_map_of_mem ha,hy⟩)
def DD(n:Qp):List Qc→Option (List Qb)
 | []=>some []
 |a::t=>if(kd n a).2≠0 then none else(DD n t).map ((kd n a).1:: ·)
theorem RK(n:Qp):∀l,(match DD n l with | none=>(l.map (kd n)).any (fun r=>r.2 !=0)=true | some ts=>(l.map (kd n)).any (fun r=>r.2 !=0)=false∧l.map (kd n)=ts.map fun t=>(t,(0:Int)))
 | []=>⟨rfl,rfl⟩
 |a::t=>by
  have ih:=RK n t;unfold DD;by_cases h:(kd n a).2=0
  ·rw[if_neg (by simp[h])]
   cases hk:DD n t with
   |none=>rw[hk] at ih;simp only[Option.map_none];rw[List.map_cons,List.any_cons,ih];simp
   |some ts=>
    rw[hk] at ih;simp only[Option.map_some];rw[List.map_cons,List.any_cons,ih.1,ih.2];refine⟨by simp[h],?_⟩
    rw[List.map_cons];congr 1;rw[← h]
  ·rw[if_pos h];simp only;rw[List.map_cons,List.any_cons];simp[h]
theorem Ss(c:Q2)(l:List Qc)(hl:l.length≤1000)(ih:∀a∈l,Zw c a.f=some (kd c.fk a)):∀(t p:List Qc) (ts:List Qb),l=p++t→ts.length≤p.length→Za c zT ts l l.length p.length=some (match DD c.fk t with | none=>.inr (zT,10) | some us=>.inl (zT,ts++us))
 | [],p,ts,e,_=>by
  have:p.length=l.length:=by rw[e];simp
  rw[Za,if_neg (by omega)];simp[DD]
 |a::t,p,ts,e,hts=>by
  have a3:(p.length:Int)<l.length:=by rw[e];simp;omega
  have h2:=Ss c l hl ih t (p++[a]) (ts++[(kd c.fk a).1]) (by rw[e];simp) (by simp;omega)
  rw[show((p++[a]).length:Int)=(p.length:Int)+1 by simp] at h2
  rw[Za,if_pos a3,Vo e,omS,bS,ih a (by rw[e];simp),bS,DD]
  by_cases h:(kd c.fk a).2=0
  ·rw[if_neg (by simp[h]),if_pos (by omega),bS,YU (by omega) a3 (by omega),h2,if_neg (by simp[h])]
   cases DD c.fk t<;>simp
  ·rw[if_pos (by simp[h]),if_pos h]
   have:=kd_err c.fk a h;rw[this]
theorem typeNe(a b:Qb):(!(a.fx==b.fx&& (a.fA==b.fA&& (a.fB==b.fB&& (a.fy==b.fy&& (a.fC==b.fC&&true))))))=decide (a≠b):=by
 cases a;cases b;rw[Bool.eq_iff_iff];simp
theorem Q9a{n:Qp}{x:Q3}(h:DD n x.fe=none):kd1 n x (x.fe.map (kd n))=(zT,10):=by
 have:=RK n x.fe;rw[h] at this;unfold kd1;rw[if_pos this]
theorem PG{n:Qp}:∀ {l:List Qc} {ts:List Qb},DD n l=some ts→ts.length=l.length
 | [],ts,h=>by cases h;rfl
 |a::t,ts,h=>by
  unfold DD at h;split at h;·cases h
  ·cases hk:DD n t with
   |none=>rw[hk] at h;cases h
   |some us=>rw[hk] at h;cases h;simp[PG hk]
theorem Q9b{n:Qp}{x:Q3}{ts:List Qb}(h:DD n x.fe=some ts):kd1 n x (x.fe.map (kd n))=if x.fOp=1∨x.fOp=12 then(x.fb,(0:Int)) else if x.fOp=2 then(⟨3,0,0,0,0⟩,0)
 else if x.fOp=3 then(((VD n.fq x.fc).getD zBuf).fb,0) else if x.fOp=16∨x.fOp=17∨x.fOp=18 then(zT,0)
 else match ts.reverse with
  | []=>(zT,10)
  | [a]=>(a,0)
  |a::b::_=>if b≠a then(zT,10) else if isC x then(zT,0) else(a,0):=by
 have:=RK n x.fe;rw[h] at this;unfold kd1;rw[if_neg (by simp[this.1]),this.2,← List.map_reverse]
 cases ts.reverse with
 |nil=>rfl
 |cons a t=>cases t<;>rfl
theorem Q9l(c:Q2)(hb:okBs c.fk.fq):∀e:Qc,Eh e→Zw c e.f=some (kd c.fk e):=Qc.ind fun x ih hg=>by
 obtain⟨g1,g2⟩:=hg.args;obtain⟨_,hr,ht⟩:=RU g1;have a4:=ar_of hr ht;have hl:x.fe.length≤1000:=by
  have:=(Pj hr).1;unfold Tn at this;split at this;·omega
  ·split at this;·omega
   ·split at this<;>omega
 have h0:Za c zT [] x.fe x.fe.length 0=_:=Ss c x.fe hl (fun a ha=>ih a ha (g2 a ha)) x.fe [] [] rfl (by simp)
 rw[Qc.f_mk,Zw,kd_mk];simp only[bS];rw[show(Qb.mk (0:Int) (0:Int) (0:Int) (0:Int) (0:Int))=zT from rfl,h0];cases hk:DD c.fk x.fe with
 |none=>rw[Q9a hk];rfl
 |some ts=>
  rw[Q9b hk];have a3:=PG hk;simp only[bS,List.nil_append,Ih _ _ hb,Da,typeNe];cases a4 with
  |a0 h e=>rcases h with h | h | h<;>simp[h,bS]
  |a1 h a e _=>
   rw[e] at a3;obtain⟨t,rfl⟩:=len1 (l:=ts) (by simpa using a3)
   rcases h with h | h
   ·simp[h,bS,ix]
   ·simp[h,bS]
  |aN h a e _=>simp[h,bS]
  |aB h a b e _ _=>rcases h with h | h<;>simp[h,bS]
  |aI h a b d e _ _ _=>
   rw[e] at a3;obtain⟨t,u,v,rfl⟩:=len3 (l:=ts) (by simpa using a3)
   have w1:wr (1:Int)=1:=by decide
   have w2:wr (2:Int)=2:=by decide
   have hc:isC x=false:=by simp[isC,h]
   by_cases q:u=v<;>simp[h,bS,ix,w1,w2,q,hc]
  |a2 h a b e _ _=>
   rw[e] at a3;obtain⟨t,u,rfl⟩:=len2 (l:=ts) (by simpa using a3)
   have w1:wr (0:Int)=0:=by decide
   have w2:wr (1:Int)=1:=by decide
   cases hc:isC x<;>by_cases q:t=u<;>simp[h,bS,ix,w1,w2,q]
theorem fstE_0{α:Type}{f:α→Int}:∀ {l:List α},fstE f l=0→∀a∈l,f a=0
 | [],_,a,h=>by cases h
 |b::t,hf,a,h=>by
  rw[fstE] at hf;by_cases hb:f b=0
  ·rw[if_neg (by simp[hb])] at hf
   rcases List.mem_cons.1 h with rfl | h
   ·exact hb
   ·exact fstE_0 hf a h
  ·rw[if_pos hb] at hf;exact absurd hf hb
theorem Pb{x:Q3}(h:GJ x=0):Eh (.mk x)∧(ZY (.mk x)).length≤2000:=by
 unfold GJ at h;split at h;·cases h
 ·split at h;·cases h
  ·exact⟨fstE_0 h,by omega⟩
theorem Q0a(c:Q2)(hb:okBs c.fk.fq)(hs:c.fi.length≤4611686018427387904):∀l:List Qc,(∀a∈l,okE a)→Xy c l=some (fstE (fun y=>Nt c.fk c.fi y.f) l)
 | [],_=>rfl
 |a::t,h=>by
  have ha:okE (.mk a.f):=by rw[Qc.mk_f];exact h a (by simp)
  rw[Xy,p_node c a.f ha hb hs,bS,Q0a c hb hs t (fun b hb=>h b (by simp[hb])),fstE]
  by_cases hp:Nt c.fk c.fi a.f=0;·simp[hp]
  ·simp[hp]
theorem Ii(c:Q2)(x:Q3)(hx:okE (.mk x))(hb:okBs c.fk.fq)(hs:c.fi.length≤4611686018427387904):Xb c x=some (U5 c.fk c.fi x):=by
 unfold Xb U5;rw[F0 x hx,bS];by_cases h1:GJ x=0
 ·obtain⟨hg,_⟩:=Pb h1;have hk:=Q9l c hb (.mk x) hg;rw[Qc.f_mk] at hk;rw[if_neg (by simp[h1]),if_neg (by simp[h1]),Hm x (OW _ hx),bS,Q0a c hb hs _ (PN _ hx),bS,hk]
  by_cases h2:fstE (fun y=>Nt c.fk c.fi y.f) (ZY (.mk x))=0
  ·rw[if_pos h2,if_neg (by simp[h2])];rfl
  ·rw[if_neg h2,if_pos h2];rfl
 ·rw[if_pos (by simp[h1]),if_pos h1];rfl
theorem ok_rdE{x:Qf}(hx:okS (.mk x)):okE (.mk (rdE x)):=by
 obtain⟨h1,h2,_,_⟩:=hx.of;exact .mk _ ⟨⟨by show(-9223372036854775808:Int)≤0;omega,by show(0:Int)≤9223372036854775807;omega⟩,by simp[rdE],by simp[rdE]⟩ h1 h2 (by simp[rdE]) (by simp[rdE])
theorem Q8t{n:Qp}{sc:List Str}{x:Qf}(h:(U5 n sc (rdE x)).2=0):(U5 n sc (rdE x)).1=((VD n.fq x.fc).getD zBuf).fb:=by
 unfold U5 at h ⊢;split at h;·rename_i h1;exact absurd h h1
 ·rename_i h1;rw[if_neg h1];split at h;·rename_i h2;exact absurd h h2
  ·rename_i h2;rw[if_neg h2,kd_mk];simp[kd1,rdE]
theorem foldQ(x:Qf):(if(x.fOp==(3:Int))=true then if x.fH< (1:Int) then some true else if(4:Int)<x.fH then some true else some false else some false)=some (decide (x.fOp=3∧(x.fH<1∨4<x.fH))):=by
 by_cases h1:x.fOp=3<;>by_cases h2:x.fH<1<;>by_cases h3:4<x.fH<;>simp[h1,h2,h3]
theorem p_store(c:Q2)(x:Qf)(hx:okS (.mk x))(hb:okBs c.fk.fq)(hs:c.fi.length≤4611686018427387904):K8 c x=some (Ae c.fk c.fi x):=by
 obtain⟨_,_,hE,_⟩:=hx.of;unfold K8 Ae;rw[bS,show(QO.mk (3:Int) x.fc (gVal.mk (0:Int) (0:Int)) (Qb.mk (0:Int) (0:Int) (0:Int) (0:Int) (0:Int)) (gLin.mk (0:Int) []) x.fg []:Q3)=rdE x from rfl,Ii c (rdE x) (ok_rdE hx) hb hs,bS,Ih _ _ hb,foldQ,Ii c x.fo hE hb hs];simp only[bS,Da,typeNe];have hk:= @Q8t c.fk c.fi x;generalize U5 c.fk c.fi (rdE x)=E1 at hk ⊢;generalize U5 c.fk c.fi x.fo=E2;generalize (VD c.fk.fq x.fc).getD zBuf=B at hk ⊢
 by_cases h1:E1.2=0
 ·rw[hk h1];by_cases h2:B.fP=1;·simp[h1,h2]
  ·by_cases h3:x.fOp=3∧(x.fH<1∨4<x.fH);·simp[h1,h2,h3]
   ·by_cases h4:E2.2=0;·cases hc:isC x.fo<;>by_cases h5:E2.1=B.fb<;>simp[h1,h2,h3,h4,h5,bS]
    ·simp[h1,h2,h3,h4]
 ·simp[h1]
theorem manyQ(x:Qf):(if x.fE< (1:Int) then some true else if(65536:Int)<x.fE then some true else if x.fI< (0:Int) then some true else if(3:Int)<x.fI then some true else some false)=some (decide (x.fE<1∨65536<x.fE∨x.fI<0∨3<x.fI)):=by
 by_cases h1:x.fE<1<;>by_cases h2:65536<x.fE<;>by_cases h3:x.fI<0<;>by_cases h4:3<x.fI<;>simp[h1,h2,h3,h4]
theorem p_loop(c:Q2)(x:Qf)(hb:okBs c.fk.fq)(hs:c.fv.length≤4611686018427387904):Km c x=some (Tk c.fk c.fv x):=by
 unfold Km Tk;rw[Ex,bS,Ih _ _ hb,LK _ _ hs,manyQ];cases h1:nm x.fc with
 |false=>simp
 |true=>
  cases h2:(VD c.fk.fq x.fc).isSome<;>cases h3:c.fv.contains x.fc<;>simp only[bS,Cv,DC,Bool.or_true,Bool.or_false]
  ·by_cases h4:x.fE<1∨65536<x.fE∨x.fI<0∨3<x.fI<;>simp[h4]
  all_goals simp
theorem Q2h(c:Q2)(x:Qf)(hx:okS (.mk x))(hb:okBs c.fk.fq)(hs:c.fi.length≤4611686018427387904)(hu:c.fv.length≤4611686018427387904):Y9 c x=some (GN c.fk c.fi c.fv x):=by
 obtain⟨_,_,hE,_⟩:=hx.of;unfold Y9 GN;rw[p_plain,bS,p_loop c x hb hu,Ii c x.fo hE hb hs,Da,p_store c x hx hb hs];cases h1:plS x with
 |false=>simp
 |true=>
  by_cases h2:x.fOp=1;·simp[h2,bS]
  ·by_cases h3:x.fOp=4
   ·by_cases h4:(U5 c.fk c.fi x.fo).2=0;·cases h5:isC x.fo<;>simp[h3,h4,bS]
    ·simp[h3,h4,bS]
   ·simp[h2,h3,bS]
def bdT(n:Qp)(sc:List Str)(a4:List Int)(l:List Q0)(i:Int)(a3:List Str):Fl:=bdL n sc a4 (l.map fun a=>(a.f,bd n a)) i a3
theorem Q32(n:Qp)(sc:List Str)(a4:List Int)(i:Int)(a3:List Str):bdT n sc a4 [] i a3=(a3,[],0):=rfl
theorem Ea(n:Qp)(sc:List Str)(a4:List Int)(a:Q0)(t:List Q0)(i:Int)(a3:List Str):bdT n sc a4 (a::t) i a3=
  if GN n sc a3 a.f≠0 then([],a4++[i],GN n sc a3 a.f)
  else if a.f.fOp=1 then(if(bdB n (sc++[a.f.fc]) (a4++[i]) a.f.fd (a3++[a.f.fc])).2.2≠0 then bdB n (sc++[a.f.fc]) (a4++[i]) a.f.fd (a3++[a.f.fc]) else bdT n sc a4 t (i+1) (bdB n (sc++[a.f.fc]) (a4++[i]) a.f.fd (a3++[a.f.fc])).1)
  else(if(bdB n sc (a4++[i]) a.f.fd a3).2.2≠0 then bdB n sc (a4++[i]) a.f.fd a3 else bdT n sc a4 t (i+1) (bdB n sc (a4++[i]) a.f.fd a3).1):=by
 show bdL n sc a4 ((a.f,bd n a)::t.map fun a=>(a.f,bd n a)) i a3=_
 rw[bdL,bd_f,bd_f];rfl
theorem bdB_T(n:Qp)(sc:List Str)(a4:List Int)(l:List Q0)(a3:List Str):bdB n sc a4 l a3=bdT n sc a4 l 0 a3:=rfl
theorem BC(a:Q0)(t:List Q0):dpL (a::t)=max (dp a) (dpL t):=rfl
theorem bdB_len(n:Qp):∀l,okSs l→∀(sc:List Str) (a4:List Int) (a3:List Str),(bdB n sc a4 l a3).1.length≤a3.length+szL l:=GG fun l hl ih sc a4 a3=>by
 have key:∀(t:List Q0),(∀s∈t,s∈l)→∀(i:Int) (a3:List Str),(bdT n sc a4 t i a3).1.length≤a3.length+szL t:=by
  intro t
  induction t with
  |nil=>intro _ i a3;rw[Q32];simp
  |cons a t iht=>
   intro hm i a3;have h2:=iht (fun s hs=>hm s (by simp[hs]))
   rw[Ea,Nh,sz_f];split;·simp
   ·split
    ·split;·have:=ih a (hm a (by simp)) (sc++[a.f.fc]) (a4++[i]) (a3++[a.f.fc]);simp at this ⊢;omega
     ·have:=ih a (hm a (by simp)) (sc++[a.f.fc]) (a4++[i]) (a3++[a.f.fc])
      have:=h2 (i+1) (bdB n (sc++[a.f.fc]) (a4++[i]) a.f.fd (a3++[a.f.fc])).1;simp at*;omega
    ·split;·have:=ih a (hm a (by simp)) sc (a4++[i]) a3;omega
     ·have:=ih a (hm a (by simp)) sc (a4++[i]) a3
      have:=h2 (i+1) (bdB n sc (a4++[i]) a.f.fd a3).1;omega
 exact key l (fun _ h=>h) 0 a3
theorem bdB_way(n:Qp):∀l,okSs l→∀(sc:List Str) (a4:List Int) (a3:List Str),((bdB n sc a4 l a3).2.2=0→(bdB n sc a4 l a3).2.1=[])∧((bdB n sc a4 l a3).2.2≠0→(bdB n sc a4 l a3).1=[]):=GG fun l hl ih sc a4 a3=>by
 have key:∀(t:List Q0),(∀s∈t,s∈l)→∀(i:Int) (a3:List Str),((bdT n sc a4 t i a3).2.2=0→(bdT n sc a4 t i a3).2.1=[])∧((bdT n sc a4 t i a3).2.2≠0→(bdT n sc a4 t i a3).1=[]):=by
  intro t
  induction t with
  |nil=>intro _ i a3;exact⟨fun _=>rfl,fun h=>absurd rfl h⟩
  |cons a t iht=>
   intro hm i a3;have h2:=iht (fun s hs=>hm s (by simp[hs]))
   rw[Ea];split;·rename_i h;exact⟨fun h'=>absurd h' h,fun _=>rfl⟩
   ·split
    ·split;·exact ih a (hm a (by simp)) _ _ _
     ·exact h2 _ _
    ·split;·exact ih a (hm a (by simp)) _ _ _
     ·exact h2 _ _
 exact key l (fun _ h=>h) 0 a3
theorem p_body(n:Qp)(hb:okBs n.fq):∀l,okSs l→∀c:Q2,c.fk=n→c.fi.length+dpL l≤1000→c.fw.length+dpL l≤1000→c.fv.length+szL l≤100000→
  wp (Z0 c l) (fun r=>r.1=(bdB n c.fi c.fw l c.fv).2.2∧(r.1≠0→r.2.fw=(bdB n c.fi c.fw l c.fv).2.1)∧(r.1=0→r.2=⟨n,(bdB n c.fi c.fw l c.fv).1,c.fi,c.fw⟩)):=GG fun l hl ih c hn az aw b2=>by
 have e1:=hl.1;have b6:l.length≤4611686018427387904:=by omega
 have key:∀(t p:List Q0),l=p++t→∀c:Q2,c.fk=n→c.fi.length+dpL t≤1000→c.fw.length+dpL t≤1000→c.fv.length+szL t≤100000→
   wp (QQ c l l.length p.length) (fun o=>((bdT n c.fi c.fw t p.length c.fv).2.2=0∧o= .inl ⟨n,(bdT n c.fi c.fw t p.length c.fv).1,c.fi,c.fw⟩)∨((bdT n c.fi c.fw t p.length c.fv).2.2≠0∧∃c',o= .inr (c',(bdT n c.fi c.fw t p.length c.fv).2.2)∧c'.fw=(bdT n c.fi c.fw t p.length c.fv).2.1)):=by
  intro t
  induction t with
  |nil=>
   intro p e c hn _ _ _;have:p.length=l.length:=by rw[e];simp
   rw[QQ,if_neg (by omega),Q32]
   obtain⟨cn,cl,cs,cp⟩:=c;cases hn;exact QG.2 (.inl ⟨rfl,rfl⟩)
  |cons a t ad=>
   intro p e c hn h1 h2 h3;obtain⟨cn,cl,cs,cp⟩:=c;simp only at hn h1 h2 h3;subst hn;have ai:(p.length:Int)<l.length:=by rw[e];simp;omega
   have ae:a∈l:=by rw[e];simp
   have aq:okS (.mk a.f):=by rw[Q0.mk_f];exact hl.2 a ae
   rw[BC,dp_f] at h1 h2;rw[Nh,sz_f] at h3;have ad:=ad (p++[a]) (by rw[e];simp)
   rw[show(((p++[a]).length:Nat):Int)=(p.length:Int)+1 by simp] at ad
   have aj:=Q2h ⟨cn,cl,cs,cp++[(p.length:Int)]⟩ a.f aq hb (show cs.length≤_ by omega) (show cl.length≤_ by omega)
   simp only at aj;rw[QQ,if_pos ai,Vo e,omS,bS,Ea];simp only;rw[if_pos ⟨by omega,by omega⟩,bS,aj,bS]
   by_cases hs:GN cn cs cl a.f=0
   ·have ax:¬((GN cn cs cl a.f !=(0:Int))=true):=by simp[hs]
    have ay:¬(GN cn cs cl a.f≠0):=by simp[hs]
    rw[if_neg ax,bS,bS];simp only[if_neg ay];have rest:∀(c1:Q2) (a4 a3:List Str),c1=⟨cn,a3,a4,cp++[(p.length:Int)]⟩→(∃x,a4=cs++x)→a4.length+dpL a.f.fd≤1000→a3.length+(szL a.f.fd+szL t)≤100000→
      wp (Z0 c1 a.f.fd>>=fun v7=>if(v7.fst !=(0:Int))=true then some (.inr (v7.snd,v7.fst)) else if True∧(0:Int)≤(cs.length:Int)∧(cs.length:Int)≤(v7.snd.fi.length:Int) then
       if List.length (List.take (cs.length:Int).toNat v7.snd.fi)=(cs.length:Int).toNat then
       some (List.take (cs.length:Int).toNat v7.snd.fi)>>=fun v8=>
       if True∧(0:Int)≤wr ((v7.snd.fw.length:Int) - (1:Int))∧wr ((v7.snd.fw.length:Int) - (1:Int))≤(v7.snd.fw.length:Int) then
       some ((v7.snd.fw.length:Int):Int)>>=fun v9=>
       if List.length (List.take ((wr ((v7.snd.fw.length:Int) - (1:Int))).toNat) v7.snd.fw)=((wr ((v7.snd.fw.length:Int) - (1:Int))).toNat) then
       some (List.take ((wr ((v7.snd.fw.length:Int) - (1:Int))).toNat) v7.snd.fw)>>=fun b3=>
       QQ (Q2.mk v7.snd.fk v7.snd.fv v8 b3) l l.length (wr ((p.length:Int)+(1:Int)))
       else none else none else none else none)
      (fun o=>((if(bdB cn a4 (cp++[(p.length:Int)]) a.f.fd a3).2.2≠0 then bdB cn a4 (cp++[(p.length:Int)]) a.f.fd a3 else bdT cn cs cp t ((p.length:Int)+1) (bdB cn a4 (cp++[(p.length:Int)]) a.f.fd a3).1).2.2=0∧o= .inl ⟨cn,(if(bdB cn a4 (cp++[(p.length:Int)]) a.f.fd a3).2.2≠0 then bdB cn a4 (cp++[(p.length:Int)]) a.f.fd a3 else bdT cn cs cp t ((p.length:Int)+1) (bdB cn a4 (cp++[(p.length:Int)]) a.f.fd a3).1).1,cs,cp⟩)∨
       ((if(bdB cn a4 (cp++[(p.length:Int)]) a.f.fd a3).2.2≠0 then bdB cn a4 (cp++[(p.length:Int)]) a.f.fd a3 else bdT cn cs cp t ((p.length:Int)+1) (bdB cn a4 (cp++[(p.length:Int)]) a.f.fd a3).1).2.2≠0∧∃c',o= .inr (c',(if(bdB cn a4 (cp++[(p.length:Int)]) a.f.fd a3).2.2≠0 then bdB cn a4 (cp++[(p.length:Int)]) a.f.fd a3 else bdT cn cs cp t ((p.length:Int)+1) (bdB cn a4 (cp++[(p.length:Int)]) a.f.fd a3).1).2.2)∧c'.fw=(if(bdB cn a4 (cp++[(p.length:Int)]) a.f.fd a3).2.2≠0 then bdB cn a4 (cp++[(p.length:Int)]) a.f.fd a3 else bdT cn cs cp t ((p.length:Int)+1) (bdB cn a4 (cp++[(p.length:Int)]) a.f.fd a3).1).2.1)):=by
     intro c1 a4 a3 hc1 ⟨xs,ak⟩ k1 k2;subst hc1;obtain⟨r,er,aa,ab,a8⟩:=ih a ae ⟨cn,a3,a4,cp++[(p.length:Int)]⟩ rfl (show a4.length+_≤1000 by omega) (show(cp++[(p.length:Int)]).length+_≤1000 by simp;omega) (show a3.length+_≤100000 by omega)
     have ar:=bdB_len cn a.f.fd (hl.2 a ae).f a4 (cp++[(p.length:Int)]) a3;simp only at aa ab a8;generalize bdB cn a4 (cp++[(p.length:Int)]) a.f.fd a3=B at aa ab a8 ar ⊢;obtain⟨r1,r2⟩:=r;simp only at aa ab a8;subst aa;rw[er,bS];simp only;by_cases hB:B.2.2=0
     ·have a8:=a8 hB;subst a8;have ao:¬((B.2.2 !=(0:Int))=true):=by simp[hB]
      have ap:¬(B.2.2≠0):=by simp[hB]
      rw[if_neg ao];simp only[if_neg ap];have hw:wr (((cp++[(p.length:Int)]).length:Nat) - 1:Int)=(cp.length:Int):=by rw[ZB (by simp;omega)];simp
      have b0:List.take (cs.length:Int).toNat a4=cs:=by rw[ak];simp
      have b1:List.take (cp.length:Int).toNat (cp++[(p.length:Int)])=cp:=by simp
      rw[b0,hw,b1,if_pos (show True∧(0:Int)≤cs.length∧(cs.length:Int)≤a4.length from⟨trivial,by omega,by rw[ak];simp;omega⟩),if_pos (show List.length cs=(cs.length:Int).toNat by simp),bS,if_pos (show True∧(0:Int)≤cp.length∧(cp.length:Int)≤((cp++[(p.length:Int)]).length:Nat) from⟨trivial,by omega,by simp;omega⟩),bS,if_pos (show List.length cp=(cp.length:Int).toNat by simp),bS,YU (by omega) ai (by omega)]
      exact ad ⟨cn,B.1,cs,cp⟩ rfl (show cs.length+_≤1000 by omega) (show cp.length+_≤1000 by omega) (show B.1.length+_≤100000 by omega)
     ·rw[if_pos (show(B.2.2 !=(0:Int))=true by simp[hB])]
      simp only[if_pos (show B.2.2≠0 from hB)];exact QG.2 (.inr ⟨hB,r2,rfl,ab hB⟩)
    by_cases hop:a.f.fOp=1
    ·rw[if_pos (show(a.f.fOp==(1:Int))=true by simp[hop]),if_pos (show(cl.length+1)*16≤140737488355328∧cl.length+1≤9223372036854775807 from⟨by omega,by omega⟩),if_pos (show(cs.length+1)*16≤140737488355328∧cs.length+1≤9223372036854775807 from⟨by omega,by omega⟩),bS]
     simp only[if_pos hop];exact rest _ _ _ rfl ⟨_,rfl⟩ (by simp;omega) (by simp;omega)
    ·rw[if_neg (show ¬((a.f.fOp==(1:Int))=true) by simp[hop]),bS]
     simp only[if_neg hop];exact rest _ _ _ rfl ⟨[],by simp⟩ (by omega) (by omega)
   ·rw[if_pos (show(GN cn cs cl a.f !=(0:Int))=true by simp[hs])]
    simp only[if_pos (show GN cn cs cl a.f≠0 from hs)];exact QG.2 (.inr ⟨hs,_,rfl,rfl⟩)
 have h0:=key l [] rfl c hn az aw b2;obtain⟨o,eo,ho⟩:=h0;rw[Z0];simp only[bS];rw[show((List.length ([]:List Q0):Nat):Int)=0 from rfl] at eo ho;rw[eo,bS,bdB_T];rcases ho with⟨h1,rfl⟩ | ⟨h1,c',rfl,h2⟩
 ·exact QG.2 ⟨h1.symm,fun h=>absurd rfl h,fun _=>rfl⟩
 ·exact QG.2 ⟨rfl,fun _=>h2,fun h=>absurd h h1⟩
theorem p_valid(n:Qp)(hb:okBs n.fq)(hl:okSs n.fd):Vl n=some (vd n):=by
 unfold Vl vd;rw[Q9m _ hl 40 (by omega) (by omega),bS]
 by_cases h1:dpL n.fd≤40
 ·obtain⟨k,ek,a9,aa,_⟩:=p_count _ hl 2000 (by omega) (by omega)
  rw[if_pos (by simp;omega),if_neg (by omega),bS,ek,bS]
  by_cases h2:2000<szL n.fd;·rw[if_pos (by omega),bS,if_pos rfl,if_pos (.inl h2)]
  ·rw[if_neg (by omega),bS]
   by_cases h3:128<n.fq.length;·rw[if_pos (by omega),bS,if_pos rfl,if_pos (.inr h3)]
   ·rw[if_neg (by omega),bS,if_neg (by simp),p_bufs _ hb.1,bS,if_neg (show ¬(2000<szL n.fd∨128<n.fq.length) by omega)]
    by_cases h4:Dg [] n.fq=0
    ·obtain⟨r,er,q1,q2,q3⟩:=p_body n hb _ hl ⟨n,[],[],[]⟩ rfl (show 0+_≤1000 by omega) (show 0+_≤1000 by omega) (show 0+_≤100000 by omega)
     simp only at q1 q2 q3;have a3:(bdB n [] [] n.fd []).2.2=0→(bdB n [] [] n.fd []).2.1=[]:=(bdB_way n _ hl _ _ _).1;rw[if_neg (by simp[h4]),if_neg (by simp[h4]),er,bS,q1]
     by_cases h5:(bdB n [] [] n.fd []).2.2=0;·rw[if_neg (by simp[h5]),a3 h5,h5]
     ·rw[if_pos (by simp[h5]),q2 (by rw[q1];exact h5)]
    ·rw[if_pos (by simp[h4]),if_pos (by simp[h4])]
 ·rw[if_neg (by simp;omega),if_pos (by omega)]
set_option maxRecDepth 1000000
def Kp(r:List Q0):AV:=.ow 0 0 20 (List.length r)
def Kk(r:List Q0):List Box:=[.own 0 20 (List.map Q9 r)]
noncomputable def Yn(x0:List Q0):Option (List Q0):=if List.length x0*256≤140737488355328∧List.length x0≤9223372036854775807 then some x0 else none
theorem CY(x0:List Q0)(r:List Q0)(h:Yn x0=some r):PH 150 [Z7 x0] [] (Kp r) (Kk r):=by
 unfold Yn at h;split at h
 ·rename_i hc;cases h;exact PuH1 (kb:=[{slot:=0,path:=[],own:=20}]) (φ:=(List.map Q9 x0=[]→LeVs [.ow 0 0 20 0] [.ow 0 0 20 (List.length x0)]∧LeBs [.own 0 20 []] [.own 0 20 (List.map Q9 x0)])∧(0=0∧(0+List.length (List.map Q9 x0))*256≤140737488355328∧0+List.length (List.map Q9 x0)≤9223372036854775807)∧∃l,(List.map Q9 l=[]++List.map Q9 x0∧List.length l=0+List.length (List.map Q9 x0))∧LeVs [.ow 0 0 20 (List.length l)] [.ow 0 0 20 (List.length x0)]∧LeBs [.own 0 20 (List.map Q9 l)] [.own 0 20 (List.map Q9 x0)])
   (hs:=[(4,.nn),(7,.z [{slot:=5,own:=20}] (some (.n Q9 7 (some .a))))]) (by kernel_rfl)
   ⟨fun e=>by have e1:x0=[]:=List.map_eq_nil_iff.1 e;subst e1;exact⟨.refl _,.refl _⟩,⟨rfl,by simpa using hc⟩,x0,⟨by simp,by simp⟩,⟨.refl _,.refl _⟩⟩
 ·cases h
def Kb(r:List Q5):AV:=.ow 0 0 4 (List.length r)
def K6(r:List Q5):List Box:=[.own 0 4 (List.map Q4 r)]
noncomputable def Ya(x0:List Q5):Option (List Q5):=if List.length x0*72≤140737488355328∧List.length x0≤9223372036854775807 then some x0 else none
theorem DY(x0:List Q5)(r:List Q5)(h:Ya x0=some r):PH 143 [KP x0] [] (Kb r) (K6 r):=by
 unfold Ya at h;split at h
 ·rename_i hc;cases h;exact PuH1 (kb:=[{slot:=0,path:=[],own:=4}]) (φ:=(List.map Q4 x0=[]→LeVs [.ow 0 0 4 0] [.ow 0 0 4 (List.length x0)]∧LeBs [.own 0 4 []] [.own 0 4 (List.map Q4 x0)])∧(0=0∧(0+List.length (List.map Q4 x0))*72≤140737488355328∧0+List.length (List.map Q4 x0)≤9223372036854775807)∧∃l,(List.map Q4 l=[]++List.map Q4 x0∧List.length l=0+List.length (List.map Q4 x0))∧LeVs [.ow 0 0 4 (List.length l)] [.ow 0 0 4 (List.length x0)]∧LeBs [.own 0 4 (List.map Q4 l)] [.own 0 4 (List.map Q4 x0)])
   (hs:=[(4,.nn),(7,.z [{slot:=5,own:=4}] (some (.n Q4 7 (some .a))))]) (by kernel_rfl)
   ⟨fun e=>by have e1:x0=[]:=List.map_eq_nil_iff.1 e;subst e1;exact⟨.refl _,.refl _⟩,⟨rfl,by simpa using hc⟩,x0,⟨by simp,by simp⟩,⟨.refl _,.refl _⟩⟩
 ·cases h
def KE(r:List gLin):AV:=.ow 0 0 2 (List.length r)
def KA(r:List gLin):List Box:=[.own 0 2 (List.map Qi r)]
noncomputable def YF(x0:List gLin):Option (List gLin):=if List.length x0*32≤140737488355328∧List.length x0≤9223372036854775807 then some x0 else none
theorem Ws(x0:List gLin)(r:List gLin)(h:YF x0=some r):PH 144 [I9 x0] [] (KE r) (KA r):=by
 unfold YF at h;split at h
 ·rename_i hc;cases h;exact PuH1 (kb:=[{slot:=0,path:=[],own:=2}]) (φ:=(List.map Qi x0=[]→LeVs [.ow 0 0 2 0] [.ow 0 0 2 (List.length x0)]∧LeBs [.own 0 2 []] [.own 0 2 (List.map Qi x0)])∧(0=0∧(0+List.length (List.map Qi x0))*32≤140737488355328∧0+List.length (List.map Qi x0)≤9223372036854775807)∧∃l,(List.map Qi l=[]++List.map Qi x0∧List.length l=0+List.length (List.map Qi x0))∧LeVs [.ow 0 0 2 (List.length l)] [.ow 0 0 2 (List.length x0)]∧LeBs [.own 0 2 (List.map Qi l)] [.own 0 2 (List.map Qi x0)])
   (hs:=[(4,.nn),(7,.z [{slot:=5,own:=2}] (some (.n Qi 7 (some .a))))]) (by kernel_rfl)
   ⟨fun e=>by have e1:x0=[]:=List.map_eq_nil_iff.1 e;subst e1;exact⟨.refl _,.refl _⟩,⟨rfl,by simpa using hc⟩,x0,⟨by simp,by simp⟩,⟨.refl _,.refl _⟩⟩
 ·cases h
def Ko(r:List Qc):AV:=.ow 0 0 13 (List.length r)
def Kj(r:List Qc):List Box:=[.own 0 13 (List.map Qh r)]
noncomputable def Ym(x0:List Qc):Option (List Qc):=if List.length x0*160≤140737488355328∧List.length x0≤9223372036854775807 then some x0 else none
theorem CX(x0:List Qc)(r:List Qc)(h:Ym x0=some r):PH 145 [Cr x0] [] (Ko r) (Kj r):=by
 unfold Ym at h;split at h
 ·rename_i hc;cases h;exact PuH1 (kb:=[{slot:=0,path:=[],own:=13}]) (φ:=(List.map Qh x0=[]→LeVs [.ow 0 0 13 0] [.ow 0 0 13 (List.length x0)]∧LeBs [.own 0 13 []] [.own 0 13 (List.map Qh x0)])∧(0=0∧(0+List.length (List.map Qh x0))*160≤140737488355328∧0+List.length (List.map Qh x0)≤9223372036854775807)∧∃l,(List.map Qh l=[]++List.map Qh x0∧List.length l=0+List.length (List.map Qh x0))∧LeVs [.ow 0 0 13 (List.length l)] [.ow 0 0 13 (List.length x0)]∧LeBs [.own 0 13 (List.map Qh l)] [.own 0 13 (List.map Qh x0)])
   (hs:=[(4,.nn),(7,.z [{slot:=5,own:=13}] (some (.n Qh 7 (some .a))))]) (by kernel_rfl)
   ⟨fun e=>by have e1:x0=[]:=List.map_eq_nil_iff.1 e;subst e1;exact⟨.refl _,.refl _⟩,⟨rfl,by simpa using hc⟩,x0,⟨by simp,by simp⟩,⟨.refl _,.refl _⟩⟩
 ·cases h
noncomputable def Vk(x0:List Qo):Option (List Qo):=if List.length x0*24≤140737488355328∧List.length x0≤9223372036854775807 then some x0 else none
theorem IE(x0:List Qo)(r:List Qo)(h:Vk x0=some r):PU 109 [KY x0] (KY r):=by
 unfold Vk at h;split at h
 ·rename_i hc;cases h;exact Pu1 (φ:=(List.map Q7 x0=[]→LeT .nil (.sl 2 (List.map Q7 x0)))∧(0=0∧(0+List.length (List.map Q7 x0))*24≤140737488355328∧0+List.length (List.map Q7 x0)≤9223372036854775807)∧∃l,(List.map Q7 l=[]++List.map Q7 x0∧List.length l=0+List.length (List.map Q7 x0))∧List.length l=List.length (List.map Q7 l)∧LeT (.sl 2 (List.map Q7 l)) (.sl 2 (List.map Q7 x0)))
   (hs:=[(4,.nn),(7,.z [{slot:=5,own:=2}] (some (.n Q7 7 (some .a))))]) (by kernel_rfl)
   ⟨fun e=>by rw[e];exact .nil 2,⟨rfl,by simpa using hc⟩,x0,⟨by simp,by simp⟩,⟨by simp,.refl _⟩⟩
 ·cases h
end Go.Proofs.YtkgphhemcglgnaaGreatDoor
noncomputable section
namespace Go.Proofs.YtkgphhemcglgnaaGreatDoor
open Go HY
set_option maxRecDepth 1000000
def Ku(x0:Str):Option Str:=
 some x0
theorem Az(x0 r)(h:Ku x0=some r):PU 113 [eS x0] (eS r):=
 Pu4 (hs:=[]) (Ku.eq_1 x0) h
@[reducible,instance] def Qbd x0:=Lw.mk (Az x0)
def Uv(x0:gLin):Option gLin:=
 Vk x0.fL>>=fun v0=>
 some ((gLin.mk x0.fK v0))>>=fun v1=>
 some v1
theorem Rk(x0 r)(h:Uv x0=some r):PU 112 [Qi x0] (Qi r):=
 Pu4 (hs:=[(7,.c KY),(8,.n Qi 8 none)]) (Uv.eq_1 x0) h (q:=qC (hP:=⟨IE x0.fL⟩))
@[reducible,instance] def Q6v x0:=Lw.mk (Rk x0)
def QM(x0:gLin):Option (gLin×Int):=
 Uv x0>>=fun v0=>
 some (v0,(0:Int))
theorem Hf(x0 r)(h:QM x0=some r):PU 111 [Qi x0] (Kx r):=
 Pu4 (hs:=[(5,.c Qi)]) (QM.eq_1 x0) h
@[reducible,instance] def Q2f x0:=Lw.mk (Hf x0)
abbrev XE(s:((List Q5)×Int))(u:(Int×Int×Int))(o:(List Q5×List gLin) ⊕ ((List Q5)×Int× (List Q5))):List Alt:=[⟨fun(x:(List Q5×List gLin))=>(Sum.inl x:(List Q5×List gLin) ⊕ ((List Q5)×Int× (List Q5)))=o,.exit 2,fun x=>[.sl 4 (List.map Q4 s.1),.fn 111 [],.undef,.undef,.ow 0 0 4 (List.length x.1),ii s.2,ii u.2.1],fun x=>[.hol 0 4 (List.map Q4 x.1) (Int.toNat u.1) 3 (.ow 1 0 2 (List.length x.2)),.own 0 2 (List.map Qi x.2)]⟩,⟨fun(x:((List Q5)×Int× (List Q5)))=>(Sum.inr x:(List Q5×List gLin) ⊕ ((List Q5)×Int× (List Q5)))=o,.ret,fun x=>[.sl 4 (List.map Q4 s.1),.fn 111 [],.sl 4 (List.map Q4 x.1),ii x.2.1,.ow 0 0 4 (List.length x.2.2),ii s.2,ii u.2.1],fun x=>[.own 0 4 (List.map Q4 x.2.2)]⟩]
def Qv(x0:List Q5)(x6:(List Q5×List gLin))(x8:Int)(a6:Int)(a3:Int):Option ((List Q5×List gLin) ⊕ ((List Q5)×Int× (List Q5))):=
 if a3<a6 then
 if 0≤x8∧x8< (↑x6.fst.length:Int) then
 ix x0 x8>>=fun v0=>
 ix v0.fAt a3>>=fun v1=>
 QM v1>>=fun v2=>
 if 0≤a3∧a3< (↑x6.snd.length:Int) then
 if a3.toNat< (List.map Qi x6.snd).length then
 some (List.set x6.snd a3.toNat v2.fst)>>=fun v3=>
 if v2.snd !=0 then
 if x6.snd.length=(List.map Qi v3).length then
 x6.fst[x8.toNat]? >>=fun v4=>
 some (List.set x6.fst x8.toNat (Q5.mk v4.fm v4.fF v3))>>=fun v5=>
 some (.inr ([],v2.snd,v5))
 else none
 else
 Qv x0 (x6.fst,v3) x8 a6 (wr (a3+1))
 else none
 else none
 else none
 else
 some (.inl x6)
 partial_fixpoint
theorem NS(x0:List Q5)(x6:(List Q5×List gLin))(x8:Int)(a4:Int)(a5:Int)(a7:Int)(a6:Int)(o:(List Q5×List gLin) ⊕ ((List Q5)×Int× (List Q5)))(h:Qv x0 x6 x8 a7 a6=some o):LO 151 11 79 [0,1,6,8,13,14,49,50] [.sl 4 (List.map Q4 x0),.fn 111 [],.ow 0 0 4 (List.length x6.1),ii x8,ii a4,ii a5,ii a7,ii a6] [.hol 0 4 (List.map Q4 x6.1) (Int.toNat x8) 3 (.ow 1 0 2 (List.length x6.2)),.own 0 2 (List.map Qi x6.2)] [0,1,4,5,6,13,14] (XE (x0,a4) (x8,a5,a7) o):=
 Qv.partial_correctness x0 x8 a7 (fun x6 a6 o=>∀(a4:Int) (a5:Int),LO 151 11 79 [0,1,6,8,13,14,49,50] [.sl 4 (List.map Q4 x0),.fn 111 [],.ow 0 0 4 (List.length x6.1),ii x8,ii a4,ii a5,ii a7,ii a6] [.hol 0 4 (List.map Q4 x6.1) (Int.toNat x8) 3 (.ow 1 0 2 (List.length x6.2)),.own 0 2 (List.map Qi x6.2)] [0,1,4,5,6,13,14] (XE (x0,a4) (x8,a5,a7) o))
 (fun Qv Qdo x6 a6 o h a4 a5=>
 Lp4 (hs:=[(51,.split),(56,.s),(58,.s),(63,.e Q4),(67,.e Qi),(69,.c Kx),(72,.s),(1000072,.n Qi 72 (some .s)),(74,.split),(75,.fl Q4 6 none)]) (kb:=[kk 6,{slot:=6,path:=[0]}]) (kbx:=[{slot:=4,fz:=true},kk 6,{slot:=6,path:=[0]}]) rfl h (q:=qD (hA:=qG (hA:=qT (rfl:x8.toNat=x8.toNat) (hA:=qIx (hA:=fun v0=>qIx (hA:=fun v1=>qC (hA:=fun v2=>qG (hA:=qG (hA:=⟨fun _=>kBE (sh:=Qi) (List.set x6.snd a6.toNat v2.fst) (mS (sh:=Qi) x6.snd a6.toNat v2.fst) fun v3 ab=>(kIf (c:=v2.snd !=0) (kG (p:=x6.snd.length=(List.map Qi v3).length) (kOx (enc:=Q4) (l:=x6.fst) (k:=x8.toNat) fun v4=>(kBE (sh:=Q4) (List.set x6.fst x8.toNat (Q5.mk v4.fm v4.fF v3)) (mS (sh:=Q4) x6.fst x8.toNat (Q5.mk v4.fm v4.fF v3)) fun v5 af=>(kX (alts:=XE (x0,a4) (x8,a5,a7)) (.inr ([],v2.snd,v5)) (.next (.here _ rfl (.cons lr (.cons lr (.cons (LeV.nil 4) (.cons lr (.cons (LeV.owl (by simp[af,ab]:x6.fst.length=List.length v5)) (.cons lr (.cons lr .nil))))))) (.refl _)))))))
 (kM (alts:=XE (x0,a4) (x8,a5,a7)) (.cons lr (.cons lr (.cons lr (.cons lr (.cons lr (.cons lr (.cons lr (.cons lr .nil)))))))) (.cons (LeB.hol (0:Nat) (4:Nat) (List.map Q4 x6.fst) x8.toNat (3:Nat) (LeV.owl (by simp[ab]:x6.snd.length=List.length v3))) (.cons (LeB.refl (Box.own (0:Nat) (2:Nat) (List.map Qi v3))) .nil)) (fun y hy=>Qdo (x6.fst,v3) (wr (a6+1)) y hy a4 a5)))⟩)))))))))) x6 a6 o h a4 a5
abbrev X9(s:List Q5)(u:Int)(o:(List Q5) ⊕ ((List Q5)×Int)):List Alt:=[⟨fun(x:List Q5)=>(Sum.inl x:(List Q5) ⊕ ((List Q5)×Int))=o,.exit 0,fun x=>[.undef,.undef,.sl 4 (List.map Q4 x)],fun x=>[]⟩,⟨fun(x:((List Q5)×Int))=>(Sum.inr x:(List Q5) ⊕ ((List Q5)×Int))=o,.ret,fun x=>[.sl 4 (List.map Q4 x.1),ii x.2,.undef],fun x=>[]⟩]
def QA(x0:List Q5)(x6:List Q5)(a7:Int)(a3:Int):Option ((List Q5) ⊕ ((List Q5)×Int)):=
 if a3<a7 then
 ix x0 a3>>=fun v0=>
 QM v0.fm>>=fun v1=>
 if 0≤a3∧a3< (↑x6.length:Int) then
 x6[a3.toNat]? >>=fun v2=>
 some (List.set x6 a3.toNat (Q5.mk v1.fst v2.fF v2.fAt))>>=fun v3=>
 if v1.snd !=0 then
 if x6.length=(List.map Q4 v3).length then
 some (.inr ([],v1.snd))
 else none
 else
 ix x0 a3>>=fun v4=>
 YF v4.fAt>>=fun v5=>
 if 0≤a3∧a3< (↑x6.length:Int) then
 if a3.toNat< (List.map Q4 v3).length then
 ix x0 a3>>=fun v6=>
 some (List.length v6.fAt:Int)>>=fun v7=>
 some (a3,a3,v7)>>=fun v8=>
 Qv x0 (v3,v5) a3 v7 0>>=fun v9=>(match v9 with
 | (.inl v10)=>
 v10.fst[v8.fst.toNat]? >>=fun a5=>
 some (List.set v10.fst v8.fst.toNat (Q5.mk a5.fm a5.fF v10.snd))>>=fun a9=>
 QA x0 a9 a7 (wr (v8.snd.fst+1))
 | (.inr v13)=>
 some (.inr (v13.fst,v13.snd.fst)))
 else none
 else none
 else none
 else
 some (.inl x6)
 partial_fixpoint
theorem Mg(x0 x6 x13 a3 o)(h:QA x0 x6 x13 a3=some o):LO 151 4 79 [0,1,6,13,14] [.sl 4 (List.map Q4 x0),.fn 111 [],.ow 0 0 4 (List.length x6),ii x13,ii a3] [.own 0 4 (List.map Q4 x6)] [4,5,6] (X9 x0 x13 o):=
 QA.partial_correctness x0 x13 (fun x6 a3 o=>LO 151 4 79 [0,1,6,13,14] [.sl 4 (List.map Q4 x0),.fn 111 [],.ow 0 0 4 (List.length x6),ii x13,ii a3] [.own 0 4 (List.map Q4 x6)] [4,5,6] (X9 x0 x13 o))
 (fun QA Qdp x6 a3 o h=>
 Lp4 (hs:=[(15,.split),(23,.e Q4),(26,.c Kx),(29,.s),(1000030,.n Q4 30 (some (.e Q4))),(32,.split),(38,.e Q4),(41,.h [] KE KA),(42,.s),(1000043,.s),(46,.e Q4),(49,.n eI 49 none),(77,.fl Q4 6 none),(3000012,.l [] [0,1,6,8,13,14,49,50] [kk 6,{slot:=6,path:=[0]}] [0,1,4,5,6,13,14] [{slot:=4,fz:=true},kk 6,{slot:=6,path:=[0]}] (XE (x0,x13)))]) (kb:=[{slot:=6,own:=4}]) (kbx:=[{slot:=4,fz:=true},{slot:=6,fz:=true}]) rfl h (q:=qD (hA:=qIx (hA:=fun v0=>qC (hA:=fun v1=>qG (hA:=qOx (hA:=fun v2=>⟨fun _=>kBE (sh:=Q4) (List.set x6 a3.toNat (Q5.mk v1.fst v2.fF v2.fAt)) (mS (sh:=Q4) x6 a3.toNat (Q5.mk v1.fst v2.fF v2.fAt)) fun v3 a9=>(kIf (c:=v1.snd !=0) (kG (p:=x6.length=(List.map Q4 v3).length) (kX (alts:=X9 x0 x13) (.inr ([],v1.snd)) (.next (.here _ rfl (.cons (LeV.nil 4) (.cons lr (.cons (LeV.undef (AV.sl (4:Nat) (List.map Q4 v3))) .nil))) (.refl _)))))
 (kIx (enc:=Q4) (l:=x0) (k:=a3) fun v4=>(kH (sh:=KE) (bt:=KA) (Ws v4.fAt) fun v5=>(kG (p:=0≤a3∧a3< (↑x6.length:Int)) (kG (p:=a3.toNat< (List.map Q4 v3).length) (kIx (enc:=Q4) (l:=x0) (k:=a3) fun v6=>(kN _ (mLen (sh:=Qi) v6.fAt) fun v7=>(kL2 (a3,a3,v7) (hL:=(fun y hy=>Zu.le (.cons lr (.cons lr (.cons (LeV.owl (by simp[a9]:x6.length=List.length v3)) (.cons lr (.cons lr (.cons lr (.cons lr (.cons lr .nil)))))))) (.refl _) (NS x0 (v3,v5) a3 x13 a3 v7 0 y hy))) (hA:=fun v8 a4=>(kT (nM (sh:=Qi) a4.snd) (kOx (enc:=Q4) (l:=a4.fst) (k:=v8.fst.toNat) fun a6=>(kBE (sh:=Q4) (List.set a4.fst v8.fst.toNat (Q5.mk a6.fm a6.fF a4.snd)) (mS (sh:=Q4) a4.fst v8.fst.toNat (Q5.mk a6.fm a6.fF a4.snd)) fun aa a8=>(kM (alts:=X9 x0 x13) (.cons lr (.cons lr (.cons (LeV.owl (by simp[a8,a9]:a4.fst.length=List.length aa)) (.cons lr (.cons lr .nil))))) (.refl _) (Qdp aa (wr (v8.snd.fst+1))))))))
 (hB:=fun v8 a7=>(kT (nM (sh:=Q4) a7.snd.snd) (kX (alts:=X9 x0 x13) (.inr (a7.fst,a7.snd.fst)) (.next (.here _ rfl (.cons lr (.cons lr (.cons (LeV.undef (AV.sl (4:Nat) (List.map Q4 a7.snd.snd))) .nil))) (.refl _))))))))))))))⟩))))) (hB:=qT (nM (sh:=Q4) x6)))) x6 a3 o h
@[reducible,instance] def FH x0 x6 x13 x14:=Ll.mk (Mg x0 x6 x13 x14)
def XC(x0:List Q5):Option (List Q5×Int):=
 Ya x0>>=fun v0=>
 some (List.length x0:Int)>>=fun v1=>
 some v1>>=fun v2=>
 QA x0 v0 v1 0>>=fun v3=>(match v3 with
 | (.inl v4)=>
 some (v4,(0:Int))
 | (.inr v5)=>
 some (v5.fst,v5.snd))
theorem Ls(x0 r)(h:XC x0=some r):PU 151 [KP x0,.fn 111 []] (Gf r):=
 Pu4 (hs:=[(11,.h [] Kb K6),(13,.n eI 13 none),(3000005,.l [] [0,1,6,13,14] [{slot:=6,own:=4}] [4,5,6] [{slot:=4,fz:=true},{slot:=6,fz:=true}] (X9 x0))]) (XC.eq_1 x0) h (q:=qH (sh:=Kb) (bt:=K6) (DY x0))
@[reducible,instance] def OK x0:=Lw.mk (Ls x0)
abbrev Yh(s:Q3)(u:Int)(o:(Q3×Q3) ⊕ (Q3×Int×Q3)):List Alt:=[⟨fun(x:(Q3×Q3))=>(Sum.inl x:(Q3×Q3) ⊕ (Q3×Int×Q3))=o,.exit 0,fun x=>[.ptr 0 0 0,.undef,.ptr 1 0 0],fun x=>[.cells 0 (Q8 x.1).cells,.cells 0 [ii x.2.fOp,.str x.2.fc,ii x.2.fp.fN,ii x.2.fp.fD,ii x.2.fb.fx,ii x.2.fb.fA,ii x.2.fb.fB,ii x.2.fb.fy,ii x.2.fb.fC,ii x.2.fm.fK,.sl 2 (List.map Q7 x.2.fm.fL),.sl 4 (List.map Q4 x.2.fg),.ow 2 0 13 (List.length x.2.fe)],.own 0 13 (List.map Qh x.2.fe)]⟩,⟨fun(x:(Q3×Int×Q3))=>(Sum.inr x:(Q3×Q3) ⊕ (Q3×Int×Q3))=o,.ret,fun x=>[.ptr 0 0 0,ii x.2.1,.ptr 1 0 0],fun x=>[.cells 0 (Q8 x.1).cells,.cells 0 [ii x.2.2.fOp,.str x.2.2.fc,ii x.2.2.fp.fN,ii x.2.2.fp.fD,ii x.2.2.fb.fx,ii x.2.2.fb.fA,ii x.2.2.fb.fB,ii x.2.2.fb.fy,ii x.2.2.fb.fC,ii x.2.2.fm.fK,.sl 2 (List.map Q7 x.2.2.fm.fL),.sl 4 (List.map Q4 x.2.2.fg),.ow 2 0 13 (List.length x.2.2.fe)],.own 0 13 (List.map Qh x.2.2.fe)]⟩]
mutual
def X2(x0:Q3):Option (Q3×Int):=
 QM x0.fm>>=fun v0=>
 if v0.snd !=0 then
 some ((QO.mk (0:Int) [] (gVal.mk (0:Int) (0:Int)) (Qb.mk (0:Int) (0:Int) (0:Int) (0:Int) (0:Int)) (gLin.mk (0:Int) []) [] []:Q3))>>=fun v1=>
 some (v1,v0.snd)
 else
 XC x0.fg>>=fun v2=>
 if v2.snd !=0 then
 some ((QO.mk (0:Int) [] (gVal.mk (0:Int) (0:Int)) (Qb.mk (0:Int) (0:Int) (0:Int) (0:Int) (0:Int)) (gLin.mk (0:Int) []) [] []:Q3))>>=fun v3=>
 some (v3,v2.snd)
 else
 Ym x0.fe>>=fun v4=>
 some (List.length x0.fe:Int)>>=fun v5=>
 some v5>>=fun v6=>
 QC x0 (QO.mk (0:Int) [] (gVal.mk (0:Int) (0:Int)) (Qb.mk (0:Int) (0:Int) (0:Int) (0:Int) (0:Int)) (gLin.mk (0:Int) []) [] []:Q3) (QO.mk x0.fOp x0.fc x0.fp x0.fb v0.fst v2.fst v4:Q3) v5 (0:Int)>>=fun v7=>(match v7 with
 | (.inl v8)=>
 some (v8.snd,(0:Int))
 | (.inr v9)=>
 some (v9.fst,v9.snd.fst))
 partial_fixpoint
def QC(x2:Q3)(x4:Q3)(x6:Q3)(a5:Int)(a4:Int):Option ((Q3×Q3) ⊕ (Q3×Int×Q3)):=
 if a4<a5 then
 Option.map Qc.f (ix x2.fe a4)>>=fun v0=>
 X2 v0>>=fun v1=>
 if 0≤a4∧a4< (↑x6.fe.length:Int) then
 if a4.toNat< (List.map Qh x6.fe).length then
 some (List.set x6.fe a4.toNat (Qc.mk v1.fst))>>=fun v2=>
 if v1.snd !=0 then
 some ((QO.mk (0:Int) [] (gVal.mk (0:Int) (0:Int)) (Qb.mk (0:Int) (0:Int) (0:Int) (0:Int) (0:Int)) (gLin.mk (0:Int) []) [] []:Q3))>>=fun v3=>
 some (.inr (v3,v1.snd,(QO.mk x6.fOp x6.fc x6.fp x6.fb x6.fm x6.fg v2:Q3)))
 else
 QC x2 x4 (QO.mk x6.fOp x6.fc x6.fp x6.fb x6.fm x6.fg v2:Q3) a5 (wr (a4+1))
 else none
 else none
 else
 some (.inl (x4,x6))
 partial_fixpoint
end
theorem LZ:(∀(x0:Q3) (r:(Q3×Int)),X2 x0=some r→PU 152 [Q8 x0,.fn 111 []] (KL r))∧(∀(x2:Q3) (x4:Q3) (x6:Q3) (a7:Int) (a9:Int) (o:(Q3×Q3) ⊕ (Q3×Int×Q3)),QC x2 x4 x6 a7 a9=some o→LO 152 11 64 [1,2,4,6,40,41] [.fn 111 [],.ptr 0 0 0,.ptr 1 0 0,.ptr 2 0 0,ii a7,ii a9] [.cells 0 (Q8 x2).cells,.cells 0 (Q8 x4).cells,.cells 0 [ii x6.fOp,.str x6.fc,ii x6.fp.fN,ii x6.fp.fD,ii x6.fb.fx,ii x6.fb.fA,ii x6.fb.fB,ii x6.fb.fy,ii x6.fb.fC,ii x6.fm.fK,.sl 2 (List.map Q7 x6.fm.fL),.sl 4 (List.map Q4 x6.fg),.ow 3 0 13 (List.length x6.fe)],.own 0 13 (List.map Qh x6.fe)] [4,5,6] (Yh x2 a7 o)):=
 X2.mutual_partial_correctness _ _
 (fun QC Qdl x0 r h=>
 Pu4 (hs:=[(14,.c Kx),(19,.split),(20,.n Q8 20 none),(26,.c Gf),(31,.split),(32,.n Q8 32 none),(36,.h [] Ko Kj),(40,.n eI 40 none),(3000012,.l [] [1,2,4,6,40,41] [kk 2,kk 4,kk 6,{slot:=6,path:=[12],own:=13}] [4,5,6] [kk 4,kk 6,{slot:=6,path:=[12],own:=13}] (Yh x0))]) rfl h (q:=qC (hA:=fun v0=>qIf (hA:=qW1 (sh:=Q8) (LeV.agg (.cons lr (.cons lr (.cons lr (.cons lr (.cons lr (.cons lr (.cons lr (.cons lr (.cons lr (.cons lr (.cons (LeV.nil 2) (.cons (LeV.nil 4) (.cons (LeV.nil 13) .nil))))))))))))))) (hB:=qC (hA:=fun v2=>qIf (hA:=qW1 (sh:=Q8) (LeV.agg (.cons lr (.cons lr (.cons lr (.cons lr (.cons lr (.cons lr (.cons lr (.cons lr (.cons lr (.cons lr (.cons (LeV.nil 2) (.cons (LeV.nil 4) (.cons (LeV.nil 13) .nil))))))))))))))) (hB:=qH (sh:=Ko) (bt:=Kj) (CX x0.fe) (hA:=fun v4=>qN (hA:=fun v5=>qL2 (hL:=⟨fun y hy=>Zu.le (.cons lr (.cons lr (.cons lr (.cons lr (.cons lr (.cons lr .nil)))))) (.cons (LeB.refl (Box.cells (0:Nat) [ii x0.fOp,AV.str x0.fc,ii x0.fp.fN,ii x0.fp.fD,ii x0.fb.fx,ii x0.fb.fA,ii x0.fb.fB,ii x0.fb.fy,ii x0.fb.fC,ii x0.fm.fK,AV.sl (2:Nat) (List.map Q7 x0.fm.fL),AV.sl (4:Nat) (List.map Q4 x0.fg),AV.sl (13:Nat) (List.map Qh x0.fe)])) (.cons (LeB.cells (0:Nat) (.cons lr (.cons lr (.cons lr (.cons lr (.cons lr (.cons lr (.cons lr (.cons lr (.cons lr (.cons lr (.cons (LeV.nil 2) (.cons (LeV.nil 4) (.cons (LeV.nil 13) .nil)))))))))))))) (.cons (LeB.refl (Box.cells (0:Nat) [ii x0.fOp,AV.str x0.fc,ii x0.fp.fN,ii x0.fp.fD,ii x0.fb.fx,ii x0.fb.fA,ii x0.fb.fB,ii x0.fb.fy,ii x0.fb.fC,ii v0.fst.fK,AV.sl (2:Nat) (List.map Q7 v0.fst.fL),AV.sl (4:Nat) (List.map Q4 v2.fst),AV.ow (3:Nat) (0:Nat) (13:Nat) v4.length])) (.cons (LeB.refl (Box.own (0:Nat) (13:Nat) (List.map Qh v4))) .nil)))) (Qdl x0 (QO.mk (0:Int) [] (gVal.mk (0:Int) (0:Int)) (Qb.mk (0:Int) (0:Int) (0:Int) (0:Int) (0:Int)) (gLin.mk (0:Int) []) [] []:Q3) (QO.mk x0.fOp x0.fc x0.fp x0.fb v0.fst v2.fst v4:Q3) v5 (0:Int) y hy)⟩) (hA:=fun v6 v8=>qT (nM (sh:=Qh) v8.snd.fe))))))))))
 (fun X2 QC Qdk Qdl x2 x4 x6 a7 a9 o h=>
 have i0 a:=Lw.mk (Qdk a);Lp4 (hs:=[(42,.split),(51,.e Q8),(54,.c KL),(57,.s),(1000057,.n Qh 57 (some .s)),(59,.split),(60,.n Q8 60 none)]) (kb:=[kk 2,kk 4,kk 6,{slot:=6,path:=[12],own:=13}]) (kbx:=[kk 4,kk 6,{slot:=6,path:=[12],own:=13}]) rfl h (q:=qD (hA:=qIxR (hA:=fun v0=>qC (hA:=fun v1=>qG (hA:=qG (hA:=⟨fun _=>kBE (sh:=Qh) (List.set x6.fe a9.toNat (Qc.mk v1.fst)) (mSR IJ x6.fe a9.toNat v1.fst) fun v2 ab=>(kIf (c:=v1.snd !=0) (kW (sh:=Q8) (QO.mk (0:Int) [] (gVal.mk (0:Int) (0:Int)) (Qb.mk (0:Int) (0:Int) (0:Int) (0:Int) (0:Int)) (gLin.mk (0:Int) []) [] []:Q3) (LeV.agg (.cons lr (.cons lr (.cons lr (.cons lr (.cons lr (.cons lr (.cons lr (.cons lr (.cons lr (.cons lr (.cons (LeV.nil 2) (.cons (LeV.nil 4) (.cons (LeV.nil 13) .nil)))))))))))))) fun v3=>(kX (alts:=Yh x2 a7) (.inr (v3,v1.snd,(QO.mk x6.fOp x6.fc x6.fp x6.fb x6.fm x6.fg v2:Q3))) (.next (.here _ rfl (.cons lr (.cons lr (.cons lr .nil))) (.cons (LeB.refl (Box.cells (0:Nat) [ii v3.fOp,AV.str v3.fc,ii v3.fp.fN,ii v3.fp.fD,ii v3.fb.fx,ii v3.fb.fA,ii v3.fb.fB,ii v3.fb.fy,ii v3.fb.fC,ii v3.fm.fK,AV.sl (2:Nat) (List.map Q7 v3.fm.fL),AV.sl (4:Nat) (List.map Q4 v3.fg),AV.sl (13:Nat) (List.map Qh v3.fe)])) (.cons (LeB.cells (0:Nat) (.cons lr (.cons lr (.cons lr (.cons lr (.cons lr (.cons lr (.cons lr (.cons lr (.cons lr (.cons lr (.cons lr (.cons lr (.cons (LeV.owl (by simp[ab]:x6.fe.length=List.length v2)) .nil)))))))))))))) (.cons (LeB.refl (Box.own (0:Nat) (13:Nat) (List.map Qh v2))) .nil)))))))
 (kM (alts:=Yh x2 a7) (.cons lr (.cons lr (.cons lr (.cons lr (.cons lr (.cons lr .nil)))))) (.cons (LeB.refl (Box.cells (0:Nat) [ii x2.fOp,AV.str x2.fc,ii x2.fp.fN,ii x2.fp.fD,ii x2.fb.fx,ii x2.fb.fA,ii x2.fb.fB,ii x2.fb.fy,ii x2.fb.fC,ii x2.fm.fK,AV.sl (2:Nat) (List.map Q7 x2.fm.fL),AV.sl (4:Nat) (List.map Q4 x2.fg),AV.sl (13:Nat) (List.map Qh x2.fe)])) (.cons (LeB.refl (Box.cells (0:Nat) [ii x4.fOp,AV.str x4.fc,ii x4.fp.fN,ii x4.fp.fD,ii x4.fb.fx,ii x4.fb.fA,ii x4.fb.fB,ii x4.fb.fy,ii x4.fb.fC,ii x4.fm.fK,AV.sl (2:Nat) (List.map Q7 x4.fm.fL),AV.sl (4:Nat) (List.map Q4 x4.fg),AV.sl (13:Nat) (List.map Qh x4.fe)])) (.cons (LeB.cells (0:Nat) (.cons lr (.cons lr (.cons lr (.cons lr (.cons lr (.cons lr (.cons lr (.cons lr (.cons lr (.cons lr (.cons lr (.cons lr (.cons (LeV.owl (by simp[ab]:x6.fe.length=List.length v2)) .nil)))))))))))))) (.cons (LeB.refl (Box.own (0:Nat) (13:Nat) (List.map Qh v2))) .nil)))) (Qdl x2 x4 (QO.mk x6.fOp x6.fc x6.fp x6.fb x6.fm x6.fg v2:Q3) a7 (wr (a9+1)))))⟩)))))))
theorem IC(x0 r)(h:X2 x0=some r):PU 152 [Q8 x0,.fn 111 []] (KL r):=(LZ).1 x0 r h
abbrev Zs(s:List Q0)(u:Int)(o:(List Q0) ⊕ ((List Q0)×Int)):List Alt:=[⟨fun(x:List Q0)=>(Sum.inl x:(List Q0) ⊕ ((List Q0)×Int))=o,.exit 0,fun x=>[.undef,.undef,.sl 20 (List.map Q9 x)],fun x=>[]⟩,⟨fun(x:((List Q0)×Int))=>(Sum.inr x:(List Q0) ⊕ ((List Q0)×Int))=o,.ret,fun x=>[.sl 20 (List.map Q9 x.1),ii x.2,.undef],fun x=>[]⟩]
abbrev YK(s:((List Q0)×Int))(u:(Int×Int))(o:List Q0):List Alt:=[⟨fun(x:List Q0)=>x=o,.normal,fun x=>[.sl 20 (List.map Q9 (s.1)),.fn 111 [],.fn 113 [],.ow 0 0 20 (List.length x),ii (u.1),ii (s.2),ii (u.2)],fun x=>[.own 0 20 (List.map Q9 x)]⟩]
mutual
def QI(x0:List Q0):Option (List Q0×Int):=
 Yn x0>>=fun v0=>
 some (List.length x0:Int)>>=fun v1=>
 some v1>>=fun v2=>
 Qx x0 v0 v1 0>>=fun v3=>(match v3 with
 | (.inl v4)=>
 some (v4,(0:Int))
 | (.inr v5)=>
 some (v5.fst,v5.snd))
 partial_fixpoint
def Qx(x0:List Q0)(x8:List Q0)(ah:Int)(a3:Int):Option ((List Q0) ⊕ ((List Q0)×Int)):=
 if a3<ah then
 some (a3,a3)>>=fun v0=>
 (Option.map Q0.f (ix x0 a3)>>=fun v2=>
 if v2.fOp==1 then
 Option.map Q0.f (ix x0 a3)>>=fun v3=>
 Ku v3.fc>>=fun v4=>
 if 0≤a3∧a3< (↑x8.length:Int) then
 Option.map Q0.f x8[a3.toNat]? >>=fun v5=>
 some (List.set x8 a3.toNat (Q0.mk (Zq.mk v5.fOp v4 v5.fE v5.fI v5.fH v5.fg v5.fo v5.fd:Qf)))>>=fun v6=>
 some v6
 else none
 else
 some x8)>>=fun v7=>
 Option.map Q0.f (ix x0 v0.fst)>>=fun v8=>
 XC v8.fg>>=fun v9=>
 if 0≤v0.fst∧v0.fst< (↑(List.length v7):Int) then
 Option.map Q0.f v7[v0.fst.toNat]? >>=fun a5=>
 some (List.set v7 v0.fst.toNat (Q0.mk (Zq.mk a5.fOp a5.fc a5.fE a5.fI a5.fH v9.fst a5.fo a5.fd:Qf)))>>=fun a9=>
 if v9.snd !=0 then
 if List.length v7=(List.map Q9 a9).length then
 some (.inr ([],v9.snd))
 else none
 else
 Option.map Q0.f (ix x0 v0.fst)>>=fun aj=>
 X2 aj.fo>>=fun aa=>
 if 0≤v0.fst∧v0.fst< (↑(List.length v7):Int) then
 Option.map Q0.f a9[v0.fst.toNat]? >>=fun a6=>
 some (List.set a9 v0.fst.toNat (Q0.mk (Zq.mk a6.fOp a6.fc a6.fE a6.fI a6.fH a6.fg aa.fst a6.fd:Qf)))>>=fun ab=>
 if aa.snd !=0 then
 if List.length v7=(List.map Q9 ab).length then
 some (.inr ([],aa.snd))
 else none
 else
 Option.map Q0.f (ix x0 v0.fst)>>=fun ak=>
 QI ak.fd>>=fun ad=>
 if 0≤v0.fst∧v0.fst< (↑(List.length v7):Int) then
 Option.map Q0.f ab[v0.fst.toNat]? >>=fun a7=>
 some (List.set ab v0.fst.toNat (Q0.mk (Zq.mk a7.fOp a7.fc a7.fE a7.fI a7.fH a7.fg a7.fo ad.fst:Qf)))>>=fun ag=>
 if ad.snd !=0 then
 if List.length v7=(List.map Q9 ag).length then
 some (.inr ([],ad.snd))
 else none
 else
 Qx x0 ag ah (wr (v0.snd+1))
 else none
 else none
 else none
 else
 some (.inl x8)
 partial_fixpoint
end
theorem NQ:(∀(x0:List Q0) (r:(List Q0×Int)),QI x0=some r→PU 110 [Z7 x0,.fn 111 [],.fn 113 []] (Yg r))∧(∀(x0:List Q0) (x8:List Q0) (a6:Int) (ad:Int) (o:(List Q0) ⊕ ((List Q0)×Int)),Qx x0 x8 a6 ad=some o→LO 110 4 89 [0,1,2,8,14,15] [.sl 20 (List.map Q9 x0),.fn 111 [],.fn 113 [],.ow 0 0 20 (List.length x8),ii a6,ii ad] [.own 0 20 (List.map Q9 x8)] [6,7,8] (Zs x0 a6 o)):=
 QI.mutual_partial_correctness _ _
 (fun Qx Qdt x0 r h=>
 have i0 a b c d:=Ll.mk (Qdt a b c d);Pu4 (hs:=[(12,.h [] Kp Kk),(14,.n eI 14 none),(3000005,.l [] [0,1,2,8,14,15] [{slot:=8,own:=20}] [6,7,8] [{slot:=6,fz:=true},{slot:=8,fz:=true}] (Zs x0))]) rfl h (q:=qH (sh:=Kp) (bt:=Kk) (CY x0)))
 (fun QI Qx Qds Qdt x0 x8 a6 ad o h=>
 Lp4 (hs:=[(16,.split),(20,.e Qt),(23,.split),(29,.e Qt),(32,.c eS),(33,.s),(1000034,.n Q9 34 (some (.e Qt))),(40,.e Qt),(44,.c Gf),(47,.s),(1000048,.n Q9 48 (some (.e Qt))),(50,.split),(57,.e Qt),(61,.c KL),(64,.s),(1000065,.n Q9 65 (some (.e Qt))),(67,.split),(74,.e Qt),(79,.c Yg),(82,.s),(1000083,.n Q9 83 (some (.e Qt))),(85,.split),(6000008,.l [] [] [] [0,1,2,8,10,14,15] [{slot:=8,own:=20}] (YK (x0,a6)))]) (kb:=[{slot:=8,own:=20}]) (kbx:=[{slot:=6,fz:=true},{slot:=8,fz:=true}]) rfl h (q:=qD (hA:=qJ (YK (x0,a6)) (hI:=fun v0 v1=>qIxR (hA:=fun v2=>qIf (hA:=qIxR (hA:=fun v3=>qC (hA:=fun v4=>qG (hA:=qOxR (hA:=fun v5=>⟨fun ao=>kBE (sh:=Q9) (List.set x8 ad.toNat (Q0.mk (Zq.mk v5.fOp v4 v5.fE v5.fI v5.fH v5.fg v5.fo v5.fd:Qf))) (mSR Vf x8 ad.toNat (Zq.mk v5.fOp v4 v5.fE v5.fI v5.fH v5.fg v5.fo v5.fd:Qf)) fun v6 ap=>(kXj (alts:=YK (x0,a6)) ao v6 (.here _ rfl (.cons lr (.cons lr (.cons lr (.cons (LeV.owl (by simp[ap]:x8.length=List.length v6)) (.cons lr (.cons lr (.cons lr .nil))))))) (.refl _)))⟩))))))) (hA:=fun v0 v7=>qIxR (hA:=fun v8=>qC (hA:=fun v9=>qG (hA:=qOxR (hA:=fun a3=>⟨fun _=>kBE (sh:=Q9) (List.set v7 v0.fst.toNat (Q0.mk (Zq.mk a3.fOp a3.fc a3.fE a3.fI a3.fH v9.fst a3.fo a3.fd:Qf))) (mSR Vf v7 v0.fst.toNat (Zq.mk a3.fOp a3.fc a3.fE a3.fI a3.fH v9.fst a3.fo a3.fd:Qf)) fun aa aj=>(kIf (c:=v9.snd !=0) (kG (p:=List.length v7=(List.map Q9 aa).length) (kX (alts:=Zs x0 a6) (.inr ([],v9.snd)) (.next (.here _ rfl (.cons (LeV.nil 20) (.cons lr (.cons (LeV.undef (AV.sl (20:Nat) (List.map Q9 aa))) .nil))) (.refl _)))))
 (kIxR (l:=x0) (k:=v0.fst) J2 fun aq=>(kC (sh:=KL) (IC aq.fo) fun ae=>(kG (p:=0≤v0.fst∧v0.fst< (↑(List.length v7):Int)) (kOxR (l:=aa) (k:=v0.fst.toNat) J2 fun a4=>(kBE (sh:=Q9) (List.set aa v0.fst.toNat (Q0.mk (Zq.mk a4.fOp a4.fc a4.fE a4.fI a4.fH a4.fg ae.fst a4.fd:Qf))) (mSR Vf aa v0.fst.toNat (Zq.mk a4.fOp a4.fc a4.fE a4.fI a4.fH a4.fg ae.fst a4.fd:Qf)) fun ab ak=>(kIf (c:=ae.snd !=0) (kG (p:=List.length v7=(List.map Q9 ab).length) (kX (alts:=Zs x0 a6) (.inr ([],ae.snd)) (.next (.here _ rfl (.cons (LeV.nil 20) (.cons lr (.cons (LeV.undef (AV.sl (20:Nat) (List.map Q9 ab))) .nil))) (.refl _)))))
 (kIxR (l:=x0) (k:=v0.fst) J2 fun ar=>(kC (sh:=Yg) (Qds ar.fd) fun af=>(kG (p:=0≤v0.fst∧v0.fst< (↑(List.length v7):Int)) (kOxR (l:=ab) (k:=v0.fst.toNat) J2 fun a5=>(kBE (sh:=Q9) (List.set ab v0.fst.toNat (Q0.mk (Zq.mk a5.fOp a5.fc a5.fE a5.fI a5.fH a5.fg a5.fo af.fst:Qf))) (mSR Vf ab v0.fst.toNat (Zq.mk a5.fOp a5.fc a5.fE a5.fI a5.fH a5.fg a5.fo af.fst:Qf)) fun ag am=>(kIf (c:=af.snd !=0) (kG (p:=List.length v7=(List.map Q9 ag).length) (kX (alts:=Zs x0 a6) (.inr ([],af.snd)) (.next (.here _ rfl (.cons (LeV.nil 20) (.cons lr (.cons (LeV.undef (AV.sl (20:Nat) (List.map Q9 ag))) .nil))) (.refl _)))))
 (kM (alts:=Zs x0 a6) (.cons lr (.cons lr (.cons lr (.cons (LeV.owl (by simp[am,ak,aj]:List.length v7=List.length ag)) (.cons lr (.cons lr .nil)))))) (.refl _) (Qdt x0 ag a6 (wr (v0.snd+1)))))))))))))))))⟩)))))) (hB:=qT (nM (sh:=Q9) x8))))
theorem Mi(x0 r)(h:QI x0=some r):PU 110 [Z7 x0,.fn 111 [],.fn 113 []] (Yg r):=(NQ).1 x0 r h
@[reducible,instance] def FJ x0:=Lw.mk (Mi x0)
def Jl(x0:List Q0):Option (List Q0):=
 QI x0>>=fun v0=>
 some v0.fst
theorem HZ(x0 r)(h:Jl x0=some r):PU 68 [Z7 x0] (Z7 r):=
 Pu4 (hs:=[(7,.c Yg)]) (Jl.eq_1 x0) h
@[reducible,instance] def Q57 x0:=Lw.mk (HZ x0)
end Go.Proofs.YtkgphhemcglgnaaGreatDoor
noncomputable section
namespace Go.Proofs.YtkgphhemcglgnaaGreatDoor
open Go HY
set_option maxRecDepth 1000000
def YR(x0:Int):Option Int:=
 if x0<0 then
 some (w6 ((0:Int) - w6 x0))
 else
 some (w6 x0)
theorem Ax(x0 r)(h:YR x0=some r):PU 220 [eI x0] (eU64 r):=
 Pu4 (hs:=[(4,.split)]) (YR.eq_1 x0) h
@[reducible,instance] def Qbb x0:=Lw.mk (Ax x0)
def Ud(x0:Int)(x1:Int):Option (Int×Int):=
 if(0:Int)≤32 then
 if(0:Int)≤32 then
 some (w6 (w6 (x0.fdiv ((2:Int)^ (32:Nat))*w6 (↑(BitVec.ofInt (64:Nat) x1&&&BitVec.ofInt (64:Nat) (4294967295:Int)).toNat:Int))+(w6 (w6 (↑(BitVec.ofInt (64:Nat) x0&&&BitVec.ofInt (64:Nat) (4294967295:Int)).toNat:Int)*w6 (↑(BitVec.ofInt (64:Nat) x1&&&BitVec.ofInt (64:Nat) (4294967295:Int)).toNat:Int))).fdiv ((2:Int)^ (32:Nat))):Int)>>=fun v0=>
 if(0:Int)≤32 then
 if(0:Int)≤32 then
 if(0:Int)≤32 then
 if(0:Int)≤32 then
 if(0:Int)≤32 then
 some ((w6 (w6 (w6 (x0.fdiv ((2:Int)^ (32:Nat))*x1.fdiv ((2:Int)^ (32:Nat)))+v0.fdiv ((2:Int)^ (32:Nat)))+(w6 (w6 (w6 (↑(BitVec.ofInt (64:Nat) x0&&&BitVec.ofInt (64:Nat) (4294967295:Int)).toNat:Int)*x1.fdiv ((2:Int)^ (32:Nat)))+w6 (↑(BitVec.ofInt (64:Nat) v0&&&BitVec.ofInt (64:Nat) (4294967295:Int)).toNat:Int))).fdiv ((2:Int)^ (32:Nat)))),(w6 (x0*x1)))
 else none
 else none
 else none
 else none
 else none
 else none
 else none
theorem OB(x0 x1 r)(h:Ud x0 x1=some r):PU 219 [eU64 x0,eU64 x1] (Ef r):=
 Pu4 (hs:=[(15,.s),(20,.s),(7,.n eU64 7 none),(25,.s),(31,.s),(33,.s),(36,.s),(39,.s)]) (Ud.eq_1 x0 x1) h
@[reducible,instance] def Qcd x0 x1:=Lw.mk (OB x0 x1)
abbrev NE(s:Unit)(u:(Int×Bool))(o:Bool):List Alt:=jb o (fun b=>[.int .u64 (u.1),.bool (u.2),.bool b]) []
def De(x0:Int)(x1:Int):Option (Int×Bool):=
 YR x0>>=fun v0=>
 YR x1>>=fun v1=>
 Ud v0 v1>>=fun v2=>
 some (v2.snd,(!decide (x0<0)==decide (x1<0)))>>=fun v3=>
 (if v2.fst !=0 then
 some true
 else
 if 9223372036854775808<v2.snd then
 some true
 else
 if v2.snd==9223372036854775808 then
 if !decide (x0<0)==decide (x1<0) then
 some false
 else
 some true
 else
 some false)>>=fun v4=>if v4 then
 some ((0:Int),false)
 else
 if v3.snd then
 some ((wr (w6 ((0:Int) - v3.fst))),true)
 else
 some ((wr v3.fst),true)
theorem Q26(x0 x1 r)(h:De x0 x1=some r):PU 187 [eI x0,eI x1] (Wz r):=
 Pu4 (hs:=[(11,.c eU64),(13,.c eU64),(14,.c Ef),(24,.split),(27,.split),(31,.split),(33,.split),(38,.split),(5000003,.l [] [] [] [7,8,22] [] (NE ()))]) (De.eq_1 x0 x1) h (q:=qC (hA:=fun v0=>qC (hA:=fun v1=>qC (hA:=fun v2=>qB (NE ())))))
@[reducible,instance] def i_lin_times x0 x1:=Lw.mk (Q26 x0 x1)
abbrev Ci(s:Int)(u:(gLin× (List Qo)×Int))(o:(Bool×gLin)):List Alt:=[⟨fun(x:(Bool×gLin))=>x=o,.exit 0,fun x=>[.ptr 0 0 0,.bool x.1,.ptr 1 0 0],fun x=>[.cells 0 (Qi u.1).cells,.cells 0 [ii x.2.fK,.ow 2 0 2 (List.length x.2.fL)],.own 0 2 (List.map Q7 x.2.fL)]⟩]
abbrev ND(s:(Int×gLin× (List Qo)×Int))(u:(gLin×Qo×Int×Int))(o:Bool):List Alt:=[⟨fun(x:Bool)=>x=o,.normal,fun x=>[ii (s.1),.ptr 0 0 0,.bool x,.ptr 1 0 0,.ptr 3 0 0,ii (u.2.2.1),.sl 2 (List.map Q7 (s.2.2.1)),ii (s.2.2.2),ii (u.2.2.2)],fun x=>[.cells 0 (Qi (s.2.1)).cells,.cells 0 [ii (u.1).fK,.ow 2 0 2 (List.length ((u.1).fL))],.own 0 2 (List.map Q7 (u.1).fL),.cells 0 (Q7 (u.2.1)).cells]⟩]
def Jx(x1:Int)(x7:Bool)(x8:gLin)(a5:List Qo)(a6:Int)(a4:Int):Option (Bool×gLin):=
 if a4<a6 then
 ix a5 a4>>=fun v0=>
 De v0.fBy x1>>=fun v1=>
 some (x8,v0,v1.fst,a4)>>=fun v2=>
 (if x7 then
 some v1.snd
 else
 some false)>>=fun v4=>
 some ((Qo.mk v2.snd.fst.fc v2.snd.snd.fst))>>=fun v5=>
 if(v2.fst.fL.length+(1:Nat))*(24:Nat)≤(140737488355328:Nat)∧v2.fst.fL.length+(1:Nat)≤(9223372036854775807:Nat) then
 some (v2.fst.fL++[v5])>>=fun v6=>
 Jx x1 v4 (gLin.mk v2.fst.fK v6) a5 a6 (wr (v2.snd.snd.snd+1))
 else none
 else
 some (x7,x8)
 partial_fixpoint
theorem FY(x1:Int)(x4:gLin)(x7:Bool)(x8:gLin)(a3:List Qo)(a4:Int)(a5:Int)(o:(Bool×gLin))(h:Jx x1 x7 x8 a3 a4 a5=some o):LO 148 8 61 [1,4,7,8,30,31,32] [ii x1,.ptr 0 0 0,.bool x7,.ptr 1 0 0,.sl 2 (List.map Q7 a3),ii a4,ii a5] [.cells 0 (Qi x4).cells,.cells 0 [ii x8.fK,.ow 2 0 2 (List.length x8.fL)],.own 0 2 (List.map Q7 x8.fL)] [4,7,8] (Ci x1 (x4,a3,a4) o):=
 Jx.partial_correctness x1 a3 a4 (fun x7 x8 a5 o=>∀(x4:gLin),LO 148 8 61 [1,4,7,8,30,31,32] [ii x1,.ptr 0 0 0,.bool x7,.ptr 1 0 0,.sl 2 (List.map Q7 a3),ii a4,ii a5] [.cells 0 (Qi x4).cells,.cells 0 [ii x8.fK,.ow 2 0 2 (List.length x8.fL)],.own 0 2 (List.map Q7 x8.fL)] [4,7,8] (Ci x1 (x4,a3,a4) o))
 (fun Jx Qd3 x7 x8 a5 o h x4=>
 Lp4 (hs:=[(33,.split),(34,.e Q7),(40,.c Wz),(43,.split),(52,.n Q7 52 none),(54,.z [{slot:=48,own:=2}] (some (.n Q7 54 (some .a)))),(5000011,.l [] [] [] [1,4,7,8,10,11,30,31,32] [kk 4,kk 8,{slot:=8,path:=[1],own:=2},kk 10] (ND (x1,x4,a3,a4)))]) (kb:=[kk 4,kk 8,{slot:=8,path:=[1],own:=2}]) (kbx:=[kk 4,kk 8,{slot:=8,path:=[1],own:=2}]) rfl h (q:=qD (hA:=qIx (hA:=fun v0=>qC (hA:=fun v1=>qJ (ND (x1,x4,a3,a4)) (hA:=fun v2 v4=>qW (hA:=fun v5=>qA v2.fst.fL (hA:=qO (mA (sh:=Q7) v2.fst.fL v5) (nA v2.fst.fL v5) (hA:=fun v6=>⟨fun _=>kM0 (alts:=Ci x1 (x4,a3,a4)) (fun y hy=>Qd3 v4 (gLin.mk v2.fst.fK v6) (wr (v2.snd.snd.snd+1)) y hy x4)⟩))))))))) x7 x8 a5 o h x4
def Wr(x0:gLin)(x1:Int):Option (gLin×Int):=
 Y8 x0>>=fun v0=>
 if v0 !=0 then
 some ((gLin.mk (0:Int) []))>>=fun v1=>
 some (v1,(1:Int))
 else
 if x1==0 then
 some ((gLin.mk (0:Int) []))>>=fun v2=>
 some (v2,(0:Int))
 else
 De x0.fK x1>>=fun v3=>
 some (List.length x0.fL:Int)>>=fun v4=>
 some ((gLin.mk (0:Int) []),x0.fL,v4)>>=fun v5=>
 Jx x1 v3.snd (gLin.mk v3.fst []) x0.fL v4 0>>=fun v7=>
 if v7.fst then
 some (v7.snd,(0:Int))
 else
 some ((gLin.mk (0:Int) []))>>=fun v8=>
 some (v8,(3:Int))
theorem Q24(x0 x1 r)(h:Wr x0 x1=some r):PU 148 [Qi x0,eI x1] (Kx r):=
 Pu4 (hs:=[(14,.c eI),(15,.split),(16,.n Qi 16 none),(18,.split),(19,.n Qi 19 none),(24,.c Wz),(31,.n eI 31 none),(57,.split),(59,.n Qi 59 none),(3000009,.l [] [1,4,7,8,30,31,32] [kk 4,kk 8,{slot:=8,path:=[1],own:=2}] [4,7,8] [kk 4,kk 8,{slot:=8,path:=[1],own:=2}] (Ci x1))]) (Wr.eq_1 x0 x1) h (q:=qC (hA:=fun v0=>qIf (hA:=qW1 (sh:=Qi) (LeV.agg (.cons lr (.cons (LeV.nil 2) .nil)))) (hB:=qIf (hA:=qW1 (sh:=Qi) (LeV.agg (.cons lr (.cons (LeV.nil 2) .nil)))) (hB:=qC (hA:=fun v3=>qN (hA:=fun v4=>qL1 (hL:=⟨fun y hy=>Zu.le (.cons lr (.cons lr (.cons lr (.cons lr (.cons lr (.cons lr (.cons lr .nil))))))) (.cons (LeB.cells (0:Nat) (.cons lr (.cons (LeV.nil 2) .nil))) (.cons (LeB.refl (Box.cells (0:Nat) [ii v3.fst,AV.ow (2:Nat) (0:Nat) (2:Nat) (0:Nat)])) (.cons (LeB.refl (Box.own (0:Nat) (2:Nat) [])) .nil))) (FY x1 (gLin.mk (0:Int) []) v3.snd (gLin.mk v3.fst []) x0.fL v4 (0:Int) y hy)⟩) (hA:=fun v5 v7=>qIf (hA:=qT (nM (sh:=Q7) v7.snd.fL)) (hB:=qW1 (sh:=Qi) (LeV.agg (.cons lr (.cons (LeV.nil 2) .nil)))))))))))
@[reducible,instance] def i_lin_Scale x0 x1:=Lw.mk (Q24 x0 x1)
def Cm(x0:Int)(x1:Int):Option (Int×Bool):=
 some (wr (x0+x1):Int)>>=fun v0=>
 some (v0,(decide (x0<v0)==decide (0<x1)))
theorem Q4x(x0 x1 r)(h:Cm x0 x1=some r):PU 188 [eI x0,eI x1] (Wz r):=
 Pu4 (hs:=[(6,.n eI 6 none)]) (Cm.eq_1 x0 x1) h
@[reducible,instance] def i_lin_plus x0 x1:=Lw.mk (Q4x x0 x1)
def UK(r:(Bool×gLin)):AV:=.tup []
def UI(r:(Bool×gLin)):List Box:=[.cells 0 [.bool r.1],.cells 0 [ii r.2.fK,.ow 2 0 2 (List.length r.2.fL)],.own 0 2 (List.map Q7 r.2.fL)]
abbrev NC(s:Str)(u:(gLin×Int))(o:Bool):List Alt:=[⟨fun(x:Bool)=>x=o,.normal,fun x=>[.str s,.ptr 0 0 0,.ptr 1 0 0,ii (u.2)],fun x=>[.cells 0 [.bool x],.cells 0 [ii (u.1).fK,.ow 2 0 2 (List.length ((u.1).fL))],.own 0 2 (List.map Q7 (u.1).fL)]⟩]
def UJ(x0:Str)(x1:Int)(x2:Int)(x3:Bool)(x4:gLin):Option (Bool×gLin):=
 Cm x1 x2>>=fun v0=>
 some (x4,v0.fst)>>=fun v1=>
 (if x3 then
 some v0.snd
 else
 some false)>>=fun v3=>
 if v1.snd !=0 then
 some ((Qo.mk x0 v1.snd))>>=fun v4=>
 if(v1.fst.fL.length+(1:Nat))*(24:Nat)≤(140737488355328:Nat)∧v1.fst.fL.length+(1:Nat)≤(9223372036854775807:Nat) then
 some (v1.fst.fL++[v4])>>=fun v5=>
 some (v3,(gLin.mk v1.fst.fK v5))
 else none
 else
 some (v3,v1.fst)
theorem He(x0 x1 x2 x3 x4 r)(h:UJ x0 x1 x2 x3 x4=some r):PH 190 [eS x0,eI x1,eI x2,.ptr 0 0 0,.ptr 1 0 0] [.cells 0 [.bool x3],.cells 0 [ii x4.fK,.ow 2 0 2 (List.length x4.fL)],.own 0 2 (List.map Q7 x4.fL)] (UK r) (UI r):=
 PuH4 (hs:=[(13,.c Wz),(16,.split),(21,.split),(26,.n Q7 26 none),(28,.z [{slot:=23,own:=2}] (some (.n Q7 28 (some .a)))),(5000001,.l [] [] [] [0,3,4,8] [kk 3,kk 4,{slot:=4,path:=[1],own:=2}] (NC x0))]) (kb:=[kk 1,kk 2,{slot:=2,path:=[1],own:=2}]) (UJ.eq_1 x0 x1 x2 x3 x4) h (q:=qC (hA:=fun v0=>qJ (NC x0) (hA:=fun v1 v3=>qIf (hA:=qW (hA:=fun v4=>qA v1.fst.fL (hA:=qO (mA (sh:=Q7) v1.fst.fL v4) (nA v1.fst.fL v4)))))))
abbrev U0(s:Unit)(u:Unit)(o:(Bool×gLin)):List Alt:=[⟨fun(x:(Bool×gLin))=>x=o,.exit 0,fun x=>[.fn 190 [.ptr 0 0 0,.ptr 1 0 0]],fun x=>[.cells 0 [.bool x.1],.cells 0 [ii x.2.fK,.ow 2 0 2 (List.length x.2.fL)],.own 0 2 (List.map Q7 x.2.fL)]⟩]
abbrev Dt(s:Unit)(u:((List Qo)× (List Qo)× (Bool×gLin)))(o:Bool):List Alt:=jb o (fun b=>[.sl 2 (List.map Q7 (u.1)),.sl 2 (List.map Q7 (u.2.1)),.fn 190 [.ptr 0 0 0,.ptr 1 0 0],.bool b]) [.cells 0 [.bool (u.2.2).1],.cells 0 [ii (u.2.2).2.fK,.ow 2 0 2 (List.length ((u.2.2).2.fL))],.own 0 2 (List.map Q7 (u.2.2).2.fL)]
abbrev Du(s:Unit)(u:((List Qo)× (List Qo)× (Bool×gLin)))(o:Bool):List Alt:=jb o (fun b=>[.sl 2 (List.map Q7 (u.1)),.sl 2 (List.map Q7 (u.2.1)),.fn 190 [.ptr 0 0 0,.ptr 1 0 0],.bool b]) [.cells 0 [.bool (u.2.2).1],.cells 0 [ii (u.2.2).2.fK,.ow 2 0 2 (List.length ((u.2.2).2.fL))],.own 0 2 (List.map Q7 (u.2.2).2.fL)]
abbrev Dv(s:Unit)(u:((List Qo)× (List Qo)× (Bool×gLin)))(o:Bool):List Alt:=jb o (fun b=>[.sl 2 (List.map Q7 (u.1)),.sl 2 (List.map Q7 (u.2.1)),.fn 190 [.ptr 0 0 0,.ptr 1 0 0],.bool b]) [.cells 0 [.bool (u.2.2).1],.cells 0 [ii (u.2.2).2.fK,.ow 2 0 2 (List.length ((u.2.2).2.fL))],.own 0 2 (List.map Q7 (u.2.2).2.fL)]
def ZH(x0:List Qo)(x1:List Qo)(x2:(Bool×gLin)):Option (Bool×gLin):=
 some (x0,x1,x2)>>=fun v0=>
 (some (List.length x0:Int)>>=fun v2=>
 if 0<v2 then
 some true
 else
 some (List.length x1:Int)>>=fun v3=>
 if 0<v3 then
 some true
 else
 some false)>>=fun v1=>if v1 then
 some (v0.fst,v0.snd.fst,v0.snd.snd)>>=fun v5=>
 (if(↑(List.map Q7 v0.snd.fst).length:Int)==0 then
 some (List.length v0.snd.fst:Int)>>=fun v7=>
 some true
 else
 if 0< (↑(List.map Q7 v0.fst).length:Int) then
 ix v0.fst (0:Int)>>=fun v8=>
 ix v0.snd.fst (0:Int)>>=fun v9=>
 some (List.length v0.snd.fst:Int)>>=fun ar=>
 some (List.length v0.fst:Int)>>=fun au=>
 if Op.bytesLess v8.fc v9.fc then
 some true
 else
 some false
 else
 some (List.length v0.snd.fst:Int)>>=fun aw=>
 some (List.length v0.fst:Int)>>=fun ax=>
 some false)>>=fun v6=>if v6 then
 ix v5.fst (0:Int)>>=fun a6=>
 ix v5.fst (0:Int)>>=fun a7=>
 UJ a6.fc a7.fBy 0 v5.snd.snd.fst v5.snd.snd.snd>>=fun a8=>
 if(0:Int)≤1∧1≤(↑(List.map Q7 v5.fst).length:Int) then
 some ((List.drop (1:Nat) v5.fst):List Qo)>>=fun a9=>
 ZH a9 v5.snd.fst a8
 else none
 else
 some (v5.fst,v5.snd.fst,v5.snd.snd)>>=fun a3=>
 (if(↑(List.map Q7 v5.fst).length:Int)==0 then
 some (List.length v5.fst:Int)>>=fun az=>
 some true
 else
 ix v5.snd.fst (0:Int)>>=fun ab=>
 ix v5.fst (0:Int)>>=fun ad=>
 some (List.length v5.fst:Int)>>=fun b0=>
 if Op.bytesLess ab.fc ad.fc then
 some true
 else
 some false)>>=fun aa=>if aa then
 ix a3.snd.fst (0:Int)>>=fun ae=>
 ix a3.snd.fst (0:Int)>>=fun af=>
 UJ ae.fc 0 af.fBy a3.snd.snd.fst a3.snd.snd.snd>>=fun ag=>
 if(0:Int)≤1∧1≤(↑(List.map Q7 a3.snd.fst).length:Int) then
 some ((List.drop (1:Nat) a3.snd.fst):List Qo)>>=fun ah=>
 ZH a3.fst ah ag
 else none
 else
 ix a3.fst (0:Int)>>=fun ai=>
 ix a3.fst (0:Int)>>=fun aj=>
 ix a3.snd.fst (0:Int)>>=fun ak=>
 UJ ai.fc aj.fBy ak.fBy a3.snd.snd.fst a3.snd.snd.snd>>=fun am=>
 if(0:Int)≤1∧1≤(↑(List.map Q7 a3.fst).length:Int) then
 if(0:Int)≤1∧1≤(↑(List.map Q7 a3.snd.fst).length:Int) then
 some ((List.drop (1:Nat) a3.fst):List Qo)>>=fun b2=>
 some ((List.drop (1:Nat) a3.snd.fst):List Qo)>>=fun an=>
 ZH (List.drop (1:Nat) a3.fst) an am
 else none
 else none
 else
 some v0.snd.snd
 partial_fixpoint
theorem EY(x0 x1 x2 o)(h:ZH x0 x1 x2=some o):LOp [.ptr 0 0 0,.ptr 1 0 0] 189 0 91 [0,1,2] [.sl 2 (List.map Q7 x0),.sl 2 (List.map Q7 x1),.fn 190 [.ptr 0 0 0,.ptr 1 0 0]] [.cells 0 [.bool x2.1],.cells 0 [ii x2.2.fK,.ow 2 0 2 (List.length x2.2.fL)],.own 0 2 (List.map Q7 x2.2.fL)] [2] (U0 () () o):=
 ZH.partial_correctness (fun x0 x1 x2 o=>LOp [.ptr 0 0 0,.ptr 1 0 0] 189 0 91 [0,1,2] [.sl 2 (List.map Q7 x0),.sl 2 (List.map Q7 x1),.fn 190 [.ptr 0 0 0,.ptr 1 0 0]] [.cells 0 [.bool x2.1],.cells 0 [ii x2.2.fK,.ow 2 0 2 (List.length x2.2.fL)],.own 0 2 (List.map Q7 x2.2.fL)] [2] (U0 () () o))
 (fun ZH Qd7 x0 x1 x2 o h=>
 have i0 a b c:=Ll.mk (Qd7 a b c);Lp4p (hs:=[(7,.n eI 7 none),(8,.split),(11,.n eI 11 none),(12,.split),(34,.n eI 34 none),(35,.split),(38,.n eI 38 none),(39,.split),(42,.e Q7),(46,.e Q7),(49,.split),(54,.e Q7),(58,.e Q7),(61,.h [kk 3,kk 4,{slot:=4,path:=[1],own:=2}] UK UI),(63,.n KY 63 (some .s)),(66,.n eI 66 none),(67,.split),(70,.e Q7),(74,.e Q7),(77,.split),(81,.e Q7),(85,.e Q7),(88,.h [kk 3,kk 4,{slot:=4,path:=[1],own:=2}] UK UI),(90,.n KY 90 (some .s)),(16,.e Q7),(20,.e Q7),(24,.e Q7),(27,.h [kk 3,kk 4,{slot:=4,path:=[1],own:=2}] UK UI),(29,.n KY 29 (some .s)),(31,.n KY 31 (some .s)),(5000000,.l [] [] [] [0,1,2,13] [{slot:=2,path:=[0]},{slot:=2,path:=[1]},{slot:=2,path:=[1,1],own:=2}] (Dt ())),(5000003,.l [] [] [] [0,1,2,32] [{slot:=2,path:=[0]},{slot:=2,path:=[1]},{slot:=2,path:=[1,1],own:=2}] (Du ())),(5000006,.l [] [] [] [0,1,2,64] [{slot:=2,path:=[0]},{slot:=2,path:=[1]},{slot:=2,path:=[1,1],own:=2}] (Dv ()))]) (kb:=[{slot:=2,path:=[0]},{slot:=2,path:=[1]},{slot:=2,path:=[1,1],own:=2}]) (kbx:=[{slot:=2,path:=[0]},{slot:=2,path:=[1]},{slot:=2,path:=[1,1],own:=2}]) rfl h (q:=qB (Dt ()) (hA:=fun v0=>qB (Du ()) (hA:=fun v5=>qIx (hA:=fun a8=>qIx (hA:=fun a9=>qH (sh:=UK) (bt:=UI) (He a8.fc a9.fBy 0 v5.snd.snd.fst v5.snd.snd.snd) (hA:=fun ai=>qG (hA:=qW1 (sh:=KY) (leSl (mD (sh:=Q7) v5.fst (1:Nat)))))))) (hB:=fun v5=>qB (Dv ()) (hA:=fun a3=>qIx (hA:=fun aa=>qIx (hA:=fun ab=>qH (sh:=UK) (bt:=UI) (He aa.fc 0 ab.fBy a3.snd.snd.fst a3.snd.snd.snd) (hA:=fun aj=>qG (hA:=qW1 (sh:=KY) (leSl (mD (sh:=Q7) a3.snd.fst (1:Nat)))))))) (hB:=fun a3=>qIx (hA:=fun ad=>qIx (hA:=fun ae=>qIx (hA:=fun af=>qH (sh:=UK) (bt:=UI) (He ad.fc ae.fBy af.fBy a3.snd.snd.fst a3.snd.snd.snd) (hA:=fun ag=>qG (hA:=qG (hA:=qW1 (sh:=KY) (leSl (mD (sh:=Q7) a3.fst (1:Nat))) (hA:=fun ak=>qW1 (sh:=KY) (leSl (mD (sh:=Q7) a3.snd.fst (1:Nat))) (hA:=fun ah=>⟨fun _=>kM (alts:=U0 () ()) (.cons (leSl (mD (sh:=Q7) a3.fst (1:Nat))) (.cons lr (.cons lr .nil))) (.refl _) (Qd7 (List.drop (1:Nat) a3.fst) ah ag)⟩))))))))))))) x0 x1 x2 o h
@[reducible,instance] def Q6c x0 x1 x2:=Ll.mk (EY x0 x1 x2)
def N9(r:(Bool×gLin)):AV:=.tup []
def N3(r:(Bool×gLin)):List Box:=[.cells 0 [.bool r.1],.cells 0 [ii r.2.fK,.ow 2 0 2 (List.length r.2.fL)],.own 0 2 (List.map Q7 r.2.fL)]
def GD(x0:List Qo)(x1:List Qo)(x2:(Bool×gLin)):Option (Bool×gLin):=
 some ()>>=fun v0=>
 ZH x0 x1 x2>>=fun v2=>
 some (v2.fst,v2.snd)
theorem SJ(x0 x1 x2 r)(h:GD x0 x1 x2=some r):PH 189 [KY x0,KY x1,.fn 190 [.ptr 0 0 0,.ptr 1 0 0]] [.cells 0 [.bool x2.1],.cells 0 [ii x2.2.fK,.ow 2 0 2 (List.length x2.2.fL)],.own 0 2 (List.map Q7 x2.2.fL)] (N9 r) (N3 r):=
 PuH4 (hs:=[(3000001,.l [] [0,1,2] [{slot:=2,path:=[0]},{slot:=2,path:=[1]},{slot:=2,path:=[1,1],own:=2}] [2] [{slot:=2,path:=[0]},{slot:=2,path:=[1]},{slot:=2,path:=[1,1],own:=2}] (U0 ()))]) (kb:=[kk 1,kk 2,{slot:=2,path:=[1],own:=2}]) (GD.eq_1 x0 x1 x2) h
abbrev VG(s:(gLin×gLin))(u:gLin)(o:Bool):List Alt:=jb o (fun b=>[.ptr 0 0 0,.ptr 1 0 0,.ptr 2 0 0,.bool b]) [.cells 0 (Qi (s.1)).cells,.cells 0 (Qi (s.2)).cells,.cells 0 (Qi u).cells]
def MW(x0:gLin)(x1:gLin):Option (gLin×Int):=
 some (gLin.mk (0:Int) [])>>=fun v0=>
 (Y8 x0>>=fun v2=>
 if v2 !=0 then
 some true
 else
 Y8 x1>>=fun v3=>
 if v3 !=0 then
 some true
 else
 some false)>>=fun v1=>if v1 then
 some ((gLin.mk (0:Int) []))>>=fun v5=>
 some (v5,(1:Int))
 else
 Cm x0.fK x1.fK>>=fun v7=>
 GD x0.fL x1.fL (v7.snd,(gLin.mk v7.fst []))>>=fun v8=>
 if v8.fst then
 some (v8.snd,(0:Int))
 else
 some ((gLin.mk (0:Int) []))>>=fun v9=>
 some (v9,(3:Int))
theorem Q6g(x0 x1 r)(h:MW x0 x1=some r):PU 149 [Qi x0,Qi x1] (Kx r):=
 Pu4 (hs:=[(9,.c eI),(10,.split),(13,.c eI),(14,.split),(16,.n Qi 16 none),(22,.c Wz),(31,.h [{slot:=2,path:=[0]},{slot:=2,path:=[1]},{slot:=2,path:=[1,1],own:=2}] N9 N3),(32,.split),(34,.n Qi 34 none),(5000001,.l [] [] [] [2,3,4,15] [kk 2,kk 3,kk 4] (VG (x0,x1)))]) (MW.eq_1 x0 x1) h (q:=qB (VG (x0,x1)) (hI:=fun v0 v1=>qC (hA:=fun v2=>qIf (hA:=⟨fun a3=>kXj (alts:=VG (x0,x1)) a3 true (.here () rfl (.cons lr (.cons lr (.cons lr (.cons lr .nil)))) (.cons (LeB.refl (Box.cells (0:Nat) [ii x0.fK,AV.sl (2:Nat) (List.map Q7 x0.fL)])) (.cons (LeB.refl (Box.cells (0:Nat) [ii x1.fK,AV.sl (2:Nat) (List.map Q7 x1.fL)])) (.cons (LeB.cells (0:Nat) (.cons lr (.cons (LeV.nil 2) .nil))) .nil))))⟩) (hB:=qC (hA:=fun v3=>qIf (hA:=⟨fun a3=>kXj (alts:=VG (x0,x1)) a3 true (.here () rfl (.cons lr (.cons lr (.cons lr (.cons lr .nil)))) (.cons (LeB.refl (Box.cells (0:Nat) [ii x0.fK,AV.sl (2:Nat) (List.map Q7 x0.fL)])) (.cons (LeB.refl (Box.cells (0:Nat) [ii x1.fK,AV.sl (2:Nat) (List.map Q7 x1.fL)])) (.cons (LeB.cells (0:Nat) (.cons lr (.cons (LeV.nil 2) .nil))) .nil))))⟩) (hB:=⟨fun a3=>kXj (alts:=VG (x0,x1)) a3 false (.next (.here () rfl (.cons lr (.cons lr (.cons lr (.cons lr .nil)))) (.cons (LeB.refl (Box.cells (0:Nat) [ii x0.fK,AV.sl (2:Nat) (List.map Q7 x0.fL)])) (.cons (LeB.refl (Box.cells (0:Nat) [ii x1.fK,AV.sl (2:Nat) (List.map Q7 x1.fL)])) (.cons (LeB.cells (0:Nat) (.cons lr (.cons (LeV.nil 2) .nil))) .nil)))))⟩))))) (hA:=fun v0=>qW1 (sh:=Qi) (LeV.agg (.cons lr (.cons (LeV.nil 2) .nil)))) (hB:=fun v0=>qC (hA:=fun v7=>qH (sh:=N9) (bt:=N3) (SJ x0.fL x1.fL (v7.snd,(gLin.mk v7.fst []))) (hA:=fun v8=>qIf (hA:=qT (nM (sh:=Q7) v8.snd.fL)) (hB:=qW1 (sh:=Qi) (LeV.agg (.cons lr (.cons (LeV.nil 2) .nil))))))))
@[reducible,instance] def i_lin_Add x0 x1:=Lw.mk (Q6g x0 x1)
abbrev JZ(s:(Str×gLin))(u:(gLin× (List Qo)×Int))(o:(gLin×Int)):List Alt:=[⟨fun(x:(gLin×Int))=>x=o,.exit 0,fun x=>[.ptr 0 0 0,.ptr 1 0 0,.ptr 2 0 0,ii x.2],fun x=>[.cells 0 (Qi s.2).cells,.cells 0 (Qi u.1).cells,.cells 0 [ii x.1.fK,.ow 3 0 2 (List.length x.1.fL)],.own 0 2 (List.map Q7 x.1.fL)]⟩]
abbrev Dq(s:(Str×gLin×gLin× (List Qo)×Int))(u:Int)(o:(gLin×Int)):List Alt:=[⟨fun(x:(gLin×Int))=>x=o,.normal,fun x=>[.str (s.1),.ptr 0 0 0,.ptr 1 0 0,.ptr 2 0 0,ii (x.2),.sl 2 (List.map Q7 (s.2.2.2.1)),ii (s.2.2.2.2),ii u],fun x=>[.cells 0 (Qi (s.2.1)).cells,.cells 0 (Qi (s.2.2.1)).cells,.cells 0 [ii (x.1).fK,.ow 3 0 2 (List.length ((x.1).fL))],.own 0 2 (List.map Q7 (x.1).fL)]⟩]
def ZF(x1:Str)(x8:gLin)(x9:Int)(a5:List Qo)(a6:Int)(a3:Int):Option (gLin×Int):=
 if a3<a6 then
 some a3>>=fun v0=>
 (ix a5 a3>>=fun v2=>
 if v2.fc==x1 then
 some (x8,v2.fBy)
 else
 if(x8.fL.length+(1:Nat))*(24:Nat)≤(140737488355328:Nat)∧x8.fL.length+(1:Nat)≤(9223372036854775807:Nat) then
 some (x8.fL++[v2])>>=fun v3=>
 some ((gLin.mk x8.fK v3),x9)
 else none)>>=fun v4=>
 ZF x1 v4.fst v4.snd a5 a6 (wr (v0+1))
 else
 some (x8,x9)
 partial_fixpoint
theorem EW(x1:Str)(x5:gLin)(x6:gLin)(x8:gLin)(x9:Int)(a3:List Qo)(a4:Int)(a5:Int)(o:(gLin×Int))(h:ZF x1 x8 x9 a3 a4 a5=some o):LO 107 6 66 [1,5,6,8,9,32,33,34] [.str x1,.ptr 0 0 0,.ptr 1 0 0,.ptr 2 0 0,ii x9,.sl 2 (List.map Q7 a3),ii a4,ii a5] [.cells 0 (Qi x5).cells,.cells 0 (Qi x6).cells,.cells 0 [ii x8.fK,.ow 3 0 2 (List.length x8.fL)],.own 0 2 (List.map Q7 x8.fL)] [5,6,8,9] (JZ (x1,x5) (x6,a3,a4) o):=
 ZF.partial_correctness x1 a3 a4 (fun x8 x9 a5 o=>∀(x5:gLin) (x6:gLin),LO 107 6 66 [1,5,6,8,9,32,33,34] [.str x1,.ptr 0 0 0,.ptr 1 0 0,.ptr 2 0 0,ii x9,.sl 2 (List.map Q7 a3),ii a4,ii a5] [.cells 0 (Qi x5).cells,.cells 0 (Qi x6).cells,.cells 0 [ii x8.fK,.ow 3 0 2 (List.length x8.fL)],.own 0 2 (List.map Q7 x8.fL)] [5,6,8,9] (JZ (x1,x5) (x6,a3,a4) o))
 (fun ZF Qd4 x8 x9 a5 o h x5 x6=>
 Lp4 (hs:=[(35,.split),(36,.e Q7),(41,.split),(48,.z [{slot:=45,own:=2}] (some (.n Q7 48 (some .a)))),(7000001,.l [] [] [] [1,5,6,8,9,32,33,34] [kk 5,kk 6,kk 8,{slot:=8,path:=[1],own:=2}] (Dq (x1,x5,x6,a3,a4)))]) (kb:=[kk 5,kk 6,kk 8,{slot:=8,path:=[1],own:=2}]) (kbx:=[kk 5,kk 6,kk 8,{slot:=8,path:=[1],own:=2}]) rfl h (q:=qD (hA:=qJ (Dq (x1,x5,x6,a3,a4)) (hI:=fun v0 v1=>qIx (hA:=fun v2=>qIf (hB:=qA x8.fL (hA:=qO (mA (sh:=Q7) x8.fL v2) (nA x8.fL v2))))) (hA:=fun v0 v4=>⟨fun _=>kM0 (alts:=JZ (x1,x5) (x6,a3,a4)) (fun y hy=>Qd4 v4.fst v4.snd (wr (v0+1)) y hy x5 x6)⟩)))) x8 x9 a5 o h x5 x6
abbrev XR(s:(Str×gLin×gLin))(u:gLin)(o:Bool):List Alt:=jb o (fun b=>[.str (s.1),.ptr 0 0 0,.ptr 1 0 0,.ptr 2 0 0,.bool b]) [.cells 0 (Qi (s.2.1)).cells,.cells 0 (Qi (s.2.2)).cells,.cells 0 (Qi u).cells]
def JN(x0:gLin)(x1:Str)(x2:gLin):Option (gLin×Int):=
 some (gLin.mk (0:Int) [])>>=fun v0=>
 (Y8 x0>>=fun v2=>
 if v2 !=0 then
 some true
 else
 Vt x1>>=fun v3=>if v3 then
 Y8 x2>>=fun v4=>
 if v4 !=0 then
 some true
 else
 some false
 else
 some true)>>=fun v1=>if v1 then
 some ((gLin.mk (0:Int) []))>>=fun v6=>
 some (v6,(1:Int))
 else
 some (List.length x0.fL:Int)>>=fun v8=>
 some (v0,x0.fL,v8)>>=fun v9=>
 ZF x1 (gLin.mk x0.fK []) 0 x0.fL v8 0>>=fun a4=>
 Wr x2 a4.snd>>=fun a3=>
 if a3.snd !=0 then
 some ((gLin.mk (0:Int) []))>>=fun a7=>
 some (a7,a3.snd)
 else
 MW a4.fst a3.fst>>=fun a5=>
 some (a5.fst,a5.snd)
theorem SH(x0 x1 x2 r)(h:JN x0 x1 x2=some r):PU 107 [Qi x0,eS x1,Qi x2] (Kx r):=
 Pu4 (hs:=[(15,.c eI),(16,.split),(19,.cb),(24,.c eI),(25,.split),(27,.n Qi 27 none),(33,.n eI 33 none),(54,.c Kx),(58,.split),(59,.n Qi 59 none),(63,.z [{slot:=61,path:=[1],fz:=true}] (some (.c Kx))),(3000007,.l [] [1,5,6,8,9,32,33,34] [kk 5,kk 6,kk 8,{slot:=8,path:=[1],own:=2}] [5,6,8,9] [kk 5,kk 6,kk 8,{slot:=8,path:=[1],own:=2}] (JZ (x1,x2))),(5000001,.l [] [] [] [1,3,5,6,26] [kk 3,kk 5,kk 6] (XR (x1,x0,x2)))]) (JN.eq_1 x0 x1 x2) h (q:=qB (XR (x1,x0,x2)) (hI:=fun v0 v1=>qC (hA:=fun v2=>qIf (hA:=⟨fun a3=>kXj (alts:=XR (x1,x0,x2)) a3 true (.here () rfl (.cons lr (.cons lr (.cons lr (.cons lr (.cons lr .nil))))) (.cons (LeB.refl (Box.cells (0:Nat) [ii x0.fK,AV.sl (2:Nat) (List.map Q7 x0.fL)])) (.cons (LeB.refl (Box.cells (0:Nat) [ii x2.fK,AV.sl (2:Nat) (List.map Q7 x2.fL)])) (.cons (LeB.cells (0:Nat) (.cons lr (.cons (LeV.nil 2) .nil))) .nil))))⟩) (hB:=qC (hA:=fun _=>qIf (hA:=qC (hA:=fun v4=>qIf (hA:=⟨fun a3=>kXj (alts:=XR (x1,x0,x2)) a3 true (.here () rfl (.cons lr (.cons lr (.cons lr (.cons lr (.cons lr .nil))))) (.cons (LeB.refl (Box.cells (0:Nat) [ii x0.fK,AV.sl (2:Nat) (List.map Q7 x0.fL)])) (.cons (LeB.refl (Box.cells (0:Nat) [ii x2.fK,AV.sl (2:Nat) (List.map Q7 x2.fL)])) (.cons (LeB.cells (0:Nat) (.cons lr (.cons (LeV.nil 2) .nil))) .nil))))⟩) (hB:=⟨fun a3=>kXj (alts:=XR (x1,x0,x2)) a3 false (.next (.here () rfl (.cons lr (.cons lr (.cons lr (.cons lr (.cons lr .nil))))) (.cons (LeB.refl (Box.cells (0:Nat) [ii x0.fK,AV.sl (2:Nat) (List.map Q7 x0.fL)])) (.cons (LeB.refl (Box.cells (0:Nat) [ii x2.fK,AV.sl (2:Nat) (List.map Q7 x2.fL)])) (.cons (LeB.cells (0:Nat) (.cons lr (.cons (LeV.nil 2) .nil))) .nil)))))⟩))) (hB:=⟨fun a3=>kXj (alts:=XR (x1,x0,x2)) a3 true (.here () rfl (.cons lr (.cons lr (.cons lr (.cons lr (.cons lr .nil))))) (.cons (LeB.refl (Box.cells (0:Nat) [ii x0.fK,AV.sl (2:Nat) (List.map Q7 x0.fL)])) (.cons (LeB.refl (Box.cells (0:Nat) [ii x2.fK,AV.sl (2:Nat) (List.map Q7 x2.fL)])) (.cons (LeB.cells (0:Nat) (.cons lr (.cons (LeV.nil 2) .nil))) .nil))))⟩))))) (hA:=fun v0=>qW1 (sh:=Qi) (LeV.agg (.cons lr (.cons (LeV.nil 2) .nil)))) (hB:=fun v0=>qN (hA:=fun v8=>qL1 (hL:=⟨EW x1 x2 v0 (gLin.mk x0.fK []) 0 x0.fL v8 0⟩) (hA:=fun v9 a5=>qC (hA:=fun a6=>qIf (hA:=qW1 (sh:=Qi) (LeV.agg (.cons lr (.cons (LeV.nil 2) .nil)))) (hB:=qT (nM (sh:=Q7) a5.fst.fL)))))))
@[reducible,instance] def Q91 x0 x1 x2:=Lw.mk (SH x0 x1 x2)
def QP(x0:gLin)(x1:Str)(x2:gLin):Option (gLin×Int):=
 JN x0 x1 x2>>=fun v0=>
 some (v0.fst,v0.snd)
theorem Iy(x0 x1 x2 r)(h:QP x0 x1 x2=some r):PU 210 [Qi x0,.ip 1 [.agg [.str x1]] 0 0,.ip 2 [.agg [ii x2.fK,.sl 2 (List.map Q7 x2.fL)]] 0 0] (Kx r):=
 Pu4 (hs:=[(9,.c Kx)]) (QP.eq_1 x0 x1 x2) h
@[reducible,instance] def Q1r x0 x1 x2:=Lw.mk (Iy x0 x1 x2)
abbrev XF(s:((List Q5)× (Str×gLin)×Int))(u:(Int×Int×Int))(o:(List Q5×List gLin) ⊕ ((List Q5)×Int× (List Q5))):List Alt:=[⟨fun(x:(List Q5×List gLin))=>(Sum.inl x:(List Q5×List gLin) ⊕ ((List Q5)×Int× (List Q5)))=o,.exit 2,fun x=>[.sl 4 (List.map Q4 s.1),.fn 210 [.ip 1 [.agg [.str s.2.1.1]] 0 0,.ip 2 [.agg [ii s.2.1.2.fK,.sl 2 (List.map Q7 s.2.1.2.fL)]] 0 0],.undef,.undef,.ow 0 0 4 (List.length x.1),ii s.2.2,ii u.2.1],fun x=>[.hol 0 4 (List.map Q4 x.1) (Int.toNat u.1) 3 (.ow 1 0 2 (List.length x.2)),.own 0 2 (List.map Qi x.2)]⟩,⟨fun(x:((List Q5)×Int× (List Q5)))=>(Sum.inr x:(List Q5×List gLin) ⊕ ((List Q5)×Int× (List Q5)))=o,.ret,fun x=>[.sl 4 (List.map Q4 s.1),.fn 210 [.ip 1 [.agg [.str s.2.1.1]] 0 0,.ip 2 [.agg [ii s.2.1.2.fK,.sl 2 (List.map Q7 s.2.1.2.fL)]] 0 0],.sl 4 (List.map Q4 x.1),ii x.2.1,.ow 0 0 4 (List.length x.2.2),ii s.2.2,ii u.2.1],fun x=>[.own 0 4 (List.map Q4 x.2.2)]⟩]
def Qw(x0:List Q5)(x1:(Str×gLin))(x6:(List Q5×List gLin))(x8:Int)(a6:Int)(a3:Int):Option ((List Q5×List gLin) ⊕ ((List Q5)×Int× (List Q5))):=
 if a3<a6 then
 if 0≤x8∧x8< (↑x6.fst.length:Int) then
 ix x0 x8>>=fun v0=>
 ix v0.fAt a3>>=fun v1=>
 QP v1 x1.fst x1.snd>>=fun v2=>
 if 0≤a3∧a3< (↑x6.snd.length:Int) then
 if a3.toNat< (List.map Qi x6.snd).length then
 some (List.set x6.snd a3.toNat v2.fst)>>=fun v3=>
 if v2.snd !=0 then
 if x6.snd.length=(List.map Qi v3).length then
 x6.fst[x8.toNat]? >>=fun v4=>
 some (List.set x6.fst x8.toNat (Q5.mk v4.fm v4.fF v3))>>=fun v5=>
 some (.inr ([],v2.snd,v5))
 else none
 else
 Qw x0 x1 (x6.fst,v3) x8 a6 (wr (a3+1))
 else none
 else none
 else none
 else
 some (.inl x6)
 partial_fixpoint
theorem NT(x0:List Q5)(x1:(Str×gLin))(x6:(List Q5×List gLin))(x8:Int)(a4:Int)(a5:Int)(a7:Int)(a6:Int)(o:(List Q5×List gLin) ⊕ ((List Q5)×Int× (List Q5)))(h:Qw x0 x1 x6 x8 a7 a6=some o):LO 151 11 79 [0,1,6,8,13,14,49,50] [.sl 4 (List.map Q4 x0),.fn 210 [.ip 1 [.agg [.str x1.1]] 0 0,.ip 2 [.agg [ii x1.2.fK,.sl 2 (List.map Q7 x1.2.fL)]] 0 0],.ow 0 0 4 (List.length x6.1),ii x8,ii a4,ii a5,ii a7,ii a6] [.hol 0 4 (List.map Q4 x6.1) (Int.toNat x8) 3 (.ow 1 0 2 (List.length x6.2)),.own 0 2 (List.map Qi x6.2)] [0,1,4,5,6,13,14] (XF (x0,x1,a4) (x8,a5,a7) o):=
 Qw.partial_correctness x0 x1 x8 a7 (fun x6 a6 o=>∀(a4:Int) (a5:Int),LO 151 11 79 [0,1,6,8,13,14,49,50] [.sl 4 (List.map Q4 x0),.fn 210 [.ip 1 [.agg [.str x1.1]] 0 0,.ip 2 [.agg [ii x1.2.fK,.sl 2 (List.map Q7 x1.2.fL)]] 0 0],.ow 0 0 4 (List.length x6.1),ii x8,ii a4,ii a5,ii a7,ii a6] [.hol 0 4 (List.map Q4 x6.1) (Int.toNat x8) 3 (.ow 1 0 2 (List.length x6.2)),.own 0 2 (List.map Qi x6.2)] [0,1,4,5,6,13,14] (XF (x0,x1,a4) (x8,a5,a7) o))
 (fun Qw Qdq x6 a6 o h a4 a5=>
 Lp4 (hs:=[(51,.split),(56,.s),(58,.s),(63,.e Q4),(67,.e Qi),(69,.c Kx),(72,.s),(1000072,.n Qi 72 (some .s)),(74,.split),(75,.fl Q4 6 none)]) (kb:=[kk 6,{slot:=6,path:=[0]}]) (kbx:=[{slot:=4,fz:=true},kk 6,{slot:=6,path:=[0]}]) rfl h (q:=qD (hA:=qG (hA:=qT (rfl:x8.toNat=x8.toNat) (hA:=qIx (hA:=fun v0=>qIx (hA:=fun v1=>qC (hA:=fun v2=>qG (hA:=qG (hA:=⟨fun _=>kBE (sh:=Qi) (List.set x6.snd a6.toNat v2.fst) (mS (sh:=Qi) x6.snd a6.toNat v2.fst) fun v3 ad=>(kIf (c:=v2.snd !=0) (kG (p:=x6.snd.length=(List.map Qi v3).length) (kOx (enc:=Q4) (l:=x6.fst) (k:=x8.toNat) fun v4=>(kBE (sh:=Q4) (List.set x6.fst x8.toNat (Q5.mk v4.fm v4.fF v3)) (mS (sh:=Q4) x6.fst x8.toNat (Q5.mk v4.fm v4.fF v3)) fun v5 ag=>(kX (alts:=XF (x0,x1,a4) (x8,a5,a7)) (.inr ([],v2.snd,v5)) (.next (.here _ rfl (.cons lr (.cons lr (.cons (LeV.nil 4) (.cons lr (.cons (LeV.owl (by simp[ag,ad]:x6.fst.length=List.length v5)) (.cons lr (.cons lr .nil))))))) (.refl _)))))))
 (kM (alts:=XF (x0,x1,a4) (x8,a5,a7)) (.cons lr (.cons lr (.cons lr (.cons lr (.cons lr (.cons lr (.cons lr (.cons lr .nil)))))))) (.cons (LeB.hol (0:Nat) (4:Nat) (List.map Q4 x6.fst) x8.toNat (3:Nat) (LeV.owl (by simp[ad]:x6.snd.length=List.length v3))) (.cons (LeB.refl (Box.own (0:Nat) (2:Nat) (List.map Qi v3))) .nil)) (fun y hy=>Qdq (x6.fst,v3) (wr (a6+1)) y hy a4 a5)))⟩)))))))))) x6 a6 o h a4 a5
abbrev Xa(s:((List Q5)× (Str×gLin)))(u:Int)(o:(List Q5) ⊕ ((List Q5)×Int)):List Alt:=[⟨fun(x:List Q5)=>(Sum.inl x:(List Q5) ⊕ ((List Q5)×Int))=o,.exit 0,fun x=>[.undef,.undef,.sl 4 (List.map Q4 x)],fun x=>[]⟩,⟨fun(x:((List Q5)×Int))=>(Sum.inr x:(List Q5) ⊕ ((List Q5)×Int))=o,.ret,fun x=>[.sl 4 (List.map Q4 x.1),ii x.2,.undef],fun x=>[]⟩]
def QB(x0:List Q5)(x1:(Str×gLin))(x6:List Q5)(a7:Int)(a3:Int):Option ((List Q5) ⊕ ((List Q5)×Int)):=
 if a3<a7 then
 ix x0 a3>>=fun v0=>
 QP v0.fm x1.fst x1.snd>>=fun v1=>
 if 0≤a3∧a3< (↑x6.length:Int) then
 x6[a3.toNat]? >>=fun v2=>
 some (List.set x6 a3.toNat (Q5.mk v1.fst v2.fF v2.fAt))>>=fun v3=>
 if v1.snd !=0 then
 if x6.length=(List.map Q4 v3).length then
 some (.inr ([],v1.snd))
 else none
 else
 ix x0 a3>>=fun v4=>
 YF v4.fAt>>=fun v5=>
 if 0≤a3∧a3< (↑x6.length:Int) then
 if a3.toNat< (List.map Q4 v3).length then
 ix x0 a3>>=fun v6=>
 some (List.length v6.fAt:Int)>>=fun v7=>
 some (a3,a3,v7)>>=fun v8=>
 Qw x0 x1 (v3,v5) a3 v7 0>>=fun v9=>(match v9 with
 | (.inl v10)=>
 v10.fst[v8.fst.toNat]? >>=fun a5=>
 some (List.set v10.fst v8.fst.toNat (Q5.mk a5.fm a5.fF v10.snd))>>=fun aa=>
 QB x0 x1 aa a7 (wr (v8.snd.fst+1))
 | (.inr v13)=>
 some (.inr (v13.fst,v13.snd.fst)))
 else none
 else none
 else none
 else
 some (.inl x6)
 partial_fixpoint
theorem Mh(x0 x1 x6 x13 a3 o)(h:QB x0 x1 x6 x13 a3=some o):LO 151 4 79 [0,1,6,13,14] [.sl 4 (List.map Q4 x0),.fn 210 [.ip 1 [.agg [.str x1.1]] 0 0,.ip 2 [.agg [ii x1.2.fK,.sl 2 (List.map Q7 x1.2.fL)]] 0 0],.ow 0 0 4 (List.length x6),ii x13,ii a3] [.own 0 4 (List.map Q4 x6)] [4,5,6] (Xa (x0,x1) x13 o):=
 QB.partial_correctness x0 x1 x13 (fun x6 a3 o=>LO 151 4 79 [0,1,6,13,14] [.sl 4 (List.map Q4 x0),.fn 210 [.ip 1 [.agg [.str x1.1]] 0 0,.ip 2 [.agg [ii x1.2.fK,.sl 2 (List.map Q7 x1.2.fL)]] 0 0],.ow 0 0 4 (List.length x6),ii x13,ii a3] [.own 0 4 (List.map Q4 x6)] [4,5,6] (Xa (x0,x1) x13 o))
 (fun QB Qdr x6 a3 o h=>
 Lp4 (hs:=[(15,.split),(23,.e Q4),(26,.c Kx),(29,.s),(1000030,.n Q4 30 (some (.e Q4))),(32,.split),(38,.e Q4),(41,.h [] KE KA),(42,.s),(1000043,.s),(46,.e Q4),(49,.n eI 49 none),(77,.fl Q4 6 none),(3000012,.l [] [0,1,6,8,13,14,49,50] [kk 6,{slot:=6,path:=[0]}] [0,1,4,5,6,13,14] [{slot:=4,fz:=true},kk 6,{slot:=6,path:=[0]}] (XF (x0,x1,x13)))]) (kb:=[{slot:=6,own:=4}]) (kbx:=[{slot:=4,fz:=true},{slot:=6,fz:=true}]) rfl h (q:=qD (hA:=qIx (hA:=fun v0=>qC (hA:=fun v1=>qG (hA:=qOx (hA:=fun v2=>⟨fun _=>kBE (sh:=Q4) (List.set x6 a3.toNat (Q5.mk v1.fst v2.fF v2.fAt)) (mS (sh:=Q4) x6 a3.toNat (Q5.mk v1.fst v2.fF v2.fAt)) fun v3 a9=>(kIf (c:=v1.snd !=0) (kG (p:=x6.length=(List.map Q4 v3).length) (kX (alts:=Xa (x0,x1) x13) (.inr ([],v1.snd)) (.next (.here _ rfl (.cons (LeV.nil 4) (.cons lr (.cons (LeV.undef (AV.sl (4:Nat) (List.map Q4 v3))) .nil))) (.refl _)))))
 (kIx (enc:=Q4) (l:=x0) (k:=a3) fun v4=>(kH (sh:=KE) (bt:=KA) (Ws v4.fAt) fun v5=>(kG (p:=0≤a3∧a3< (↑x6.length:Int)) (kG (p:=a3.toNat< (List.map Q4 v3).length) (kIx (enc:=Q4) (l:=x0) (k:=a3) fun v6=>(kN _ (mLen (sh:=Qi) v6.fAt) fun v7=>(kL2 (a3,a3,v7) (hL:=(fun y hy=>Zu.le (.cons lr (.cons lr (.cons (LeV.owl (by simp[a9]:x6.length=List.length v3)) (.cons lr (.cons lr (.cons lr (.cons lr (.cons lr .nil)))))))) (.refl _) (NT x0 x1 (v3,v5) a3 x13 a3 v7 0 y hy))) (hA:=fun v8 a4=>(kT (nM (sh:=Qi) a4.snd) (kOx (enc:=Q4) (l:=a4.fst) (k:=v8.fst.toNat) fun a6=>(kBE (sh:=Q4) (List.set a4.fst v8.fst.toNat (Q5.mk a6.fm a6.fF a4.snd)) (mS (sh:=Q4) a4.fst v8.fst.toNat (Q5.mk a6.fm a6.fF a4.snd)) fun aa a8=>(kM (alts:=Xa (x0,x1) x13) (.cons lr (.cons lr (.cons (LeV.owl (by simp[a8,a9]:a4.fst.length=List.length aa)) (.cons lr (.cons lr .nil))))) (.refl _) (Qdr aa (wr (v8.snd.fst+1))))))))
 (hB:=fun v8 a7=>(kT (nM (sh:=Q4) a7.snd.snd) (kX (alts:=Xa (x0,x1) x13) (.inr (a7.fst,a7.snd.fst)) (.next (.here _ rfl (.cons lr (.cons lr (.cons (LeV.undef (AV.sl (4:Nat) (List.map Q4 a7.snd.snd))) .nil))) (.refl _))))))))))))))⟩))))) (hB:=qT (nM (sh:=Q4) x6)))) x6 a3 o h
@[reducible,instance] def FI x0 x1 x6 x13 x14:=Ll.mk (Mh x0 x1 x6 x13 x14)
def XD(x0:List Q5)(x1:(Str×gLin)):Option (List Q5×Int):=
 Ya x0>>=fun v0=>
 some (List.length x0:Int)>>=fun v1=>
 some v1>>=fun v2=>
 QB x0 x1 v0 v1 0>>=fun v3=>(match v3 with
 | (.inl v4)=>
 some (v4,(0:Int))
 | (.inr v5)=>
 some (v5.fst,v5.snd))
theorem Lt(x0 x1 r)(h:XD x0 x1=some r):PU 151 [KP x0,.fn 210 [.ip 1 [.agg [.str x1.1]] 0 0,.ip 2 [.agg [ii x1.2.fK,.sl 2 (List.map Q7 x1.2.fL)]] 0 0]] (Gf r):=
 Pu4 (hs:=[(11,.h [] Kb K6),(13,.n eI 13 none),(3000005,.l [] [0,1,6,13,14] [{slot:=6,own:=4}] [4,5,6] [{slot:=4,fz:=true},{slot:=6,fz:=true}] (Xa (x0,x1)))]) (XD.eq_1 x0 x1) h (q:=qH (sh:=Kb) (bt:=K6) (DY x0))
@[reducible,instance] def OL x0 x1:=Lw.mk (Lt x0 x1)
abbrev Yi(s:((Str×gLin)×Q3))(u:Int)(o:(Q3×Q3) ⊕ (Q3×Int×Q3)):List Alt:=[⟨fun(x:(Q3×Q3))=>(Sum.inl x:(Q3×Q3) ⊕ (Q3×Int×Q3))=o,.exit 0,fun x=>[.ptr 0 0 0,.undef,.ptr 1 0 0],fun x=>[.cells 0 (Q8 x.1).cells,.cells 0 [ii x.2.fOp,.str x.2.fc,ii x.2.fp.fN,ii x.2.fp.fD,ii x.2.fb.fx,ii x.2.fb.fA,ii x.2.fb.fB,ii x.2.fb.fy,ii x.2.fb.fC,ii x.2.fm.fK,.sl 2 (List.map Q7 x.2.fm.fL),.sl 4 (List.map Q4 x.2.fg),.ow 2 0 13 (List.length x.2.fe)],.own 0 13 (List.map Qh x.2.fe)]⟩,⟨fun(x:(Q3×Int×Q3))=>(Sum.inr x:(Q3×Q3) ⊕ (Q3×Int×Q3))=o,.ret,fun x=>[.ptr 0 0 0,ii x.2.1,.ptr 1 0 0],fun x=>[.cells 0 (Q8 x.1).cells,.cells 0 [ii x.2.2.fOp,.str x.2.2.fc,ii x.2.2.fp.fN,ii x.2.2.fp.fD,ii x.2.2.fb.fx,ii x.2.2.fb.fA,ii x.2.2.fb.fB,ii x.2.2.fb.fy,ii x.2.2.fb.fC,ii x.2.2.fm.fK,.sl 2 (List.map Q7 x.2.2.fm.fL),.sl 4 (List.map Q4 x.2.2.fg),.ow 2 0 13 (List.length x.2.2.fe)],.own 0 13 (List.map Qh x.2.2.fe)]⟩]
mutual
def X3(x0:Q3)(x1:(Str×gLin)):Option (Q3×Int):=
 QP x0.fm x1.fst x1.snd>>=fun v0=>
 if v0.snd !=0 then
 some ((QO.mk (0:Int) [] (gVal.mk (0:Int) (0:Int)) (Qb.mk (0:Int) (0:Int) (0:Int) (0:Int) (0:Int)) (gLin.mk (0:Int) []) [] []:Q3))>>=fun v1=>
 some (v1,v0.snd)
 else
 XD x0.fg x1>>=fun v2=>
 if v2.snd !=0 then
 some ((QO.mk (0:Int) [] (gVal.mk (0:Int) (0:Int)) (Qb.mk (0:Int) (0:Int) (0:Int) (0:Int) (0:Int)) (gLin.mk (0:Int) []) [] []:Q3))>>=fun v3=>
 some (v3,v2.snd)
 else
 Ym x0.fe>>=fun v4=>
 some (List.length x0.fe:Int)>>=fun v5=>
 some v5>>=fun v6=>
 QD x1 x0 (QO.mk (0:Int) [] (gVal.mk (0:Int) (0:Int)) (Qb.mk (0:Int) (0:Int) (0:Int) (0:Int) (0:Int)) (gLin.mk (0:Int) []) [] []:Q3) (QO.mk x0.fOp x0.fc x0.fp x0.fb v0.fst v2.fst v4:Q3) v5 (0:Int)>>=fun v7=>(match v7 with
 | (.inl v8)=>
 some (v8.snd,(0:Int))
 | (.inr v9)=>
 some (v9.fst,v9.snd.fst))
 partial_fixpoint
def QD(x1:(Str×gLin))(x2:Q3)(x4:Q3)(x6:Q3)(a5:Int)(a4:Int):Option ((Q3×Q3) ⊕ (Q3×Int×Q3)):=
 if a4<a5 then
 Option.map Qc.f (ix x2.fe a4)>>=fun v0=>
 X3 v0 x1>>=fun v1=>
 if 0≤a4∧a4< (↑x6.fe.length:Int) then
 if a4.toNat< (List.map Qh x6.fe).length then
 some (List.set x6.fe a4.toNat (Qc.mk v1.fst))>>=fun v2=>
 if v1.snd !=0 then
 some ((QO.mk (0:Int) [] (gVal.mk (0:Int) (0:Int)) (Qb.mk (0:Int) (0:Int) (0:Int) (0:Int) (0:Int)) (gLin.mk (0:Int) []) [] []:Q3))>>=fun v3=>
 some (.inr (v3,v1.snd,(QO.mk x6.fOp x6.fc x6.fp x6.fb x6.fm x6.fg v2:Q3)))
 else
 QD x1 x2 x4 (QO.mk x6.fOp x6.fc x6.fp x6.fb x6.fm x6.fg v2:Q3) a5 (wr (a4+1))
 else none
 else none
 else
 some (.inl (x4,x6))
 partial_fixpoint
end
theorem I0(x1:(Str×gLin)):(∀(x0:Q3) (r:(Q3×Int)),X3 x0 x1=some r→PU 152 [Q8 x0,.fn 210 [.ip 1 [.agg [.str x1.1]] 0 0,.ip 2 [.agg [ii x1.2.fK,.sl 2 (List.map Q7 x1.2.fL)]] 0 0]] (KL r))∧(∀(x2:Q3) (x4:Q3) (x6:Q3) (a7:Int) (aa:Int) (o:(Q3×Q3) ⊕ (Q3×Int×Q3)),QD x1 x2 x4 x6 a7 aa=some o→LO 152 11 64 [1,2,4,6,40,41] [.fn 210 [.ip 1 [.agg [.str x1.1]] 0 0,.ip 2 [.agg [ii x1.2.fK,.sl 2 (List.map Q7 x1.2.fL)]] 0 0],.ptr 0 0 0,.ptr 1 0 0,.ptr 2 0 0,ii a7,ii aa] [.cells 0 (Q8 x2).cells,.cells 0 (Q8 x4).cells,.cells 0 [ii x6.fOp,.str x6.fc,ii x6.fp.fN,ii x6.fp.fD,ii x6.fb.fx,ii x6.fb.fA,ii x6.fb.fB,ii x6.fb.fy,ii x6.fb.fC,ii x6.fm.fK,.sl 2 (List.map Q7 x6.fm.fL),.sl 4 (List.map Q4 x6.fg),.ow 3 0 13 (List.length x6.fe)],.own 0 13 (List.map Qh x6.fe)] [4,5,6] (Yi (x1,x2) a7 o)):=
 X3.mutual_partial_correctness x1 _ _
 (fun QD Qdn x0 r h=>
 Pu4 (hs:=[(14,.c Kx),(19,.split),(20,.n Q8 20 none),(26,.c Gf),(31,.split),(32,.n Q8 32 none),(36,.h [] Ko Kj),(40,.n eI 40 none),(3000012,.l [] [1,2,4,6,40,41] [kk 2,kk 4,kk 6,{slot:=6,path:=[12],own:=13}] [4,5,6] [kk 4,kk 6,{slot:=6,path:=[12],own:=13}] (Yi (x1,x0)))]) rfl h (q:=qC (hA:=fun v0=>qIf (hA:=qW1 (sh:=Q8) (LeV.agg (.cons lr (.cons lr (.cons lr (.cons lr (.cons lr (.cons lr (.cons lr (.cons lr (.cons lr (.cons lr (.cons (LeV.nil 2) (.cons (LeV.nil 4) (.cons (LeV.nil 13) .nil))))))))))))))) (hB:=qC (hA:=fun v2=>qIf (hA:=qW1 (sh:=Q8) (LeV.agg (.cons lr (.cons lr (.cons lr (.cons lr (.cons lr (.cons lr (.cons lr (.cons lr (.cons lr (.cons lr (.cons (LeV.nil 2) (.cons (LeV.nil 4) (.cons (LeV.nil 13) .nil))))))))))))))) (hB:=qH (sh:=Ko) (bt:=Kj) (CX x0.fe) (hA:=fun v4=>qN (hA:=fun v5=>qL2 (hL:=⟨fun y hy=>Zu.le (.cons lr (.cons lr (.cons lr (.cons lr (.cons lr (.cons lr .nil)))))) (.cons (LeB.refl (Box.cells (0:Nat) [ii x0.fOp,AV.str x0.fc,ii x0.fp.fN,ii x0.fp.fD,ii x0.fb.fx,ii x0.fb.fA,ii x0.fb.fB,ii x0.fb.fy,ii x0.fb.fC,ii x0.fm.fK,AV.sl (2:Nat) (List.map Q7 x0.fm.fL),AV.sl (4:Nat) (List.map Q4 x0.fg),AV.sl (13:Nat) (List.map Qh x0.fe)])) (.cons (LeB.cells (0:Nat) (.cons lr (.cons lr (.cons lr (.cons lr (.cons lr (.cons lr (.cons lr (.cons lr (.cons lr (.cons lr (.cons (LeV.nil 2) (.cons (LeV.nil 4) (.cons (LeV.nil 13) .nil)))))))))))))) (.cons (LeB.refl (Box.cells (0:Nat) [ii x0.fOp,AV.str x0.fc,ii x0.fp.fN,ii x0.fp.fD,ii x0.fb.fx,ii x0.fb.fA,ii x0.fb.fB,ii x0.fb.fy,ii x0.fb.fC,ii v0.fst.fK,AV.sl (2:Nat) (List.map Q7 v0.fst.fL),AV.sl (4:Nat) (List.map Q4 v2.fst),AV.ow (3:Nat) (0:Nat) (13:Nat) v4.length])) (.cons (LeB.refl (Box.own (0:Nat) (13:Nat) (List.map Qh v4))) .nil)))) (Qdn x0 (QO.mk (0:Int) [] (gVal.mk (0:Int) (0:Int)) (Qb.mk (0:Int) (0:Int) (0:Int) (0:Int) (0:Int)) (gLin.mk (0:Int) []) [] []:Q3) (QO.mk x0.fOp x0.fc x0.fp x0.fb v0.fst v2.fst v4:Q3) v5 (0:Int) y hy)⟩) (hA:=fun v6 v8=>qT (nM (sh:=Qh) v8.snd.fe))))))))))
 (fun X3 QD Qdm Qdn x2 x4 x6 a7 aa o h=>
 have i0 a:=Lw.mk (Qdm a);Lp4 (hs:=[(42,.split),(51,.e Q8),(54,.c KL),(57,.s),(1000057,.n Qh 57 (some .s)),(59,.split),(60,.n Q8 60 none)]) (kb:=[kk 2,kk 4,kk 6,{slot:=6,path:=[12],own:=13}]) (kbx:=[kk 4,kk 6,{slot:=6,path:=[12],own:=13}]) rfl h (q:=qD (hA:=qIxR (hA:=fun v0=>qC (hA:=fun v1=>qG (hA:=qG (hA:=⟨fun _=>kBE (sh:=Qh) (List.set x6.fe aa.toNat (Qc.mk v1.fst)) (mSR IJ x6.fe aa.toNat v1.fst) fun v2 ad=>(kIf (c:=v1.snd !=0) (kW (sh:=Q8) (QO.mk (0:Int) [] (gVal.mk (0:Int) (0:Int)) (Qb.mk (0:Int) (0:Int) (0:Int) (0:Int) (0:Int)) (gLin.mk (0:Int) []) [] []:Q3) (LeV.agg (.cons lr (.cons lr (.cons lr (.cons lr (.cons lr (.cons lr (.cons lr (.cons lr (.cons lr (.cons lr (.cons (LeV.nil 2) (.cons (LeV.nil 4) (.cons (LeV.nil 13) .nil)))))))))))))) fun v3=>(kX (alts:=Yi (x1,x2) a7) (.inr (v3,v1.snd,(QO.mk x6.fOp x6.fc x6.fp x6.fb x6.fm x6.fg v2:Q3))) (.next (.here _ rfl (.cons lr (.cons lr (.cons lr .nil))) (.cons (LeB.refl (Box.cells (0:Nat) [ii v3.fOp,AV.str v3.fc,ii v3.fp.fN,ii v3.fp.fD,ii v3.fb.fx,ii v3.fb.fA,ii v3.fb.fB,ii v3.fb.fy,ii v3.fb.fC,ii v3.fm.fK,AV.sl (2:Nat) (List.map Q7 v3.fm.fL),AV.sl (4:Nat) (List.map Q4 v3.fg),AV.sl (13:Nat) (List.map Qh v3.fe)])) (.cons (LeB.cells (0:Nat) (.cons lr (.cons lr (.cons lr (.cons lr (.cons lr (.cons lr (.cons lr (.cons lr (.cons lr (.cons lr (.cons lr (.cons lr (.cons (LeV.owl (by simp[ad]:x6.fe.length=List.length v2)) .nil)))))))))))))) (.cons (LeB.refl (Box.own (0:Nat) (13:Nat) (List.map Qh v2))) .nil)))))))
 (kM (alts:=Yi (x1,x2) a7) (.cons lr (.cons lr (.cons lr (.cons lr (.cons lr (.cons lr .nil)))))) (.cons (LeB.refl (Box.cells (0:Nat) [ii x2.fOp,AV.str x2.fc,ii x2.fp.fN,ii x2.fp.fD,ii x2.fb.fx,ii x2.fb.fA,ii x2.fb.fB,ii x2.fb.fy,ii x2.fb.fC,ii x2.fm.fK,AV.sl (2:Nat) (List.map Q7 x2.fm.fL),AV.sl (4:Nat) (List.map Q4 x2.fg),AV.sl (13:Nat) (List.map Qh x2.fe)])) (.cons (LeB.refl (Box.cells (0:Nat) [ii x4.fOp,AV.str x4.fc,ii x4.fp.fN,ii x4.fp.fD,ii x4.fb.fx,ii x4.fb.fA,ii x4.fb.fB,ii x4.fb.fy,ii x4.fb.fC,ii x4.fm.fK,AV.sl (2:Nat) (List.map Q7 x4.fm.fL),AV.sl (4:Nat) (List.map Q4 x4.fg),AV.sl (13:Nat) (List.map Qh x4.fe)])) (.cons (LeB.cells (0:Nat) (.cons lr (.cons lr (.cons lr (.cons lr (.cons lr (.cons lr (.cons lr (.cons lr (.cons lr (.cons lr (.cons lr (.cons lr (.cons (LeV.owl (by simp[ad]:x6.fe.length=List.length v2)) .nil)))))))))))))) (.cons (LeB.refl (Box.own (0:Nat) (13:Nat) (List.map Qh v2))) .nil)))) (Qdn x2 x4 (QO.mk x6.fOp x6.fc x6.fp x6.fb x6.fm x6.fg v2:Q3) a7 (wr (aa+1)))))⟩)))))))
theorem ID(x0 x1 r)(h:X3 x0 x1=some r):PU 152 [Q8 x0,.fn 210 [.ip 1 [.agg [.str x1.1]] 0 0,.ip 2 [.agg [ii x1.2.fK,.sl 2 (List.map Q7 x1.2.fL)]] 0 0]] (KL r):=(I0 x1).1 x0 r h
abbrev Zt(s:((List Q0)× (Str×gLin)))(u:Int)(o:(List Q0) ⊕ ((List Q0)×Int)):List Alt:=[⟨fun(x:List Q0)=>(Sum.inl x:(List Q0) ⊕ ((List Q0)×Int))=o,.exit 0,fun x=>[.undef,.undef,.sl 20 (List.map Q9 x)],fun x=>[]⟩,⟨fun(x:((List Q0)×Int))=>(Sum.inr x:(List Q0) ⊕ ((List Q0)×Int))=o,.ret,fun x=>[.sl 20 (List.map Q9 x.1),ii x.2,.undef],fun x=>[]⟩]
abbrev YL(s:((List Q0)× (Str×gLin)×Int))(u:(Int×Int))(o:List Q0):List Alt:=[⟨fun(x:List Q0)=>x=o,.normal,fun x=>[.sl 20 (List.map Q9 (s.1)),.fn 210 [.ip 1 [.agg [.str ((s.2.1).1)]] 0 0,.ip 2 [.agg [ii ((s.2.1).2).fK,.sl 2 (List.map Q7 ((s.2.1).2).fL)]] 0 0],.fn 113 [],.ow 0 0 20 (List.length x),ii (u.1),ii (s.2.2),ii (u.2)],fun x=>[.own 0 20 (List.map Q9 x)]⟩]
mutual
def QJ(x0:List Q0)(x1:(Str×gLin)):Option (List Q0×Int):=
 Yn x0>>=fun v0=>
 some (List.length x0:Int)>>=fun v1=>
 some v1>>=fun v2=>
 Qy x0 x1 v0 v1 0>>=fun v3=>(match v3 with
 | (.inl v4)=>
 some (v4,(0:Int))
 | (.inr v5)=>
 some (v5.fst,v5.snd))
 partial_fixpoint
def Qy(x0:List Q0)(x1:(Str×gLin))(x8:List Q0)(ah:Int)(a3:Int):Option ((List Q0) ⊕ ((List Q0)×Int)):=
 if a3<ah then
 some (a3,a3)>>=fun v0=>
 (Option.map Q0.f (ix x0 a3)>>=fun v2=>
 if v2.fOp==1 then
 Option.map Q0.f (ix x0 a3)>>=fun v3=>
 Ku v3.fc>>=fun v4=>
 if 0≤a3∧a3< (↑x8.length:Int) then
 Option.map Q0.f x8[a3.toNat]? >>=fun v5=>
 some (List.set x8 a3.toNat (Q0.mk (Zq.mk v5.fOp v4 v5.fE v5.fI v5.fH v5.fg v5.fo v5.fd:Qf)))>>=fun v6=>
 some v6
 else none
 else
 some x8)>>=fun v7=>
 Option.map Q0.f (ix x0 v0.fst)>>=fun v8=>
 XD v8.fg x1>>=fun v9=>
 if 0≤v0.fst∧v0.fst< (↑(List.length v7):Int) then
 Option.map Q0.f v7[v0.fst.toNat]? >>=fun a5=>
 some (List.set v7 v0.fst.toNat (Q0.mk (Zq.mk a5.fOp a5.fc a5.fE a5.fI a5.fH v9.fst a5.fo a5.fd:Qf)))>>=fun a9=>
 if v9.snd !=0 then
 if List.length v7=(List.map Q9 a9).length then
 some (.inr ([],v9.snd))
 else none
 else
 Option.map Q0.f (ix x0 v0.fst)>>=fun ak=>
 X3 ak.fo x1>>=fun aa=>
 if 0≤v0.fst∧v0.fst< (↑(List.length v7):Int) then
 Option.map Q0.f a9[v0.fst.toNat]? >>=fun a6=>
 some (List.set a9 v0.fst.toNat (Q0.mk (Zq.mk a6.fOp a6.fc a6.fE a6.fI a6.fH a6.fg aa.fst a6.fd:Qf)))>>=fun ab=>
 if aa.snd !=0 then
 if List.length v7=(List.map Q9 ab).length then
 some (.inr ([],aa.snd))
 else none
 else
 Option.map Q0.f (ix x0 v0.fst)>>=fun am=>
 QJ am.fd x1>>=fun ad=>
 if 0≤v0.fst∧v0.fst< (↑(List.length v7):Int) then
 Option.map Q0.f ab[v0.fst.toNat]? >>=fun a7=>
 some (List.set ab v0.fst.toNat (Q0.mk (Zq.mk a7.fOp a7.fc a7.fE a7.fI a7.fH a7.fg a7.fo ad.fst:Qf)))>>=fun ag=>
 if ad.snd !=0 then
 if List.length v7=(List.map Q9 ag).length then
 some (.inr ([],ad.snd))
 else none
 else
 Qy x0 x1 ag ah (wr (v0.snd+1))
 else none
 else none
 else none
 else
 some (.inl x8)
 partial_fixpoint
end
theorem NR(x1:(Str×gLin)):(∀(x0:List Q0) (r:(List Q0×Int)),QJ x0 x1=some r→PU 110 [Z7 x0,.fn 210 [.ip 1 [.agg [.str x1.1]] 0 0,.ip 2 [.agg [ii x1.2.fK,.sl 2 (List.map Q7 x1.2.fL)]] 0 0],.fn 113 []] (Yg r))∧(∀(x0:List Q0) (x8:List Q0) (a6:Int) (ae:Int) (o:(List Q0) ⊕ ((List Q0)×Int)),Qy x0 x1 x8 a6 ae=some o→LO 110 4 89 [0,1,2,8,14,15] [.sl 20 (List.map Q9 x0),.fn 210 [.ip 1 [.agg [.str x1.1]] 0 0,.ip 2 [.agg [ii x1.2.fK,.sl 2 (List.map Q7 x1.2.fL)]] 0 0],.fn 113 [],.ow 0 0 20 (List.length x8),ii a6,ii ae] [.own 0 20 (List.map Q9 x8)] [6,7,8] (Zt (x0,x1) a6 o)):=
 QJ.mutual_partial_correctness x1 _ _
 (fun Qy Qdv x0 r h=>
 have i0 a b c d:=Ll.mk (Qdv a b c d);Pu4 (hs:=[(12,.h [] Kp Kk),(14,.n eI 14 none),(3000005,.l [] [0,1,2,8,14,15] [{slot:=8,own:=20}] [6,7,8] [{slot:=6,fz:=true},{slot:=8,fz:=true}] (Zt (x0,x1)))]) rfl h (q:=qH (sh:=Kp) (bt:=Kk) (CY x0)))
 (fun QJ Qy Qdu Qdv x0 x8 a6 ae o h=>
 Lp4 (hs:=[(16,.split),(20,.e Qt),(23,.split),(29,.e Qt),(32,.c eS),(33,.s),(1000034,.n Q9 34 (some (.e Qt))),(40,.e Qt),(44,.c Gf),(47,.s),(1000048,.n Q9 48 (some (.e Qt))),(50,.split),(57,.e Qt),(61,.c KL),(64,.s),(1000065,.n Q9 65 (some (.e Qt))),(67,.split),(74,.e Qt),(79,.c Yg),(82,.s),(1000083,.n Q9 83 (some (.e Qt))),(85,.split),(6000008,.l [] [] [] [0,1,2,8,10,14,15] [{slot:=8,own:=20}] (YL (x0,x1,a6)))]) (kb:=[{slot:=8,own:=20}]) (kbx:=[{slot:=6,fz:=true},{slot:=8,fz:=true}]) rfl h (q:=qD (hA:=qJ (YL (x0,x1,a6)) (hI:=fun v0 v1=>qIxR (hA:=fun v2=>qIf (hA:=qIxR (hA:=fun v3=>qC (hA:=fun v4=>qG (hA:=qOxR (hA:=fun v5=>⟨fun ap=>kBE (sh:=Q9) (List.set x8 ae.toNat (Q0.mk (Zq.mk v5.fOp v4 v5.fE v5.fI v5.fH v5.fg v5.fo v5.fd:Qf))) (mSR Vf x8 ae.toNat (Zq.mk v5.fOp v4 v5.fE v5.fI v5.fH v5.fg v5.fo v5.fd:Qf)) fun v6 aq=>(kXj (alts:=YL (x0,x1,a6)) ap v6 (.here _ rfl (.cons lr (.cons lr (.cons lr (.cons (LeV.owl (by simp[aq]:x8.length=List.length v6)) (.cons lr (.cons lr (.cons lr .nil))))))) (.refl _)))⟩))))))) (hA:=fun v0 v7=>qIxR (hA:=fun v8=>qC (hA:=fun v9=>qG (hA:=qOxR (hA:=fun a3=>⟨fun _=>kBE (sh:=Q9) (List.set v7 v0.fst.toNat (Q0.mk (Zq.mk a3.fOp a3.fc a3.fE a3.fI a3.fH v9.fst a3.fo a3.fd:Qf))) (mSR Vf v7 v0.fst.toNat (Zq.mk a3.fOp a3.fc a3.fE a3.fI a3.fH v9.fst a3.fo a3.fd:Qf)) fun ab ak=>(kIf (c:=v9.snd !=0) (kG (p:=List.length v7=(List.map Q9 ab).length) (kX (alts:=Zt (x0,x1) a6) (.inr ([],v9.snd)) (.next (.here _ rfl (.cons (LeV.nil 20) (.cons lr (.cons (LeV.undef (AV.sl (20:Nat) (List.map Q9 ab))) .nil))) (.refl _)))))
 (kIxR (l:=x0) (k:=v0.fst) J2 fun ar=>(kC (sh:=KL) (ID ar.fo x1) fun af=>(kG (p:=0≤v0.fst∧v0.fst< (↑(List.length v7):Int)) (kOxR (l:=ab) (k:=v0.fst.toNat) J2 fun a4=>(kBE (sh:=Q9) (List.set ab v0.fst.toNat (Q0.mk (Zq.mk a4.fOp a4.fc a4.fE a4.fI a4.fH a4.fg af.fst a4.fd:Qf))) (mSR Vf ab v0.fst.toNat (Zq.mk a4.fOp a4.fc a4.fE a4.fI a4.fH a4.fg af.fst a4.fd:Qf)) fun ad am=>(kIf (c:=af.snd !=0) (kG (p:=List.length v7=(List.map Q9 ad).length) (kX (alts:=Zt (x0,x1) a6) (.inr ([],af.snd)) (.next (.here _ rfl (.cons (LeV.nil 20) (.cons lr (.cons (LeV.undef (AV.sl (20:Nat) (List.map Q9 ad))) .nil))) (.refl _)))))
 (kIxR (l:=x0) (k:=v0.fst) J2 fun au=>(kC (sh:=Yg) (Qdu au.fd) fun ag=>(kG (p:=0≤v0.fst∧v0.fst< (↑(List.length v7):Int)) (kOxR (l:=ad) (k:=v0.fst.toNat) J2 fun a5=>(kBE (sh:=Q9) (List.set ad v0.fst.toNat (Q0.mk (Zq.mk a5.fOp a5.fc a5.fE a5.fI a5.fH a5.fg a5.fo ag.fst:Qf))) (mSR Vf ad v0.fst.toNat (Zq.mk a5.fOp a5.fc a5.fE a5.fI a5.fH a5.fg a5.fo ag.fst:Qf)) fun ah an=>(kIf (c:=ag.snd !=0) (kG (p:=List.length v7=(List.map Q9 ah).length) (kX (alts:=Zt (x0,x1) a6) (.inr ([],ag.snd)) (.next (.here _ rfl (.cons (LeV.nil 20) (.cons lr (.cons (LeV.undef (AV.sl (20:Nat) (List.map Q9 ah))) .nil))) (.refl _)))))
 (kM (alts:=Zt (x0,x1) a6) (.cons lr (.cons lr (.cons lr (.cons (LeV.owl (by simp[an,am,ak]:List.length v7=List.length ah)) (.cons lr (.cons lr .nil)))))) (.refl _) (Qdv x0 ah a6 (wr (v0.snd+1)))))))))))))))))⟩)))))) (hB:=qT (nM (sh:=Q9) x8))))
theorem Mj(x0 x1 r)(h:QJ x0 x1=some r):PU 110 [Z7 x0,.fn 210 [.ip 1 [.agg [.str x1.1]] 0 0,.ip 2 [.agg [ii x1.2.fK,.sl 2 (List.map Q7 x1.2.fL)]] 0 0],.fn 113 []] (Yg r):=(NR x1).1 x0 r h
@[reducible,instance] def FK x0 x1:=Lw.mk (Mj x0 x1)
def KT(x0:List Q0)(x1:Str)(x2:gLin):Option (List Q0×Int):=
 QJ x0 (x1,x2)>>=fun v0=>
 some (v0.fst,v0.snd)
theorem Hv(x0 x1 x2 r)(h:KT x0 x1 x2=some r):PU 176 [Z7 x0,eS x1,Qi x2] (Yg r):=
 Pu4 (hs:=[(9,.z [{slot:=4,fz:=true},{slot:=5,fz:=true}] none),(10,.c Yg)]) (KT.eq_1 x0 x1 x2) h
@[reducible,instance] def Q3a x0 x1 x2:=Lw.mk (Hv x0 x1 x2)
def ML(x0:Int):Option gLin:=
 some ((gLin.mk x0 []))>>=fun v0=>
 some v0
theorem Q23(x0 r)(h:ML x0=some r):PU 177 [eI x0] (Qi r):=
 Pu4 (hs:=[(4,.n Qi 4 none)]) (ML.eq_1 x0) h (q:=qW1 (sh:=Qi) (LeV.agg (.cons lr (.cons (LeV.nil 2) .nil))))
@[reducible,instance] def i_lin_Const x0:=Lw.mk (Q23 x0)
end Go.Proofs.YtkgphhemcglgnaaGreatDoor
noncomputable section
namespace Go.Proofs.YtkgphhemcglgnaaGreatDoor
open Go HY
set_option maxRecDepth 1000000
abbrev Ui(s:Qp)(u:(Qp×Int))(o:Qp):List Alt:=[⟨fun(x:Qp)=>x=o,.exit 0,fun x=>[.ptr 0 0 0,.ptr 1 0 0],fun x=>[.cells 0 (Zf u.1).cells,.cells 0 [.ow 2 0 8 (List.length x.fq),.sl 20 (List.map Q9 x.fd)],.own 0 8 (List.map Ql x.fq)]⟩]
def KS(x1:Qp)(x3:Qp)(a4:Int)(a3:Int):Option Qp:=
 if a3<a4 then
 ix x1.fq a3>>=fun v0=>
 YY v0>>=fun v1=>
 if(x3.fq.length+(1:Nat))*(88:Nat)≤(140737488355328:Nat)∧x3.fq.length+(1:Nat)≤(9223372036854775807:Nat) then
 some (x3.fq++[v1])>>=fun v2=>
 KS x1 (Qp.mk v2 x3.fd) a4 (wr (a3+1))
 else none
 else
 some x3
 partial_fixpoint
theorem Rj(x1:Qp)(x2:Qp)(x3:Qp)(a3:Int)(a4:Int)(o:Qp)(h:KS x1 x3 a3 a4=some o):LO 28 3 28 [1,2,3,11,12] [.ptr 0 0 0,.ptr 1 0 0,.ptr 2 0 0,ii a3,ii a4] [.cells 0 (Zf x1).cells,.cells 0 (Zf x2).cells,.cells 0 [.ow 3 0 8 (List.length x3.fq),.sl 20 (List.map Q9 x3.fd)],.own 0 8 (List.map Ql x3.fq)] [2,3] (Ui x1 (x2,a3) o):=
 KS.partial_correctness x1 a3 (fun x3 a4 o=>∀(x2:Qp),LO 28 3 28 [1,2,3,11,12] [.ptr 0 0 0,.ptr 1 0 0,.ptr 2 0 0,ii a3,ii a4] [.cells 0 (Zf x1).cells,.cells 0 (Zf x2).cells,.cells 0 [.ow 3 0 8 (List.length x3.fq),.sl 20 (List.map Q9 x3.fd)],.own 0 8 (List.map Ql x3.fq)] [2,3] (Ui x1 (x2,a3) o))
 (fun KS Qd9 x3 a4 o h x2=>
 Lp4 (hs:=[(13,.split),(20,.e Ql),(22,.c Ql),(24,.z [{slot:=16,own:=8}] (some (.n Ql 24 (some .a))))]) (kb:=[kk 1,kk 2,kk 3,{slot:=3,path:=[0],own:=8}]) (kbx:=[kk 2,kk 3,{slot:=3,path:=[0],own:=8}]) rfl h (q:=qD (hA:=qIx (hA:=fun v0=>qC (hA:=fun v1=>qA x3.fq (hA:=qO (mA (sh:=Ql) x3.fq v1) (nA x3.fq v1) (hA:=fun v2=>⟨fun _=>kM0 (alts:=Ui x1 (x2,a3)) (fun y hy=>Qd9 (Qp.mk v2 x3.fd) (wr (a4+1)) y hy x2)⟩))))))) x3 a4 o h x2
def Uu(x0:Qp):Option Qp:=
 Jl x0.fd>>=fun v0=>
 some (List.length x0.fq:Int)>>=fun v1=>
 some ((Qp.mk [] []),v1)>>=fun v2=>
 KS x0 (Qp.mk [] v0) v1 0>>=fun v4=>
 some v4
theorem Ay(x0 r)(h:Uu x0=some r):PU 28 [Zf x0] (Zf r):=
 Pu4 (hs:=[(7,.c Z7),(11,.n eI 11 none),(3000004,.l [] [1,2,3,11,12] [kk 1,kk 2,kk 3,{slot:=3,path:=[0],own:=8}] [2,3] [kk 2,kk 3,{slot:=3,path:=[0],own:=8}] (Ui x0))]) (Uu.eq_1 x0) h (q:=qC (hA:=fun v0=>qN (hA:=fun v1=>qL1 (hL:=⟨fun y hy=>Zu.le (.cons lr (.cons lr (.cons lr (.cons lr (.cons lr .nil))))) (.cons (LeB.refl (Box.cells (0:Nat) [AV.sl (8:Nat) (List.map Ql x0.fq),AV.sl (20:Nat) (List.map Q9 x0.fd)])) (.cons (LeB.cells (0:Nat) (.cons (LeV.nil 8) (.cons (LeV.nil 20) .nil))) (.cons (LeB.refl (Box.cells (0:Nat) [AV.ow (3:Nat) (0:Nat) (8:Nat) (0:Nat),AV.sl (20:Nat) (List.map Q9 v0)])) (.cons (LeB.refl (Box.own (0:Nat) (8:Nat) [])) .nil)))) (Rj x0 (Qp.mk [] []) (Qp.mk [] v0) v1 0 y hy)⟩) (hA:=fun v2 v4=>qT (nM (sh:=Ql) v4.fq)))))
@[reducible,instance] def Qbc x0:=Lw.mk (Ay x0)
abbrev W0(s:Unit)(u:((List Qc)×Int))(o:Unit ⊕ Bool):List Alt:=[⟨fun(x:Unit)=>(Sum.inl x:Unit ⊕ Bool)=o,.exit 0,fun x=>[.undef],fun x=>[]⟩,⟨fun(x:Bool)=>(Sum.inr x:Unit ⊕ Bool)=o,.ret,fun x=>[.bool x],fun x=>[]⟩]
mutual
def KV(x0:Q3):Option Bool:=
 if x0.fOp==3 then
 some false
 else
 some (List.length x0.fe:Int)>>=fun v0=>
 some (x0.fe,v0)>>=fun v1=>
 X8 x0.fe v0 0>>=fun v2=>(match v2 with
 | (.inl v3)=>
 some true
 | (.inr v4)=>
 some v4)
 partial_fixpoint
def X8(x9:List Qc)(a4:Int)(a3:Int):Option (Unit ⊕ Bool):=
 if a3<a4 then
 Option.map Qc.f (ix x9 a3)>>=fun v0=>
 KV v0>>=fun v1=>if v1 then
 X8 x9 a4 (wr (a3+1))
 else
 some (.inr false)
 else
 some (.inl ())
 partial_fixpoint
end
theorem Ao:(∀(x0:Q3) (r:Bool),KV x0=some r→PU 42 [Q8 x0] (eB r))∧(∀(x9:List Qc) (a3:Int) (a4:Int) (o:Unit ⊕ Bool),X8 x9 a3 a4=some o→LO 42 4 19 [9,10,11] [.sl 13 (List.map Qh x9),ii a3,ii a4] [] [2] (W0 () (x9,a3) o)):=
 KV.mutual_partial_correctness _ _
 (fun X8 Qet x0 r h=>
 have i0 a b c:=Ll.mk (Qet a b c);Pu4 (hs:=[(7,.split),(10,.n eI 10 none),(3000005,.l [] [9,10,11] [] [2] [] (W0 ()))]) rfl h)
 (fun KV X8 Qes Qet x9 a3 a4 o h=>
 have i0 a:=Lw.mk (Qes a);have i1 a b c:=Ll.mk (Qet a b c);Lp4 (hs:=[(12,.split),(13,.e Q8),(16,.cb)]) (kb:=[]) (kbx:=[]) rfl h)
theorem P4(x0 r)(h:KV x0=some r):PU 42 [Q8 x0] (eB r):=(Ao).1 x0 r h
abbrev U3(s:Unit)(u:((List Qg)×Int))(o:(Qf× (List Q0)) ⊕ (Qf×Int)):List Alt:=[⟨fun(x:(Qf× (List Q0)))=>(Sum.inl x:(Qf× (List Q0)) ⊕ (Qf×Int))=o,.exit 0,fun x=>[.ptr 0 0 0,.undef,.sl 20 (List.map Q9 x.2)],fun x=>[.cells 0 (Qt x.1).cells]⟩,⟨fun(x:(Qf×Int))=>(Sum.inr x:(Qf× (List Q0)) ⊕ (Qf×Int))=o,.ret,fun x=>[.ptr 0 0 0,ii x.2,.undef],fun x=>[.cells 0 (Qt x.1).cells]⟩]
def Xs(x4:Qf)(x6:List Q0)(a4:List Qg)(a5:Int)(a3:Int):Option ((Qf× (List Q0)) ⊕ (Qf×Int)):=
 if a3<a5 then
 ix a4 a3>>=fun v0=>
 ML v0.fp>>=fun v1=>
 KT x6 v0.fc v1>>=fun v2=>
 if v2.snd !=0 then
 some ((Zq.mk (0:Int) [] (0:Int) (0:Int) (0:Int) [] (QO.mk (0:Int) [] (gVal.mk (0:Int) (0:Int)) (Qb.mk (0:Int) (0:Int) (0:Int) (0:Int) (0:Int)) (gLin.mk (0:Int) []) [] []:Q3) []:Qf))>>=fun v3=>
 some (.inr (v3,v2.snd))
 else
 Xs x4 v2.fst a4 a5 (wr (a3+1))
 else
 some (.inl (x4,x6))
 partial_fixpoint
theorem R2(x4 x6 x16 x17 a3 o)(h:Xs x4 x6 x16 x17 a3=some o):LO 132 3 41 [4,6,16,17,18] [.ptr 0 0 0,.sl 20 (List.map Q9 x6),.sl 2 (List.map Qe x16),ii x17,ii a3] [.cells 0 (Qt x4).cells] [4,5,6] (U3 () (x16,x17) o):=
 Xs.partial_correctness x4 x16 x17 (fun x6 a3 o=>LO 132 3 41 [4,6,16,17,18] [.ptr 0 0 0,.sl 20 (List.map Q9 x6),.sl 2 (List.map Qe x16),ii x17,ii a3] [.cells 0 (Qt x4).cells] [4,5,6] (U3 () (x16,x17) o))
 (fun Xs Qeo x6 a3 o h=>
 have i0 a b:=Ll.mk (Qeo a b);Lp4 (hs:=[(19,.split),(20,.e Qe),(28,.c Qi),(29,.c Yg),(33,.split),(34,.n Qt 34 none)]) (kb:=[kk 4]) (kbx:=[kk 4]) rfl h (q:=qD (hA:=qIx (hA:=fun v0=>qC (hA:=fun v1=>qC (hA:=fun v2=>qIf (hA:=qW1 (sh:=Qt) (LeV.agg (.cons lr (.cons lr (.cons lr (.cons lr (.cons lr (.cons (LeV.nil 4) (.cons lr (.cons lr (.cons lr (.cons lr (.cons lr (.cons lr (.cons lr (.cons lr (.cons lr (.cons lr (.cons (LeV.nil 2) (.cons (LeV.nil 4) (.cons (LeV.nil 13) (.cons (LeV.nil 20) .nil))))))))))))))))))))) (hA:=fun v3=>⟨fun _=>kX (alts:=U3 () (x16,x17)) (.inr (v3,v2.snd)) (.next (.here _ rfl (.cons lr (.cons lr (.cons (LeV.undef (AV.sl (20:Nat) (List.map Q9 x6))) .nil))) (.refl _)))⟩)))))))) x6 a3 o h
def Vx(x0:Qf)(x1:List Qg):Option (Qf×Int):=
 some ((Qp.mk [] [(Q0.mk x0)]))>>=fun v0=>
 Uu v0>>=fun v1=>
 some (List.length x1:Int)>>=fun v2=>
 some (x1,v2)>>=fun v3=>
 Xs (Zq.mk (0:Int) [] (0:Int) (0:Int) (0:Int) [] (QO.mk (0:Int) [] (gVal.mk (0:Int) (0:Int)) (Qb.mk (0:Int) (0:Int) (0:Int) (0:Int) (0:Int)) (gLin.mk (0:Int) []) [] []:Q3) []:Qf) v1.fd x1 v2 (0:Int)>>=fun v4=>(match v4 with
 | (.inl v5)=>
 Option.map Q0.f (ix v5.snd (0:Int))>>=fun v6=>
 some (v6,(0:Int))
 | (.inr v7)=>
 some (v7.fst,v7.snd))
theorem SN(x0 x1 r)(h:Vx x0 x1=some r):PU 132 [Qt x0,Z3 x1] (Q51 r):=
 Pu4 (hs:=[(13,.z [{slot:=12,own:=20},{slot:=12,fz:=true}] (some (.n Zf 13 none))),(14,.c Zf),(17,.n eI 17 none),(39,.e Qt),(3000004,.l [] [4,6,16,17,18] [kk 4] [4,5,6] [kk 4] (U3 ()))]) (Vx.eq_1 x0 x1) h (q:=qT (rfl:(1:Nat)=(1:Nat)) (hA:=qW1 (sh:=Zf) (LeV.agg (.cons (LeV.nil 8) (.cons (LeV.sl (.cons (legStmt x0) .nil)) .nil))) (hA:=fun v0=>qC (hA:=fun v1=>qN (hA:=fun v2=>qL2 (hL:=⟨fun y hy=>Zu.le (.cons lr (.cons lr (.cons lr (.cons lr (.cons lr .nil))))) (.cons (LeB.cells (0:Nat) (.cons lr (.cons lr (.cons lr (.cons lr (.cons lr (.cons (LeV.nil 4) (.cons lr (.cons lr (.cons lr (.cons lr (.cons lr (.cons lr (.cons lr (.cons lr (.cons lr (.cons lr (.cons (LeV.nil 2) (.cons (LeV.nil 4) (.cons (LeV.nil 13) (.cons (LeV.nil 20) .nil))))))))))))))))))))) .nil) (R2 (Zq.mk (0:Int) [] (0:Int) (0:Int) (0:Int) [] (QO.mk (0:Int) [] (gVal.mk (0:Int) (0:Int)) (Qb.mk (0:Int) (0:Int) (0:Int) (0:Int) (0:Int)) (gLin.mk (0:Int) []) [] []:Q3) []:Qf) v1.fd x1 v2 (0:Int) y hy)⟩))))))
end Go.Proofs.YtkgphhemcglgnaaGreatDoor
noncomputable section
namespace Go.Proofs.YtkgphhemcglgnaaGreatDoor
open Go HY
set_option maxRecDepth 1000000
abbrev DM(s:List Q5)(u:Int)(o:Int):List Alt:=[⟨fun(x:Int)=>x=o,.exit 2,fun x=>[.sl 4 (List.map Q4 s),ii x,ii u],fun x=>[]⟩]
def XL(x0:List Q5)(x3:Int)(x4:Int)(x5:Int):Option Int:=
 ix x0 x4>>=fun v0=>
 some (List.length v0.fAt:Int)>>=fun v1=>
 if x5<v1 then
 ix x0 x4>>=fun v2=>
 ix v2.fAt x5>>=fun v3=>
 some (List.length v3.fL:Int)>>=fun v4=>
 some (wr (x3+wr ((1:Int)+v4)):Int)>>=fun v5=>
 XL x0 v5 x4 (wr (x5+1))
 else
 some x3
 partial_fixpoint
theorem Rm(x0 x3 x4 x5 o)(h:XL x0 x3 x4 x5=some o):LO 54 7 47 [0,3,4,5] [.sl 4 (List.map Q4 x0),ii x3,ii x4,ii x5] [] [0,3,4] (DM x0 x4 o):=
 XL.partial_correctness x0 x4 (fun x3 x5 o=>LO 54 7 47 [0,3,4,5] [.sl 4 (List.map Q4 x0),ii x3,ii x4,ii x5] [] [0,3,4] (DM x0 x4 o))
 (fun XL Qe1 x3 x5 o h=>
 have i0 a b:=Ll.mk (Qe1 a b);Lp4 (hs:=[(3,.n eI 3 none),(26,.e Q4),(29,.n eI 29 none),(30,.split),(36,.e Q4),(40,.e Qi),(43,.n eI 43 none),(3,.n eI 3 none)]) (kb:=[]) (kbx:=[]) rfl h) x3 x5 o h
@[reducible,instance] def Q6x x0 x3 x4 x5:=Ll.mk (Rm x0 x3 x4 x5)
abbrev DL(s:List Q5)(u:Unit)(o:Int):List Alt:=[⟨fun(x:Int)=>x=o,.exit 0,fun x=>[ii x],fun x=>[]⟩]
def XK(x0:List Q5)(x3:Int)(x4:Int):Option Int:=
 some (List.length x0:Int)>>=fun v0=>
 if x4<v0 then
 ix x0 x4>>=fun v1=>
 some (List.length v1.fm.fL:Int)>>=fun v2=>
 some (wr (x3+v2):Int)>>=fun v3=>
 some x4>>=fun v4=>
 XL x0 v3 x4 0>>=fun v6=>
 XK x0 v6 (wr (v4+1))
 else
 some x3
 partial_fixpoint
theorem Rl(x0 x3 x4 o)(h:XK x0 x3 x4=some o):LO 54 3 47 [0,3,4] [.sl 4 (List.map Q4 x0),ii x3,ii x4] [] [3] (DL x0 () o):=
 XK.partial_correctness x0 (fun x3 x4 o=>LO 54 3 47 [0,3,4] [.sl 4 (List.map Q4 x0),ii x3,ii x4] [] [3] (DL x0 () o))
 (fun XK Qe0 x3 x4 o h=>
 have i0 a b:=Ll.mk (Qe0 a b);Lp4 (hs:=[(10,.n eI 10 none),(11,.split),(17,.e Q4),(21,.n eI 21 none),(3,.n eI 3 none),(3,.n eI 3 none),(3000008,.l [] [0,3,4,5] [] [0,3,4] [] (DM x0))]) (kb:=[]) (kbx:=[]) rfl h) x3 x4 o h
@[reducible,instance] def Q6w x0 x3 x4:=Ll.mk (Rl x0 x3 x4)
def VT(x0:List Q5):Option Int:=
 some (List.length x0:Int)>>=fun v0=>
 some (v0:Int)>>=fun v1=>
 some ()>>=fun v2=>
 XK x0 v1 0>>=fun v4=>
 some v4
theorem AB(x0 r)(h:VT x0=some r):PU 54 [KP x0] (eI r):=
 Pu4 (hs:=[(7,.n eI 7 none),(3,.n eI 3 none),(3,.n eI 3 none),(3000004,.l [] [0,3,4] [] [3] [] (DL x0))]) (VT.eq_1 x0) h
@[reducible,instance] def Qbe x0:=Lw.mk (AB x0)
abbrev N0(s:(Int×Q3))(u:Unit)(o:Int):List Alt:=[⟨fun(x:Int)=>x=o,.exit 0,fun x=>[ii x],fun x=>[]⟩]
abbrev We(s:(Int×Q3))(u:(Int×Int))(o:Bool):List Alt:=jb o (fun b=>[ii (s.1),.ptr 0 0 0,ii (u.1),ii (u.2),.bool b]) [.cells 0 (Q8 (s.2)).cells]
mutual
def Vc(x0:Q3)(x1:Int):Option Int:=
 VT x0.fg>>=fun v0=>
 some (List.length x0.fm.fL:Int)>>=fun v1=>
 some (wr (wr ((1:Int)+(↑(List.map Q7 x0.fm.fL).length:Int))+v0):Int)>>=fun v2=>
 some ()>>=fun v3=>
 Yu x1 x0 v2 0>>=fun v5=>
 some v5
 partial_fixpoint
def Yu(x1:Int)(x2:Q3)(x5:Int)(x6:Int):Option Int:=
 some (x5,x6)>>=fun v0=>
 (some (List.length x2.fe:Int)>>=fun v2=>
 if x6<v2 then
 if x5≤x1 then
 some true
 else
 some false
 else
 some false)>>=fun v1=>if v1 then
 Option.map Qc.f (ix x2.fe v0.snd)>>=fun v4=>
 Vc v4 (wr (x1 - v0.fst))>>=fun v5=>
 some (wr (v0.fst+v5):Int)>>=fun v6=>
 Yu x1 x2 v6 (wr (v0.snd+1))
 else
 some v0.fst
 partial_fixpoint
end
theorem FL:(∀(x0:Q3) (x1:Int) (r:Int),Vc x0 x1=some r→PU 53 [Q8 x0,eI x1] (eI r))∧(∀(x1:Int) (x2:Q3) (x5:Int) (x6:Int) (o:Int),Yu x1 x2 x5 x6=some o→LO 53 3 40 [1,2,5,6] [ii x1,.ptr 0 0 0,ii x5,ii x6] [.cells 0 (Q8 x2).cells] [5] (N0 (x1,x2) () o)):=
 Vc.mutual_partial_correctness _ _
 (fun Yu Qe3 x0 x1 r h=>
 have i0 a b c d:=Ll.mk (Qe3 a b c d);Pu4 (hs:=[(10,.n eI 10 none),(14,.c eI),(5,.n eI 5 none),(5,.n eI 5 none),(3000004,.l [] [1,2,5,6] [kk 2] [5] [] (N0 (x1,x0)))]) rfl h)
 (fun Vc Yu Qe2 Qe3 x1 x2 x5 x6 o h=>
 have i0 a b:=Lw.mk (Qe2 a b);have i1 a b c d:=Ll.mk (Qe3 a b c d);Lp4 (hs:=[(5,.n eI 5 none),(19,.n eI 19 none),(20,.split),(24,.split),(32,.e Q8),(37,.c eI),(5,.n eI 5 none),(5000003,.l [] [] [] [1,2,5,6,25] [kk 2] (We (x1,x2)))]) (kb:=[kk 2]) (kbx:=[]) rfl h (q:=qB (We (x1,x2))))
theorem OC(x0 x1 r)(h:Vc x0 x1=some r):PU 53 [Q8 x0,eI x1] (eI r):=(FL).1 x0 x1 r h
@[reducible,instance] def Qce x0 x1:=Lw.mk (OC x0 x1)
abbrev N1(s:((List Q0)×Int))(u:Unit)(o:Int):List Alt:=[⟨fun(x:Int)=>x=o,.exit 0,fun x=>[ii x],fun x=>[]⟩]
abbrev Wf(s:((List Q0)×Int))(u:(Int×Int))(o:Bool):List Alt:=jb o (fun b=>[.sl 20 (List.map Q9 (s.1)),ii (s.2),ii (u.1),ii (u.2),.bool b]) []
mutual
def Ke(x0:List Q0)(x1:Int):Option Int:=
 some (List.length x0:Int)>>=fun v0=>
 some (v0:Int)>>=fun v1=>
 some ()>>=fun v2=>
 Yv x0 x1 v1 0>>=fun v4=>
 some v4
 partial_fixpoint
def Yv(x0:List Q0)(x1:Int)(x5:Int)(x6:Int):Option Int:=
 some (x5,x6)>>=fun v0=>
 (some (List.length x0:Int)>>=fun v2=>
 if x6<v2 then
 if x5≤x1 then
 some true
 else
 some false
 else
 some false)>>=fun v1=>if v1 then
 Option.map Q0.f (ix x0 v0.snd)>>=fun v4=>
 Vc v4.fo (wr (x1 - v0.fst))>>=fun v5=>
 Option.map Q0.f (ix x0 v0.snd)>>=fun v6=>
 VT v6.fg>>=fun v7=>
 Option.map Q0.f (ix x0 v0.snd)>>=fun v8=>
 Ke v8.fd (if true=true then max (0:Int) (wr (x1 - v0.fst)) else min (0:Int) (wr (x1 - v0.fst)))>>=fun v9=>
 some (wr (v0.fst+wr (wr (v5+v7)+v9)):Int)>>=fun a6=>
 Yv x0 x1 a6 (wr (v0.snd+1))
 else
 some v0.fst
 partial_fixpoint
end
theorem FM:(∀(x0:List Q0) (x1:Int) (r:Int),Ke x0 x1=some r→PU 21 [Z7 x0,eI x1] (eI r))∧(∀(x0:List Q0) (x1:Int) (x5:Int) (x6:Int) (o:Int),Yv x0 x1 x5 x6=some o→LO 21 3 50 [0,1,5,6] [.sl 20 (List.map Q9 x0),ii x1,ii x5,ii x6] [] [5] (N1 (x0,x1) () o)):=
 Ke.mutual_partial_correctness _ _
 (fun Yv Qe5 x0 x1 r h=>
 have i0 a b c d:=Ll.mk (Qe5 a b c d);Pu4 (hs:=[(8,.n eI 8 none),(5,.n eI 5 none),(3000004,.l [] [0,1,5,6] [] [5] [] (N1 (x0,x1)))]) rfl h)
 (fun Ke Yv Qe4 Qe5 x0 x1 x5 x6 o h=>
 have i0 a b:=Lw.mk (Qe4 a b);have i1 a b c d:=Ll.mk (Qe5 a b c d);Lp4 (hs:=[(11,.n eI 11 none),(12,.split),(16,.split),(23,.e Qt),(29,.c eI),(32,.e Qt),(35,.c eI),(39,.e Qt),(46,.c eI),(5,.n eI 5 none),(5000003,.l [] [] [] [0,1,5,6,17] [] (Wf (x0,x1)))]) (kb:=[]) (kbx:=[]) rfl h (q:=qB (Wf (x0,x1))))
theorem OD(x0 x1 r)(h:Ke x0 x1=some r):PU 21 [Z7 x0,eI x1] (eI r):=(FM).1 x0 x1 r h
@[reducible,instance] def Qcf x0 x1:=Lw.mk (OD x0 x1)
abbrev Dx(s:(Int×Qp))(u:Unit)(o:Unit ⊕ Bool):List Alt:=[⟨fun(x:Unit)=>(Sum.inl x:Unit ⊕ Bool)=o,.exit 0,fun x=>[ii s.1,.ptr 0 0 0,.undef],fun x=>[.cells 0 (Zf s.2).cells]⟩,⟨fun(x:Bool)=>(Sum.inr x:Unit ⊕ Bool)=o,.ret,fun x=>[ii s.1,.ptr 0 0 0,.bool x],fun x=>[.cells 0 (Zf s.2).cells]⟩]
abbrev Np(s:(Int×Qp))(u:Int)(o:Bool):List Alt:=jb o (fun b=>[ii (s.1),.ptr 0 0 0,ii u,.bool b]) [.cells 0 (Zf (s.2)).cells]
def Kv(x2:Qp)(x5:Int):Option (Unit ⊕ Bool):=
 some (List.length x2.fq:Int)>>=fun v0=>
 if x5<v0 then
 some x5>>=fun v1=>
 (ix x2.fq x5>>=fun v3=>
 some (List.length v3.fJ:Int)>>=fun v4=>
 if 12<v4 then
 some true
 else
 ix x2.fq x5>>=fun v5=>
 if 100< (↑(List.length v5.fc):Int) then
 some true
 else
 some false)>>=fun v2=>if v2 then
 some (.inr true)
 else
 Kv x2 (wr (v1+1))
 else
 some (.inl ())
 partial_fixpoint
theorem AA(x1:Int)(x2:Qp)(x5:Int)(o:Unit ⊕ Bool)(h:Kv x2 x5=some o):LO 7 4 41 [1,2,5] [ii x1,.ptr 0 0 0,ii x5] [.cells 0 (Zf x2).cells] [1,2,4] (Dx (x1,x2) () o):=
 Kv.partial_correctness x2 (fun x5 o=>∀(x1:Int),LO 7 4 41 [1,2,5] [ii x1,.ptr 0 0 0,ii x5] [.cells 0 (Zf x2).cells] [1,2,4] (Dx (x1,x2) () o))
 (fun Kv Qdz x5 o h x1=>
 Lp4 (hs:=[(13,.n eI 13 none),(14,.split),(20,.e Ql),(23,.n eI 23 none),(24,.split),(29,.e Ql),(33,.split),(5000006,.l [] [] [] [1,2,5,34] [kk 2] (Np (x1,x2)))]) (kb:=[kk 2]) (kbx:=[kk 2]) rfl h (q:=qN (hA:=fun v0=>qD (hA:=qB (Np (x1,x2)) (hB:=fun v1=>⟨fun _=>kM0 (alts:=Dx (x1,x2) ()) (fun y hy=>Qdz (wr (v1+1)) y hy x1)⟩))))) x5 o h x1
def DW(x0:Qp)(x1:Int):Option Bool:=
 some (List.length x0.fq:Int)>>=fun v0=>
 if 20<v0 then
 some true
 else
 some ()>>=fun v1=>
 Kv x0 0>>=fun v2=>(match v2 with
 | (.inl v3)=>
 Ke x0.fd x1>>=fun v4=>
 some (decide (x1<v4))
 | (.inr v5)=>
 some v5)
theorem Bs(x0 x1 r)(h:DW x0 x1=some r):PU 7 [Zf x0,eI x1] (eB r):=
 Pu4 (hs:=[(8,.n eI 8 none),(9,.split),(38,.c eI),(3000005,.l [] [1,2,5] [kk 2] [1,2,4] [kk 2] (Dx (x1,x0)))]) (DW.eq_1 x0 x1) h (q:=qN (hA:=fun v0=>qD (hB:=qL2 (hL:=⟨AA x1 x0 0⟩))))
@[reducible,instance] def i_ref33_Long x0 x1:=Lw.mk (Bs x0 x1)
instance (n:Int):Decidable (fits n):=by unfold fits;exact inferInstance
theorem u64w(n:Int):w6 n=n%18446744073709551616:=by unfold w6;rw[IntKind.wrap_u64]
theorem band(x:Int):((BitVec.ofInt 64 x&&&BitVec.ofInt 64 (4294967295:Int)).toNat:Int)=x%4294967296:=by
 rw[BitVec.toNat_and,BitVec.toNat_ofInt,BitVec.toNat_ofInt];rw[show((4294967295:Int)% ((2^64:Nat):Int)).toNat=2^32 - 1 by decide,Nat.and_two_pow_sub_one_eq_mod]
 omega
theorem mulB{x y:Int}(hx:0≤x∧x<4294967296)(hy:0≤y∧y<4294967296):0≤x*y∧x*y≤18446744065119617025:=
 ⟨Int.mul_nonneg hx.1 hy.1,Int.le_trans (Int.mul_le_mul (show x≤4294967295 by omega) (show y≤4294967295 by omega) hy.1 (by omega)) (by decide)⟩
theorem mulS(A B:Int):A*B=A/4294967296*(B/4294967296)*18446744073709551616+(A/4294967296*(B%4294967296)+A%4294967296*(B/4294967296))*4294967296+A%4294967296*(B%4294967296):=by
 have hA:A=A/4294967296*4294967296+A%4294967296:=by omega
 have hB:B=B/4294967296*4294967296+B%4294967296:=by omega
 generalize A/4294967296=a1 at*;generalize A%4294967296=a0 at*;generalize B/4294967296=b1 at*;generalize B%4294967296=b0 at*;subst hA hB;rw[Int.add_mul,Int.mul_add,Int.mul_add,Int.add_mul];have e1:a1*4294967296*(b1*4294967296)=a1*b1*18446744073709551616:=by
  rw[Int.mul_assoc,Int.mul_comm 4294967296 (b1*4294967296),Int.mul_assoc,Int.mul_assoc];rfl
 have e2:a1*4294967296*b0=a1*b0*4294967296:=by rw[Int.mul_assoc,Int.mul_comm 4294967296 b0,Int.mul_assoc]
 have e3:a0*(b1*4294967296)=a0*b1*4294967296:=by rw[Int.mul_assoc]
 rw[e1,e2,e3];omega
theorem fdiv32(x:Int):x.fdiv ((2:Int)^ (32:Nat))=x/4294967296:=by
 rw[show(2:Int)^ (32:Nat)=4294967296 by decide,Int.fdiv_eq_ediv_of_nonneg _ (by decide)]
theorem WE(x:Int)(h:fits x):YR x=some (x.natAbs:Int):=by
 unfold fits at h;unfold YR;split;·rw[u64w,u64w];congr 1;omega
 ·rw[u64w];congr 1;omega
theorem PW(A B:Int)(hA:0≤A∧A<18446744073709551616)(hB:0≤B∧B<18446744073709551616):Ud A B=some (A*B/18446744073709551616,A*B%18446744073709551616):=by
 unfold Ud;simp only[show(0:Int)≤32 from by decide,if_true,bS,u64w,band,fdiv32]
 have a4:=mulB (x:=A%4294967296) (y:=B%4294967296) (by omega) (by omega)
 have a6:=mulB (x:=A/4294967296) (y:=B%4294967296) (by omega) (by omega)
 have a5:=mulB (x:=A%4294967296) (y:=B/4294967296) (by omega) (by omega)
 have a7:=mulB (x:=A/4294967296) (y:=B/4294967296) (by omega) (by omega)
 have hs:=mulS A B;have a3:∀x:Int,x%4294967296%18446744073709551616=x%4294967296:=fun x=>by omega
 simp only[a3];generalize A%4294967296*(B%4294967296)=p00 at*;generalize A/4294967296*(B%4294967296)=p10 at*;generalize A%4294967296*(B/4294967296)=p01 at*;generalize A/4294967296*(B/4294967296)=p11 at*;generalize A*B=N at*;subst hs;congr 1;simp only[Prod.mk.injEq,and_true];omega
theorem s_times(a b:Int)(ha:fits a)(hb:fits b):De a b=some (if fits (a*b) then(a*b,true) else(0,false)):=by
 have hA:(0:Int)≤a.natAbs∧(a.natAbs:Int)<18446744073709551616:=by unfold fits at ha;omega
 have hB:(0:Int)≤b.natAbs∧(b.natAbs:Int)<18446744073709551616:=by unfold fits at hb;omega
 have a3:((a.natAbs:Int)*(b.natAbs:Int))=if(a<0)=(b<0) then a*b else -(a*b):=by
  by_cases h1:a<0<;>by_cases h2:b<0
  ·rw[if_pos (by simp[h1,h2]),show(a.natAbs:Int)= -a by omega,show(b.natAbs:Int)= -b by omega,Int.neg_mul_neg]
  ·rw[if_neg (by simp[h1];omega),show(a.natAbs:Int)= -a by omega,show(b.natAbs:Int)=b by omega,Int.neg_mul]
  ·rw[if_neg (by simp[h2];omega),show(a.natAbs:Int)=a by omega,show(b.natAbs:Int)= -b by omega,Int.mul_neg]
  ·rw[if_pos (by simp;omega),show(a.natAbs:Int)=a by omega,show(b.natAbs:Int)=b by omega]
 have hn:(0:Int)≤(a.natAbs:Int)*(b.natAbs:Int):=Int.mul_nonneg hA.1 hB.1;unfold De;rw[WE a ha,bS,WE b hb,bS,PW _ _ hA hB,bS,bS];generalize hN:(a.natAbs:Int)*(b.natAbs:Int)=N at*;generalize hM:a*b=M at*;simp only[u64w,wr,IntKind.wrap_i64];by_cases hc:(a<0)=(b<0)
 ·rw[if_pos hc] at a3;subst a3;have hd:(!decide (a< (0:Int))==decide (b< (0:Int)))=false:=by simp[hc]
  rw[hd];by_cases h1:N/18446744073709551616=0
  ·rw[if_neg (by simp[h1])]
   by_cases h2:9223372036854775808<N%18446744073709551616;·rw[if_pos h2,bS,if_pos rfl,if_neg (by unfold fits;omega)]
   ·rw[if_neg h2];by_cases h3:N%18446744073709551616=9223372036854775808;·rw[if_pos (by simp[h3]),if_neg (by simp),bS,if_pos rfl,if_neg (by unfold fits;omega)]
    ·rw[if_neg (by simp[h3]),bS,if_neg (by simp),if_neg (by simp),if_pos (by unfold fits;omega)]
     congr 2;omega
  ·rw[if_pos (by simp[h1]),bS,if_pos rfl,if_neg (by unfold fits;omega)]
 ·rw[if_neg hc] at a3;have hd:(!decide (a< (0:Int))==decide (b< (0:Int)))=true:=by
   by_cases h1:a<0<;>by_cases h2:b<0<;>simp[h1,h2] at hc ⊢
  rw[hd];by_cases h1:N/18446744073709551616=0
  ·rw[if_neg (by simp[h1])]
   by_cases h2:9223372036854775808<N%18446744073709551616;·rw[if_pos h2,bS,if_pos rfl,if_neg (by unfold fits;omega)]
   ·rw[if_neg h2];by_cases h3:N%18446744073709551616=9223372036854775808
    ·rw[if_pos (by simp[h3]),if_pos rfl,bS,if_neg (by simp),if_pos rfl,if_pos (by unfold fits;omega)]
     congr 2;omega
    ·rw[if_neg (by simp[h3]),bS,if_neg (by simp),if_pos rfl,if_pos (by unfold fits;omega)]
     congr 2;omega
  ·rw[if_pos (by simp[h1]),bS,if_pos rfl,if_neg (by unfold fits;omega)]
theorem s_plus(a b:Int)(ha:fits a)(hb:fits b):Cm a b=some (wr (a+b),decide (fits (a+b))):=by
 unfold Cm;rw[bS];unfold fits at ha hb;have key:(decide (a<wr (a+b))==decide ((0:Int)<b))=decide (fits (a+b)):=by
  unfold wr;rw[IntKind.wrap_i64];by_cases hf:fits (a+b)
  ·rw[decide_eq_true hf];unfold fits at hf;by_cases h0:0<b;·rw[decide_eq_true h0,decide_eq_true (by omega)];rfl
   ·rw[decide_eq_false h0,decide_eq_false (by omega)];rfl
  ·rw[decide_eq_false hf];unfold fits at hf;by_cases h0:0<b;·rw[decide_eq_true h0,decide_eq_false (by omega)];rfl
   ·rw[decide_eq_false h0,decide_eq_true (by omega)];rfl
 rw[key]
theorem Bv:∀(x y z:List UInt8),Op.bytesLess x y=true→Op.bytesLess y z=true→Op.bytesLess x z=true
 |_,[],_,h,_=>by simp[Op.bytesLess] at h
 |_,_::_,[],_,h=>by simp[Op.bytesLess] at h
 | [],_::_,_::_,_,_=>rfl
 |a::x,b::y,c::z,h1,h2=>by
  simp only[Op.bytesLess,Bool.or_eq_true,cqb,decide_eq_true_eq,beq_iff_eq] at*;rcases h1 with h1 | ⟨rfl,h1⟩<;>rcases h2 with h2 | ⟨rfl,h2⟩
  ·exact .inl (UInt8.lt_trans h1 h2)
  ·exact .inl h1
  ·exact .inl h2
  ·exact .inr ⟨rfl,Bv x y z h1 h2⟩
def cf(n:Str)(b:Int):List Qo→Int
 | []=>b
 |m::t=>cf n (if m.fc==n then m.fBy else b) t
def keep(n:Str)(l:List Qo):List Qo:=l.filter fun m=> !(m.fc==n)
def zL:gLin:=⟨0,[]⟩
def sbL(n:Str)(v:Int)(l:gLin):gLin×Int:=
 if(Jm l&&nm n)=true then
  if cf n 0 l.fL=0 then(l,0)
  else if fits (v*cf n 0 l.fL)∧fits (l.fK+v*cf n 0 l.fL) then(⟨l.fK+v*cf n 0 l.fL,keep n l.fL⟩,0)
  else(zL,3)
 else(zL,1)
theorem Bu{p:Option Qo}{m:Qo}{t:List Qo}(h:badL p (m::t)=false):nm m.fc=true∧m.fBy≠0∧(∀q,p=some q→Op.bytesLess q.fc m.fc=true)∧badL (some m) t=false:=by
 rw[Rr] at h;simp only[Bool.or_eq_false_iff,Bool.not_eq_false',beq_eq_false_iff_ne,ne_eq] at h;obtain⟨⟨h1,h2,h3⟩,h4⟩:=h;exact⟨h1,h2,fun q e=>by subst e;simpa using h3,h4⟩
theorem badL_mk{p:Option Qo}{m:Qo}{t:List Qo}(h1:nm m.fc=true)(h2:m.fBy≠0)(h3:∀q,p=some q→Op.bytesLess q.fc m.fc=true)(h4:badL (some m) t=false):badL p (m::t)=false:=by
 rw[Rr];simp only[Bool.or_eq_false_iff,Bool.not_eq_false',beq_eq_false_iff_ne,ne_eq];refine⟨⟨h1,h2,?_⟩,h4⟩;cases p with
 |none=>rfl
 |some q=>simpa using h3 q rfl
theorem Rs(n:Str):∀(l:List Qo) (p p':Option Qo),badL p l=false→(∀q',p'=some q'→∃q,p=some q∧(q'=q∨Op.bytesLess q'.fc q.fc=true))→badL p' (keep n l)=false
 | [],_,_,_,_=>rfl
 |m::t,p,p',h,hp=>by
  obtain⟨h1,h2,h3,h4⟩:=Bu h;have a4:∀q',p'=some q'→Op.bytesLess q'.fc m.fc=true:=fun q' e=>by
   obtain⟨q,e2,h5⟩:=hp q' e;rcases h5 with rfl | h5
   ·exact h3 _ e2
   ·exact Bv _ _ _ h5 (h3 _ e2)
  unfold keep;rw[List.filter_cons];split;·exact badL_mk h1 h2 a4 (Rs n t (some m) (some m) h4 fun q' e=>⟨q',e,.inl rfl⟩)
  ·exact Rs n t (some m) p' h4 fun q' e=>⟨m,rfl,.inr (a4 q' e)⟩
theorem P8:∀(l:List Qo) (p:Option Qo),badL p l=false→∀m∈l,m.fBy≠0
 | [],_,_,m,hm=>by simp at hm
 |a::t,p,h,m,hm=>by
  obtain⟨_,h2,_,h4⟩:=Bu h;rcases List.mem_cons.1 hm with rfl | hm
  ·exact h2
  ·exact P8 t _ h4 m hm
theorem cf_ne(n:Str):∀(l:List Qo) (b:Int),b≠0→(∀m∈l,m.fBy≠0)→cf n b l≠0
 | [],_,h,_=>h
 |m::t,b,h,hm=>cf_ne n t _ (by split;exact hm m (by simp);exact h) fun a ha=>hm a (by simp[ha])
theorem BP(n:Str):∀(l:List Qo),(∀m∈l,m.fBy≠0)→cf n 0 l=0→keep n l=l
 | [],_,_=>rfl
 |m::t,hm,h=>by
  unfold keep;rw[cf] at h;cases e:m.fc==n with
  |true=>rw[e] at h;exact absurd h (cf_ne n t _ (hm m (by simp)) fun a ha=>hm a (by simp[ha]))
  |false=>
   rw[e] at h;rw[List.filter_cons,e];show m::List.filter _ t=_;rw[show List.filter (fun m:Qo=> !(m.fc==n)) t=keep n t from rfl,BP n t (fun a ha=>hm a (by simp[ha])) h]
theorem Q35(n:Str):∀(l:List Qo) (b:Int),fits b→(∀m∈l,fits m.fBy)→fits (cf n b l)
 | [],_,h,_=>h
 |m::t,b,h,hm=>Q35 n t _ (by split;exact hm m (by simp);exact h) fun a ha=>hm a (by simp[ha])
theorem SZ{l:gLin}(n:Str)(k:Int)(hk:fits k)(h:okL l):okL ⟨k,keep n l.fL⟩:=
 ⟨hk,Nat.le_trans (cqp _ (List.length_filter_le _ _)) h.2.1,fun m hm=>h.2.2 m (List.mem_filter.1 hm).1⟩
theorem RP(v:Int)(h:fits v):okL ⟨v,[]⟩:=⟨h,by simp,fun m hm=>by simp at hm⟩
theorem R4(n:Str)(l:gLin)(h:okL l):ZF n ⟨l.fK,[]⟩ 0 l.fL l.fL.length 0=some (⟨l.fK,keep n l.fL⟩,cf n 0 l.fL):=by
 have hl:=h.2.1;have:=My (F:=fun(a:gLin×Int) i=>ZF n a.1 a.2 l.fL l.fL.length i) (l:=l.fL) (fun a t=>(a.1.fL.length+t.length)*24≤140737488351232) (fun a t=>(⟨a.1.fK,a.1.fL++keep n t⟩,cf n a.2 t)) ?_ ?_ (⟨l.fK,[]⟩,0) (by simpa using hl)
 ·simpa using this
 ·intro a _;show ZF n a.1 a.2 l.fL l.fL.length (l.fL.length:Int)=_;rw[ZF,if_neg (by omega)];simp[keep,cf]
 ·intro i m t a h0 h1 hm a3 hI ih;show ZF n a.1 a.2 l.fL l.fL.length i=_;rw[ZF,if_pos h1,bS,a3,bS,YU h0 h1 (by omega)]
  rw[List.length_cons] at hI;cases e:m.fc==n with
  |true=>
   rw[Cv,bS];have:=ih (a.1,m.fBy) (by show(a.1.fL.length+t.length)*24≤140737488351232;omega)
   rw[this];simp[keep,cf,e]
  |false=>
   rw[DC,if_pos (by omega),bS,bS]
   have:=ih (⟨a.1.fK,a.1.fL++[m]⟩,a.2) (by show((a.1.fL++[m]).length+t.length)*24≤140737488351232;simp;omega)
   rw[this];simp[keep,cf,e]
theorem Q2n(v c:Int)(hv:fits v)(hc:fits c):Wr ⟨v,[]⟩ c=some (if c=0 then(zL,0) else if fits (v*c) then(⟨v*c,[]⟩,0) else(zL,3)):=by
 unfold Wr;rw[VA _ (RP v hv),bS];rw[show Jm ⟨v,[]⟩=true from rfl,if_pos rfl,if_neg (by simp)]
 by_cases h0:c=0;·rw[if_pos (by simpa using h0),if_pos h0];rfl
 ·rw[if_neg (by simpa using h0),if_neg h0,s_times v c hv hc,bS]
  simp only[bS];rw[show(List.length ([]:List Qo):Int)=0 from rfl,Jx,if_neg (by omega),bS]
  by_cases hf:fits (v*c);·rw[if_pos hf,if_pos hf];rfl
  ·rw[if_neg hf,if_neg hf];rfl
theorem Sx(b:Bool):∀(l:List Qo) (g:gLin),(∀m∈l,fits m.fBy∧m.fBy≠0)→(g.fL.length+l.length)*24≤140737488351232→ZH l [] (b,g)=some (b,⟨g.fK,g.fL++l⟩)
 | [],g,_,_=>by
  rw[ZH,bS,bS,if_neg (by simp),bS,if_neg (by simp),bS,DC];simp
 |m::t,g,hm,hl=>by
  obtain⟨h1,h2⟩:=hm m (by simp)
  rw[List.length_cons] at hl;rw[ZH,bS,bS,if_pos (by simp<;>omega),bS,Cv,bS,if_pos (by simp),bS,bS,Cv]
  simp only[show ix (m::t) (0:Int)=some m from rfl,bS];have e1:UJ m.fc m.fBy 0 b g=some (b,⟨g.fK,g.fL++[m]⟩):=by
   unfold UJ;rw[s_plus _ _ h1 (by unfold fits;omega),bS,bS,Int.add_zero,ZB h1,decide_eq_true h1]
   have:(if b then some true else some false)=some b:=by cases b<;>rfl
   rw[this,bS,if_pos (by simpa using h2),bS,if_pos (by dsimp only;omega),bS]
  rw[e1,bS,if_pos ⟨by omega,by simp;omega⟩]
  show ZH t [] (b,⟨g.fK,g.fL++[m]⟩)=_;rw[Sx b t _ (fun a ha=>hm a (by simp[ha])) (by simp;omega)]
  simp
theorem PV(l:gLin)(k:Int)(h:okL l)(hv:Jm l=true)(hk:fits k):MW l ⟨k,[]⟩=some (if fits (l.fK+k) then(⟨l.fK+k,l.fL⟩,0) else(zL,3)):=by
 unfold MW;have hb:badL none l.fL=false:=by unfold Jm at hv;simpa using hv
 rw[bS,VA l h,bS,hv,if_pos rfl,if_neg (by simp),VA _ (RP k hk),bS,show Jm ⟨k,[]⟩=true from rfl,if_pos rfl,if_neg (by simp),bS,DC]
 rw[s_plus _ _ h.1 hk,bS];unfold GD;rw[bS,Sx _ l.fL _ (fun m hm=>⟨(h.2.2 m hm),P8 _ _ hb m hm⟩) (by simpa using h.2.1),bS,bS]
 by_cases hf:fits (l.fK+k);·rw[if_pos (decide_eq_true hf),if_pos hf,ZB hf];rfl
 ·rw[if_neg (by simp[hf]),if_neg hf];rfl
theorem Aa(n:Str)(v:Int)(l:gLin)(h:okL l)(hv:fits v):JN l n ⟨v,[]⟩=some (sbL n v l):=by
 unfold JN sbL;rw[bS,VA l h,bS];cases ho:Jm l with
 |false=>rfl
 |true=>
  rw[if_pos rfl,if_neg (by simp),Iq n,bS]
  cases hnm:nm n with
  |false=>rfl
  |true=>
   have hb:badL none l.fL=false:=by unfold Jm at ho;simpa using ho
   have hc:fits (cf n 0 l.fL):=Q35 n _ _ (by unfold fits;omega) h.2.2
   rw[Cv,VA _ (RP v hv),bS,show Jm ⟨v,[]⟩=true from rfl,if_pos rfl,if_neg (by simp),bS,DC,bS,bS,R4 n l h,bS,Q2n v _ hv hc,bS]
   have hk:Jm ⟨l.fK,keep n l.fL⟩=true:=by
    unfold Jm;rw[Rs n l.fL none none hb fun _ e=>by cases e];rfl
   simp only[Bool.and_self,if_true];by_cases h0:cf n 0 l.fL=0
   ·rw[if_pos h0,if_pos h0,if_neg (by simp)]
    rw[show zL=⟨0,[]⟩ from rfl,PV _ 0 (SZ n _ h.1 h) hk (by unfold fits;omega),bS]
    rw[if_pos (by simpa using h.1),BP n _ (P8 _ _ hb) h0];simp
   ·rw[if_neg h0,if_neg h0];by_cases hf:fits (v*cf n 0 l.fL)
    ·rw[if_pos hf,if_neg (by simp),PV _ _ (SZ n _ h.1 h) hk hf,bS]
     by_cases hf2:fits (l.fK+v*cf n 0 l.fL);·rw[if_pos hf2,if_pos ⟨hf,hf2⟩]
     ·rw[if_neg hf2,if_neg fun e=>hf2 e.2]
    ·rw[if_neg hf,if_pos (by simp),if_neg fun e=>hf e.1];rfl
end Go.Proofs.YtkgphhemcglgnaaGreatDoor
namespace Go.Proofs.YtkgphhemcglgnaaGreatDoor
open Go HY
section
variable {α β γ ρ : Type}
def mapE(g:α→β×Int):List α→List β×Int
 | []=>([],0)
 |x::t=>if(g x).2≠0 then([],(g x).2) else if(mapE g t).2≠0 then([],(mapE g t).2) else((g x).1::(mapE g t).1,0)
theorem Q9c(g:α→β×Int):∀l,(mapE g l).2≠0→(mapE g l).1=[]
 | [],h=>rfl
 |x::t,h=>by
  rw[mapE] at h ⊢;split;·rfl
  ·split;·rfl
   ·rename_i h1 h2;rw[if_neg h1,if_neg h2] at h;exact absurd rfl h
theorem IM(g:α→β×Int)(l:List α)(h:(mapE g l).2≠0):mapE g l=([],(mapE g l).2):=by
 have:=Q9c g l h;generalize mapE g l=r at*;obtain⟨a,b⟩:=r;simp only at this;rw[this]
theorem BT{δ:Type}(g:β→δ×Int)(k:α→β):∀l:List α,mapE (fun a=>g (k a)) l=mapE g (l.map k)
 | []=>rfl
 |x::t=>by rw[List.map_cons,mapE,mapE,BT g k t]
theorem So(g:α→β×Int)(l:List α):mapE (fun a: {x//x∈l}=>g a.1) l.attach=mapE g l:=by
 rw[BT g (fun a: {x//x∈l}=>a.1)];simp
theorem Ng{Q:β→Prop}{g:α→β×Int}:∀(l:List α),(∀x∈l,(g x).2=0→Q (g x).1)→(mapE g l).2=0→(mapE g l).1.length=l.length∧∀y∈ (mapE g l).1,Q y
 | [],_,_=>⟨rfl,fun y hy=>by simp[mapE] at hy⟩
 |x::t,h,h0=>by
  rw[mapE] at h0 ⊢;split;·rename_i h1;rw[if_pos h1] at h0;exact absurd h0 h1
  ·rename_i h1;rw[if_neg h1] at h0;split;·rename_i h2;rw[if_pos h2] at h0;exact absurd h0 h2
   ·rename_i h2;obtain⟨l1,l2⟩:=Ng (Q:=Q) t (fun y hy=>h y (by simp[hy])) (by simpa using h2)
    refine⟨by show((g x).1::_).length=_;rw[List.length_cons,List.length_cons,l1],fun y hy=> ?_⟩
    rcases List.mem_cons.1 hy with rfl | hy
    ·exact h x (by simp) (by simpa using h1)
    ·exact l2 y hy
theorem Mz{g:α→α×Int}:∀ {l:List α},(∀x∈l,g x=(x,0))→mapE g l=(l,0)
 | [],_=>rfl
 |x::t,h=>by rw[mapE,h x (by simp),Mz (l:=t) fun y hy=>h y (by simp[hy])];rfl
def res(x:Option (γ ⊕ ρ))(K:List β→γ)(Er:ρ→Int→Prop)(r:List β×Int):Prop:=(r.2=0→x=some (.inl (K r.1)))∧(r.2≠0→∃q,x=some (.inr q)∧Er q r.2)
theorem Ns{F:List α→Int→Option (γ ⊕ ρ)}{l:List α}(g:α→α×Int)(K:List α→γ)(Er:ρ→Int→Prop)
  (a4:∀a,a.length=l.length→F a l.length=some (.inl (K a)))
  (step:∀(i:Nat) x a,i<l.length→l[i]? =some x→x∈l→a.length=l.length→a[i]? =some x→((g x).2≠0→∃q,F a i=some (.inr q)∧Er q (g x).2)∧((g x).2=0→F a i=F (a.set i (g x).1) ((i+1:Nat):Int))):res (F l 0) K Er (mapE g l):=by
 have key:∀(t p d:List α),l=p++t→d.length=p.length→res (F (d++t) p.length) (fun r=>K (d++r)) Er (mapE g t):=by
  intro t
  induction t with
  |nil=>
   intro p d e hd;have hl:p.length=l.length:=by rw[e];simp
   refine⟨fun _=> ?_,fun h=>absurd rfl h⟩
   show F (d++[]) p.length=some (.inl (K (d++[])));rw[hl];exact a4 _ (by simp[hd,hl])
  |cons x t ih=>
   intro p d e hd;obtain⟨s1,s2⟩:=step p.length x (d++x::t) (by rw[e];simp) (by rw[e,cqq (Nat.le_refl _)];simp) (by rw[e];simp) (by rw[e];simp[hd]) (by rw[← hd,cqq (Nat.le_refl _)];simp)
   rw[mapE];by_cases h1:(g x).2=0
   ·rw[if_neg (by simpa using h1)]
    have hs:(d++x::t).set p.length (g x).1=(d++[(g x).1])++t:=by
     rw[← hd,List.set_append_right _ _ (Nat.le_refl _)];simp
    have:=ih (p++[x]) (d++[(g x).1]) (by rw[e];simp) (by simp[hd])
    rw[show((p++[x]).length:Int)=((p.length+1:Nat):Int) by simp,← hs,← s2 h1] at this
    refine⟨fun h=> ?_,fun h=> ?_⟩
    ·split at h;·rename_i h2;exact absurd h h2
     ·rename_i h2;rw[if_neg h2];have:=this.1 (by simpa using h2)
      rw[this];simp
    ·split at h
     ·rename_i h2;rw[if_pos h2];exact this.2 h2
     ·exact absurd rfl h
   ·rw[if_pos h1];exact⟨fun h=>absurd h h1,fun _=>s1 h1⟩
 exact key l [] [] rfl rfl
theorem ixN{l:List α}{i:Nat}{x:α}(h:l[i]? =some x):ix l (i:Int)=some x:=by
 unfold ix;rw[if_pos (by omega),cqm,h]
theorem Q3x{l:List α}{i:Nat}{x:α}(h:l[i]? =some x):l.set i x=l:=by
 apply List.ext_getElem?;intro j;rw[List.getElem?_set];split
 ·rename_i e;subst e;rw[h,if_pos (cqd.1 h).1]
 ·rfl
theorem AP{l:List α}{i:Nat}{x:α}(h:i<l.length):(l.set i x)[i]? =some x:=by
 rw[List.getElem?_set,if_pos rfl,if_pos h]
end
def zI:Q5:=⟨⟨0,[]⟩,[],[]⟩
def zE:Q3:=QO.mk 0 [] ⟨0,0⟩ ⟨0,0,0,0,0⟩ ⟨0,[]⟩ [] []
def zS:Qf:=Zq.mk 0 [] 0 0 0 [] zE []
variable (f : gLin → gLin × Int)
def mI(x:Q5):Q5×Int:=
 if(f x.fm).2≠0 then(zI,(f x.fm).2) else if(mapE f x.fAt).2≠0 then(zI,(mapE f x.fAt).2) else(⟨(f x.fm).1,x.fF,(mapE f x.fAt).1⟩,0)
def mE1(x:Q3)(a:List Qc×Int):Qc×Int:=
 if(f x.fm).2≠0 then(.mk zE,(f x.fm).2) else if(mapE (mI f) x.fg).2≠0 then(.mk zE,(mapE (mI f) x.fg).2) else if a.2≠0 then(.mk zE,a.2)
 else(.mk (QO.mk x.fOp x.fc x.fp x.fb (f x.fm).1 (mapE (mI f) x.fg).1 a.1),0)
def mE:Qc→Qc×Int
 | .mk x=>mE1 f x (mapE (fun a: {e//e∈x.fe}=>mE a.1) x.fe.attach)
 termination_by e=>SizeOf.sizeOf e
 decreasing_by exact Qc.lt a.2
theorem B6(x:Q3):mE f (.mk x)=mE1 f x (mapE (mE f) x.fe):=by
 rw[mE,So (fun a=>mE f a)]
def mS1(x:Qf)(b:List Q0×Int):Q0×Int:=
 if(mapE (mI f) x.fg).2≠0 then(.mk zS,(mapE (mI f) x.fg).2) else if(mE f (.mk x.fo)).2≠0 then(.mk zS,(mE f (.mk x.fo)).2) else if b.2≠0 then(.mk zS,b.2)
 else(.mk (Zq.mk x.fOp x.fc x.fE x.fI x.fH (mapE (mI f) x.fg).1 (mE f (.mk x.fo)).1.f b.1),0)
def mSt:Q0→Q0×Int
 | .mk x=>mS1 f x (mapE (fun a: {e//e∈x.fd}=>mSt a.1) x.fd.attach)
 termination_by e=>SizeOf.sizeOf e
 decreasing_by exact Q0.lt a.2
theorem B7(x:Qf):mSt f (.mk x)=mS1 f x (mapE (mSt f) x.fd):=by
 rw[mSt,So (fun a=>mSt f a)]
end Go.Proofs.YtkgphhemcglgnaaGreatDoor
namespace Go.Proofs.YtkgphhemcglgnaaGreatDoor
open Go HY
section
variable {f : gLin → gLin × Int} {p : Str × gLin}
theorem Q5q(hf:∀l,okL l→QP l p.1 p.2=some (f l))(x0:List Q5)(i:Nat)(x:Q5)(hx:x0[i]? =some x)(hA:x.fAt.length*32≤140737488351232)(hL:∀l∈x.fAt,okL l)(v3:List Q5)(hv:i<v3.length):
  res (Qw x0 p (v3,x.fAt) i x.fAt.length 0) (fun b=>(v3,b)) (fun q e=>q.1=[]∧q.2.1=e) (mapE f x.fAt):=by
 refine Ns (F:=fun b j=>Qw x0 p (v3,b) i x.fAt.length j) f (fun b=>(v3,b)) (fun q e=>q.1=[]∧q.2.1=e) ?_ ?_
 ·intro a ha;show Qw x0 p (v3,a) i x.fAt.length x.fAt.length=_;rw[Qw,if_neg (by omega)]
 ·intro j l b hj hl hm hb a6;have e0:Qw x0 p (v3,b) i x.fAt.length j=if(f l).2≠0 then(v3[i]? >>=fun v4=>some (List.set v3 i (Q5.mk v4.fm v4.fF (b.set j (f l).1)))>>=fun v5=>some (.inr ([],(f l).2,v5))) else Qw x0 p (v3,b.set j (f l).1) i x.fAt.length ((j+1:Nat):Int):=by
   rw[Qw,if_pos (by omega),if_pos ⟨by omega,by dsimp only;omega⟩,ixN hx,bS,ixN hl,bS,hf l (hL l hm),bS,if_pos ⟨by omega,by dsimp only;omega⟩]
   rw[if_pos (by simp;omega),bS,cqm,cqm,IY (by omega)]
   by_cases h:(f l).2=0;·rw[if_neg (by simp[h]),if_neg (by simp[h])]
   ·rw[if_pos (by simpa using h),if_pos (by simp),if_pos h]
  refine⟨fun h=> ?_,fun h=> ?_⟩
  ·obtain⟨v4,hv4⟩:∃v4,v3[i]? =some v4:=⟨_,cqc hv⟩;show ∃q,Qw x0 p (v3,b) i x.fAt.length j=some (.inr q)∧_;rw[e0,if_pos h,hv4];exact⟨_,rfl,rfl,rfl⟩
  ·show Qw x0 p (v3,b) i x.fAt.length j=_;rw[e0,if_neg (by simpa using h)]
theorem Q7f(hf:∀l,okL l→QP l p.1 p.2=some (f l))(x0:List Q5)(hl:x0.length*72≤140737488351232)(hI:∀x∈x0,okI x):
  res (QB x0 p x0 x0.length 0) (fun a=>a) (fun q e=>q=(([]:List Q5),e)) (mapE (mI f) x0):=by
 refine Ns (F:=fun a j=>QB x0 p a x0.length j) (mI f) (fun a=>a) (fun q e=>q=(([]:List Q5),e)) ?_ ?_
 ·intro a ha;show QB x0 p a x0.length x0.length=_;rw[QB,if_neg (by omega)]
 ·intro i x a hi hx hm ha a8;obtain⟨k1,k2,k3⟩:=hI x hm;have a6:((a.set i ⟨(f x.fm).1,x.fF,x.fAt⟩)[i]?)=some ⟨(f x.fm).1,x.fF,x.fAt⟩:=AP (by omega)
  have e0:QB x0 p a x0.length i=if(f x.fm).2≠0 then some (.inr ([],(f x.fm).2)) else(Qw x0 p (a.set i ⟨(f x.fm).1,x.fF,x.fAt⟩,x.fAt) i x.fAt.length 0>>=fun v9=>(match v9 with
    | (.inl v10)=>
     v10.fst[i]? >>=fun a7=>
     some (List.set v10.fst i (Q5.mk a7.fm a7.fF v10.snd))>>=fun a9=>
     QB x0 p a9 x0.length ((i+1:Nat):Int)
    | (.inr v13)=>
     some (.inr (v13.fst,v13.snd.fst)))):=by
   rw[QB,if_pos (by omega),ixN hx,bS,hf _ k1,bS,if_pos ⟨by omega,by omega⟩,cqm,a8,bS,bS]
   by_cases h:(f x.fm).2=0
   ·rw[if_neg (by simp[h]),if_neg (by simp[h]),bS]
    unfold YF;rw[if_pos ⟨by omega,by omega⟩,bS,if_pos ⟨by omega,by omega⟩,if_pos (by simp;omega),bS,bS,bS]
    simp only[cqm,IY (show i≤4611686018427387904 by omega)]
    all_goals rfl
   ·rw[if_pos (by simpa using h),if_pos (by simp),if_pos h]
  have a4:=Q5q hf x0 i x hx k2 k3 (a.set i ⟨(f x.fm).1,x.fF,x.fAt⟩) (by simp;omega)
  have e1:(mI f x).2=if(f x.fm).2≠0 then(f x.fm).2 else if(mapE f x.fAt).2≠0 then(mapE f x.fAt).2 else 0:=by unfold mI;split;rfl;split;rfl;rfl
  refine⟨fun h=> ?_,fun h=> ?_⟩
  ·show ∃q,QB x0 p a x0.length i=some (.inr q)∧_;rw[e0];by_cases h1:(f x.fm).2=0
   ·rw[if_neg (by simpa using h1)]
    by_cases h2:(mapE f x.fAt).2=0;·rw[e1,if_neg (by simpa using h1),if_neg (by simpa using h2)] at h;exact absurd rfl h
    ·obtain⟨q,hq,a5⟩:=a4.2 h2;rw[hq,bS];refine⟨_,rfl,?_⟩;rw[e1,if_neg (by simpa using h1),if_pos h2]
     rw[a5.1,a5.2]
   ·rw[if_pos h1];exact⟨_,rfl,by rw[e1,if_pos h1]⟩
  ·show QB x0 p a x0.length i=_;rw[e0];by_cases h1:(f x.fm).2=0
   ·by_cases h2:(mapE f x.fAt).2=0
    ·rw[if_neg (by simpa using h1),a4.1 h2,bS]
     show((a.set i ⟨(f x.fm).1,x.fF,x.fAt⟩)[i]? >>=_)=_;rw[a6,bS,bS,List.set_set];unfold mI;rw[if_neg (by simpa using h1),if_neg (by simpa using h2)]
    ·rw[e1,if_neg (by simpa using h1),if_pos h2] at h;exact absurd h h2
   ·rw[e1,if_pos h1] at h;exact absurd h h1
theorem Q0u(hf:∀l,okL l→QP l p.1 p.2=some (f l))(x0:List Q5)(hl:x0.length*72≤140737488351232)(hI:∀x∈x0,okI x):XD x0 p=some (mapE (mI f) x0):=by
 have h4:=Q7f hf x0 hl hI;unfold XD Ya;rw[if_pos ⟨by omega,by omega⟩,bS,bS,bS]
 by_cases h:(mapE (mI f) x0).2=0
 ·rw[h4.1 h,bS];show some ((mapE (mI f) x0).1,(0:Int))=_;rw[← h]
 ·obtain⟨q,hq,rfl⟩:=h4.2 h;rw[hq,bS,IM _ _ h]
theorem Q9u(hf:∀l,okL l→QP l p.1 p.2=some (f l)):∀e,okE e→X3 e.f p=some ((mE f e).1.f,(mE f e).2):=Qc.ind fun x ih=>by
 intro hw;obtain⟨k1,k2,k3,k4,k5⟩:=hw.of;rw[Qc.f_mk,B6];unfold mE1;rw[X3,hf _ k1,bS];by_cases h1:(f x.fm).2=0
 ·rw[if_neg (by simp[h1]),if_neg (by simp[h1]),Q0u hf _ k2 k3,bS]
  by_cases h2:(mapE (mI f) x.fg).2=0
  ·rw[if_neg (by simp[h2]),if_neg (by simp[h2])]
   unfold Ym;rw[if_pos ⟨by omega,by omega⟩,bS,bS,bS]
   have a3:res (QD p x zE (QO.mk x.fOp x.fc x.fp x.fb (f x.fm).1 (mapE (mI f) x.fg).1 x.fe) x.fe.length 0) (fun a=>(zE,(QO.mk x.fOp x.fc x.fp x.fb (f x.fm).1 (mapE (mI f) x.fg).1 a:Q3))) (fun q e=>q.1=zE∧q.2.1=e) (mapE (mE f) x.fe):=by
    refine Ns (F:=fun a j=>QD p x zE (QO.mk x.fOp x.fc x.fp x.fb (f x.fm).1 (mapE (mI f) x.fg).1 a) x.fe.length j) (mE f) (fun a=>(zE,(QO.mk x.fOp x.fc x.fp x.fb (f x.fm).1 (mapE (mI f) x.fg).1 a:Q3))) (fun q e=>q.1=zE∧q.2.1=e) ?_ ?_
    ·intro a ha;show QD p x zE _ x.fe.length x.fe.length=_;rw[QD,if_neg (by omega)]
    ·intro j e a hj he hm ha a9;have e0:QD p x zE (QO.mk x.fOp x.fc x.fp x.fb (f x.fm).1 (mapE (mI f) x.fg).1 a) x.fe.length j=if(mE f e).2≠0 then some (.inr (zE,(mE f e).2,(QO.mk x.fOp x.fc x.fp x.fb (f x.fm).1 (mapE (mI f) x.fg).1 (a.set j (mE f e).1):Q3))) else QD p x zE (QO.mk x.fOp x.fc x.fp x.fb (f x.fm).1 (mapE (mI f) x.fg).1 (a.set j (mE f e).1)) x.fe.length ((j+1:Nat):Int):=by
      rw[QD,if_pos (by omega),ixN he,omS,bS,ih e hm (k5 e hm),bS,if_pos ⟨by omega,by dsimp only;omega⟩,if_pos (by simp;omega),bS,cqm,Qc.mk_f,IY (by omega)]
      by_cases h:(mE f e).2=0;·rw[if_neg (by simp[h]),if_neg (by simp[h])]
      ·rw[if_pos (by simpa using h),if_pos h];rfl
     refine⟨fun h=> ?_,fun h=> ?_⟩
     ·show ∃q,QD p x zE _ x.fe.length j=some (.inr q)∧_;rw[e0,if_pos h];exact⟨_,rfl,rfl,rfl⟩
     ·show QD p x zE _ x.fe.length j=_;rw[e0,if_neg (by simpa using h)]
   show(QD p x zE (QO.mk x.fOp x.fc x.fp x.fb (f x.fm).1 (mapE (mI f) x.fg).1 x.fe) x.fe.length 0>>=_)=_;by_cases h3:(mapE (mE f) x.fe).2=0;·rw[a3.1 h3,bS,if_neg (by simp[h3])];rfl
   ·obtain⟨q,hq,a4,a5⟩:=a3.2 h3;rw[hq,bS,if_pos h3];show some (q.fst,q.snd.fst)=_;rw[a4,a5];rfl
  ·rw[if_pos (by simpa using h2),if_pos h2];rfl
 ·rw[if_pos (by simpa using h1),if_pos h1];rfl
theorem Q0t(hf:∀l,okL l→QP l p.1 p.2=some (f l))(l:List Q0)(hP:∀s∈l,okS s→QJ s.f.fd p=some (mapE (mSt f) s.f.fd))(hw:okSs l):QJ l p=some (mapE (mSt f) l):=by
 obtain⟨hl,hs⟩:=hw;rw[QJ];unfold Yn;rw[if_pos ⟨by omega,by omega⟩,bS,bS,bS]
 have h4:res (Qy l p l l.length 0) (fun a=>a) (fun q e=>q=(([]:List Q0),e)) (mapE (mSt f) l):=by
  refine Ns (F:=fun a j=>Qy l p a l.length j) (mSt f) (fun a=>a) (fun q e=>q=(([]:List Q0),e)) ?_ ?_
  ·intro a ha;show Qy l p a l.length l.length=_;rw[Qy,if_neg (by omega)]
  ·intro i s a hi hx hm ha a6;obtain⟨x⟩:=s;obtain⟨k1,k2,k3,k4⟩:=(hs _ hm).of;have hE:=Q9u hf (.mk x.fo) k3;rw[Qc.f_mk] at hE;have hB:=hP _ hm (hs _ hm);rw[Q0.f_mk] at hB;have hg:∀y:Q0,(a.set i y)[i]? =some y:=fun y=>AP (by omega)
   have e0:Qy l p a l.length i=if(mapE (mI f) x.fg).2≠0 then some (.inr ([],(mapE (mI f) x.fg).2)) else if(mE f (.mk x.fo)).2≠0 then some (.inr ([],(mE f (.mk x.fo)).2)) else if(mapE (mSt f) x.fd).2≠0 then some (.inr ([],(mapE (mSt f) x.fd).2))
     else Qy l p (a.set i (.mk (Zq.mk x.fOp x.fc x.fE x.fI x.fH (mapE (mI f) x.fg).1 (mE f (.mk x.fo)).1.f (mapE (mSt f) x.fd).1))) l.length ((i+1:Nat):Int):=by
    rw[Qy,if_pos (by omega),bS]
    have a7:(Option.map Q0.f (ix l (i:Int))>>=fun v2=>
      if v2.fOp==(1:Int) then
      Option.map Q0.f (ix l (i:Int))>>=fun v3=>
      Ku v3.fc>>=fun v4=>
      if(0:Int)≤(i:Int)∧(i:Int)< (↑a.length:Int) then
      Option.map Q0.f a[(i:Int).toNat]? >>=fun v5=>
      some (List.set a (i:Int).toNat (Q0.mk (Zq.mk v5.fOp v4 v5.fE v5.fI v5.fH v5.fg v5.fo v5.fd:Qf)))>>=fun v6=>
      some v6
      else none
      else
      some a)=some a:=by
     rw[ixN hx,omS,bS];split
     ·rw[bS,show Ku (Q0.f (.mk x)).fc=some x.fc from rfl,bS,if_pos ⟨by omega,by omega⟩,cqm,a6,omS,bS,bS]
      show some (a.set i (.mk x))=some a;rw[Q3x a6]
     ·rfl
    rw[a7,bS];rw[ixN hx,omS,bS,Q0.f_mk,Q0u hf _ k1 k2,bS,if_pos ⟨by omega,by omega⟩]
    simp only[cqm];rw[a6,omS,bS,bS,Q0.f_mk];by_cases h1:(mapE (mI f) x.fg).2=0
    ·rw[if_neg (by simp[h1]),if_neg (by simp[h1]),bS,hE,bS,if_pos ⟨by omega,by omega⟩,hg,omS,bS,bS,Q0.f_mk]
     by_cases h2:(mE f (.mk x.fo)).2=0
     ·rw[if_neg (by simp[h2]),if_neg (by simp[h2]),bS,hB,bS,if_pos ⟨by omega,by omega⟩,List.set_set,hg,omS,bS,bS,Q0.f_mk,List.set_set]
      by_cases h3:(mapE (mSt f) x.fd).2=0;·rw[if_neg (by simp[h3]),if_neg (by simp[h3]),IY (by omega)]
      ·rw[if_pos (by simpa using h3),if_pos (by simp),if_pos h3]
     ·rw[if_pos (by simpa using h2),if_pos (by simp),if_pos h2]
    ·rw[if_pos (by simpa using h1),if_pos (by simp),if_pos h1]
   have e1:=B7 f x;unfold mS1 at e1;refine⟨fun h=> ?_,fun h=> ?_⟩
   ·show ∃q,Qy l p a l.length i=some (.inr q)∧_;rw[e0,e1];rw[e1] at h;split;·exact⟨_,rfl,rfl⟩
    ·rename_i h1;rw[if_neg h1] at h;split;·exact⟨_,rfl,rfl⟩
     ·rename_i h2;rw[if_neg h2] at h;split;·exact⟨_,rfl,rfl⟩
      ·rename_i h3;rw[if_neg h3] at h;exact absurd rfl h
   ·show Qy l p a l.length i=_;rw[e0,e1];rw[e1] at h;split;·rename_i h1;rw[if_pos h1] at h;exact absurd h h1
    ·rename_i h1;rw[if_neg h1] at h;split;·rename_i h2;rw[if_pos h2] at h;exact absurd h h2
     ·rename_i h2;rw[if_neg h2] at h;split;·rename_i h3;rw[if_pos h3] at h;exact absurd h h3
      ·rfl
 by_cases h:(mapE (mSt f) l).2=0
 ·rw[h4.1 h,bS];show some ((mapE (mSt f) l).1,(0:Int))=_;rw[← h]
 ·obtain⟨q,hq,rfl⟩:=h4.2 h;rw[hq,bS,IM _ _ h]
theorem Q9w(hf:∀l,okL l→QP l p.1 p.2=some (f l)):∀s,okS s→QJ s.f.fd p=some (mapE (mSt f) s.f.fd):=Q0.ind fun x ih hw=>by
 rw[Q0.f_mk];exact Q0t hf x.fd ih hw.of.2.2.2
theorem Q9v(hf:∀l,okL l→QP l p.1 p.2=some (f l))(l:List Q0)(hw:okSs l):QJ l p=some (mapE (mSt f) l):=
 Q0t hf l (fun s _=>Q9w hf s) hw
end
section
variable {f : gLin → gLin × Int}
theorem Q5p(hf:∀l,okL l→QM l=some (f l))(x0:List Q5)(i:Nat)(x:Q5)(hx:x0[i]? =some x)(hA:x.fAt.length*32≤140737488351232)(hL:∀l∈x.fAt,okL l)(v3:List Q5)(hv:i<v3.length):
  res (Qv x0 (v3,x.fAt) i x.fAt.length 0) (fun b=>(v3,b)) (fun q e=>q.1=[]∧q.2.1=e) (mapE f x.fAt):=by
 refine Ns (F:=fun b j=>Qv x0 (v3,b) i x.fAt.length j) f (fun b=>(v3,b)) (fun q e=>q.1=[]∧q.2.1=e) ?_ ?_
 ·intro a ha;show Qv x0 (v3,a) i x.fAt.length x.fAt.length=_;rw[Qv,if_neg (by omega)]
 ·intro j l b hj hl hm hb a6;have e0:Qv x0 (v3,b) i x.fAt.length j=if(f l).2≠0 then(v3[i]? >>=fun v4=>some (List.set v3 i (Q5.mk v4.fm v4.fF (b.set j (f l).1)))>>=fun v5=>some (.inr ([],(f l).2,v5))) else Qv x0 (v3,b.set j (f l).1) i x.fAt.length ((j+1:Nat):Int):=by
   rw[Qv,if_pos (by omega),if_pos ⟨by omega,by dsimp only;omega⟩,ixN hx,bS,ixN hl,bS,hf l (hL l hm),bS,if_pos ⟨by omega,by dsimp only;omega⟩]
   rw[if_pos (by simp;omega),bS,cqm,cqm,IY (by omega)]
   by_cases h:(f l).2=0;·rw[if_neg (by simp[h]),if_neg (by simp[h])]
   ·rw[if_pos (by simpa using h),if_pos (by simp),if_pos h]
  refine⟨fun h=> ?_,fun h=> ?_⟩
  ·obtain⟨v4,hv4⟩:∃v4,v3[i]? =some v4:=⟨_,cqc hv⟩;show ∃q,Qv x0 (v3,b) i x.fAt.length j=some (.inr q)∧_;rw[e0,if_pos h,hv4];exact⟨_,rfl,rfl,rfl⟩
  ·show Qv x0 (v3,b) i x.fAt.length j=_;rw[e0,if_neg (by simpa using h)]
theorem Q7e(hf:∀l,okL l→QM l=some (f l))(x0:List Q5)(hl:x0.length*72≤140737488351232)(hI:∀x∈x0,okI x):
  res (QA x0 x0 x0.length 0) (fun a=>a) (fun q e=>q=(([]:List Q5),e)) (mapE (mI f) x0):=by
 refine Ns (F:=fun a j=>QA x0 a x0.length j) (mI f) (fun a=>a) (fun q e=>q=(([]:List Q5),e)) ?_ ?_
 ·intro a ha;show QA x0 a x0.length x0.length=_;rw[QA,if_neg (by omega)]
 ·intro i x a hi hx hm ha a8;obtain⟨k1,k2,k3⟩:=hI x hm;have a6:((a.set i ⟨(f x.fm).1,x.fF,x.fAt⟩)[i]?)=some ⟨(f x.fm).1,x.fF,x.fAt⟩:=AP (by omega)
  have e0:QA x0 a x0.length i=if(f x.fm).2≠0 then some (.inr ([],(f x.fm).2)) else(Qv x0 (a.set i ⟨(f x.fm).1,x.fF,x.fAt⟩,x.fAt) i x.fAt.length 0>>=fun v9=>(match v9 with
    | (.inl v10)=>
     v10.fst[i]? >>=fun a7=>
     some (List.set v10.fst i (Q5.mk a7.fm a7.fF v10.snd))>>=fun a9=>
     QA x0 a9 x0.length ((i+1:Nat):Int)
    | (.inr v13)=>
     some (.inr (v13.fst,v13.snd.fst)))):=by
   rw[QA,if_pos (by omega),ixN hx,bS,hf _ k1,bS,if_pos ⟨by omega,by omega⟩,cqm,a8,bS,bS]
   by_cases h:(f x.fm).2=0
   ·rw[if_neg (by simp[h]),if_neg (by simp[h]),bS]
    unfold YF;rw[if_pos ⟨by omega,by omega⟩,bS,if_pos ⟨by omega,by omega⟩,if_pos (by simp;omega),bS,bS,bS]
    simp only[cqm,IY (show i≤4611686018427387904 by omega)]
    all_goals rfl
   ·rw[if_pos (by simpa using h),if_pos (by simp),if_pos h]
  have a4:=Q5p hf x0 i x hx k2 k3 (a.set i ⟨(f x.fm).1,x.fF,x.fAt⟩) (by simp;omega)
  have e1:(mI f x).2=if(f x.fm).2≠0 then(f x.fm).2 else if(mapE f x.fAt).2≠0 then(mapE f x.fAt).2 else 0:=by unfold mI;split;rfl;split;rfl;rfl
  refine⟨fun h=> ?_,fun h=> ?_⟩
  ·show ∃q,QA x0 a x0.length i=some (.inr q)∧_;rw[e0];by_cases h1:(f x.fm).2=0
   ·rw[if_neg (by simpa using h1)]
    by_cases h2:(mapE f x.fAt).2=0;·rw[e1,if_neg (by simpa using h1),if_neg (by simpa using h2)] at h;exact absurd rfl h
    ·obtain⟨q,hq,a5⟩:=a4.2 h2;rw[hq,bS];refine⟨_,rfl,?_⟩;rw[e1,if_neg (by simpa using h1),if_pos h2]
     rw[a5.1,a5.2]
   ·rw[if_pos h1];exact⟨_,rfl,by rw[e1,if_pos h1]⟩
  ·show QA x0 a x0.length i=_;rw[e0];by_cases h1:(f x.fm).2=0
   ·by_cases h2:(mapE f x.fAt).2=0
    ·rw[if_neg (by simpa using h1),a4.1 h2,bS]
     show((a.set i ⟨(f x.fm).1,x.fF,x.fAt⟩)[i]? >>=_)=_;rw[a6,bS,bS,List.set_set];unfold mI;rw[if_neg (by simpa using h1),if_neg (by simpa using h2)]
    ·rw[e1,if_neg (by simpa using h1),if_pos h2] at h;exact absurd h h2
   ·rw[e1,if_pos h1] at h;exact absurd h h1
theorem Q0s(hf:∀l,okL l→QM l=some (f l))(x0:List Q5)(hl:x0.length*72≤140737488351232)(hI:∀x∈x0,okI x):XC x0=some (mapE (mI f) x0):=by
 have h4:=Q7e hf x0 hl hI;unfold XC Ya;rw[if_pos ⟨by omega,by omega⟩,bS,bS,bS]
 by_cases h:(mapE (mI f) x0).2=0
 ·rw[h4.1 h,bS];show some ((mapE (mI f) x0).1,(0:Int))=_;rw[← h]
 ·obtain⟨q,hq,rfl⟩:=h4.2 h;rw[hq,bS,IM _ _ h]
theorem Q9r(hf:∀l,okL l→QM l=some (f l)):∀e,okE e→X2 e.f=some ((mE f e).1.f,(mE f e).2):=Qc.ind fun x ih=>by
 intro hw;obtain⟨k1,k2,k3,k4,k5⟩:=hw.of;rw[Qc.f_mk,B6];unfold mE1;rw[X2,hf _ k1,bS];by_cases h1:(f x.fm).2=0
 ·rw[if_neg (by simp[h1]),if_neg (by simp[h1]),Q0s hf _ k2 k3,bS]
  by_cases h2:(mapE (mI f) x.fg).2=0
  ·rw[if_neg (by simp[h2]),if_neg (by simp[h2])]
   unfold Ym;rw[if_pos ⟨by omega,by omega⟩,bS,bS,bS]
   have a3:res (QC x zE (QO.mk x.fOp x.fc x.fp x.fb (f x.fm).1 (mapE (mI f) x.fg).1 x.fe) x.fe.length 0) (fun a=>(zE,(QO.mk x.fOp x.fc x.fp x.fb (f x.fm).1 (mapE (mI f) x.fg).1 a:Q3))) (fun q e=>q.1=zE∧q.2.1=e) (mapE (mE f) x.fe):=by
    refine Ns (F:=fun a j=>QC x zE (QO.mk x.fOp x.fc x.fp x.fb (f x.fm).1 (mapE (mI f) x.fg).1 a) x.fe.length j) (mE f) (fun a=>(zE,(QO.mk x.fOp x.fc x.fp x.fb (f x.fm).1 (mapE (mI f) x.fg).1 a:Q3))) (fun q e=>q.1=zE∧q.2.1=e) ?_ ?_
    ·intro a ha;show QC x zE _ x.fe.length x.fe.length=_;rw[QC,if_neg (by omega)]
    ·intro j e a hj he hm ha a9;have e0:QC x zE (QO.mk x.fOp x.fc x.fp x.fb (f x.fm).1 (mapE (mI f) x.fg).1 a) x.fe.length j=if(mE f e).2≠0 then some (.inr (zE,(mE f e).2,(QO.mk x.fOp x.fc x.fp x.fb (f x.fm).1 (mapE (mI f) x.fg).1 (a.set j (mE f e).1):Q3))) else QC x zE (QO.mk x.fOp x.fc x.fp x.fb (f x.fm).1 (mapE (mI f) x.fg).1 (a.set j (mE f e).1)) x.fe.length ((j+1:Nat):Int):=by
      rw[QC,if_pos (by omega),ixN he,omS,bS,ih e hm (k5 e hm),bS,if_pos ⟨by omega,by dsimp only;omega⟩,if_pos (by simp;omega),bS,cqm,Qc.mk_f,IY (by omega)]
      by_cases h:(mE f e).2=0;·rw[if_neg (by simp[h]),if_neg (by simp[h])]
      ·rw[if_pos (by simpa using h),if_pos h];rfl
     refine⟨fun h=> ?_,fun h=> ?_⟩
     ·show ∃q,QC x zE _ x.fe.length j=some (.inr q)∧_;rw[e0,if_pos h];exact⟨_,rfl,rfl,rfl⟩
     ·show QC x zE _ x.fe.length j=_;rw[e0,if_neg (by simpa using h)]
   show(QC x zE (QO.mk x.fOp x.fc x.fp x.fb (f x.fm).1 (mapE (mI f) x.fg).1 x.fe) x.fe.length 0>>=_)=_;by_cases h3:(mapE (mE f) x.fe).2=0;·rw[a3.1 h3,bS,if_neg (by simp[h3])];rfl
   ·obtain⟨q,hq,a4,a5⟩:=a3.2 h3;rw[hq,bS,if_pos h3];show some (q.fst,q.snd.fst)=_;rw[a4,a5];rfl
  ·rw[if_pos (by simpa using h2),if_pos h2];rfl
 ·rw[if_pos (by simpa using h1),if_pos h1];rfl
theorem Q0r(hf:∀l,okL l→QM l=some (f l))(l:List Q0)(hP:∀s∈l,okS s→QI s.f.fd=some (mapE (mSt f) s.f.fd))(hw:okSs l):QI l=some (mapE (mSt f) l):=by
 obtain⟨hl,hs⟩:=hw;rw[QI];unfold Yn;rw[if_pos ⟨by omega,by omega⟩,bS,bS,bS]
 have h4:res (Qx l l l.length 0) (fun a=>a) (fun q e=>q=(([]:List Q0),e)) (mapE (mSt f) l):=by
  refine Ns (F:=fun a j=>Qx l a l.length j) (mSt f) (fun a=>a) (fun q e=>q=(([]:List Q0),e)) ?_ ?_
  ·intro a ha;show Qx l a l.length l.length=_;rw[Qx,if_neg (by omega)]
  ·intro i s a hi hx hm ha a6;obtain⟨x⟩:=s;obtain⟨k1,k2,k3,k4⟩:=(hs _ hm).of;have hE:=Q9r hf (.mk x.fo) k3;rw[Qc.f_mk] at hE;have hB:=hP _ hm (hs _ hm);rw[Q0.f_mk] at hB;have hg:∀y:Q0,(a.set i y)[i]? =some y:=fun y=>AP (by omega)
   have e0:Qx l a l.length i=if(mapE (mI f) x.fg).2≠0 then some (.inr ([],(mapE (mI f) x.fg).2)) else if(mE f (.mk x.fo)).2≠0 then some (.inr ([],(mE f (.mk x.fo)).2)) else if(mapE (mSt f) x.fd).2≠0 then some (.inr ([],(mapE (mSt f) x.fd).2))
     else Qx l (a.set i (.mk (Zq.mk x.fOp x.fc x.fE x.fI x.fH (mapE (mI f) x.fg).1 (mE f (.mk x.fo)).1.f (mapE (mSt f) x.fd).1))) l.length ((i+1:Nat):Int):=by
    rw[Qx,if_pos (by omega),bS]
    have a7:(Option.map Q0.f (ix l (i:Int))>>=fun v2=>
      if v2.fOp==(1:Int) then
      Option.map Q0.f (ix l (i:Int))>>=fun v3=>
      Ku v3.fc>>=fun v4=>
      if(0:Int)≤(i:Int)∧(i:Int)< (↑a.length:Int) then
      Option.map Q0.f a[(i:Int).toNat]? >>=fun v5=>
      some (List.set a (i:Int).toNat (Q0.mk (Zq.mk v5.fOp v4 v5.fE v5.fI v5.fH v5.fg v5.fo v5.fd:Qf)))>>=fun v6=>
      some v6
      else none
      else
      some a)=some a:=by
     rw[ixN hx,omS,bS];split
     ·rw[bS,show Ku (Q0.f (.mk x)).fc=some x.fc from rfl,bS,if_pos ⟨by omega,by omega⟩,cqm,a6,omS,bS,bS]
      show some (a.set i (.mk x))=some a;rw[Q3x a6]
     ·rfl
    rw[a7,bS];rw[ixN hx,omS,bS,Q0.f_mk,Q0s hf _ k1 k2,bS,if_pos ⟨by omega,by omega⟩]
    simp only[cqm];rw[a6,omS,bS,bS,Q0.f_mk];by_cases h1:(mapE (mI f) x.fg).2=0
    ·rw[if_neg (by simp[h1]),if_neg (by simp[h1]),bS,hE,bS,if_pos ⟨by omega,by omega⟩,hg,omS,bS,bS,Q0.f_mk]
     by_cases h2:(mE f (.mk x.fo)).2=0
     ·rw[if_neg (by simp[h2]),if_neg (by simp[h2]),bS,hB,bS,if_pos ⟨by omega,by omega⟩,List.set_set,hg,omS,bS,bS,Q0.f_mk,List.set_set]
      by_cases h3:(mapE (mSt f) x.fd).2=0;·rw[if_neg (by simp[h3]),if_neg (by simp[h3]),IY (by omega)]
      ·rw[if_pos (by simpa using h3),if_pos (by simp),if_pos h3]
     ·rw[if_pos (by simpa using h2),if_pos (by simp),if_pos h2]
    ·rw[if_pos (by simpa using h1),if_pos (by simp),if_pos h1]
   have e1:=B7 f x;unfold mS1 at e1;refine⟨fun h=> ?_,fun h=> ?_⟩
   ·show ∃q,Qx l a l.length i=some (.inr q)∧_;rw[e0,e1];rw[e1] at h;split;·exact⟨_,rfl,rfl⟩
    ·rename_i h1;rw[if_neg h1] at h;split;·exact⟨_,rfl,rfl⟩
     ·rename_i h2;rw[if_neg h2] at h;split;·exact⟨_,rfl,rfl⟩
      ·rename_i h3;rw[if_neg h3] at h;exact absurd rfl h
   ·show Qx l a l.length i=_;rw[e0,e1];rw[e1] at h;split;·rename_i h1;rw[if_pos h1] at h;exact absurd h h1
    ·rename_i h1;rw[if_neg h1] at h;split;·rename_i h2;rw[if_pos h2] at h;exact absurd h h2
     ·rename_i h2;rw[if_neg h2] at h;split;·rename_i h3;rw[if_pos h3] at h;exact absurd h h3
      ·rfl
 by_cases h:(mapE (mSt f) l).2=0
 ·rw[h4.1 h,bS];show some ((mapE (mSt f) l).1,(0:Int))=_;rw[← h]
 ·obtain⟨q,hq,rfl⟩:=h4.2 h;rw[hq,bS,IM _ _ h]
theorem Q9t(hf:∀l,okL l→QM l=some (f l)):∀s,okS s→QI s.f.fd=some (mapE (mSt f) s.f.fd):=Q0.ind fun x ih hw=>by
 rw[Q0.f_mk];exact Q0r hf x.fd ih hw.of.2.2.2
theorem Q9s(hf:∀l,okL l→QM l=some (f l))(l:List Q0)(hw:okSs l):QI l=some (mapE (mSt f) l):=
 Q0r hf l (fun s _=>Q9t hf s) hw
end
theorem idx_at{l:List Q5}(h:∀i∈l,okI i):∀x∈l,x.fAt.length≤140737488351232:=fun x hx=>by have:=(h x hx).2.1;omega
theorem PY(l:List Q5)(hl:l.length≤140737488351232)(ha:∀y∈l,y.fAt.length≤140737488351232):wp (VT l) (fun _=>True):=by
 have L7:∀(y:Q5) (k:Int),ix l k=some y→y.fAt.length≤140737488351232→∀(a i:Int),0≤i→i≤(y.fAt.length:Nat)→wp (XL l a k i) (fun _=>True):=fun y k hk hy a i i0 i1=>by
  refine HI (F:=fun a i=>XL l a k i) (y.fAt.length) ?_ ?_ i a i0 i1
  ·intro a;rw[XL];simp only[bS,hk,Int.lt_irrefl,if_false];exact⟨_,rfl,trivial⟩
  ·intro i a h0 h1 ih;rw[XL];obtain⟨z,hz,_⟩:=AS h0 h1;simp only[bS,hk,if_pos h1,hz,YU h0 h1 (by omega)]
   exact ih _
 have L3:∀(a i:Int),0≤i→i≤(l.length:Nat)→wp (XK l a i) (fun _=>True):=fun a i i0 i1=>by
  refine HI (F:=fun a i=>XK l a i) (l.length) ?_ ?_ i a i0 i1
  ·intro a;rw[XK];simp only[bS,Int.lt_irrefl,if_false];exact⟨_,rfl,trivial⟩
  ·intro i a h0 h1 ih;rw[XK];obtain⟨z,hz,hm⟩:=AS h0 h1;simp only[bS,if_pos h1,hz,YU h0 h1 (by omega)]
   obtain⟨v,hv,_⟩:=L7 z i hz (ha z hm) (wr (a+ ↑z.fm.fL.length)) 0 (Int.le_refl _) (by omega)
   rw[hv];exact ih _
 unfold VT;simp only[bS];obtain⟨v,hv,_⟩:=L3 l.length 0 (Int.le_refl _) (by omega)
 rw[hv];exact⟨_,rfl,trivial⟩
theorem t_nodes:∀e:Qc,okE e→∀m,wp (Vc e.f m) (fun _=>True):=Qc.ind fun x ih hx m=>by
 obtain⟨e3,e4,e5,e6,e7⟩:=hx.of;have L3:∀(a i:Int),0≤i→i≤(x.fe.length:Nat)→wp (Yu m x a i) (fun _=>True):=fun a i i0 i1=>by
  refine HI (F:=fun a i=>Yu m x a i) (x.fe.length) ?_ ?_ i a i0 i1
  ·intro a;rw[Yu];simp only[bS,Int.lt_irrefl,if_false,cqk];exact⟨_,rfl,trivial⟩
  ·intro i a h0 h1 a6;rw[Yu];obtain⟨z,hz,hm⟩:=AS h0 h1;have hw:=YU h0 h1 (by omega)
   simp only[bS,if_pos h1];by_cases h5:a≤m
   ·simp only[if_pos h5,bS,if_true,hz,hw,Option.map_some];obtain⟨v,hv,_⟩:=ih z hm (e7 z hm) (wr (m - a));rw[hv];exact a6 _
   ·simp only[if_neg h5,bS,cqk,if_false];exact⟨_,rfl,trivial⟩
 simp only[Qc.f_mk];rw[Vc];obtain⟨v,hv,_⟩:=PY x.fg (by omega) (idx_at e5)
 rw[hv];simp only[bS];obtain⟨v',a5,_⟩:=L3 (wr (wr (1+(↑(List.map Q7 x.fm.fL).length:Int))+v)) 0 (Int.le_refl _) (by omega)
 rw[a5];exact⟨_,rfl,trivial⟩
theorem Fg(l:List Q0)(hl:l.length≤140737488351232)(hx:∀a∈l,okS a)(ih:∀a∈l,∀m,wp (Ke a.f.fd m) (fun _=>True))(m:Int):wp (Ke l m) (fun _=>True):=by
 have L3:∀(a i:Int),0≤i→i≤(l.length:Nat)→wp (Yv l m a i) (fun _=>True):=fun a i i0 i1=>by
  refine HI (F:=fun a i=>Yv l m a i) (l.length) ?_ ?_ i a i0 i1
  ·intro a;rw[Yv];simp only[bS,Int.lt_irrefl,if_false,cqk];exact⟨_,rfl,trivial⟩
  ·intro i a h0 h1 a8;rw[Yv];obtain⟨z,hz,hm⟩:=AS h0 h1;have hw:=YU h0 h1 (by omega)
   have a3:=hx z hm;rw[← Q0.mk_f z] at a3;obtain⟨s3,s4,s2,s5⟩:=a3.of;simp only[bS,if_pos h1];by_cases h5:a≤m
   ·simp only[if_pos h5,bS,if_true,hz,hw,Option.map_some];obtain⟨v,hv,_⟩:=t_nodes (.mk z.f.fo) s2 (wr (m - a));simp only[Qc.f_mk] at hv;rw[hv];simp only[bS];obtain⟨v2,a6,_⟩:=PY z.f.fg (by omega) (idx_at s4)
    rw[a6];simp only[bS];obtain⟨v3,a7,_⟩:=ih z hm (max 0 (wr (m - a)));rw[a7];exact a8 _
   ·simp only[if_neg h5,bS,cqk,if_false];exact⟨_,rfl,trivial⟩
 rw[Ke];simp only[bS];obtain⟨v,hv,_⟩:=L3 l.length 0 (Int.le_refl _) (by omega)
 rw[hv];exact⟨_,rfl,trivial⟩
theorem Qa3:∀e:Q0,okS e→∀m,wp (Ke e.f.fd m) (fun _=>True):=Q0.ind fun x ih hx m=>by
 rw[Q0.f_mk];obtain⟨s3,s4,s2,s5,s7⟩:=hx.of;exact Fg x.fd (by omega) s7 (fun a ha=>ih a ha (s7 a ha)) m
def idf(l:gLin):gLin×Int:=(l,0)
theorem mI_id(x:Q5):mI idf x=(x,0):=by
 unfold mI;rw[if_neg (by simp[idf]),Mz (g:=idf) fun _ _=>rfl,if_neg (by simp)];rfl
theorem mE_id:∀e,mE idf e=(e,0):=Qc.ind fun x ih=>by
 rw[B6,Mz ih];unfold mE1;rw[if_neg (by simp[idf]),Mz fun y _=>mI_id y,if_neg (by simp),if_neg (by simp)];rfl
theorem mS_id:∀e,mSt idf e=(e,0):=Q0.ind fun x ih=>by
 rw[B7,Mz ih];unfold mS1;rw[Mz fun y _=>mI_id y,mE_id,if_neg (by simp),if_neg (by simp),if_neg (by simp)];rfl
theorem s_copy1(l:gLin)(h:okL l):QM l=some (idf l):=by
 unfold QM Uv Vk;have:=h.2.1;rw[if_pos ⟨by omega,by omega⟩];rfl
theorem s_Copy(l:List Q0)(hw:okSs l):Uu (Qp.mk [] l)=some (Qp.mk [] l):=by
 unfold Uu Jl;rw[Q9s (f:=idf) s_copy1 l hw,Mz fun y _=>mS_id y,bS,bS,bS,bS,KS,if_neg (by simp)];rfl
theorem k_sbL(n:Str)(v:Int)(l:gLin)(hl:okL l)(h:(sbL n v l).2=0):okL (sbL n v l).1:=by
 unfold sbL at h ⊢;split at h
 ·rename_i c1;rw[if_pos c1];split at h;·rename_i c2;rw[if_pos c2];exact hl
  ·rename_i c2;rw[if_neg c2];split at h
   ·rename_i c3;rw[if_pos c3];exact SZ n _ c3.2 hl
   ·exact absurd h (by decide)
 ·exact absurd h (by decide)
section
variable {f : gLin → gLin × Int}
theorem k_mI(hf:∀l,okL l→(f l).2=0→okL (f l).1)(x:Q5)(hx:okI x)(h:(mI f x).2=0):okI (mI f x).1:=by
 obtain⟨h1,h2,h3⟩:=hx;unfold mI at h ⊢;split at h;·rename_i c;exact absurd h c
 ·rename_i c1;rw[if_neg c1];split at h;·rename_i c;exact absurd h c
  ·rename_i c2;rw[if_neg c2];obtain⟨l1,l2⟩:=Ng (Q:=okL) x.fAt (fun l hl=>hf l (h3 l hl)) (by simpa using c2)
   exact⟨hf _ h1 (by simpa using c1),by rw[l1];exact h2,l2⟩
theorem k_mE(hf:∀l,okL l→(f l).2=0→okL (f l).1):∀e,okE e→(mE f e).2=0→okE (mE f e).1:=Qc.ind fun x ih hx h=>by
 obtain⟨k1,k2,k3,k4,k5⟩:=hx.of;rw[B6] at h ⊢;unfold mE1 at h ⊢;split at h;·rename_i c;exact absurd h c
 ·rename_i c1;rw[if_neg c1];split at h;·rename_i c;exact absurd h c
  ·rename_i c2;rw[if_neg c2];split at h;·rename_i c;exact absurd h c
   ·rename_i c3;rw[if_neg c3];obtain⟨l1,l2⟩:=Ng (Q:=okI) x.fg (fun l hl=>k_mI hf l (k3 l hl)) (by simpa using c2)
    obtain⟨l3,l4⟩:=Ng (Q:=okE) x.fe (fun l hl=>ih l hl (k5 l hl)) (by simpa using c3)
    exact .mk _ (hf _ k1 (by simpa using c1)) (by rw[l1];exact k2) l2 (by rw[l3];exact k4) l4
theorem k_mS(hf:∀l,okL l→(f l).2=0→okL (f l).1):∀e,okS e→(mSt f e).2=0→okS (mSt f e).1:=Q0.ind fun x ih hx h=>by
 obtain⟨k1,k2,k3,k4,k5⟩:=hx.of;rw[B7] at h ⊢;unfold mS1 at h ⊢;split at h;·rename_i c;exact absurd h c
 ·rename_i c1;rw[if_neg c1];split at h;·rename_i c;exact absurd h c
  ·rename_i c2;rw[if_neg c2];split at h;·rename_i c;exact absurd h c
   ·rename_i c3;rw[if_neg c3];obtain⟨l1,l2⟩:=Ng (Q:=okI) x.fg (fun l hl=>k_mI hf l (k2 l hl)) (by simpa using c1)
    have h2:=k_mE hf (.mk x.fo) k3 (by simpa using c2)
    obtain⟨l3,l4⟩:=Ng (Q:=okS) x.fd (fun l hl=>ih l hl (k5 l hl)) (by simpa using c3)
    exact .mk _ (by rw[l1];exact k1) l2 (by rw[Qc.mk_f];exact h2) (by rw[l3];exact k4) l4
end
def cc:List Qg→List Q0→List Q0×Int
 | [],l=>(l,0)
 |b::t,l=>if(mapE (mSt (sbL b.fc b.fp)) l).2≠0 then([],(mapE (mSt (sbL b.fc b.fp)) l).2) else cc t (mapE (mSt (sbL b.fc b.fp)) l).1
theorem k_step(b:Qg)(l:List Q0)(hw:okSs l)(h:(mapE (mSt (sbL b.fc b.fp)) l).2=0):okSs (mapE (mSt (sbL b.fc b.fp)) l).1∧(mapE (mSt (sbL b.fc b.fp)) l).1.length=l.length:=by
 obtain⟨l1,l2⟩:=Ng (Q:=okS) l (fun s hs=>k_mS (fun l hl=>k_sbL b.fc b.fp l hl) s (hw.2 s hs)) h
 exact⟨⟨by rw[l1];exact hw.1,l2⟩,l1⟩
theorem cc_w(bs:List Qg):∀(l:List Q0),okSs l→(cc bs l).2=0→okSs (cc bs l).1∧(cc bs l).1.length=l.length:=by
 induction bs with
 |nil=>
  intro l hw _;have e:cc [] l=(l,0):=rfl;rw[e];exact⟨hw,rfl⟩
 |cons b t ih=>
  intro l hw h;by_cases h0:(mapE (mSt (sbL b.fc b.fp)) l).2=0
  ·have e:cc (b::t) l=cc t (mapE (mSt (sbL b.fc b.fp)) l).1:=by rw[cc,if_neg (by simpa using h0)]
   rw[e] at h ⊢;obtain⟨h1,h2⟩:=k_step b l hw h0;have:=ih _ h1 h;exact⟨this.1,by rw[this.2,h2]⟩
  ·have e:cc (b::t) l=([],(mapE (mSt (sbL b.fc b.fp)) l).2):=by rw[cc,if_pos h0]
   rw[e] at h;exact absurd h h0
def okB(b:Qg):Prop:=fits b.fp
theorem s_step(b:Qg)(hb:okB b)(l:List Q0)(hw:okSs l):KT l b.fc ⟨b.fp,[]⟩=some (mapE (mSt (sbL b.fc b.fp)) l):=by
 unfold KT;rw[Q9v (f:=sbL b.fc b.fp) (p:=(b.fc,(⟨b.fp,[]⟩:gLin))) (fun l hl=>by
  unfold QP;rw[Aa _ _ l hl hb];rfl) l hw];rfl
theorem Ab(x:Qf)(bs:List Qg)(hx:okS (.mk x))(hl:bs.length≤140737488351232)(hb:∀b∈bs,okB b):
  Vx x bs=(if(cc bs [.mk x]).2=0 then(Option.map Q0.f (ix (cc bs [.mk x]).1 0)>>=fun v=>some (v,0)) else some (zS,(cc bs [.mk x]).2)):=by
 have hw:okSs [.mk x]:=⟨by simp,fun a ha=>by simp at ha;subst ha;exact hx⟩
 unfold Vx;rw[bS,s_Copy _ hw,bS,bS,bS];have loop:∀(t p:List Qg) (l:List Q0),bs=p++t→okSs l→Xs zS l bs bs.length p.length=some (if(cc t l).2=0 then .inl (zS,(cc t l).1) else .inr (zS,(cc t l).2)):=by
  intro t
  induction t with
  |nil=>intro p l e hw;rw[Xs,if_neg (by rw[e];simp)];rfl
  |cons b t ih=>
   intro p l e hw;have a3:(p.length:Int)< (bs.length:Int):=by rw[e];simp;omega
   rw[Xs,if_pos a3,Vo e,bS];rw[show ML b.fp=some ⟨b.fp,[]⟩ from rfl,bS,s_step b (hb b (by rw[e];simp)) l hw,bS]
   by_cases h:(mapE (mSt (sbL b.fc b.fp)) l).2=0
   ·have a7:=(k_step b l hw h).1;have a5:=ih (p++[b]) (mapE (mSt (sbL b.fc b.fp)) l).1 (by rw[e];simp) a7
    rw[show((p++[b]).length:Int)=(p.length:Int)+1 by simp] at a5
    have ec:cc (b::t) l=cc t (mapE (mSt (sbL b.fc b.fp)) l).1:=by rw[cc,if_neg (by simpa using h)]
    rw[if_neg (by simp[h]),YU (by omega) a3 (by omega),a5,ec]
   ·have ec:cc (b::t) l=([],(mapE (mSt (sbL b.fc b.fp)) l).2):=by rw[cc,if_pos h]
    rw[if_pos (by simpa using h),ec,if_neg h];rfl
 have:=loop bs [] [.mk x] rfl hw;show(Xs zS [.mk x] bs bs.length (([]:List Qg).length:Int)>>=_)=_;rw[this,bS];by_cases h:(cc bs [.mk x]).2=0;·rw[if_pos h,if_pos h]
 ·rw[if_neg h,if_neg h]
def sta:Qc→Bool
 | .mk x=>(x.fOp !=3)&& (x.fe.attach.map fun a=>sta a.1).all id
 termination_by e=>SizeOf.sizeOf e
 decreasing_by exact Qc.lt a.2
theorem sta_mk(x:Q3):sta (.mk x)=((x.fOp !=3)&&x.fe.all sta):=by
 rw[sta];simp
theorem Po:∀e,okE e→KV e.f=some (sta e):=Qc.ind fun x ih hw=>by
 obtain⟨k1,k2,k3,k4,k5⟩:=hw.of;rw[Qc.f_mk,KV,sta_mk];by_cases h:x.fOp=3;·rw[if_pos (by simpa using h)];simp[h]
 ·rw[if_neg (by simpa using h),bS,bS]
  have L4:X8 x.fe x.fe.length 0=some (if x.fe.all sta then .inl () else .inr false):=by
   refine My (F:=fun(_:Unit) i=>X8 x.fe x.fe.length i) (l:=x.fe) (fun _ _=>True) (fun _ t=>if t.all sta then .inl () else .inr false) ?_ ?_ () trivial
   ·intro _ _;show X8 x.fe x.fe.length (x.fe.length:Int)=_;rw[X8,if_neg (by omega)];rfl
   ·intro i y t _ h0 h1 hm a3 _ a4;show X8 x.fe x.fe.length i=_;rw[X8,if_pos h1,a3,omS,bS,ih y hm (k5 y hm),bS,YU h0 h1 (by omega),List.all_cons]
    cases sta y with
    |true=>rw[Cv,Bool.true_and];exact a4 () trivial
    |false=>rfl
  rw[L4,bS];have:(x.fOp !=3)=true:=by simpa using h
  rw[this,Bool.true_and];cases x.fe.all sta<;>rfl
end Go.Proofs.YtkgphhemcglgnaaGreatDoor
noncomputable section
namespace Go.Proofs.YtkgphhemcglgnaaGreatDoor
open Go HY
set_option maxRecDepth 1000000
def G3(x0:Int)(x1:Int):Option Bool:=
 if x0==13 then
 some (decide (x1<0))
 else
 if x0==14 then
 some (decide (x1≤0))
 else
 some (x1==0)
theorem FN(x0 x1 r)(h:G3 x0 x1=some r):PU 236 [eI x0,eI x1] (eB r):=
 Pu4 (hs:=[(7,.split),(11,.split)]) (G3.eq_1 x0 x1) h
@[reducible,instance] def Qbi x0 x1:=Lw.mk (FN x0 x1)
def JK(x0:Int)(x1:Int):Option Int:=
 if x0<x1 then
 some (-1:Int)
 else
 if x1<x0 then
 some (1:Int)
 else
 some (0:Int)
theorem Bq(x0 x1 r)(h:JK x0 x1=some r):PU 345 [eI x0,eI x1] (eI r):=
 Pu4 (hs:=[(8,.split),(12,.split)]) (JK.eq_1 x0 x1) h
@[reducible,instance] def i_frac_order x0 x1:=Lw.mk (Bq x0 x1)
abbrev CN(s:(gVal×gVal))(u:Unit)(o:Bool):List Alt:=jb o (fun b=>[.ptr 0 0 0,.ptr 1 0 0,.bool b]) [.cells 0 (Qd (s.1)).cells,.cells 0 (Qd (s.2)).cells]
def G5(x0:gVal)(x1:gVal):Option Int:=
 some ()>>=fun v0=>
 (Zz x0>>=fun v2=>if v2 then
 Zz x1>>=fun v3=>if v3 then
 some true
 else
 some false
 else
 some false)>>=fun v1=>if v1 then
 JK (wr (x0.fN*x1.fD)) (wr (x1.fN*x0.fD))>>=fun v5=>
 some v5
 else
 JK x0.fN x1.fN>>=fun v7=>
 if v7 !=0 then
 some v7
 else
 JK x0.fD x1.fD>>=fun v8=>
 some v8
theorem FS(x0 x1 r)(h:G5 x0 x1=some r):PU 287 [Qd x0,Qd x1] (eI r):=
 Pu4 (hs:=[(7,.cb),(10,.cb),(22,.c eI),(27,.c eI),(29,.split),(35,.c eI),(5000001,.l [] [] [] [2,3,11] [kk 2,kk 3] (CN (x0,x1)))]) (G5.eq_1 x0 x1) h (q:=qB (CN (x0,x1)))
@[reducible,instance] def Qbn x0 x1:=Lw.mk (FS x0 x1)
abbrev DN(s:(Qb×gVal×gVal))(u:Unit)(o:Bool):List Alt:=jb o (fun b=>[.ptr 0 0 0,.ptr 1 0 0,.ptr 2 0 0,.bool b]) [.cells 0 (Qm (s.1)).cells,.cells 0 (Qd (s.2.1)).cells,.cells 0 (Qd (s.2.2)).cells]
def VV(x0:Qb)(x1:gVal)(x2:gVal):Option Int:=
 some ()>>=fun v0=>
 (Y6 x0 x1>>=fun v2=>if v2 then
 Y6 x0 x2>>=fun v3=>if v3 then
 some false
 else
 some true
 else
 some true)>>=fun v1=>if v1 then
 some (0:Int)
 else
 if x0.fx==1 then
 G5 x1 x2>>=fun v6=>
 some v6
 else
 if x1.fN<x2.fN then
 some (-1:Int)
 else
 if x2.fN<x1.fN then
 some (1:Int)
 else
 some (0:Int)
theorem AE(x0 x1 x2 r)(h:VV x0 x1 x2=some r):PU 237 [Qm x0,Qd x1,Qd x2] (eI r):=
 Pu4 (hs:=[(10,.cb),(15,.cb),(21,.split),(24,.c eI),(30,.split),(36,.split),(5000001,.l [] [] [] [3,4,5,7] [kk 3,kk 4,kk 5] (DN (x0,x1,x2)))]) (VV.eq_1 x0 x1 x2) h (q:=qB (DN (x0,x1,x2)))
@[reducible,instance] def Qbg x0 x1 x2:=Lw.mk (AE x0 x1 x2)
def Gc(r:QT):AV:=.tup []
def G1(r:QT):List Box:=[.cells 0 (VE r).cells]
abbrev CQ(s:Unit)(u:QT)(o:(Int×Int×Int)):List Alt:=[⟨fun(x:(Int×Int×Int))=>x=o,.normal,fun x=>[.ptr 0 0 0,.int .u64 (x.1),.int .u64 (x.2.1),.int .u64 (x.2.2)],fun x=>[.cells 0 (VE u).cells]⟩]
abbrev CR(s:Unit)(u:(QT×Int×Int))(o:Int):List Alt:=[⟨fun(x:Int)=>x=o,.normal,fun x=>[.ptr 0 0 0,.int .u64 (u.2.1),.int .u64 (u.2.2),.int .u64 x],fun x=>[.cells 0 (VE (u.1)).cells]⟩]
abbrev CS(s:Unit)(u:(QT×Int×Int×Int))(o:Int):List Alt:=[⟨fun(x:Int)=>x=o,.normal,fun x=>[.ptr 0 0 0,.int .u64 (u.2.1),.int .u64 (u.2.2.1),.int .u64 (u.2.2.2),.int .u64 x],fun x=>[.cells 0 (VE (u.1)).cells]⟩]
abbrev CT(s:Unit)(u:(QT×Int))(o:Int):List Alt:=[⟨fun(x:Int)=>x=o,.normal,fun x=>[.ptr 0 0 0,.int .u64 (u.2),.int .u64 x],fun x=>[.cells 0 (VE (u.1)).cells]⟩]
def Jy(x0:QT)(x1:Int)(x2:Int)(x3:Bool):Option QT:=
 some x0>>=fun v0=>
 (if x3 then
 if w6 (w6 (↑(BitVec.ofInt (64:Nat) (if false=true then(-1:Int) else IntKind.u64.max)^^^BitVec.ofInt (64:Nat) x2).toNat:Int)+1)==0 then
 if w6 (w6 (↑(BitVec.ofInt (64:Nat) (if false=true then(-1:Int) else IntKind.u64.max)^^^BitVec.ofInt (64:Nat) x1).toNat:Int)+1)==0 then
 some ((w6 (w6 (↑(BitVec.ofInt (64:Nat) (if false=true then(-1:Int) else IntKind.u64.max)^^^BitVec.ofInt (64:Nat) x1).toNat:Int)+1)),(w6 (w6 (↑(BitVec.ofInt (64:Nat) (if false=true then(-1:Int) else IntKind.u64.max)^^^BitVec.ofInt (64:Nat) x2).toNat:Int)+1)),(w6 (w6 (↑(18446744073709551615:Nat):Int)+1)))
 else
 some ((w6 (w6 (↑(BitVec.ofInt (64:Nat) (if false=true then(-1:Int) else IntKind.u64.max)^^^BitVec.ofInt (64:Nat) x1).toNat:Int)+1)),(w6 (w6 (↑(BitVec.ofInt (64:Nat) (if false=true then(-1:Int) else IntKind.u64.max)^^^BitVec.ofInt (64:Nat) x2).toNat:Int)+1)),(w6 (↑(18446744073709551615:Nat):Int)))
 else
 some ((w6 (↑(BitVec.ofInt (64:Nat) (if false=true then(-1:Int) else IntKind.u64.max)^^^BitVec.ofInt (64:Nat) x1).toNat:Int)),(w6 (w6 (↑(BitVec.ofInt (64:Nat) (if false=true then(-1:Int) else IntKind.u64.max)^^^BitVec.ofInt (64:Nat) x2).toNat:Int)+1)),(w6 (↑(18446744073709551615:Nat):Int)))
 else
 some (x1,x2,(0:Int)))>>=fun v2=>
 some ((QT.mk v0.fR v0.fT (w6 (v0.fS+v2.snd.fst))),v2.fst,v2.snd.snd)>>=fun v3=>
 (if w6 (v0.fS+v2.snd.fst)<v2.snd.fst then
 some (1:Int)
 else
 some (0:Int))>>=fun v5=>
 some (w6 (v3.fst.fT+v3.snd.fst):Int)>>=fun v6=>
 some (v3.fst,v3.snd.snd,v5,v6)>>=fun v7=>
 (if v6<v3.snd.fst then
 some (1:Int)
 else
 some (0:Int))>>=fun v9=>
 some ((QT.mk v7.fst.fR (w6 (v7.snd.snd.snd+v7.snd.snd.fst)) v7.fst.fS),v7.snd.fst)>>=fun a3=>
 (if w6 (v7.snd.snd.snd+v7.snd.snd.fst)<v7.snd.snd.snd then
 some (w6 (v9+1))
 else
 some v9)>>=fun aa=>
 some (QT.mk (w6 (a3.fst.fR+w6 (a3.snd+aa))) a3.fst.fT a3.fst.fS)
theorem Hu(x0 x1 x2 x3 r)(h:Jy x0 x1 x2 x3=some r):PH 288 [.ptr 0 0 0,eU64 x1,eU64 x2,eB x3] [.cells 0 (VE x0).cells] (Gc r) (G1 r):=
 PuH4 (hs:=[(12,.split),(22,.split),(26,.split),(42,.split),(10,.n eU64 10 none),(51,.split),(63,.split),(6000003,.l [] [] [] [0,1,2,8] [kk 0] (CQ ())),(6000012,.l [] [] [] [0,1,8,9] [kk 0] (CR ())),(6000016,.l [] [] [] [0,8,9,10,11] [kk 0] (CS ())),(6000019,.l [] [] [] [0,8,11] [kk 0] (CT ()))]) (kb:=[kk 1]) (Jy.eq_1 x0 x1 x2 x3) h (q:=qJ (CQ ()) (hA:=fun v0 v2=>qJ (CR ()) (hA:=fun v3 v5=>qN (hA:=fun v6=>qJ (CS ()) (hA:=fun v7 v9=>qJ (CT ()))))))
def NO(x0:Qg)(x1:Qo):Option Bool:=
 some (x0.fc==x1.fc)
theorem Br(x0 x1 r)(h:NO x0 x1=some r):PU 290 [Qe x0,.ip 2 [.agg [.str x1.fc,ii x1.fBy]] 0 0] (eB r):=
 Pu4 (hs:=[]) (NO.eq_1 x0 x1) h
@[reducible,instance] def i_lin_Eval_1 x0 x1:=Lw.mk (Br x0 x1)
abbrev YM(s:((List Qg)×Qo))(u:Int)(o:Unit ⊕ Int):List Alt:=[⟨fun(x:Unit)=>(Sum.inl x:Unit ⊕ Int)=o,.exit 0,fun x=>[.undef],fun x=>[]⟩,⟨fun(x:Int)=>(Sum.inr x:Unit ⊕ Int)=o,.ret,fun x=>[ii x],fun x=>[]⟩]
def QK(x0:List Qg)(x1:Qo)(x7:Int)(x8:Int):Option (Unit ⊕ Int):=
 if x8<x7 then
 ix x0 x8>>=fun v0=>
 NO v0 x1>>=fun v1=>if v1 then
 some (.inr x8)
 else
 QK x0 x1 x7 (wr (x8+1))
 else
 some (.inl ())
 partial_fixpoint
theorem Do(x0 x1 x7 x8 o)(h:QK x0 x1 x7 x8=some o):LO 289 2 19 [0,1,7,8] [.sl 2 (List.map Qe x0),.fn 290 [.ip 2 [.agg [.str x1.fc,ii x1.fBy]] 0 0],ii x7,ii x8] [] [4] (YM (x0,x1) x7 o):=
 QK.partial_correctness x0 x1 x7 (fun x8 o=>LO 289 2 19 [0,1,7,8] [.sl 2 (List.map Qe x0),.fn 290 [.ip 2 [.agg [.str x1.fc,ii x1.fBy]] 0 0],ii x7,ii x8] [] [4] (YM (x0,x1) x7 o))
 (fun QK Qee x8 o h=>
 have i0 a:=Ll.mk (Qee a);Lp4 (hs:=[(9,.split),(14,.e Qe),(16,.cb)]) (kb:=[]) (kbx:=[]) rfl h) x8 o h
@[reducible,instance] def R3 x0 x1 x7 x8:=Ll.mk (Do x0 x1 x7 x8)
def ZW(x0:List Qg)(x1:Qo):Option Int:=
 some (List.length x0:Int)>>=fun v0=>
 some v0>>=fun v1=>
 QK x0 x1 v0 0>>=fun v2=>(match v2 with
 | (.inl v3)=>
 some (-1:Int)
 | (.inr v4)=>
 some v4)
theorem Cp(x0 x1 r)(h:ZW x0 x1=some r):PU 289 [Z3 x0,.fn 290 [.ip 2 [.agg [.str x1.fc,ii x1.fBy]] 0 0]] (eI r):=
 Pu4 (hs:=[(7,.n eI 7 none),(3000003,.l [] [0,1,7,8] [] [4] [] (YM (x0,x1)))]) (ZW.eq_1 x0 x1) h
@[reducible,instance] def Td x0 x1:=Lw.mk (Cp x0 x1)
def J9(x0:QT):Option (Int×Bool):=
 some (wr x0.fS:Int)>>=fun v0=>
 if(0:Int)≤63 then
 some (w6 (v0.fdiv ((2:Int)^ (63:Nat))):Int)>>=fun v1=>
 if x0.fT==v1 then
 some (v0,(x0.fR==v1))
 else
 some (v0,false)
 else none
theorem TQ(x0 r)(h:J9 x0=some r):PU 291 [.ip 3 [.agg [.int .u64 x0.fR,.int .u64 x0.fT,.int .u64 x0.fS]] 0 0] (Wz r):=
 Pu4 (hs:=[(4,.n eI 4 none),(12,.s),(5,.n eU64 5 none),(20,.split)]) (J9.eq_1 x0) h
@[reducible,instance] def Q8d x0:=Lw.mk (TQ x0)
abbrev Ln(s:List Qg)(u:((List Qo)×Int))(o:QT ⊕ (Int×Int×QT)):List Alt:=[⟨fun(x:QT)=>(Sum.inl x:QT ⊕ (Int×Int×QT))=o,.exit 0,fun x=>[.undef,.undef,.ptr 0 0 0],fun x=>[.cells 0 (VE x).cells]⟩,⟨fun(x:(Int×Int×QT))=>(Sum.inr x:QT ⊕ (Int×Int×QT))=o,.ret,fun x=>[ii x.1,ii x.2.1,.ptr 0 0 0],fun x=>[.cells 0 (VE x.2.2).cells]⟩]
def KJ(x1:List Qg)(x6:QT)(a4:List Qo)(a5:Int)(a3:Int):Option (QT ⊕ (Int×Int×QT)):=
 if a3<a5 then
 ix a4 a3>>=fun v0=>
 ZW x1 v0>>=fun v1=>
 if v1<0 then
 some (.inr ((0:Int),(9:Int),x6))
 else
 ix x1 v1>>=fun v2=>
 YR v0.fBy>>=fun v3=>
 YR v2.fp>>=fun v4=>
 Ud v3 v4>>=fun v5=>
 Jy x6 v5.fst v5.snd (!decide (v0.fBy<0)==decide (v2.fp<0))>>=fun v6=>
 KJ x1 v6 a4 a5 (wr (a3+1))
 else
 some (.inl x6)
 partial_fixpoint
theorem OA(x1 x6 x26 x27 a3 o)(h:KJ x1 x6 x26 x27 a3=some o):LO 238 6 68 [1,6,26,27,28] [.sl 2 (List.map Qe x1),.ptr 0 0 0,.sl 2 (List.map Q7 x26),ii x27,ii a3] [.cells 0 (VE x6).cells] [4,5,6] (Ln x1 (x26,x27) o):=
 KJ.partial_correctness x1 x26 x27 (fun x6 a3 o=>LO 238 6 68 [1,6,26,27,28] [.sl 2 (List.map Qe x1),.ptr 0 0 0,.sl 2 (List.map Q7 x26),ii x27,ii a3] [.cells 0 (VE x6).cells] [4,5,6] (Ln x1 (x26,x27) o))
 (fun KJ Qd2 x6 a3 o h=>
 have i0 a b:=Ll.mk (Qd2 a b);Lp4 (hs:=[(29,.split),(30,.e Q7),(33,.z [{slot:=8,fz:=true}] none),(34,.c eI),(36,.split),(39,.e Qe),(45,.c eU64),(47,.c eU64),(48,.c Ef),(59,.h [kk 0] Gc G1)]) (kb:=[kk 6]) (kbx:=[kk 6]) rfl h (q:=qD (hA:=qIx (hA:=fun v0=>qC (hA:=fun v1=>qD (hB:=qIx (hA:=fun v2=>qC (hA:=fun v3=>qC (hA:=fun v4=>qC (hA:=fun v5=>qH (sh:=Gc) (bt:=G1) (Hu x6 v5.fst v5.snd (!decide (v0.fBy<0)==decide (v2.fp<0))))))))))))) x6 a3 o h
@[reducible,instance] def Qcc x1 x6 x26 x27 x28:=Ll.mk (OA x1 x6 x26 x27 x28)
def NN(x0:gLin)(x1:List Qg):Option (Int×Int):=
 Y8 x0>>=fun v0=>
 if v0 !=0 then
 some ((0:Int),(1:Int))
 else
 YR x0.fK>>=fun v1=>
 Jy (QT.mk (0:Int) (0:Int) (0:Int)) (0:Int) v1 (decide (x0.fK<0))>>=fun v2=>
 some (List.length x0.fL:Int)>>=fun v3=>
 some (x0.fL,v3)>>=fun v4=>
 KJ x1 v2 x0.fL v3 0>>=fun v5=>(match v5 with
 | (.inl v6)=>
 J9 v6>>=fun v7=>
 if v7.snd then
 some (v7.fst,(0:Int))
 else
 some ((0:Int),(3:Int))
 | (.inr v8)=>
 some (v8.fst,v8.snd.fst))
theorem Q4w(x0 x1 r)(h:NN x0 x1=some r):PU 238 [Qi x0,Z3 x1] (Vn r):=
 Pu4 (hs:=[(16,.c eI),(17,.split),(20,.c eU64),(24,.h [kk 0] Gc G1),(27,.n eI 27 none),(62,.c Wz),(65,.split),(3000007,.l [] [1,6,26,27,28] [kk 6] [4,5,6] [kk 6] (Ln x1))]) (NN.eq_1 x0 x1) h (q:=qC (hA:=fun v0=>qIf (hB:=qC (hA:=fun v1=>qH (sh:=Gc) (bt:=G1) (Hu (QT.mk (0:Int) (0:Int) (0:Int)) (0:Int) v1 (decide (x0.fK<0)))))))
@[reducible,instance] def i_lin_Eval x0 x1:=Lw.mk (Q4w x0 x1)
end Go.Proofs.YtkgphhemcglgnaaGreatDoor
