/- Proved here: for every input the law BuffersRemoveUnused returns true, and its arguments read afterwards as they read before. Condition: none beyond the statement's own. -/
import Derived.Test.YtkgphhemcglgnaaGreatDoorP7
import Derived.HandedShaped
import Derived.Handy
import Derived.Lay
import Derived.ProofKit
import Derived.SevenTiedAt
import Derived.Shelf.Vars
import Derived.Test.YtkgphhemcglgnaaGreatDoorCards
import Derived.Test.YtkgphhemcglgnaaGreatDoorRows
import Derived.Test.YtkgphhemcglgnaaGreatDoorTie
import Derived.WalkKit
set_option linter.unusedVariables false
set_option linter.unusedSimpArgs false
set_option linter.unusedSectionVars false
section
namespace Go.Proofs.YtkgphhemcglgnaaGreatDoor
open Go HY
theorem idx_at{l:List Q7}(h:∀i∈l,okI i):∀x∈l,x.fAt.length≤140737488351232:=fun x hx=>by have:=(h x hx).2.1;omega
theorem Fs(l:List Q7)(hl:l.length≤140737488351232)(ha:∀y∈l,y.fAt.length≤140737488351232):wp (GB l) (fun _=>True):=by
 have L7:∀(y:Q7) (k:Int),ix l k=some y→y.fAt.length≤140737488351232→∀(a i:Int),0≤i→i≤(y.fAt.length:Nat)→wp (Xt l a k i) (fun _=>True):=fun y k hk hy a i i0 i1=>by
  refine Rj (F:=fun a i=>Xt l a k i) (y.fAt.length) ?_ ?_ i a i0 i1
  ·intro a;rw[Xt];simp only[bS,hk,Int.lt_irrefl,if_false];exact⟨_,rfl,trivial⟩
  ·intro i a h0 h1 ih;rw[Xt];obtain⟨z,hz,_⟩:=SG h0 h1;simp only[bS,hk,if_pos h1,hz,QM h0 h1 (by omega)]
   exact ih _
 have L3:∀(a i:Int),0≤i→i≤(l.length:Nat)→wp (Xs l a i) (fun _=>True):=fun a i i0 i1=>by
  refine Rj (F:=fun a i=>Xs l a i) (l.length) ?_ ?_ i a i0 i1
  ·intro a;rw[Xs];simp only[bS,Int.lt_irrefl,if_false];exact⟨_,rfl,trivial⟩
  ·intro i a h0 h1 ih;rw[Xs];obtain⟨z,hz,hm⟩:=SG h0 h1;simp only[bS,if_pos h1,hz,QM h0 h1 (by omega)]
   obtain⟨v,hv,_⟩:=L7 z i hz (ha z hm) (wr (a+ ↑z.fj.fL.length)) 0 (Int.le_refl _) (by omega)
   rw[hv];exact ih _
 unfold GB;simp only[bS];obtain⟨v,hv,_⟩:=L3 l.length 0 (Int.le_refl _) (by omega)
 rw[hv];exact⟨_,rfl,trivial⟩
theorem t_nodes:∀e:Qa,okE e→∀m,wp (VQ e.f m) (fun _=>True):=Qa.ind fun x ih hx m=>by
 obtain⟨e3,e4,e5,e6,e7⟩:=hx.of;have L3:∀(a i:Int),0≤i→i≤(x.ff.length:Nat)→wp (Yw m x a i) (fun _=>True):=fun a i i0 i1=>by
  refine Rj (F:=fun a i=>Yw m x a i) (x.ff.length) ?_ ?_ i a i0 i1
  ·intro a;rw[Yw];simp only[bS,Int.lt_irrefl,if_false,Bool.false_eq_true];exact⟨_,rfl,trivial⟩
  ·intro i a h0 h1 a6;rw[Yw];obtain⟨z,hz,hm⟩:=SG h0 h1;have hw:=QM h0 h1 (by omega)
   simp only[bS,if_pos h1];by_cases h5:a≤m
   ·simp only[if_pos h5,bS,if_true,hz,hw,Option.map_some];obtain⟨v,hv,_⟩:=ih z hm (e7 z hm) (wr (m - a));rw[hv];exact a6 _
   ·simp only[if_neg h5,bS,Bool.false_eq_true,if_false];exact⟨_,rfl,trivial⟩
 simp only[Qa.f_mk];rw[VQ];obtain⟨v,hv,_⟩:=Fs x.fe (by omega) (idx_at e5)
 rw[hv];simp only[bS];obtain⟨v',a5,_⟩:=L3 (wr (wr (1+(↑(List.map Qk x.fj.fL).length:Int))+v)) 0 (Int.le_refl _) (by omega)
 rw[a5];exact⟨_,rfl,trivial⟩
theorem SY(l:List Q0)(hl:l.length≤140737488351232)(hx:∀a∈l,okS a)(ih:∀a∈l,∀m,wp (Kn a.f.fb m) (fun _=>True))(m:Int):wp (Kn l m) (fun _=>True):=by
 have L3:∀(a i:Int),0≤i→i≤(l.length:Nat)→wp (Yx l m a i) (fun _=>True):=fun a i i0 i1=>by
  refine Rj (F:=fun a i=>Yx l m a i) (l.length) ?_ ?_ i a i0 i1
  ·intro a;rw[Yx];simp only[bS,Int.lt_irrefl,if_false,Bool.false_eq_true];exact⟨_,rfl,trivial⟩
  ·intro i a h0 h1 a8;rw[Yx];obtain⟨z,hz,hm⟩:=SG h0 h1;have hw:=QM h0 h1 (by omega)
   have a3:=hx z hm;rw[← Q0.mk_f z] at a3;obtain⟨s3,s4,s2,s5⟩:=a3.of;simp only[bS,if_pos h1];by_cases h5:a≤m
   ·simp only[if_pos h5,bS,if_true,hz,hw,Option.map_some];obtain⟨v,hv,_⟩:=t_nodes (.mk z.f.fg) s2 (wr (m - a));simp only[Qa.f_mk] at hv;rw[hv];simp only[bS];obtain⟨v2,a6,_⟩:=Fs z.f.fe (by omega) (idx_at s4)
    rw[a6];simp only[bS];obtain⟨v3,a7,_⟩:=ih z hm (max 0 (wr (m - a)));rw[a7];exact a8 _
   ·simp only[if_neg h5,bS,Bool.false_eq_true,if_false];exact⟨_,rfl,trivial⟩
 rw[Kn];simp only[bS];obtain⟨v,hv,_⟩:=L3 l.length 0 (Int.le_refl _) (by omega)
 rw[hv];exact⟨_,rfl,trivial⟩
theorem Q68:∀e:Q0,okS e→∀m,wp (Kn e.f.fb m) (fun _=>True):=Q0.ind fun x ih hx m=>by
 rw[Q0.f_mk];obtain⟨s3,s4,s2,s5,s7⟩:=hx.of;exact SY x.fb (by omega) s7 (fun a ha=>ih a ha (s7 a ha)) m
theorem a_Long(n:Q9)(hb:okBs n.fc)(hl:okSs n.fb)(m:Int):wp (Np n m) (fun _=>True):=by
 have a8:=hb.1;have L4:∀(i:Int),0≤i→i≤(n.fc.length:Nat)→wp (K6 n i) (fun _=>True):=by
  refine loopUp0 (F:=fun i=>K6 n i) (n.fc.length) ?_ ?_
  ·rw[K6];simp only[bS,Int.lt_irrefl,if_false];exact⟨_,rfl,trivial⟩
  ·intro i h0 h1 ih;rw[K6];obtain⟨z,hz,hm⟩:=SG h0 h1;simp only[bS,if_pos h1,hz,QM h0 h1 (by omega)]
   by_cases c1:(12:Int)<z.fC.length;·simp only[if_pos c1,bS,if_true];exact⟨_,rfl,trivial⟩
   ·by_cases c2:(100:Int)<z.fa.length;·simp only[if_neg c1,if_pos c2,bS,if_true];exact⟨_,rfl,trivial⟩
    ·simp only[if_neg c1,if_neg c2,bS,Bool.false_eq_true,if_false];exact ih
 unfold Np;simp only[bS];by_cases c:(20:Int)<n.fc.length;·rw[if_pos c];exact⟨_,rfl,trivial⟩
 ·rw[if_neg c];obtain⟨v,hv,_⟩:=L4 0 (Int.le_refl _) (by omega)
  rw[hv];simp only[bS];cases v with
  |inr b=>exact⟨_,rfl,trivial⟩
  |inl u=>
   obtain⟨v2,a5,_⟩:=SY n.fb (by have:=hl.1;omega) hl.2 (fun a ha m=>Q68 a (hl.2 a ha) m) m
   simp only[a5,bS];exact⟨_,rfl,trivial⟩
def idf(l:gLin):gLin×Int:=(l,0)
theorem mI_id(x:Q7):mI idf x=(x,0):=by
 unfold mI;rw[if_neg (by simp[idf]),M1 (g:=idf) fun _ _=>rfl,if_neg (by simp)];rfl
theorem mE_id:∀e,mE idf e=(e,0):=Qa.ind fun x ih=>by
 rw[mE_mk,M1 ih];unfold mE1;rw[if_neg (by simp[idf]),M1 fun y _=>mI_id y,if_neg (by simp),if_neg (by simp)];rfl
theorem mS_id:∀e,mS idf e=(e,0):=Q0.ind fun x ih=>by
 rw[mS_mk,M1 ih];unfold mS1;rw[M1 fun y _=>mI_id y,mE_id,if_neg (by simp),if_neg (by simp),if_neg (by simp)];rfl
theorem s_copy1(l:gLin)(h:okL l):QJ l=some (idf l):=by
 unfold QJ Ch VX;have:=h.2.1;rw[if_pos ⟨by omega,by omega⟩];rfl
theorem Q0o(l:List Q0)(hw:okSs l):UE l=some l:=by
 unfold UE;rw[Q64 (f:=idf) s_copy1 l hw,M1 fun y _=>mS_id y];rfl
theorem s_Copy(n:Q9)(hb:okBs n.fc)(hz:n.fc.length*88≤140737488351232)(hl:okSs n.fb):C3 n=some n:=by
 have L:=Xh (F:=fun a i=>Xp n (Q9.mk a n.fb) n.fc.length i) (l:=n.fc) (fun a t=>a.length+t.length≤n.fc.length) (fun a t=>Q9.mk (a++t) n.fb) (by
  intro a _;rw[Xp];simp) (by
  intro i y t a h0 h1 hm a3 hI ih;simp only[List.length_cons] at hI;rw[Xp,if_pos h1,a3,bS,EO y (hb.2 y hm),bS,if_pos ⟨by show(a.length+1)*88≤_;omega,by show a.length+1≤_;omega⟩,bS,QM h0 h1 (by omega)]
  have:=ih (a++[y]) (by simp;omega)
  rw[show a++y::t=(a++[y])++t by simp]
  exact this) [] (by simp)
 unfold C3;rw[Q0o _ hl];simp only[bS];rw[show Xp n (Q9.mk [] n.fb) (↑n.fc.length) 0=_ from L];rfl
theorem ix_zip{α β:Type}{a:List α}{b:List β}{i:Int}{p:α×β}(h:ix (a.zip b) i=some p):ix a i=some p.1∧ix b i=some p.2:=by
 unfold ix at h ⊢;split at h
 ·rename_i h0;rw[if_pos h0,if_pos h0];rw[List.getElem?_zip_eq_some] at h;exact h
 ·cases h
theorem AY:∀ {a b:List Int},a.length=b.length→((a.zip b).all (fun p=>p.1==p.2)=true↔a=b)
 | [],[],_=>by simp
 | [],_::_,h=>by simp at h
 |_::_,[],h=>by simp at h
 |x::a,y::b,h=>by
  have:=AY (a:=a) (b:=b) (by simpa using h)
  simp only[List.zip_cons_cons,List.all_cons,Bool.and_eq_true,this,beq_iff_eq,List.cons.injEq]
theorem r_Ints(a b:List Int)(hl:a.length≤4611686018427387904):M7 a b=some (decide (a=b)):=by
 unfold M7;simp only[bS];by_cases h:a.length=b.length
 ·have hz:(a.zip b).length=a.length:=by simp[h]
  have hL:Kv a b 0=some (if(a.zip b).all (fun p=>p.1==p.2)=true then .inl () else .inr false):=by
   refine Mz (F:=fun i=>Kv a b i) (l:=a.zip b) (fun q=>if q.all (fun p=>p.1==p.2)=true then .inl () else .inr false) ?_ ?_
   ·rw[Kv];simp[h,bS]
   ·intro i y q h0 h1 a4 ih;rw[hz] at h1;obtain⟨e1,e2⟩:=ix_zip a4;rw[Kv,bS,if_pos h1,e1,bS,e2,bS,QM h0 h1 hl,ih,List.all_cons];cases hb:(y.1==y.2)<;>simp only[bne,hb,Bool.not_true,Bool.not_false,Bool.true_and,Bool.false_and,if_true,if_false,Bool.false_eq_true]
  rw[if_neg (by simp[h]),hL,bS]
  by_cases he:a=b;·rw[if_pos ((AY h).2 he)];simp[he]
  ·rw[if_neg (fun hh=>he ((AY h).1 hh))];simp[he]
 ·rw[if_pos (by simp;omega)]
  have:a≠b:=fun e=>h (by rw[e])
  simp[this]
theorem b_Lin(l:gLin)(hl:l.fL.length*24≤140737488351232):Gy l l=some true:=by
 have L4:Km l l 0=some (.inl ()):=by
  refine Mz (F:=fun i=>Km l l i) (l:=l.fL) (fun _=>.inl ()) ?_ ?_
  ·rw[Km];simp[bS]
  ·intro i y t h0 h1 a3 ih;rw[Km];simp only[bS,if_pos h1,a3,QM h0 h1 (by omega),beq_self_eq_true,Bool.and_self,Bool.not_true,Bool.false_eq_true,if_false]
   exact ih
 unfold Gy;simp only[bS,bne_self_eq_false,Bool.false_eq_true,if_false,L4]
theorem b_Lins(l:List gLin)(hl:l.length*32≤140737488351232)(h:∀x∈l,x.fL.length*24≤140737488351232):M8 l l=some true:=by
 have L4:Y5 l l 0=some (.inl ()):=by
  refine Xh (F:=fun(_:Unit) i=>Y5 l l i) (l:=l) (fun _ _=>True) (fun _ _=>.inl ()) ?_ ?_ () trivial
  ·intro _ _;show Y5 l l (l.length:Int)=_;rw[Y5];simp[bS]
  ·intro i y t _ h0 h1 hm a3 _ ih;show Y5 l l i=_;rw[Y5];simp only[bS,if_pos h1,a3,QM h0 h1 (by omega),b_Lin y (h y hm),if_true]
   exact ih () trivial
 unfold M8;simp only[bS,bne_self_eq_false,Bool.false_eq_true,if_false,L4]
theorem b_Index(x:Q7)(h:okI x):Nd x x=some true:=by
 obtain⟨k1,k2,k3⟩:=h;unfold Nd;simp only[beq_self_eq_true,if_true,b_Lin _ k1.2.1,bS,b_Lins _ k2 fun l hl=>(k3 l hl).2.1]
theorem F0(l:List Q7)(hl:l.length*72≤140737488351232)(h:∀x∈l,okI x):Jd l l=some true:=by
 have L4:ZI l l 0=some (.inl ()):=by
  refine Xh (F:=fun(_:Unit) i=>ZI l l i) (l:=l) (fun _ _=>True) (fun _ _=>.inl ()) ?_ ?_ () trivial
  ·intro _ _;show ZI l l (l.length:Int)=_;rw[ZI];simp[bS]
  ·intro i y t _ h0 h1 hm a3 _ ih;show ZI l l i=_;rw[ZI];simp only[bS,if_pos h1,a3,QM h0 h1 (by omega),b_Index y (h y hm),if_true]
   exact ih () trivial
 unfold Jd;simp only[bS,bne_self_eq_false,Bool.false_eq_true,if_false,L4]
theorem Q2k(l:List Qa)(hl:l.length*160≤140737488351232)(h:∀x∈l,Kl x.f x.f=some true):G3 l l=some true:=by
 have L4:Xa l l 0=some (.inl ()):=by
  refine Xh (F:=fun(_:Unit) i=>Xa l l i) (l:=l) (fun _ _=>True) (fun _ _=>.inl ()) ?_ ?_ () trivial
  ·intro _ _;show Xa l l (l.length:Int)=_;rw[Xa];simp[bS]
  ·intro i y t _ h0 h1 hm a3 _ ih;show Xa l l i=_;rw[Xa];simp only[bS,omS,if_pos h1,a3,QM h0 h1 (by omega),h y hm,if_true]
   exact ih () trivial
 rw[G3];simp only[bS,bne_self_eq_false,Bool.false_eq_true,if_false,L4]
theorem b_Expr:∀e,okE e→Kl e.f e.f=some true:=Qa.ind fun x ih hw=>by
 obtain⟨k1,k2,k3,k4,k5⟩:=hw.of;rw[Qa.f_mk,Kl];simp only[beq_self_eq_true,Bool.and_self,if_true,b_Lin _ k1.2.1,bS,F0 _ k2 k3,Q2k x.ff k4 fun a ha=>ih a ha (k5 a ha)]
theorem Sr(l:List Q0)(hl:l.length*256≤140737488351232)(h:∀x∈l,DR x.f x.f=some true):JM l l=some true:=by
 have L4:Xo l l 0=some (.inl ()):=by
  refine Xh (F:=fun(_:Unit) i=>Xo l l i) (l:=l) (fun _ _=>True) (fun _ _=>.inl ()) ?_ ?_ () trivial
  ·intro _ _;show Xo l l (l.length:Int)=_;rw[Xo];simp[bS]
  ·intro i y t _ h0 h1 hm a3 _ ih;show Xo l l i=_;rw[Xo];simp only[bS,omS,if_pos h1,a3,QM h0 h1 (by omega),h y hm,if_true]
   exact ih () trivial
 rw[JM];simp only[bS,bne_self_eq_false,Bool.false_eq_true,if_false,L4]
theorem b_Stmt:∀e,okS e→DR e.f e.f=some true:=Q0.ind fun x ih hw=>by
 obtain⟨k1,k2,k3,k5,k6⟩:=hw.of;have hE:=b_Expr (.mk x.fg) k3;rw[Qa.f_mk] at hE;rw[Q0.f_mk,DR];simp only[beq_self_eq_true,if_true,bS,F0 _ k1 k2,hE,Sr x.fb k5 fun a ha=>ih a ha (k6 a ha)]
theorem b_Nest(n:Q9)(hb:okBs n.fc)(hl:okSs n.fb):We n n=some true:=by
 have a7:=hb.1;have L:Kw n n 0=some (.inl ()):=by
  refine Mz (F:=fun i=>Kw n n i) (l:=n.fc) (fun _=>.inl ()) ?_ ?_
  ·rw[Kw,bS,if_neg (by omega)]
  ·intro i y t h0 h1 a3 ih;have hm:y∈n.fc:=by
    unfold ix at a3;rw[if_pos h0] at a3;exact List.mem_of_getElem? a3
   rw[Kw,bS,if_pos h1,a3];have:=hb.2 y hm;unfold okBf at this;simp only[bS,r_Ints y.fC y.fC (by omega),beq_self_eq_true,Bool.not_true,Bool.and_true,Bool.false_eq_true,if_false,bne_self_eq_false,decide_true,if_true,QM h0 h1 (by omega)]
   exact ih
 unfold We;simp only[bS,bne_self_eq_false,Bool.false_eq_true,if_false,L];rw[Sr _ hl.1 (fun x hx=>b_Stmt x (hl.2 x hx))];rfl
end Go.Proofs.YtkgphhemcglgnaaGreatDoor
end
section
namespace Go.Proofs.YtkgphhemcglgnaaGreatDoor
open Go HY
inductive gdS:Q0→Prop
 |mk (x:Qg) (h1:rdOk x.fg) (h2:x.fe.length≤6) (h3:x.fOp=1∨x.fOp=2∨x.fOp=3∨x.fOp=4) (h4:x.fOp=2∨x.fOp=3→x.fb=[]) (h5:((Qy (.mk x.fg)).map fun e=>e.f.fe.length+1).sum≤14000) (h6:∀a∈x.fb,gdS a):gdS (.mk x)
theorem gdS.of{x:Qg}(h:gdS (.mk x)):rdOk x.fg∧x.fe.length≤6∧(x.fOp=1∨x.fOp=2∨x.fOp=3∨x.fOp=4)∧(x.fOp=2∨x.fOp=3→x.fb=[])∧((Qy (.mk x.fg)).map fun e=>e.f.fe.length+1).sum≤14000∧∀a∈x.fb,gdS a:=by
 cases h with
 |mk _ h1 h2 h3 h4 h5 h6=>exact⟨h1,h2,h3,h4,h5,h6⟩
theorem sum_le{l:List Qa}(h:∀e∈l,e.f.fe.length≤6):(l.map fun e=>e.f.fe.length+1).sum≤7*l.length:=by
 induction l with
 |nil=>simp
 |cons e t ih=>
  have h1:=h e (by simp)
  have h2:=ih fun a ha=>h a (by simp[ha])
  rw[List.map_cons,List.sum_cons,List.length_cons];omega
theorem TI{x:Q1}(hx:okE (.mk x))(h:C8 x=0):rdOk x∧((Qy (.mk x)).map fun e=>e.f.fe.length+1).sum≤14000∧∀e∈Qy (.mk x),e.f.fe.length≤6:=by
 unfold C8 at h;split at h;·cases h
 ·split at h;·cases h
  ·rename_i h1 h2;have h3:∀e∈Qy (.mk x),e.f.fe.length≤6:=fun e he=>by
    have hp:=Ou h e he;have hr:raE e.f=true:=by
     unfold KP at hp;split at hp;·cases hp
     ·split at hp;·cases hp
      ·split at hp;·cases hp
       ·rename_i q;simpa using q
    unfold raE at hr;rw[Bool.and_eq_true,decide_eq_true_eq] at hr;exact hr.1.2
   have h4:=sum_le h3;exact⟨⟨Sp _ hx,fun e he=>by have:=h3 e he;omega,by omega⟩,by omega,h3⟩
theorem st_gd{n:Q9}{sc a4:List Str}{x:Qg}(hx:okS (.mk x))(h:Ke n sc a4 x=0):rdOk x.fg∧x.fe.length≤6∧(x.fOp=1∨x.fOp=2∨x.fOp=3∨x.fOp=4)∧(x.fOp=2∨x.fOp=3→x.fb=[])∧((Qy (.mk x.fg)).map fun e=>e.f.fe.length+1).sum≤14000:=by
 obtain⟨k1,k2,k3,k4⟩:=hx.of;unfold Ke at h;split at h;·cases h
 ·rename_i hp;have hp:plS x=true:=by simpa using hp
  unfold plS at hp;rw[decide_eq_true_eq] at hp;obtain⟨p1,p2,p3,p4,p5,p6,p7⟩:=hp;have hb:x.fOp=2∨x.fOp=3→x.fb=[]:=fun q=>List.eq_nil_of_length_eq_zero (p7 q)
  have ex:∀sc y,(KD n sc y).2=0→C8 y=0:=fun sc y hy=>by
   unfold KD at hy;split at hy;·rename_i q;exact absurd hy q
   ·rename_i q;simpa using q
  split at h
  ·rename_i o;have hz:=p6 o;unfold isZE at hz;rw[decide_eq_true_eq] at hz;obtain⟨_,_,_,_,_,_,z1,z2⟩:=hz;have hn:Qy (.mk x.fg)=[.mk x.fg]:=by rw[KK,List.eq_nil_of_length_eq_zero z2];rfl
   have hi:x.fe.length=0:=p5 (by omega)
   refine⟨⟨Sp _ k3,fun e he=> ?_,?_⟩,by omega,p1,hb,?_⟩
   ·rw[hn,List.mem_singleton] at he;subst he;rw[Qa.f_mk];omega
   ·rw[hn];simp[z1]
   ·rw[hn];simp[z1]
  ·rename_i o;split at h
   ·rename_i o4;have he:C8 x.fg=0:=by
     split at h;·rename_i q;exact absurd h q
     ·rename_i q;exact ex sc _ (by simpa using q)
    obtain⟨r1,r2,_⟩:=TI k3 he;have hi:x.fe.length=0:=p5 (by omega)
    exact⟨r1,by omega,p1,hb,r2⟩
   ·rename_i o4;unfold G9 at h;split at h;·rename_i q;exact absurd h q
    ·rename_i q1;split at h;·cases h
     ·split at h;·rename_i q;exact absurd h q
      ·rename_i q2;obtain⟨r1,r2,_⟩:=TI k3 (ex sc _ (by simpa using q2))
       have a6:okE (.mk (rdE x)):=.mk _ ⟨by unfold fits;exact⟨by show(-9223372036854775808:Int)≤0;omega,by show(0:Int)≤9223372036854775807;omega⟩,by show([]:List Zh).length*24≤_;simp,by intro m hm;cases hm⟩ k1 k2 (by show([]:List Qa).length*160≤_;simp) (by intro a ha;cases ha)
       obtain⟨_,_,r3⟩:=TI a6 (ex sc _ (by simpa using q1))
       have:=r3 (.mk (rdE x)) (by rw[KK];exact List.mem_cons_self ..)
       rw[Qa.f_mk] at this;exact⟨r1,this,p1,hb,r2⟩
theorem Pp(n:Q9):∀(t:List Q0) (sc:List Str) (a4:List Int) (i:Int) (a3:List Str),(bdL n sc a4 (t.map fun a=>(a.f,bd n a)) i a3).2.2=0→∀a∈t,(∃sc a3,Ke n sc a3 a.f=0)∧∃sc a3 a4,(bd n a sc a3 a4).2.2=0
 | [],_,_,_,_,_,a,ha=>by cases ha
 |b::t,sc,a4,i,a3,h,a,ha=>by
  simp only[List.map_cons,bdL] at h;split at h;·rename_i h1;exact absurd h h1
  ·rename_i h1;have h1:Ke n sc a3 b.f=0:=by simpa using h1
   split at h
   ·split at h;·rename_i h2;exact absurd h h2
    ·rename_i h2;rcases List.mem_cons.1 ha with rfl | ha
     ·exact⟨⟨_,_,h1⟩,_,_,_,by simpa using h2⟩
     ·exact Pp n t _ _ _ _ h a ha
   ·split at h;·rename_i h2;exact absurd h h2
    ·rename_i h2;rcases List.mem_cons.1 ha with rfl | ha
     ·exact⟨⟨_,_,h1⟩,_,_,_,by simpa using h2⟩
     ·exact Pp n t _ _ _ _ h a ha
theorem gd_of(n:Q9):∀a:Q0,okS a→(∃sc a6,Ke n sc a6 a.f=0)→(∃sc a6 ac,(bd n a sc a6 ac).2.2=0)→gdS a:=Q0.ind fun x ih hx h1 h2=>by
 obtain⟨sc,a6,h1⟩:=h1;obtain⟨ai,ab,ae,h2⟩:=h2;rw[Q0.f_mk] at h1;obtain⟨a1,a2,a3,a4,a5⟩:=st_gd hx h1;rw[Ib] at h2;have hb:=Pp n x.fb _ _ _ _ h2;exact .mk x a1 a2 a3 a4 a5 fun a ha=>ih a ha (hx.of.2.2.2.2 a ha) (hb a ha).1 (hb a ha).2
theorem gdL_of{n:Q9}(hl:okSs n.fb)(h:(vd n).2=0):∀a∈n.fb,gdS a:=fun a ha=>by
 have h5:=((Lo n).1 h).2.2.2.2;have hb:=Pp n n.fb _ _ _ _ h5 a ha;exact gd_of n a (hl.2 a ha) hb.1 hb.2
theorem Q1p{x:Q1}(h:rdOk x):De x=some (cpt (srt (rdN x))):=by unfold De;rw[dif_pos h]
theorem cs_len{x:Q1}(h:rdOk x):(cpt (srt (rdN x))).length≤1099511627776:=by
 have h1:=Q10 (srt (rdN x));have h2:=Rw (rdN x);have h3:=Q1l x h;omega
theorem cs_has(l:List Str)(s:Str):(cpt (srt l)).contains s=decide (s∈l):=by
 rw[Bool.eq_iff_iff,List.contains_iff_mem,decide_eq_true_eq,cpt_mem,srt_mem]
theorem p_reads(x:Qg)(s:Str)(h1:rdOk x.fg)(h2:x.fe.length≤6):DW x s=some (decide (s∈rd1 x)):=by
 have hr:rdOk (QS.mk (2:Int) [] (gVal.mk (0:Int) (0:Int)) (Qc.mk (0:Int) (0:Int) (0:Int) (0:Int) (0:Int)) (gLin.mk (0:Int) []) x.fe []:Q1):=by
  have hn:Qy (.mk (QS.mk (2:Int) [] (gVal.mk (0:Int) (0:Int)) (Qc.mk (0:Int) (0:Int) (0:Int) (0:Int) (0:Int)) (gLin.mk (0:Int) []) x.fe []))=[.mk (QS.mk (2:Int) [] (gVal.mk (0:Int) (0:Int)) (Qc.mk (0:Int) (0:Int) (0:Int) (0:Int) (0:Int)) (gLin.mk (0:Int) []) x.fe [])]:=by rw[KK];rfl
  refine⟨.mk _ (by simp) (by simp),fun e he=> ?_,?_⟩
  ·rw[hn,List.mem_singleton] at he;subst he;rw[Qa.f_mk];show x.fe.length≤_;omega
  ·rw[hn];simp;omega
 have a3:rdN (QS.mk (2:Int) [] (gVal.mk (0:Int) (0:Int)) (Qc.mk (0:Int) (0:Int) (0:Int) (0:Int) (0:Int)) (gLin.mk (0:Int) []) x.fe []:Q1)=QB x.fe:=by
  unfold rdN;rw[KK];simp[KZ]
 have c1:=cs_len h1;have c2:=cs_len hr;unfold DW W5;rw[Q1p h1,bS,NE _ _ (by omega),bS,cs_has,bS,Q1p hr,bS,bS,NE _ _ (by omega),bS,cs_has,a3]
 unfold rd1;by_cases q1:s∈rdN x.fg<;>by_cases q2:s∈QB x.fe<;>simp[q1,q2]
theorem OZ(x:Qg):Gz x=some (decide (x.fOp=2∨x.fOp=3)):=by
 unfold Gz;by_cases h2:x.fOp=2<;>by_cases h3:x.fOp=3<;>simp[h2,h3]
theorem p_used1(x:Qg)(s:Str)(b st:Bool)(h1:rdOk x.fg)(h2:x.fe.length≤6):∃st',Ds x b s st=some (b || decide (s∈rd1 x),s,st'):=by
 unfold Ds;rw[p_reads x s h1 h2,OZ];cases b<;>cases st<;>by_cases ho:x.fOp=2∨x.fOp=3<;>simp[bS,ho]
theorem p_visit:∀a:Q0,gdS a→okS a→∀(s:Str) (b st:Bool),∃st',ZW a.f.fb (b,s,st)=some (b || decide (s∈rdL a.f.fb),s,st'):=Q0.ind fun x ih hg hx s b st=>by
 rw[Q0.f_mk];obtain⟨_,_,_,_,_,g6⟩:=hg.of;obtain⟨_,_,_,k4⟩:=hx.of;have key:∀(t p:List Q0) (b st:Bool),x.fb=p++t→∃st',ZD (b,s,st) x.fb x.fb.length p.length=some (b || decide (s∈rdL t),s,st'):=by
  intro t
  induction t with
  |nil=>
   intro p b st e;refine⟨st,?_⟩;rw[ZD,if_neg (by rw[e];simp)]
   simp[rdL]
  |cons a t ih2=>
   intro p b st e;have hm:a∈x.fb:=by rw[e];simp
   have a4:=g6 a hm;have a5:=k4.2 a hm;have a3:gdS (.mk a.f):=by rw[Q0.mk_f];exact a4
   obtain⟨a7,e1⟩:=p_used1 a.f s b st a3.of.1 a3.of.2.1;obtain⟨a8,e2⟩:=ih a hm a4 a5 s (b || decide (s∈rd1 a.f)) a7
   obtain⟨a9,e3⟩:=ih2 (p++[a]) ((b || decide (s∈rd1 a.f)) || decide (s∈rdL a.f.fb)) a8 (by rw[e];simp)
   refine⟨a9,?_⟩;have af:p.length<x.fb.length:=by rw[e];simp
   have ae:=k4.1;rw[ZD,if_pos (by omega),show ix x.fb (p.length:Int)=some a from Yg e,omS,bS]
   simp only[e1,bS,e2];rw[QM (n:=(p.length:Int)) (by omega) (by omega:(p.length:Int)<x.fb.length) (by omega),show(p.length:Int)+1=((p++[a]).length:Nat) by simp,e3,Q5z,rdS_f]
   congr 2;by_cases q1:s∈rd1 a.f<;>by_cases q2:s∈rdL a.f.fb<;>by_cases q3:s∈rdL t<;>simp[q1,q2,q3]
 obtain⟨st',e'⟩:=key x.fb [] b st rfl;refine⟨st',?_⟩;rw[ZW];simp only[bS];rw[show ZD (b,s,st) x.fb (↑x.fb.length) 0=_ from e'];rfl
def zX(l:List Q0):Qg:=ZH.mk 1 [] 0 0 0 [] (QS.mk 0 [] ⟨0,0⟩ ⟨0,0,0,0,0⟩ ⟨0,[]⟩ [] []) l
theorem zX_gd{l:List Q0}(h:∀a∈l,gdS a):gdS (.mk (zX l)):=by
 have hn:Qy (.mk (zX l).fg)=[.mk (zX l).fg]:=by rw[KK];rfl
 refine .mk _ ⟨.mk _ (by simp[zX]) (by simp[zX]),fun e he=> ?_,?_⟩ (by simp[zX]) (.inl rfl) (fun q=>by simp[zX] at q) ?_ h
 ·rw[hn,List.mem_singleton] at he;subst he;simp[zX]
 ·rw[hn];simp[zX]
 ·rw[hn];simp[zX]
theorem zX_ok{l:List Q0}(h:okSs l):okS (.mk (zX l)):=
 .mk _ (by simp[zX]) (by intro i hi;cases hi) (.mk _ ⟨by unfold fits;exact⟨by show(-9223372036854775808:Int)≤0;omega,by show(0:Int)≤9223372036854775807;omega⟩,by show([]:List Zh).length*24≤_;simp,by intro m hm;cases hm⟩ (by show([]:List Q7).length*72≤_;simp) (by intro i hi;cases hi) (by show([]:List Qa).length*160≤_;simp) (by intro a ha;cases ha)) h.1 h.2
theorem p_used(l:List Q0)(hg:∀a∈l,gdS a)(hl:okSs l)(s:Str):∃st',CD l s=some (decide (s∈rdL l),st'):=by
 obtain⟨st',e⟩:=p_visit (.mk (zX l)) (zX_gd hg) (zX_ok hl) s false false;rw[Q0.f_mk] at e;refine⟨st',?_⟩;unfold CD;rw[show ZW l (false,s,false)=_ from e,bS]
 first | rfl | (simp[zX];rfl)
def unP(n:Q9)(b:Qb):Bool:=b.fF==3&& !decide (b.fa∈rdL n.fb)
theorem Q46(n:Q9)(hg:∀a∈n.fb,gdS a)(hl:okSs n.fb)(b:Qb):GA b n=some (unP n b):=by
 obtain⟨st',e⟩:=p_used n.fb hg hl b.fa;unfold GA unP;rw[e,bS];by_cases h:b.fF=3<;>simp[h]
def unF(n:Q9):List Qb→Nat→Option Nat
 | [],_=>none
 |b::t,k=>if unP n b=true then some k else unF n t (k+1)
def unI(n:Q9):Option Nat:=unF n n.fc 0
theorem B6(n:Q9)(hb:n.fc.length≤4611686018427387904)(hg:∀a∈n.fb,gdS a)(hl:okSs n.fb):Va n=some (match unI n with | some i=>(i:Int) | none=> -1):=by
 have key:∀(t p:List Qb),n.fc=p++t→QA n.fc n n.fc.length p.length=some (match unF n t p.length with | some i=>.inr (i:Int) | none=>.inl ()):=by
  intro t
  induction t with
  |nil=>
   intro p e;rw[QA,if_neg (by rw[e];simp)];rfl
  |cons b t ih=>
   intro p e;have a5:p.length<n.fc.length:=by rw[e];simp
   have:=ih (p++[b]) (by rw[e];simp)
   rw[QA,if_pos (by omega),Yg e,bS,Q46 n hg hl b,bS]
   simp only[unF];by_cases h:unP n b=true;·rw[if_pos h,if_pos h]
   ·rw[if_neg h,if_neg h,QM (n:=(p.length:Int)) (by omega) (by omega:(p.length:Int)<n.fc.length) hb,show(p.length:Int)+1=((p++[b]).length:Nat) by simp,this,List.length_append];rfl
 have h:=key n.fc [] rfl;unfold Va KU unI;simp only[bS];rw[show QA n.fc n (↑n.fc.length) 0=_ from h];simp only[bS,List.length_nil];cases unF n n.fc 0<;>rfl
end Go.Proofs.YtkgphhemcglgnaaGreatDoor
end
section
namespace Go.Proofs.YtkgphhemcglgnaaGreatDoor
open Go HY
theorem Oe{k n:Nat}(hn:n*256≤140737488351232)(hk:k≤n):k*256≤140737488355328∧k≤9223372036854775807:=by
 have h1:k*256≤n*256:=Nat.mul_le_mul_right 256 hk;exact⟨Nat.le_trans h1 (Nat.le_trans hn (by decide)),by omega⟩
theorem fmC{f g:Q0→Option Q0}:∀ {l:List Q0},(∀a∈l,f a=g a)→l.filterMap f=l.filterMap g
 | [],_=>rfl
 |a::t,h=>by
  rw[List.filterMap_cons,List.filterMap_cons,h a (List.mem_cons_self ..),fmC fun b hb=>h b (List.mem_cons_of_mem _ hb)]
def woS(s:Str):Q0→Option Q0
 | .mk x=>if(x.fOp=2∨x.fOp=3)∧x.fa=s then none else some (.mk (ZH.mk x.fOp x.fa x.fy x.fB x.fA x.fe x.fg (x.fb.attach.filterMap fun a=>woS s a.1)))
 termination_by e=>SizeOf.sizeOf e
 decreasing_by exact Q0.lt a.2
def fiS:Q0→Option Q0
 | .mk x=>if(x.fOp=1∨x.fOp=4)∧(x.fb.attach.filterMap fun a=>fiS a.1)=[] then none else some (.mk (ZH.mk x.fOp x.fa x.fy x.fB x.fA x.fe x.fg (x.fb.attach.filterMap fun a=>fiS a.1)))
 termination_by e=>SizeOf.sizeOf e
 decreasing_by all_goals exact Q0.lt a.2
theorem attF{f:Q0→Option Q0}(l:List Q0):(l.attach.filterMap fun a=>f a.1)=l.filterMap f:=by
 conv=>rhs;rw[← List.attach_map_subtype_val l]
 rw[List.filterMap_map];rfl
theorem PD(s:Str)(a:Q0):woS s a=if(a.f.fOp=2∨a.f.fOp=3)∧a.f.fa=s then none else some (.mk (setB a.f (a.f.fb.filterMap (woS s)))):=by
 cases a with
 |mk x=>rw[woS,attF (f:=woS s)];rfl
theorem Pq(a:Q0):fiS a=if(a.f.fOp=1∨a.f.fOp=4)∧a.f.fb.filterMap fiS=[] then none else some (.mk (setB a.f (a.f.fb.filterMap fiS))):=by
 cases a with
 |mk x=>rw[fiS,attF (f:=fiS)];rfl
theorem fiwo(s:Str):∀a:Q0,gdS a→(woS s a).bind fiS=rmS s a:=Q0.ind fun x ih hg=>by
 obtain⟨_,_,g3,g4,_,g6⟩:=hg.of;have hb:(x.fb.filterMap (woS s)).filterMap fiS=rmL s x.fb:=by
  rw[List.filterMap_filterMap];unfold rmL;exact fmC fun a ha=>ih a ha (g6 a ha)
 rw[PD,rmS_f,Q0.f_mk];by_cases ho:x.fOp=2∨x.fOp=3
 ·rw[if_pos ho];by_cases hn:x.fa=s;·rw[if_pos ⟨ho,hn⟩,if_pos hn];rfl
  ·rw[if_neg (fun h=>hn h.2),if_neg hn,Option.bind_some,Pq,Q0.f_mk]
   have e:x.fb=[]:=g4 ho;rw[if_neg (fun h=>by have:x.fOp=1∨x.fOp=4:=h.1;omega)]
   show some (Q0.mk (setB x ((x.fb.filterMap (woS s)).filterMap fiS)))=_;rw[e];show some (Q0.mk (setB x []))=_;unfold setB;rw[← e]
 ·rw[if_neg ho,if_neg (fun h=>ho h.1),Option.bind_some,Pq,Q0.f_mk]
  show(if(x.fOp=1∨x.fOp=4)∧(x.fb.filterMap (woS s)).filterMap fiS=[] then none else some (Q0.mk (setB x ((x.fb.filterMap (woS s)).filterMap fiS))))=_
  rw[hb];have a3:x.fOp=1∨x.fOp=4:=by omega
  by_cases hr:rmL s x.fb=[];·rw[if_pos ⟨a3,hr⟩,if_pos hr]
  ·rw[if_neg (fun h=>hr h.2),if_neg hr]
theorem EQ(s:Str)(l:List Q0)(hl:l.length*256≤140737488351232)(h:∀a∈l,Zy a.f.fb s=some (a.f.fb.filterMap (woS s))):Zy l s=some (l.filterMap (woS s)):=by
 have L:=Xh (F:=fun a3 i=>ZX s a3 l l.length i) (l:=l) (fun a3 t=>a3.length+t.length≤l.length) (fun a3 t=>a3++t.filterMap (woS s)) (by
  intro a3 _;rw[ZX];simp) (by
  intro i y t a3 h0 h1 hm a5 hI ih;simp only[List.length_cons] at hI;rw[ZX,if_pos h1,a5,bS,omS,bS,OZ];have hw:=QM (n:=i) h0 h1 (by omega)
  by_cases ho:(y.f.fOp=2∨y.f.fOp=3)∧y.f.fa=s
  ·have hn:woS s y=none:=by rw[PD,if_pos ho]
   have a7:=ho.1;simp only[bS,decide_eq_true a7,if_true,ho.2,beq_self_eq_true,hw,ih a3 (by omega)]
   rw[List.filterMap_cons_none hn]
  ·have hn:woS s y=some (.mk (setB y.f (y.f.fb.filterMap (woS s)))):=by rw[PD,if_neg ho]
   have hq:((if decide (y.f.fOp=2∨y.f.fOp=3)=true then(if(y.f.fa==s)=true then some true else some false) else some false):Option Bool)=some false:=by
    by_cases h1:y.f.fOp=2∨y.f.fOp=3
    ·have h2:¬y.f.fa=s:=fun e=>ho ⟨h1,e⟩
     simp[h1,h2]
    ·simp[h1]
   simp only[bS];rw[hq];simp only[bS,Bool.false_eq_true,if_false,h y hm];rw[if_pos (show(a3.length+1)*256≤140737488355328∧a3.length+1≤9223372036854775807 from Oe hl (by omega))]
   simp only[bS,hw];rw[List.filterMap_cons_some hn];have:=ih (a3++[.mk (setB y.f (y.f.fb.filterMap (woS s)))]) (by simp;omega)
   rw[show a3++(Q0.mk (setB y.f (List.filterMap (woS s) y.f.fb))::List.filterMap (woS s) t)=(a3++[Q0.mk (setB y.f (List.filterMap (woS s) y.f.fb))])++List.filterMap (woS s) t by simp]
   exact this) [] (by simp)
 rw[Zy];simp only[bS];rw[show ZX s [] l (↑l.length) 0=_ from L];simp[bS]
theorem Q32(s:Str):∀a:Q0,okS a→Zy a.f.fb s=some (a.f.fb.filterMap (woS s)):=Q0.ind fun x ih hx=>by
 obtain⟨_,_,_,k4⟩:=hx.of;rw[Q0.f_mk];exact EQ s x.fb k4.1 fun a ha=>ih a ha (k4.2 a ha)
theorem Q47(s:Str)(l:List Q0)(hl:okSs l):Zy l s=some (l.filterMap (woS s)):=EQ s l hl.1 fun a ha=>Q32 s a (hl.2 a ha)
theorem wo_ok(s:Str):∀a:Q0,okS a→∀b,woS s a=some b→okS b:=Q0.ind fun x ih hx b hb=>by
 rw[PD,Q0.f_mk] at hb;split at hb;·cases hb
 ·cases hb;obtain⟨h1,h2,h3,h4,h5⟩:=hx.of;have a4:(x.fb.filterMap (woS s)).length≤x.fb.length:=List.length_filterMap_le ..;have a3:x.fb.length*256≤140737488351232:=h4;exact .mk _ h1 h2 h3 (Nat.le_trans (Nat.mul_le_mul_right 256 a4) a3) fun c hc=>by
   obtain⟨a,ha,e⟩:=List.mem_filterMap.1 (show c∈x.fb.filterMap (woS s) from hc);exact ih a ha (h5 a ha) c e
theorem woL_ok(s:Str)(l:List Q0)(h:okSs l):okSs (l.filterMap (woS s)):=by
 have a3:(l.filterMap (woS s)).length≤l.length:=List.length_filterMap_le ..;have h1:l.length*256≤140737488351232:=h.1;exact⟨Nat.le_trans (Nat.mul_le_mul_right 256 a3) h1,fun c hc=>by
  obtain⟨a,ha,e⟩:=List.mem_filterMap.1 hc;exact wo_ok s a (h.2 a ha) c e⟩
theorem Td(l:List Q0)(hl:l.length*256≤140737488351232)(h:∀a∈l,ZR a.f.fb=some (a.f.fb.filterMap fiS)):ZR l=some (l.filterMap fiS):=by
 have L:=Xh (F:=fun a3 i=>Xc a3 l l.length i) (l:=l) (fun a3 t=>a3.length+t.length≤l.length) (fun a3 t=>a3++t.filterMap fiS) (by
  intro a3 _;rw[Xc];simp) (by
  intro i y t a3 h0 h1 hm a4 hI ih;simp only[List.length_cons] at hI;rw[Xc,if_pos h1,a4,bS,omS,bS,h y hm];have hw:=QM (n:=i) h0 h1 (by omega)
  have hq:((if(y.f.fOp==(1:Int))=true then some ((y.f.fb.filterMap fiS).length:Int)>>=fun v6=>if(v6==(0:Int))=true then some true else some false
    else if(y.f.fOp==(4:Int))=true then some ((y.f.fb.filterMap fiS).length:Int)>>=fun v7=>if(v7==(0:Int))=true then some true else some false else some false):Option Bool)=
    some (decide ((y.f.fOp=1∨y.f.fOp=4)∧y.f.fb.filterMap fiS=[])):=by
   have hz:(((y.f.fb.filterMap fiS).length:Int)==0)=decide (y.f.fb.filterMap fiS=[]):=by
    cases y.f.fb.filterMap fiS with
    |nil=>rfl
    |cons a b=>simp;omega
   simp only[bS,hz];by_cases o1:y.f.fOp=1<;>by_cases o4:y.f.fOp=4<;>by_cases e:y.f.fb.filterMap fiS=[]<;>simp[o1,o4,e]
  simp only[bS] at hq ⊢;rw[hq];simp only[bS];by_cases ho:(y.f.fOp=1∨y.f.fOp=4)∧y.f.fb.filterMap fiS=[]
  ·have hn:fiS y=none:=by rw[Pq,if_pos ho]
   rw[if_pos (decide_eq_true ho)];simp only[bS,hw,ih _ (show a3.length+t.length≤l.length by omega)]
   rw[List.filterMap_cons_none hn]
  ·have hn:fiS y=some (.mk (setB y.f (y.f.fb.filterMap fiS))):=by rw[Pq,if_neg ho]
   rw[if_neg (by simpa using ho),if_pos (show(a3.length+1)*256≤140737488355328∧a3.length+1≤9223372036854775807 from Oe hl (by omega))]
   simp only[bS,hw];rw[List.filterMap_cons_some hn];have:=ih (a3++[.mk (setB y.f (y.f.fb.filterMap fiS))]) (by simp;omega)
   rw[show a3++(Q0.mk (setB y.f (List.filterMap fiS y.f.fb))::List.filterMap fiS t)=(a3++[Q0.mk (setB y.f (List.filterMap fiS y.f.fb))])++List.filterMap fiS t by simp]
   exact this) [] (by simp)
 rw[ZR];simp only[bS];rw[show Xc [] l (↑l.length) 0=_ from L];simp[bS]
theorem Q43:∀a:Q0,okS a→ZR a.f.fb=some (a.f.fb.filterMap fiS):=Q0.ind fun x ih hx=>by
 obtain⟨_,_,_,k4⟩:=hx.of;rw[Q0.f_mk];exact Td x.fb k4.1 fun a ha=>ih a ha (k4.2 a ha)
theorem Q5l(l:List Q0)(hl:okSs l):ZR l=some (l.filterMap fiS):=Td l hl.1 fun a ha=>Q43 a (hl.2 a ha)
theorem p_rm(s:Str)(l:List Q0)(hl:okSs l)(hg:∀a∈l,gdS a):(Zy l s>>=fun v1=>ZR v1)=some (rmL s l):=by
 rw[Q47 s l hl,bS,Q5l _ (woL_ok s l hl)];congr 1;rw[List.filterMap_filterMap];unfold rmL;exact fmC fun a ha=>fiwo s a (hg a ha)
end Go.Proofs.YtkgphhemcglgnaaGreatDoor
end
section
namespace Go.Proofs.YtkgphhemcglgnaaGreatDoor
open Go HY
theorem bSome{α:Type}{x:Option α}:(x>>=fun v=>some v)=x:=by cases x<;>rfl
theorem sz_le{a:Q0}:∀ {l:List Q0},a∈l→sz a≤szL l
 | [],h=>by cases h
 |b::t,h=>by
  rw[VE];rcases List.mem_cons.1 h with rfl | h
  ·omega
  ·have:=sz_le h;omega
theorem Hv{k:Nat}(h:k≤1099511627776):k*16≤140737488355328∧k≤9223372036854775807:=by omega
theorem Q1j(l:List Q7)(hl:l.length≤1099511627776):DI l=some (QB l):=by
 have L:=Xh (F:=fun a3 i=>Yy l a3 i) (l:=l) (fun a3 t=>a3.length+t.length≤l.length) (fun a3 t=>a3++QB t) (by
  intro a3 _;rw[Yy];simp[QB,bS]) (by
  intro i y t a3 h0 h1 hm a4 hI ih;simp only[List.length_cons] at hI;rw[Yy,bS,if_pos h1,a4];have hw:=QM (n:=i) h0 h1 (by omega)
  by_cases hy:(!y.fu==[])=true
  ·have e:QB (y::t)=y.fu::QB t:=by unfold QB;rw[List.filter_cons,if_pos hy];rfl
   simp only[bS];rw[if_pos hy,if_pos (Hv (by omega))]
   simp only[bS,hw];have:=ih (a3++[y.fu]) (by simp;omega)
   rw[e,show a3++y.fu::QB t=(a3++[y.fu])++QB t by simp]
   exact this
  ·have e:QB (y::t)=QB t:=by unfold QB;rw[List.filter_cons,if_neg hy]
   simp only[bS];rw[if_neg hy];simp only[bS,hw];rw[e];exact ih a3 (by omega)) [] (by simp)
 unfold DI;simp only[bS];rw[show Yy l [] 0=_ from L];simp[bS]
def sr1(e:Qa):List Str:=QB e.f.fe
def nm1(e:Qa):List Str:=if e.f.fOp=3 then [e.f.fa] else []
def srL(e:Qa):List Str:=(Qy e).flatMap sr1
def nmL(e:Qa):List Str:=(Qy e).flatMap nm1
def wI(e:Qa):Nat:=((Qy e).map fun y=>y.f.fe.length+1).sum
theorem Q2n(g:Qa→List Str)(x:Q1):(Qy (.mk x)).flatMap g=g (.mk x)++(x.ff.map fun a=>(Qy a).flatMap g).flatten:=by
 rw[KK,List.flatMap_cons];congr 1
 induction x.ff with
 |nil=>rfl
 |cons a t ih=>rw[List.map_cons,List.flatten_cons,List.flatMap_append,ih,List.map_cons,List.flatten_cons]
theorem wI_mk(x:Q1):wI (.mk x)=x.fe.length+1+(x.ff.map wI).sum:=by
 unfold wI;rw[KK,List.map_cons,List.sum_cons,Qa.f_mk];congr 1
 induction x.ff with
 |nil=>rfl
 |cons a t ih=>rw[List.map_cons,List.flatten_cons,List.map_append,List.sum_append,ih,List.map_cons,List.sum_cons]
theorem Om{g:Qa→List Str}(hg:∀e,(g e).length≤e.f.fe.length+1)(e:Qa):((Qy e).flatMap g).length≤wI e:=by
 unfold wI
 induction Qy e with
 |nil=>simp
 |cons a t ih=>
  rw[List.flatMap_cons,List.length_append,List.map_cons,List.sum_cons];have:=hg a;omega
theorem sr_len(e:Qa):(sr1 e).length≤e.f.fe.length+1:=by
 unfold sr1 QB;rw[List.length_map];have:=List.length_filter_le (fun i:Q7=> !(i.fu==[])) e.f.fe
 omega
theorem nm_len(e:Qa):(nm1 e).length≤e.f.fe.length+1:=by unfold nm1;split<;>simp
theorem r_tree{G:Q1→Option (List Str)}{L:Q1→List Str→Int→Option (List Str)}(g:Qa→List Str)(hg:∀e,(g e).length≤e.f.fe.length+1)
  (hG:∀x,x.fe.length≤1099511627776→G x=(L x (g (.mk x)) 0))
  (a4:∀x a3,L x a3 x.ff.length=some a3)
  (a5:∀x a3 (i:Int) a v,0≤i→i<x.ff.length→x.ff.length≤4611686018427387904→ix x.ff i=some a→G a.f=some v→a3.length+v.length≤1099511627776→L x a3 i=L x (a3++v) (i+1)):
  ∀e:Qa,okE e→wI e≤1099511627776→G e.f=some ((Qy e).flatMap g):=Qa.ind fun x ih hx hw=>by
 obtain⟨_,_,_,k4,k5⟩:=hx.of;rw[wI_mk] at hw;rw[Qa.f_mk,hG x (by omega),Q2n]
 have h0:=hg (.mk x);rw[Qa.f_mk] at h0;refine Xh (F:=fun a3 i=>L x a3 i) (l:=x.ff) (fun a3 t=>a3.length+(t.map wI).sum≤1099511627776) (fun a3 t=>a3++(t.map fun a=>(Qy a).flatMap g).flatten) ?_ ?_ _ (by omega)
 ·intro a3 _;rw[a4];simp
 ·intro i y t a3 q0 q1 hm a6 hI a7;rw[List.map_cons,List.sum_cons] at hI;have hy:=Om hg y;rw[a5 x a3 i y _ q0 q1 (by omega) a6 (ih y hm (k5 y hm) (by omega)) (by omega),a7 _ (by rw[List.length_append];omega)]
  simp
theorem Q4b:∀e:Qa,okE e→wI e≤1099511627776→K7 e.f=some (srL e):=
 r_tree (G:=K7) (L:=Ye) sr1 sr_len (fun x hx=>by
  rw[K7,Q1j _ hx];simp only[bS];exact bSome) (fun x a3=>by rw[Ye,bS,if_neg (by omega)]) fun x a3 i a v q0 q1 hl a4 hv a5=>by
  rw[Ye,bS,if_pos q1,a4,omS,bS,hv,bS,if_pos (by rw[List.length_map];exact Hv a5),bS,QM q0 q1 hl]
theorem r_names:∀e:Qa,okE e→wI e≤1099511627776→V8 e.f=some (nmL e):=
 r_tree (G:=V8) (L:=Ki) nm1 nm_len (fun x hx=>by
  rw[V8];have e:((if(x.fOp==(3:Int))=true then if(0:Nat)=(0:Nat)∧(16:Nat)≤(140737488355328:Nat)∧(1:Nat)≤(9223372036854775807:Nat) then some [x.fa]>>=fun v2=>some v2 else none else some []):Option (List Str))=some (nm1 (.mk x)):=by
   unfold nm1;rw[Qa.f_mk];by_cases h:x.fOp=3;·rw[if_pos (by simpa using h),if_pos h,if_pos (by decide)];rfl
   ·rw[if_neg (by simpa using h),if_neg h]
  simp only[bS] at e ⊢;rw[e];simp only[bS];exact bSome) (fun x a3=>by rw[Ki,bS,if_neg (by omega)]) fun x a3 i a v q0 q1 hl a4 hv a5=>by
  rw[Ki,bS,if_pos q1,a4,omS,bS,hv,bS,if_pos (by rw[List.length_map];exact Hv a5),bS,QM q0 q1 hl]
def rrS:Q0→List Str
 | .mk x=>QB x.fe++srL (.mk x.fg)++nmL (.mk x.fg)++(x.fb.attach.map fun a=>rrS a.1).flatten
 termination_by e=>SizeOf.sizeOf e
 decreasing_by exact Q0.lt a.2
def rrL(l:List Q0):List Str:=(l.map rrS).flatten
theorem rrS_f(a:Q0):rrS a=QB a.f.fe++srL (.mk a.f.fg)++nmL (.mk a.f.fg)++rrL a.f.fb:=by
 cases a with
 |mk x=>rw[rrS];simp[rrL]
theorem rr_mem(s:Str):∀a:Q0,s∈rrS a↔s∈rdS a:=Q0.ind fun x ih=>by
 have hb:s∈rrL x.fb↔s∈rdL x.fb:=by
  unfold rrL rdL;simp only[List.mem_flatten,List.mem_map];constructor;·rintro⟨l,⟨a,ha,rfl⟩,h⟩;exact⟨_,⟨a,ha,rfl⟩,(ih a ha).1 h⟩
  ·rintro⟨l,⟨a,ha,rfl⟩,h⟩;exact⟨_,⟨a,ha,rfl⟩,(ih a ha).2 h⟩
 have he:s∈rdN x.fg↔s∈srL (.mk x.fg)∨s∈nmL (.mk x.fg):=by
  unfold rdN srL nmL;simp only[List.mem_flatMap];constructor
  ·rintro⟨y,hy,h⟩;unfold KZ at h;rcases List.mem_append.1 h with h | h
   ·exact .inr ⟨y,hy,h⟩
   ·exact .inl ⟨y,hy,h⟩
  ·rintro(⟨y,hy,h⟩ | ⟨y,hy,h⟩)
   ·exact⟨y,hy,List.mem_append_right _ h⟩
   ·exact⟨y,hy,List.mem_append_left _ h⟩
 rw[rrS_f,rdS_f,Q0.f_mk];unfold rd1;simp only[List.mem_append,hb,he]
 grind
theorem rrL_mem(s:Str)(l:List Q0):s∈rrL l↔s∈rdL l:=by
 unfold rrL rdL;simp only[List.mem_flatten,List.mem_map];constructor;·rintro⟨l,⟨a,ha,rfl⟩,h⟩;exact⟨_,⟨a,ha,rfl⟩,(rr_mem s a).1 h⟩
 ·rintro⟨l,⟨a,ha,rfl⟩,h⟩;exact⟨_,⟨a,ha,rfl⟩,(rr_mem s a).2 h⟩
theorem rr_one{x:Qg}(hg:gdS (.mk x)):(QB x.fe).length≤6∧(srL (.mk x.fg)).length≤14000∧(nmL (.mk x.fg)).length≤14000∧wI (.mk x.fg)≤14000:=by
 obtain⟨_,g2,_,_,g5,_⟩:=hg.of;have h1:(QB x.fe).length≤x.fe.length:=by unfold QB;rw[List.length_map];exact List.length_filter_le _ _
 have hw:wI (.mk x.fg)≤14000:=g5;exact⟨by omega,Nat.le_trans (Om sr_len _) hw,Nat.le_trans (Om nm_len _) hw,hw⟩
theorem rr_len:∀a:Q0,gdS a→(rrS a).length≤30000*sz a:=Q0.ind fun x ih hg=>by
 have key:∀l:List Q0,(∀a∈l,(rrS a).length≤30000*sz a)→(rrL l).length≤30000*szL l:=by
  intro l
  induction l with
  |nil=>intro _;simp[rrL,szL]
  |cons a t ih2=>
   intro h;have h1:=h a (by simp)
   have h2:=ih2 fun b hb=>h b (by simp[hb])
   rw[VE];have:rrL (a::t)=rrS a++rrL t:=by simp[rrL]
   rw[this,List.length_append];omega
 have hk:=key x.fb fun a ha=>ih a ha (hg.of.2.2.2.2.2 a ha)
 obtain⟨r1,r2,r3,_⟩:=rr_one hg;rw[rrS_f,Q0.f_mk,PA];simp only[List.length_append];omega
theorem Q1n:∀l:List Q0,(∀a∈l,gdS a)→(rrL l).length≤30000*szL l
 | [],_=>by simp[rrL,szL]
 |a::t,h=>by
  have h1:=rr_len a (h a (by simp))
  have h2:=Q1n t fun b hb=>h b (by simp[hb])
  rw[VE];have:rrL (a::t)=rrS a++rrL t:=by simp[rrL]
  rw[this,List.length_append];omega
theorem SQ(l:List Q0)(hl:okSs l)(hg:∀a∈l,gdS a)(hz:szL l≤30000000)(h:∀a∈l,Y2 a.f.fb=some (rrL a.f.fb)):Y2 l=some (rrL l):=by
 have ah:l.length*256≤140737488351232:=hl.1;have L:=Xh (F:=fun a3 i=>Yz l a3 i) (l:=l) (fun a3 t=>a3.length+30000*szL t≤1099511627776) (fun a3 t=>a3++rrL t) (by
  intro a3 _;rw[Yz];simp[rrL,bS]) (by
  intro i y t a3 h0 h1 hm a6 hI ih;have a4:gdS (.mk y.f):=by rw[Q0.mk_f];exact hg y hm
  have a7:okS (.mk y.f):=by rw[Q0.mk_f];exact hl.2 y hm
  obtain⟨r1,r2,r3,r4⟩:=rr_one a4;have hr:=rr_len (.mk y.f) a4;rw[Q0.mk_f] at hr;rw[VE] at hI;have a5:=rrS_f y;have a9:(rrS y).length=_:=congrArg List.length a5;simp only[List.length_append] at a9;obtain⟨_,_,k3,_⟩:=a7.of;have e1:=Q4b (.mk y.f.fg) k3 (by omega)
  have e2:=r_names (.mk y.f.fg) k3 (by omega)
  rw[Qa.f_mk] at e1 e2;rw[Yz,bS,if_pos h1];simp only[a6,omS,bS];rw[Q1j _ (by have:=a4.of.2.1;omega),bS,if_pos (by rw[List.length_map];exact Hv (by omega)),e1,bS,if_pos (by simp only[List.length_map,List.length_append];exact Hv (by omega)),e2,bS,
   if_pos (by simp only[List.length_map,List.length_append];exact Hv (by omega)),h y hm,bS,if_pos (by simp only[List.length_map,List.length_append];exact Hv (by omega)),QM h0 h1 (by omega)]
  have:=ih (a3++QB y.f.fe++srL (.mk y.f.fg)++nmL (.mk y.f.fg)++rrL y.f.fb) (by simp only[List.length_append];omega)
  rw[this];have hc:rrL (y::t)=rrS y++rrL t:=by simp[rrL]
  rw[hc,a5];simp) [] (by simp;omega)
 rw[Y2];simp only[bS];rw[show Yz l [] 0=_ from L];simp[bS]
theorem Q5x:∀a:Q0,okS a→gdS a→sz a≤30000000→Y2 a.f.fb=some (rrL a.f.fb):=Q0.ind fun x ih hx hg hz=>by
 obtain⟨_,_,_,k4⟩:=hx.of;rw[PA] at hz;rw[Q0.f_mk];refine SQ x.fb k4 (hg.of.2.2.2.2.2) (by omega) fun a ha=>ih a ha (k4.2 a ha) (hg.of.2.2.2.2.2 a ha) ?_
 have:sz a≤szL x.fb:=sz_le ha;omega
theorem r_reads(l:List Q0)(hl:okSs l)(hg:∀a∈l,gdS a)(hz:szL l≤2000):Y2 l=some (rrL l):=
 SQ l hl hg (by omega) fun a ha=>Q5x a (hl.2 a ha) (hg a ha) (by
  have:sz a≤szL l:=sz_le ha;omega)
end Go.Proofs.YtkgphhemcglgnaaGreatDoor
end
section
namespace Go.Proofs.YtkgphhemcglgnaaGreatDoor
open Go HY
theorem r_Has(l:List Str)(s:Str)(hl:l.length≤1099511627776):Vw l s=some (l.contains s):=by
 have h:ZA l s 0=some (if l.contains s then .inr true else .inl ()):=by
  refine Mz (F:=fun i=>ZA l s i) (l:=l) (fun t=>if t.contains s then .inr true else .inl ()) ?_ ?_
  ·show ZA l s (l.length:Int)=_;rw[ZA,bS,if_neg (by omega)];rfl
  ·intro i x t h0 h1 a3 ih;show ZA l s i=_;rw[ZA,bS,if_pos (by omega),a3,bS]
   by_cases hx:x=s;·subst hx;simp
   ·rw[if_neg (by simpa using hx),QM h0 h1 (by omega)]
    rw[ih,List.contains_cons];have:(s==x)=false:=by simpa using fun e=>hx e.symm
    rw[this,Bool.false_or]
 unfold Vw;rw[bS,h,bS];cases l.contains s<;>rfl
theorem Q4c(l:List Qb)(s:Str)(hl:l.length*88≤140737488351232):C5 l s=some (l.filter fun b=> !(b.fa==s)):=by
 have L:=Xh (F:=fun a3 i=>Xw l s a3 i) (l:=l) (fun a3 t=>a3.length+t.length≤l.length) (fun a3 t=>a3++t.filter fun b=> !(b.fa==s)) (by
  intro a3 _;rw[Xw];simp[bS]) (by
  intro i y t a3 h0 h1 hm a4 hI ih;simp only[List.length_cons] at hI;rw[Xw,bS,if_pos h1,a4];have hw:=QM (n:=i) h0 h1 (by omega)
  by_cases hy:(!y.fa==s)=true
  ·simp only[bS];rw[if_pos hy,if_pos (show(a3.length+1)*88≤140737488355328∧a3.length+1≤9223372036854775807 from⟨by omega,by omega⟩)]
   simp only[bS,hw];have:=ih (a3++[y]) (by simp;omega)
   rw[List.filter_cons,if_pos hy,show a3++(y::t.filter fun b=> !(b.fa==s))=(a3++[y])++t.filter fun b=> !(b.fa==s) by simp]
   exact this
  ·simp only[bS];rw[if_neg hy];simp only[bS,hw];rw[List.filter_cons,if_neg hy];exact ih a3 (by omega)) [] (by simp)
 unfold C5;simp only[bS];rw[show Xw l s [] 0=_ from L];simp[bS]
theorem ET(s:Str)(l:List Q0)(hl:l.length*256≤140737488351232)(h:∀a∈l,Xu a.f.fb s=some (rmL s a.f.fb)):Xu l s=some (rmL s l):=by
 have L:=Xh (F:=fun a3 i=>Xv l s a3 i) (l:=l) (fun a3 t=>a3.length+t.length≤l.length) (fun a3 t=>a3++rmL s t) (by
  intro a3 _;rw[Xv];simp[bS,rmL]) (by
  intro i y t a3 h0 h1 hm a7 hI ih;simp only[List.length_cons] at hI;have hw:=QM (n:=i) h0 h1 (by omega)
  have a4:=rmS_f s y;have hq:((if(y.f.fOp==(2:Int))=true then some true else if(y.f.fOp==(3:Int))=true then some true else some false):Option Bool)=some (decide (y.f.fOp=2∨y.f.fOp=3)):=by
   by_cases h2:y.f.fOp=2<;>by_cases h3:y.f.fOp=3<;>simp[h2,h3]
  have cap:=Oe (k:=a3.length+1) hl (by omega)
  rw[Xv,bS,if_pos h1,a7,bS,omS,bS,bS,hq,bS];by_cases ho:y.f.fOp=2∨y.f.fOp=3
  ·rw[if_pos ho] at a4;rw[if_pos (decide_eq_true ho)];simp only[bS];by_cases hn:y.f.fa=s
   ·rw[if_pos hn] at a4;rw[if_neg (by simpa using hn)]
    simp only[bS,hw];rw[WZ a4];exact ih a3 (by omega)
   ·rw[if_neg hn] at a4;rw[if_pos (by simpa using hn),if_pos cap]
    simp only[bS,hw];have:=ih (a3++[.mk y.f]) (by simp;omega)
    rw[N0 a4,show a3++Q0.mk y.f::rmL s t=(a3++[.mk y.f])++rmL s t by simp]
    exact this
  ·rw[if_neg ho] at a4;rw[if_neg (by simpa using ho),h y hm]
   simp only[bS];by_cases hb:rmL s y.f.fb=[]
   ·rw[if_pos hb] at a4;rw[if_neg (by rw[hb];simp)]
    simp only[bS,hw];rw[WZ a4];exact ih a3 (by omega)
   ·rw[if_neg hb] at a4;have a5:(0:Int)< ((rmL s y.f.fb).length:Int):=by
     cases hc:rmL s y.f.fb with
     |nil=>exact absurd hc hb
     |cons a b=>simp
    rw[if_pos a5,if_pos cap];simp only[bS,hw];have:=ih (a3++[.mk (setB y.f (rmL s y.f.fb))]) (by simp;omega)
    rw[N0 a4,show a3++Q0.mk (setB y.f (rmL s y.f.fb))::rmL s t=(a3++[.mk (setB y.f (rmL s y.f.fb))])++rmL s t by simp]
    exact this) [] (by simp)
 rw[Xu];simp only[bS];rw[show Xv l s [] 0=_ from L];simp[bS]
theorem Q39(s:Str):∀a:Q0,okS a→Xu a.f.fb s=some (rmL s a.f.fb):=Q0.ind fun x ih hx=>by
 obtain⟨_,_,_,k4⟩:=hx.of;rw[Q0.f_mk];exact ET s x.fb k4.1 fun a ha=>ih a ha (k4.2 a ha)
theorem Q4a(s:Str)(l:List Q0)(hl:okSs l):Xu l s=some (rmL s l):=ET s l hl.1 fun a ha=>Q39 s a (hl.2 a ha)
structure okV (n:Q9):Prop where
 b:okBs n.fc
 s:okSs n.fb
 v:(vd n).2=0
theorem okV.len{n:Q9}(h:okV n):n.fc.length≤128:=((Lo n).1 h.v).2.2.1
theorem okV.gd{n:Q9}(h:okV n):∀a∈n.fb,gdS a:=gdL_of h.s h.v
theorem By{n:Q9}:∀ {t p:List Qb} {i:Nat},n.fc=p++t→unF n t p.length=some i→∃hi:i<n.fc.length,unP n (n.fc[i])=true
 | [],p,i,e,h=>by cases h
 |b::t,p,i,e,h=>by
  simp only[unF] at h;split at h
  ·rename_i hb;cases h;have hi:p.length<n.fc.length:=by rw[e];simp
   refine⟨hi,?_⟩;have:n.fc[p.length]=b:=by simp[e]
   rw[this];exact hb
  ·have h':unF n t (p++[b]).length=some i:=by rw[List.length_append];exact h
   exact By (p:=p++[b]) (by rw[e];simp) h'
theorem step_ok{n:Q9}{i:Nat}(h:okV n)(hi:i<n.fc.length)(hu:unP n (n.fc[i])=true):okV (Il n i (n.fc[i]).fa):=by
 have hr:(n.fc[i]).fa∉rdL n.fb:=by
  unfold unP at hu;rw[Bool.and_eq_true] at hu;simpa using hu.2
 have hl:=h.len;refine⟨⟨?_,fun b hb=>h.b.2 b (Mw.subset hb)⟩,rmL_ok _ _ h.s,vd_step hi h.v hr⟩
 have:(n.fc.eraseIdx i).length≤n.fc.length:=Mw.length_le;show(n.fc.eraseIdx i).length≤_;omega
theorem r_cond{n:Q9}(h:okV n)(b:Qb):((if(b.fF==(3:Int))=true then Y2 n.fb>>=fun v4=>Vw v4 b.fa>>=fun v6=>if v6=true then some false else some true else some false):Option Bool)=some (unP n b):=by
 obtain⟨z1,z2,z3,z4,z5⟩:=(Lo n).1 h.v;have a3:=Q1n n.fb h.gd;unfold unP;by_cases hu:b.fF=3
 ·rw[if_pos (by simpa using hu),r_reads n.fb h.s h.gd z2,bS,r_Has _ _ (by omega),bS]
  have hc:(rrL n.fb).contains b.fa=decide (b.fa∈rdL n.fb):=by
   rw[Bool.eq_iff_iff,List.contains_iff_mem,decide_eq_true_eq,rrL_mem]
  rw[hc];by_cases hm:b.fa∈rdL n.fb<;>simp[hu,hm]
 ·rw[if_neg (by simpa using hu)]
  simp[hu]
theorem r_L5{n:Q9}(h:okV n)(z:Q9):∀(t p:List Qb),n.fc=p++t→Z8 n z p.length=(match unF n t p.length with
  |none=>some (.inl z)
  |some i=>if hi:i<n.fc.length then Zf (Il n i (n.fc[i]).fa)>>=fun v=>some (.inr (v.1,wr (v.2+1))) else none)
 | [],p,e=>by
  rw[Z8,bS,if_neg (by rw[e];simp)];rfl
 |b::t,p,e=>by
  have a3:p.length<n.fc.length:=by rw[e];simp
  have hl:=h.len;have ih:=r_L5 h z t (p++[b]) (by rw[e];simp)
  have hc:=r_cond h b;rw[Z8,bS,if_pos (by omega),Yg e]
  simp only[bS];rw[hc];simp only[bS,unF];by_cases hu:unP n b=true
  ·have hb:n.fc[p.length]=b:=by simp[e]
   have hn:(n.fc.map Qb.fa).Nodup:=((Wo _ []).1 ((Lo n).1 h.v).2.2.2.1).2.1;rw[if_pos hu,if_pos hu];simp only;rw[dif_pos a3,hb,Yg e];simp only[bS];rw[Q4c n.fc b.fa (by omega)]
   simp only[bS];rw[Q4a _ _ h.s];simp only[bS];have he:n.fc.filter (fun c=> !(c.fa==b.fa))=n.fc.eraseIdx p.length:=by rw[LG n.fc p.length a3 hn,hb]
   rw[he];rfl
  ·rw[if_neg hu,if_neg hu,QM (n:=(p.length:Int)) (by omega) (by omega:(p.length:Int)<n.fc.length) (by omega),show(p.length:Int)+1=((p++[b]).length:Nat) by simp,ih,List.length_append];rfl
def unV(n:Q9):Int:=match unI n with | some i=>(i:Int) | none=> -1
theorem both:∀(k:Nat) (n:Q9),n.fc.length=k→okV n→∃(r:Q9) (m:Nat),m≤k∧Zf n=some (r,(m:Int))∧okV r∧
  ∀c:Int,0≤c→c+k≤1000→Zp n c (unV n)=some (r,c+m)
 |k,n,hk,h=>by
  have hl:=h.len;have hv:G5 n=some (vd n):=Q1k n h.b h.s;have hL:=r_L5 h (Q9.mk [] []) n.fc [] rfl;have a5:Zf n=(Z8 n (Q9.mk [] []) 0>>=fun v2=>(match v2 with
    | (.inl v3)=>some (n,(0:Int))
    | (.inr v4)=>some (v4.fst,v4.snd))):=by
   rw[Zf,hv,bS,if_neg (by rw[h.v];simp)];rfl
  cases hu:unI n with
  |none=>
   have a4:unF n n.fc ([]:List Qb).length=none:=hu;rw[a4] at hL;refine⟨n,0,Nat.zero_le _,?_,h,fun c h0 h1=> ?_⟩
   ·rw[a5,show Z8 n (Q9.mk [] []) 0=_ from hL];rfl
   ·have:unV n= -1:=by unfold unV;rw[hu]
    rw[this,Zp,if_neg (by omega)]
    simp
  |some i=>
   have a4:unF n n.fc ([]:List Qb).length=some i:=hu;rw[a4] at hL;obtain⟨hi,hp⟩:=By (p:=[]) rfl a4;have hs:=step_ok h hi hp;have a6:(Il n i (n.fc[i]).fa).fc.length=k - 1:=by
    show(n.fc.eraseIdx i).length=_;rw[List.length_eraseIdx,if_pos hi];omega
   obtain⟨r,m,hm,hr,aa,a9⟩:=both (k - 1) _ a6 hs;refine⟨r,m+1,by omega,?_,aa,fun c h0 h1=> ?_⟩
   ·rw[a5,show Z8 n (Q9.mk [] []) 0=_ from hL];simp only;rw[dif_pos hi,hr];simp only[bS];rw[ZB (by omega)];rfl
   ·have ab:unV n=(i:Int):=by unfold unV;rw[hu]
    have hd:YI n.fc (i:Int) (wr ((i:Int)+1))=some (n.fc.eraseIdx i):=by
     unfold YI;rw[ZB (by omega),if_pos ⟨by omega,by omega,rfl⟩];simp
    have a3:=p_rm (n.fc[i]).fa n.fb h.s h.gd;have a7:=B6 (Il n i (n.fc[i]).fa) (by have:=hs.len;omega) hs.gd hs.s
    rw[ab,Zp,if_pos (by omega),if_pos ⟨by omega,by omega⟩,Int.toNat_natCast,List.getElem?_eq_getElem hi,bS]
    cases hw:Zy n.fb (n.fc[i]).fa with
    |none=>rw[hw] at a3;cases a3
    |some v1=>
     rw[hw,bS] at a3;rw[bS,a3,bS,hd,bS];have e:Va (Q9.mk (n.fc.eraseIdx i) (rmL (n.fc[i]).fa n.fb))=some (unV (Il n i (n.fc[i]).fa)):=a7;rw[e,bS,ZB (by omega)]
     have:=a9 (c+1) (by omega) (by omega)
     rw[show Zp (Q9.mk (n.fc.eraseIdx i) (rmL (n.fc[i]).fa n.fb)) (c+1) (unV (Il n i (n.fc[i]).fa))=_ from this];congr 2;omega
 termination_by k=>k
 decreasing_by omega
end Go.Proofs.YtkgphhemcglgnaaGreatDoor
end
section
namespace Go.Proofs.YtkgphhemcglgnaaGreatDoor
open Go HY
set_option maxRecDepth 1000000
theorem Kk{e:Nat×List AV×AV×Tr Box×Nat}{T:Kd}(hT:KF Tryz.prog gls T)(he:Jc Tryz.prog gls e.1 e.2.1 e.2.2.1 e.2.2.2.1 e.2.2.2.2):KF Tryz.prog gls (e::T):=fun e a3=>by
 rcases List.mem_cons.1 a3 with rfl | h
 ·exact he
 ·exact hT e h
def q8:AV:=.agg [.str [97],ii 1,ii 0,ii 0,ii 0,ii 0,.sl 1 [.agg [ii 3]],ii 1]
def q9:AV:=.agg [.str [99],ii 1,ii 0,ii 0,ii 0,ii 0,.sl 1 [.agg [ii 2]],ii 2]
def q3:AV:=.sl 8 [q8,.agg [.str [100],ii 1,ii 0,ii 0,ii 0,ii 0,.sl 1 [.agg [ii 3]],ii 3],q9]
def q10:AV:=.sl 4 [.agg [ii 0,.sl 2 [.agg [.str [105],ii 1]],.str [],.nil]]
def q6:AV:=.agg [ii 1,.str [],ii 1,ii 1,ii 1,ii 0,ii 0,ii 0,ii 0,ii 0,.nil,.nil,.nil]
def q1:AV:=.agg [ii 1,.str [105],ii 3,ii 0,ii 0,.nil,ii 0,.str [],ii 0,ii 0,ii 0,ii 0,ii 0,ii 0,ii 0,ii 0,.nil,.nil,.nil,.sl 20 [.agg [ii 2,.str [100],ii 0,ii 0,ii 0,q10,ii 4,.str [],ii 0,ii 0,ii 0,ii 0,ii 0,ii 0,ii 0,ii 0,.nil,.nil,.sl 13 [.agg [ii 3,.str [97],ii 0,ii 0,ii 0,ii 0,ii 0,ii 0,ii 0,ii 0,.nil,q10,.nil],q6],.nil]]]
def q7:AV:=.sl 2 [.agg [.str [106],ii 1]]
def q12:AV:=.sl 4 [.agg [ii 0,q7,.str [],.nil]]
def q13:AV:=.sl 4 [.agg [ii 1,q7,.str [],.nil]]
def q5:AV:=.agg [ii 1,.str [],ii 2,ii 1,ii 1,ii 0,ii 0,ii 0,ii 0,ii 0,.nil,.nil,.nil]
def q0:AV:=.agg [q3,.sl 20 [q1,.agg [ii 1,.str [106],ii 2,ii 0,ii 0,.nil,ii 0,.str [],ii 0,ii 0,ii 0,ii 0,ii 0,ii 0,ii 0,ii 0,.nil,.nil,.nil,.sl 20 [.agg [ii 2,.str [99],ii 0,ii 0,ii 0,q12,ii 6,.str [],ii 0,ii 0,ii 0,ii 0,ii 0,ii 0,ii 0,ii 0,.nil,.nil,.sl 13 [.agg [ii 3,.str [100],ii 0,ii 0,ii 0,ii 0,ii 0,ii 0,ii 0,ii 0,.nil,q13,.nil],q5],.nil]]]]]
def q4:AV:=.sl 8 [q8,q9]
def q2:AV:=.agg [q4,.sl 20 [.agg [ii 1,.str [106],ii 2,ii 0,ii 0,.nil,ii 0,.str [],ii 0,ii 0,ii 0,ii 0,ii 0,ii 0,ii 0,ii 0,.nil,.nil,.nil,.sl 20 [.agg [ii 2,.str [99],ii 0,ii 0,ii 0,q12,ii 6,.str [],ii 0,ii 0,ii 0,ii 0,ii 0,ii 0,ii 0,ii 0,.nil,.nil,.sl 13 [.agg [ii 4,.str [],ii 0,ii 0,ii 0,ii 0,ii 0,ii 0,ii 0,ii 0,.nil,.nil,.sl 13 [.agg [ii 3,.str [97],ii 0,ii 0,ii 0,ii 0,ii 0,ii 0,ii 0,ii 0,.nil,q13,.nil],q6]],q5],.nil]]]]]
def q11:AV:=.agg [q3,.sl 20 [q1]]
def q14:AV:=.tup [.nil,ii 0]
def e0:Nat×List AV×AV×Tr Box×Nat:=(22,[],q0,.nil,1)
def memo0:Kd:=e0::OO
theorem OE:KF Tryz.prog gls memo0:=Kk EI (YS (Yh V0 Ga EI 60 (fl:=100000)) (by kernel_rfl))
def e1:Nat×List AV×AV×Tr Box×Nat:=(115,[.str [97]],.bool true,.nil,1)
def memo1:Kd:=e1::memo0
theorem OF:KF Tryz.prog gls memo1:=Kk OE (YS (Yh V0 Ga OE 60 (fl:=100000)) (by kernel_rfl))
def e2:Nat×List AV×AV×Tr Box×Nat:=(115,[.str [100]],.bool true,.nil,1)
def memo2:Kd:=e2::memo1
theorem OG:KF Tryz.prog gls memo2:=Kk OF (YS (Yh V0 Ga OF 60 (fl:=100000)) (by kernel_rfl))
def e3:Nat×List AV×AV×Tr Box×Nat:=(115,[.str [99]],.bool true,.nil,1)
def memo3:Kd:=e3::memo2
theorem OH:KF Tryz.prog gls memo3:=Kk OG (YS (Yh V0 Ga OG 60 (fl:=100000)) (by kernel_rfl))
def e4:Nat×List AV×AV×Tr Box×Nat:=(115,[.str [105]],.bool true,.nil,1)
def memo4:Kd:=e4::memo3
theorem OI:KF Tryz.prog gls memo4:=Kk OH (YS (Yh V0 Ga OH 60 (fl:=100000)) (by kernel_rfl))
def e5:Nat×List AV×AV×Tr Box×Nat:=(115,[.str [106]],.bool true,.nil,1)
def memo5:Kd:=e5::memo4
theorem OJ:KF Tryz.prog gls memo5:=Kk OI (YS (Yh V0 Ga OI 60 (fl:=100000)) (by kernel_rfl))
end Go.Proofs.YtkgphhemcglgnaaGreatDoor
end
section
namespace Go.Proofs.YtkgphhemcglgnaaGreatDoor
open Go HY
set_option maxRecDepth 1000000
def e6:Nat×List AV×AV×Tr Box×Nat:=(29,[q0],q14,.nil,1)
def memo6:Kd:=e6::memo5
theorem OK:KF Tryz.prog gls memo6:=Kk OJ (YS (Yh V0 Ga OJ 60 (fl:=100000)) (by kernel_rfl))
def e7:Nat×List AV×AV×Tr Box×Nat:=(29,[q2],q14,.nil,1)
def memo7:Kd:=e7::memo6
theorem OL:KF Tryz.prog gls memo7:=Kk OK (YS (Yh V0 Ga OK 60 (fl:=100000)) (by kernel_rfl))
def e8:Nat×List AV×AV×Tr Box×Nat:=(23,[q0,.str [100]],.tup [q2,ii 0],.nil,1)
def memo8:Kd:=e8::memo7
theorem OM:KF Tryz.prog gls memo8:=Kk OL (YS (Yh Rq Ad OL 60 (fl:=100000)) (by kernel_rfl))
def e9:Nat×List AV×AV×Tr Box×Nat:=(30,[q0],ii (-1),.nil,1)
def memo9:Kd:=e9::memo8
theorem ON:KF Tryz.prog gls memo9:=Kk OM (YS (Yh V0 Ga OM 60 (fl:=100000)) (by kernel_rfl))
def e10:Nat×List AV×AV×Tr Box×Nat:=(9,[q0],.tup [q0,ii 0],.nil,1)
def memo10:Kd:=e10::memo9
theorem Fb:KF Tryz.prog gls memo10:=Kk ON (YS (Yh Rq Ad ON 60 (fl:=100000)) (by kernel_rfl))
def e11:Nat×List AV×AV×Tr Box×Nat:=(29,[q11],q14,.nil,1)
def memo11:Kd:=e11::memo10
theorem Fc:KF Tryz.prog gls memo11:=Kk Fb (YS (Yh V0 Ga Fb 60 (fl:=100000)) (by kernel_rfl))
end Go.Proofs.YtkgphhemcglgnaaGreatDoor
end
section
namespace Go.Proofs.YtkgphhemcglgnaaGreatDoor
open Go HY
set_option maxRecDepth 1000000
def e12:Nat×List AV×AV×Tr Box×Nat:=(30,[q11],ii 1,.nil,1)
def memo12:Kd:=e12::memo11
theorem Fd:KF Tryz.prog gls memo12:=Kk Fc (YS (Yh V0 Ga Fc 60 (fl:=100000)) (by kernel_rfl))
def e13:Nat×List AV×AV×Tr Box×Nat:=(30,[.agg [q4,.nil]],ii (-1),.nil,1)
def memo13:Kd:=e13::memo12
theorem Fe:KF Tryz.prog gls memo13:=Kk Fd (YS (Yh V0 Ga Fd 60 (fl:=100000)) (by kernel_rfl))
def e14:Nat×List AV×AV×Tr Box×Nat:=(9,[q11],.tup [.agg [q4,.nil],ii 1],.nil,1)
def memo14:Kd:=e14::memo13
theorem Q40:KF Tryz.prog gls memo14:=Kk Fe (YS (Yh Rq Ad Fe 60 (fl:=100000)) (by kernel_rfl))
end Go.Proofs.YtkgphhemcglgnaaGreatDoor
end
section
namespace Go.Proofs.YtkgphhemcglgnaaGreatDoor
open Go HY
set_option maxRecDepth 1000000
theorem ex_run:HY.isTrue (xcallM Tryz.prog gls gds2 100000 xe1 memo14 60 8 [] .nil 0)=true:=by kernel_rfl
theorem ex_ok:Pu Tryz.prog gls 8 [] (.bool true):=by
 have h:=ex_run;unfold HY.isTrue at h;split at h
 ·rename_i r hr;exact Pu.ofCall (Yh Rq Ad Q40 60 _ _ _ _ _ _ _ hr).zero rfl
 ·cases h
end Go.Proofs.YtkgphhemcglgnaaGreatDoor
end
section
namespace Go.Proofs.YtkgphhemcglgnaaGreatDoor
open Go HY
noncomputable def Du:Option Bool:=some true
theorem Lx(r:Bool)(h:Du=some r):PU 8 [] (.bool r):=by
 cases h;exact ex_ok
end Go.Proofs.YtkgphhemcglgnaaGreatDoor
end
noncomputable section
namespace Go.Proofs.YtkgphhemcglgnaaGreatDoor
open Go HY
set_option maxRecDepth 1000000
def JS(x0:Q9):Option Bool:=
 Np x0 300>>=fun v0=>if v0 then
 Du>>=fun v1=>
 some v1
 else
 KT x0>>=fun v2=>
 Zf x0>>=fun v3=>
 We v2.fst v3.fst>>=fun v4=>if v4 then
 if v2.snd==v3.snd then
 Du>>=fun v5=>
 some v5
 else
 some false
 else
 some false
theorem Mq(x0 r)(h:JS x0=some r):PU 3 [Qj x0] (eB r):=
 Pu2 (hs:=[(8,.cb),(9,.c eB),(12,.c YC),(17,.c YC),(22,.cb),(26,.split),(29,.c eB)]) ((kCb (O9 x0 300) (kC (sh:=eB) (Lx) fun v1=>(kEr (enc:=eB) v1))
 (kC (sh:=YC) (Is x0) fun v2=>(kC (sh:=YC) (Hl x0) fun v3=>(kCb (BZ v2.fst v3.fst) (kIf (c:=v2.snd==v3.snd) (kC (sh:=eB) (Lx) fun v5=>(kEr (enc:=eB) v5))
 (kEr (enc:=eB) false))
 (kEr (enc:=eB) false))))) h)
end Go.Proofs.YtkgphhemcglgnaaGreatDoor
end
section
namespace Go.Proofs.YtkgphhemcglgnaaGreatDoor
open Go HY
theorem l_ex:Du=some true:=rfl
theorem s_law(n:Q9)(hb:okBs n.fc)(hz:n.fc.length*88≤140737488351232)(hl:okSs n.fb):JS n=some true:=by
 obtain⟨b,e,_⟩:=a_Long n hb hl 300;unfold JS;rw[e,bS,l_ex];cases b with
 |true=>rfl
 |false=>
  have hp:=p_valid n hb hl;have hr:=Q1k n hb hl
  suffices h:∃(r:Q9) (m:Int),KT n=some (r,m)∧Zf n=some (r,m)∧We r r=some true by
   obtain⟨r,m,h1,h2,h3⟩:=h;rw[if_neg (by simp),h1,bS,h2,bS,h3,bS,if_pos rfl,if_pos (by simp)];rfl
  by_cases hv:(vd n).2=0
  ·have h:okV n:=⟨hb,hl,hv⟩;obtain⟨r,m,hm,a6,a4,h7⟩:=both _ n rfl h;have a7:=h.len;have a5:Va n=some (unV n):=B6 n (by omega) h.gd h.s
   refine⟨r,m,?_,a6,b_Nest r a4.b a4.s⟩;unfold KT;rw[s_Copy n hb hz hl,bS,hp,bS,if_neg (by rw[hv];simp),a5,bS,bS,h7 0 (by omega) (by omega),bS]
   simp
  ·refine⟨n,0,?_,?_,b_Nest n hb hl⟩
   ·unfold KT;rw[s_Copy n hb hz hl,bS,hp,bS,if_pos (by simpa using hv)]
   ·rw[Zf,hr,bS,if_pos (by simpa using hv)]
end Go.Proofs.YtkgphhemcglgnaaGreatDoor
end
section
namespace Go.Proofs.YtkgphhemcglgnaaGreatDoor
open Go HY Go.RowKit Go.ChangeShapes Go.WideShapes
set_option maxRecDepth 1000000
def TO(x:Qc):Prop:=True∧True∧True∧True∧True∧True
theorem u3:Tryz.prog.underlying 3=some (.int .i64):=by kernel_rfl
def HH(x:Qb):Prop:=True∧TO x.fd∧(x.fC.length*Tryz.prog.bytesOf 3≤reachBytes∧∀a∈x.fC,True)∧True∧True
theorem u39:Tryz.prog.underlying 39=some (.slice 3):=by kernel_rfl
theorem c39:Tryz.prog.cellsOf 3=1:=by kernel_rfl
theorem u9:Tryz.prog.underlying 9=some .string:=by kernel_rfl
def OU(x:Zh):Prop:=True∧fits x.fBy∧True
theorem u2:Tryz.prog.underlying 2=some (.int .i64):=by kernel_rfl
def IR(x:gLin):Prop:=fits x.fK∧(x.fL.length*Tryz.prog.bytesOf 133≤reachBytes∧∀a∈x.fL,OU a)∧True
theorem u48:Tryz.prog.underlying 48=some (.slice 133):=by kernel_rfl
theorem c48:Tryz.prog.cellsOf 133=2:=by kernel_rfl
def Ih(x:Q7):Prop:=IR x.fj∧True∧(x.fAt.length*Tryz.prog.bytesOf 50≤reachBytes∧∀a∈x.fAt,IR a)∧True
theorem u56:Tryz.prog.underlying 56=some (.slice 50):=by kernel_rfl
theorem c56:Tryz.prog.cellsOf 50=2:=by kernel_rfl
def Q1e(x:gVal):Prop:=fits x.fN∧fits x.fD∧True
inductive LK:Qa→Prop
 |mk (x:Q1) (h0:True) (h1:True) (h2:Q1e x.fx) (h3:TO x.fd) (h4:IR x.fj) (h5:(x.fe.length*Tryz.prog.bytesOf 58≤reachBytes∧∀a∈x.fe,Ih a)) (h6:x.ff.length*Tryz.prog.bytesOf 53≤reachBytes) (g6:∀a∈x.ff,LK a):LK (.mk x)
theorem u51:Tryz.prog.underlying 51=some (.slice 53):=by kernel_rfl
theorem c51:Tryz.prog.cellsOf 53=13:=by kernel_rfl
theorem u43:Tryz.prog.underlying 43=some (.slice 58):=by kernel_rfl
theorem c43:Tryz.prog.cellsOf 58=4:=by kernel_rfl
inductive M2:Q0→Prop
 |mk (x:Qg) (h0:True) (h1:True) (h2:True) (h3:True) (h4:True) (h5:(x.fe.length*Tryz.prog.bytesOf 58≤reachBytes∧∀a∈x.fe,Ih a)) (h6:LK (.mk x.fg)) (h7:x.fb.length*Tryz.prog.bytesOf 55≤reachBytes) (g7:∀a∈x.fb,M2 a):M2 (.mk x)
theorem u23:Tryz.prog.underlying 23=some (.slice 55):=by kernel_rfl
theorem c23:Tryz.prog.cellsOf 55=20:=by kernel_rfl
def TN(x:Q9):Prop:=(x.fc.length*Tryz.prog.bytesOf 68≤reachBytes∧∀a∈x.fc,HH a)∧(x.fb.length*Tryz.prog.bytesOf 55≤reachBytes∧∀a∈x.fb,M2 a)∧True
theorem u22:Tryz.prog.underlying 22=some (.slice 68):=by kernel_rfl
theorem c22:Tryz.prog.cellsOf 68=8:=by kernel_rfl
section
variable {H : Type} {enc : TypeId × Value → H} {w : World} {base : Nat} {spare : Nat → Bool} {held : Bool}
theorem Pz{P:Program}(n:Nat){t:TypeId}(ht:P.underlying t=some (.int .i64)):Y0 enc P w base spare held n t (fun a:Int=>[.int .i64 a]) (fun a d=>Sz P t d→fits a):=
 (Fp n ht).to id (fun _=>rfl) fun a d h _=>by
  have h1:=h.1;simp only[Lit.wf,Bool.and_eq_true,decide_eq_true_eq] at h1;have e1:IntKind.i64.min= -9223372036854775808:=by decide
  have e2:IntKind.i64.max=9223372036854775807:=by decide
  rw[e1,e2] at h1;exact h1
theorem Be(n:Nat):Y0 enc Tryz.prog w base spare held n 47 (fun x:Qc=>(Qf x).cells) (fun x d=>Sz Tryz.prog 47 d→TO x):=
 ((DA Tryz.underlying47 (by kernel_rfl) (ZO (WN n u3) (ZO (WN n u3) (ZO (WN n u3) (ZO (WN n u3) (ZO (WN n u3) (L9 n))))))).to (fun x=>Qc.mk x.1 x.2.1 x.2.2.1 x.2.2.2.1 x.2.2.2.2.1) (fun _=>rfl) (fun a d h hz=>h hz)).le (Nat.le_succ n)
theorem Q3b(n:Nat):Y0 enc Tryz.prog w base spare held n 68 (fun x:Qb=>(Q4 x).cells) (fun x d=>Sz Tryz.prog 68 d→HH x):=
 ((DA Tryz.underlying68 (by kernel_rfl) (ZO (SW n u9) (ZO (Be n) (ZO ((CX eI u39 c39 (by decide) (fun _=>rfl) (WN n u3)).le (Nat.le_succ _)) (ZO (WN n u3) (L9 n)))))).to (fun x=>Qb.mk x.1 x.2.1 x.2.2.1 x.2.2.2.1) (fun _=>rfl) (fun a d h hz=>h hz)).le (Nat.le_succ n)
theorem Q60(n:Nat):Y0 enc Tryz.prog w base spare held n 133 (fun x:Zh=>(Qk x).cells) (fun x d=>Sz Tryz.prog 133 d→OU x):=
 ((DA Tryz.underlying133 (by kernel_rfl) (ZO (SW n u9) (ZO (Pz n u2) (L9 n)))).to (fun x=>Zh.mk x.1 x.2.1) (fun _=>rfl) (fun a d h hz=>h hz)).le (Nat.le_succ n)
theorem AP(n:Nat):Y0 enc Tryz.prog w base spare held n 50 (fun x:gLin=>(Qe x).cells) (fun x d=>Sz Tryz.prog 50 d→IR x):=
 ((DA Tryz.underlying50 (by kernel_rfl) (ZO (Pz n u2) (ZO ((CX Qk u48 c48 (by decide) (fun _=>rfl) (Q60 n)).le (Nat.le_succ _)) (L9 n)))).to (fun x=>gLin.mk x.1 x.2.1) (fun _=>rfl) (fun a d h hz=>h hz)).le (Nat.le_succ n)
theorem Fo(n:Nat):Y0 enc Tryz.prog w base spare held n 58 (fun x:Q7=>(Q2 x).cells) (fun x d=>Sz Tryz.prog 58 d→Ih x):=
 ((DA Tryz.underlying58 (by kernel_rfl) (ZO (AP n) (ZO (SW n u9) (ZO ((CX Qe u56 c56 (by decide) (fun _=>rfl) (AP n)).le (Nat.le_succ _)) (L9 n))))).to (fun x=>Q7.mk x.1 x.2.1 x.2.2.1) (fun _=>rfl) (fun a d h hz=>h hz)).le (Nat.le_succ n)
theorem rd_gVal(n:Nat):Y0 enc Tryz.prog w base spare held n 45 (fun x:gVal=>(Nz x).cells) (fun x d=>Sz Tryz.prog 45 d→Q1e x):=
 ((DA Tryz.underlying45 (by kernel_rfl) (ZO (Pz n u2) (ZO (Pz n u2) (L9 n)))).to (fun x=>gVal.mk x.1 x.2.1) (fun _=>rfl) (fun a d h hz=>h hz)).le (Nat.le_succ n)
theorem Bc:∀n,Y0 enc Tryz.prog w base spare held n 53 (fun x:Q1=>(Q5 x).cells) (fun x d=>Sz Tryz.prog 53 d→LK (.mk x))
 |0=>rzZero _ _
 |n+1=>(DA Tryz.underlying53 (by kernel_rfl) (ZO (WN n u3) (ZO (SW n u9) (ZO (rd_gVal n) (ZO (Be n) (ZO (AP n) (ZO ((CX Q2 u43 c43 (by decide) (fun _=>rfl) (Fo n)).le (Nat.le_succ _)) (ZO ((CX Qi u51 c51 (by decide) (fun _=>rfl) ((Bc n).to Qa.mk (fun x=>by rw[EA]) (fun x d h=>h))).le (Nat.le_succ _)) (L9 n))))))))).to (fun x=>(QS.mk x.1 x.2.1 x.2.2.1 x.2.2.2.1 x.2.2.2.2.1 x.2.2.2.2.2.1 x.2.2.2.2.2.2.1:Q1)) (fun _=>rfl) (fun a d h hz=>by obtain⟨p0,p1,p2,p3,p4,p5,p6,_⟩:=h hz;exact .mk _ p0 p1 p2 p3 p4 p5 p6.1 p6.2)
theorem Bd:∀n,Y0 enc Tryz.prog w base spare held n 55 (fun x:Qg=>(Qp x).cells) (fun x d=>Sz Tryz.prog 55 d→M2 (.mk x))
 |0=>rzZero _ _
 |n+1=>(DA Tryz.underlying55 (by kernel_rfl) (ZO (WN n u3) (ZO (SW n u9) (ZO (WN n u3) (ZO (WN n u3) (ZO (WN n u3) (ZO ((CX Q2 u43 c43 (by decide) (fun _=>rfl) (Fo n)).le (Nat.le_succ _)) (ZO (Bc n) (ZO ((CX Q6 u23 c23 (by decide) (fun _=>rfl) ((Bd n).to Q0.mk (fun x=>by rw[UN]) (fun x d h=>h))).le (Nat.le_succ _)) (L9 n)))))))))).to (fun x=>(ZH.mk x.1 x.2.1 x.2.2.1 x.2.2.2.1 x.2.2.2.2.1 x.2.2.2.2.2.1 x.2.2.2.2.2.2.1 x.2.2.2.2.2.2.2.1:Qg)) (fun _=>rfl) (fun a d h hz=>by obtain⟨p0,p1,p2,p3,p4,p5,p6,p7,_⟩:=h hz;exact .mk _ p0 p1 p2 p3 p4 p5 p6 p7.1 p7.2)
theorem Q4d(n:Nat):Y0 enc Tryz.prog w base spare held n 55 (fun x:Q0=>(Q6 x).cells) (fun x d=>Sz Tryz.prog 55 d→M2 x):=(Bd n).to Q0.mk (fun x=>by rw[UN]) (fun x d h=>h)
theorem Q61(n:Nat):Y0 enc Tryz.prog w base spare held n 25 (fun x:Q9=>(Qj x).cells) (fun x d=>Sz Tryz.prog 25 d→TN x):=
 ((DA Tryz.underlying25 (by kernel_rfl) (ZO ((CX Q4 u22 c22 (by decide) (fun _=>rfl) (Q3b n)).le (Nat.le_succ _)) (ZO ((CX Q6 u23 c23 (by decide) (fun _=>rfl) (Q4d n)).le (Nat.le_succ _)) (L9 n)))).to (fun x=>Q9.mk x.1 x.2.1) (fun _=>rfl) (fun a d h hz=>h hz)).le (Nat.le_succ n)
end
theorem Wt:reachBytes=140737488351232:=rfl
theorem Q07:Tryz.prog.bytesOf 133=24:=by kernel_rfl
theorem Q2l:Tryz.prog.bytesOf 50=32:=by kernel_rfl
theorem Ey:Tryz.prog.bytesOf 58=72:=by kernel_rfl
theorem Q06:Tryz.prog.bytesOf 53=160:=by kernel_rfl
theorem T1:Tryz.prog.bytesOf 55=256:=by kernel_rfl
theorem okL_r{l:gLin}(h:IR l):okL l:=by
 obtain⟨h1,⟨h2,h3⟩,_⟩:=h;rw[Q07,Wt] at h2;exact⟨h1,h2,fun m hm=>(h3 m hm).2.1⟩
theorem okI_r{x:Q7}(h:Ih x):okI x:=by
 obtain⟨h1,_,⟨h2,h3⟩,_⟩:=h;rw[Q2l,Wt] at h2;exact⟨okL_r h1,h2,fun l hl=>okL_r (h3 l hl)⟩
theorem okE_r:∀e,LK e→okE e:=Qa.ind fun x ih h=>by
 cases h with
 |mk _ h0 h1 h2 h3 h4 h5 h6 g6=>
  rw[Q06,Wt] at h6;have a3:=h5.1;rw[Ey,Wt] at a3;exact .mk x (okL_r h4) a3 (fun i hi=>okI_r (h5.2 i hi)) h6 (fun a ha=>ih a ha (g6 a ha))
theorem okS_r:∀e,M2 e→okS e:=Q0.ind fun x ih h=>by
 cases h with
 |mk _ h0 h1 h2 h3 h4 h5 h6 h7 g7=>
  rw[T1,Wt] at h7;have a3:=h5.1;rw[Ey,Wt] at a3;exact .mk x a3 (fun i hi=>okI_r (h5.2 i hi)) (okE_r _ h6) h7 (fun a ha=>ih a ha (g7 a ha))
theorem Q3r:Tryz.prog.bytesOf 3=8:=by kernel_rfl
theorem Pe:1≤Tryz.prog.bytesOf 68:=of_decide_eq_true (by kernel_rfl)
theorem okBf_r{b:Qb}(h:HH b):okBf b:=by
 obtain⟨_,_,⟨h1,_⟩,_⟩:=h;rw[Q3r,Wt] at h1;unfold okBf;omega
theorem okN_r{n:Q9}(h:TN n):okBs n.fc∧okSs n.fb:=by
 obtain⟨⟨h1,h2⟩,⟨h3,h4⟩,_⟩:=h;rw[Wt] at h1;rw[T1,Wt] at h3;have hb:=Nat.le_mul_of_pos_right n.fc.length Pe;exact⟨⟨by omega,fun b hb=>okBf_r (h2 b hb)⟩,h3,fun s hs=>okS_r s (h4 s hs)⟩
theorem Sv:Tryz.prog.bytesOf 68=88:=by kernel_rfl
theorem okN_z{n:Q9}(h:TN n):n.fc.length*88≤140737488351232:=by
 have h1:=h.1.1;rw[Sv,Wt] at h1;exact h1
end Go.Proofs.YtkgphhemcglgnaaGreatDoor
end
section
namespace HY
open Go Go.RowKit Go.ChangeShapes Go.WideShapes Go.ChangeAt
theorem E7{H:Type}{enc:TypeId×Value→H}{P:Program}(hl:laidOutB P=true){W W':World}(hb:Below W.heap.size W W'):∀ {ts:List TypeId} {vs:List Value} {ds:List (DataW H)} {ps:List MemPlace},
  (∀t∈ts,P.readableRec t=true∧t<P.types.size)→DataW.TrodAll enc P W 0 (fun _=>true) true ts vs ds ps→(∀p∈ps,p.block<W.heap.size)→DataW.TrodAll enc P W' 0 (fun b=>decide (b<W.heap.size)) true ts vs ds ps
 | [],[],[],_,_,h,_=>h
 |t::ts,v::vs,d::ds,_,ht,⟨p,q,h1,h2,e⟩,hp=>
  ⟨p,q,Below.trod hl (ht t (List.mem_cons_self ..)).1 (ht t (List.mem_cons_self ..)).2 h1 hb (fun x hx=>hp x (by rw[e];exact List.mem_append_left _ hx)),
   E7 hl hb (fun t' h'=>ht t' (List.mem_cons_of_mem _ h')) h2 (fun x hx=>hp x (by rw[e];exact List.mem_append_right _ hx)),e⟩
 | [],_::_,_,_,_,h,_=>h.elim
 | [],[],_::_,_,_,h,_=>h.elim
 |_::_,[],_,_,_,h,_=>h.elim
 |_::_,_::_,[],_,_,h,_=>h.elim
structure LawOk (P:Program) (f:Func) (tb:TypeId):Prop where
 laid:laidOutB P=true
 pars:(f.params.toList.all fun t=>P.readableRec t&&decide (t<P.types.size))=true
 res:f.resultTypes= #[tb]
 bool:P.underlying tb=some .bool
theorem Q48{H:Type}{enc:TypeId×Value→H}{P:Program}{f:Func}{tb:TypeId}(a3:LawOk P f tb){s:ChangeSpec}{W W':World}{args:Array Value}{ds gs:List (DataW H)}{before:List MemPlace}(hv:s.vars=[])
  (hW:DataW.Whole enc P f.params.toList s.vars false W args.toList ds gs before) (a4:s.fn H (ds++gs)= {results:=[.lit (.bool true)],args:=ds}) (hb:Below W.heap.size W W'):s.post enc P f false true false false W args (.bool true) W':=by
 have a9:=hW.lt;have a8:=hW;obtain⟨p,q,hA,hV,rfl,_,_⟩:=hW;rw[hv] at hV;obtain⟨rfl,rfl⟩:gs=[]∧q=[]:=by
  cases gs with
  |nil=>exact⟨rfl,hV⟩
  |cons=>exact hV.elim
 have hp:=a3.pars;rw[List.all_eq_true] at hp;refine⟨ds,[],p++[],[],p,[],a8,?_,?_,?_,hb.frame _,fun h=>by cases h⟩
 ·rw[a4,a3.res];exact⟨[],[],shut_bool a3.bool _,rfl,rfl⟩
 ·rw[a4];exact E7 a3.laid hb (fun t ht=>by have:=hp t ht;simp only[Bool.and_eq_true,decide_eq_true_eq] at this;exact this) hA (fun x hx=>a9 x (List.mem_append_left _ hx))
 ·rw[a4,hv];exact rfl
end HY
end
section
namespace HY
open Go Go.RowKit Go.ChangeShapes Go.WideShapes Go.ChangeAt
theorem Q2s{P:Program}{gl:Nat→AV}{f:FuncId}{args:List AV}(a5:Nc P f)(h:Pu P gl f args (.bool true)){W:World}{vs:Array Value}(hl:args.length=vs.size)(a6:∀g,RelI (HV.full W) (gl g) (.pointer (some ⟨g,0,none⟩)))(a7:GvOk gl (fun k=>k<W.heap.size) W)
  (hr:∀(j:Nat) (x:AV) (v:Value),args[j]? =some x→vs[j]? =some v→RelI (HV.full W) x v):Calls P f vs W fun e W'=>e= .returned (.bool true)∧Below W.heap.size W W':=by
 refine(Ans.calls (he:=a5)<| h.ok (fun _=>⟨0,0,0⟩) (HV.full W) (fun k=>k<W.heap.size) (HV.full W) W vs
  {sat:=Q5c W,old:=fun _ _ _=>rfl,low:=fun _ h=>h,fresh:=fun _ _=>Zz _,box:=(fun _ _ hh=>by rw[Zz] at hh;cases hh),sepR:=(fun _ _ hh=>by rw[Zz] at hh;cases hh),injR:=(fun _ _ _ _ hh=>by rw[Zz] at hh;cases hh),gv:=a7,gl:=a6,ty:=(fun _ _ _ hh=>by rw[Zz] at hh;cases hh)} hl
  (fun j x v hx hv=>.imm _ _ (hr j x v hx hv))).mono fun e W' a4=> ?_
 obtain⟨v,m',H',he,hb,_,hv⟩:=a4;have:=hv.bool_inv;subst this;exact⟨he,hb.toB⟩
theorem Q2p{H:Type}{enc:TypeId×Value→H}{C:Checked}{os:Os}{f:FuncId}{fn:Func}{s:ChangeSpec}{X:World→Prop}(hX:∀w w':World,w.heap=w'.heap→X w→X w')
  (own:ownKnob C.prog.godebug=none) (a3:os.Started) (a5:C.prog.inits.idxOf? f=none) (ab:C.prog.funcs[f]? =some fn)
  (a4:∃(w:World) (tape:Tape) (i:Input),w.os=os∧(w.forCall tape i).Shaped C.prog∧i.vars=[]∧Input.okWide C.prog (w.forCall tape i) .any w.heap.size f i∧
   ((s.pre enc C.prog fn [] false (w.forCall tape i).memory i.args∧X (w.forCall tape i).memory)∧sizedMet enc C.prog fn (OpenSpec.ofChange s) false (w.forCall tape i).memory i.args)∧({}:Assume).holds C.prog (lone (Frame.enter C.prog f i.args .normal) [] (w.forCall tape i)))
  (TF:∀(W:World) (base:Nat) (args:Array Value) (ds gs:List (DataW H)) (before:List MemPlace),
   (∀(j:Nat) t v,fn.params[j]? =some t→args[j]? =some v→Value.okWide C.prog W .any base t v)→DataW.Whole enc C.prog fn.params.toList s.vars false W args.toList ds gs before→X W→W.ShapedOpen C.prog→(DataW.weightsEach C.prog (fn.params.toList++s.plain.varTypes C.prog) (ds++gs)).all (· ≤reachBytes)=true→
   Calls C.prog f args W fun e W'=>∃v,e= .returned v∧s.post enc C.prog fn false true false false W args v W'):
  ReturnsInHanded {} C os f .any (fun w args=>(s.pre enc C.prog fn [] false w args∧X w)∧sizedMet enc C.prog fn (OpenSpec.ofChange s) false w args) (s.post enc C.prog fn false true false false):=by
 refine returnsInHanded_of_calls own a3 a5 a4 fun w tape i _ ad _ ac a7 _=> ?_
 obtain⟨_,_,_,aa,a6,_,_,_,_,a8⟩:=ac;obtain rfl:aa=fn:=Option.some.inj (a6.symm.trans ab);obtain⟨⟨⟨ds,gs,before,hw,_⟩,hx⟩,hz⟩:=a7;refine(TF (w.forCall tape i) w.heap.size i.args ds gs before a8 (DataW.Whole.of_heap (w':=w.forCall tape i) (by rfl) hw) (hX _ _ (by rfl) hx) ad (hz.weights hw)).mono fun e W' ⟨v,he,hp⟩=> ?_
 subst he;exact ChangeSpec.post_blind hp
theorem T7{P:Program}{w:World}:∀ {l:List (String×DataW Unit)} {ps:List MemPlace} (i:Nat) {n:String} {d:DataW Unit},DataW.LaidVars P w l ps→l[i]? =some (n,d)→
  ∃g t cs a3 p,P.globalNamed n=some g∧(P.globals[g]?).map (·.type)=some t∧w.var? P n=some cs∧DataW.trod (fun _=>()) P w 0 (fun _=>true) false a3 t cs.toList=some (d,p)
 | [],_,i,_,_,_,hi=>by simp at hi
 | (n0,d0)::r,ps,i,n,d,h,hi=>by
  obtain⟨g,t,cs,a3,p,q,h1,h2,h3,h4,h5,_⟩:=h;cases i with
  |zero=>cases hi;exact⟨g,t,cs,a3,p,h1,h2,h3,h4⟩
  |succ i=>exact T7 i h5 hi
def litZ(k:IntKind)(z:Int):DataW Unit:=.lit (.int k z)
theorem Q2r{P:Program}{w:World}{laid:List (String×DataW Unit)}(hm:laidMetH P laid w)(a9:(laid.all fun x=>x.2.handleName?.isNone)=true)(i:Nat){n:String}{k:IntKind}{zs:List Int}(hi:laid[i]? =some (n,.agg (zs.map (litZ k))))
  {g t e:Nat} (hg:P.globalNamed n=some g) (a7:(P.globals[g]?).map (·.type)=some t) (hu:P.underlying t=some (.array zs.length e)) (hc:P.cellsOf e=1) (aa:P.underlying e=some (.int k)) (j:Nat) (z:Int) (hj:zs[j]? =some z):
  w.cell? ⟨g,j,none⟩=some (.int k z):=by
 rw[MakeChecks.laidMetH_plain _ _ _ a9] at hm;obtain⟨ps,hl,_,_⟩:=hm;obtain⟨g',t',cs,ac,p,e1,e2,e3,e4⟩:=T7 i hl hi;rw[hg] at e1;cases e1;rw[a7] at e2;cases e2;obtain⟨xs,m,rfl,ab,an,ar,a6⟩:=DataW.trod_array hu e4;rw[World.var?_cell hg e3 j];have a8:j<zs.length:=(List.getElem?_eq_some_iff.1 hj).1;have h1:=a6 j a8;rw[hc] at h1;have a3:xs[j]? =some (xs[j]'(by omega)):=List.getElem?_eq_getElem (by omega)
 rw[a3] at h1;obtain⟨v,h2,h3,_⟩:=DataW.trod_int aa h1;have h4:(xs.map (·.1))[j]? =some (.lit (.int k v)):=by rw[List.getElem?_map,a3,Option.map_some,h3]
 have h5:(.agg (zs.map (litZ k)):DataW Unit)= .agg (xs.map (·.1)):=congrArg Prod.fst ab;have h6:zs.map (litZ k)=xs.map (·.1):=by injection h5
 rw[← h6,List.getElem?_map,hj,Option.map_some] at h4;simp only[litZ,Option.some.injEq,DataW.lit.injEq,Lit.int.injEq,true_and] at h4;subst h4;have h7:=congrArg (·[0]?) h2;simp only[Nat.mul_one,List.getElem?_take,List.getElem?_drop,Nat.add_zero] at h7;simpa using h7
theorem tab_rel{W:World}{g:Nat}{k:IntKind}{zs:List Int}(hz:0<zs.length)(h:∀(j:Nat) (z:Int),zs[j]? =some z→W.cell? ⟨g,j,none⟩=some (.int k z)):RelI (HV.full W) (.ip zs.length [.agg (zs.map (.int k))] 0 0) (.pointer (some ⟨g,0,none⟩)):=by
 have a5:∀(i:Nat) (x:AV),[AV.agg (zs.map (AV.int k))][i]? =some x→i=0∧x= .agg (zs.map (.int k)):=fun i x hx=>by
  cases i with
  |zero=>simp at hx;exact⟨rfl,hx.symm⟩
  |succ i=>simp at hx
 have a7:∀(j:Nat) (c:AV),(zs.map (AV.int k))[j]? =some c→∃z,zs[j]? =some z∧c= .int k z:=fun j c hc=>by
  rw[List.getElem?_map,Option.map_eq_some_iff] at hc;obtain⟨z,h1,rfl⟩:=hc;exact⟨z,h1,rfl⟩
 suffices hs:RelI (HV.full W) (.ip zs.length [.agg (zs.map (.int k))] 0 0) (.pointer (some ⟨g,0+0*zs.length+0,none⟩)) by
  rwa [show 0+0*zs.length+0=0 by omega] at hs
 refine RelI.ip zs.length [.agg (zs.map (.int k))] g 0 0 0 (fun _ j=>.int k ((zs[j]?).getD 0)) hz (by simp) (fun i x hx=> ?_) (fun i x j c hx hc=> ?_) (fun i x j c hx hc=> ?_)
 ·obtain⟨rfl,rfl⟩:=a5 i x hx;show(zs.map (AV.int k)).length=_;simp
 ·obtain⟨rfl,rfl⟩:=a5 i x hx;obtain⟨z,a4,rfl⟩:=a7 j c hc;rw[a4];refine⟨?_,rfl⟩;show W.cell? ⟨g,0+0*zs.length+j,none⟩=_;rw[show 0+0*zs.length+j=j by omega]
  exact h j z a4
 ·obtain⟨rfl,rfl⟩:=a5 i x hx;obtain⟨z,a4,rfl⟩:=a7 j c hc;rw[a4];exact .int _ _
theorem tab_gv{P:Program}{W:World}(h:W.ShapedOpen P){g n t:Nat}{zero:Array Value}(hg:g<P.globals.size)(h0:((begin P (fun _ _=>0) default).world.heap[g]?).bind Obj.row? =some (zero,t))(hz:zero.size=n):g<W.heap.size∧∃C e fr,W.heap[g]? =some (.cells C e fr)∧C.size=n:=by
 obtain⟨cs,h1,h2,_⟩:=h.1 g zero t hg h0;refine⟨?_,cs,t,_,h1,by omega⟩
 rcases Nat.lt_or_ge g W.heap.size with h | h
 ·exact h
 ·rw[Array.getElem?_eq_none h] at h1;cases h1
end HY
end
section
namespace Go.Proofs.YtkgphhemcglgnaaGreatDoor
open Go HY Go.RowKit Go.ChangeShapes Go.WideShapes Go.ChangeAt
theorem own:ownKnob Tryz.prog.godebug=none:=by kernel_rfl
theorem lawOk:LawOk Tryz.prog Tryz.f3 4:=⟨by kernel_rfl,by kernel_rfl,by kernel_rfl,by kernel_rfl⟩
def Rh:List (String×DataW Unit):=[("unicode.White_Space",Rows.laid_unicode_White_Space),("strings.asciiSpace",Rows.laid_strings_asciiSpace)]
def spZ:List Int:=List.replicate 9 0++List.replicate 5 1++List.replicate 18 0++[1]++List.replicate 223 0
theorem sp_eq:spaces=spZ.map (.int .u8):=by kernel_rfl
theorem laid_sp:Rows.laid_strings_asciiSpace= .agg (spZ.map (litZ .u8)):=by kernel_rfl
theorem Q33{a b:Nat}(h:Nat.blt a b=true):a<b:=Nat.le_of_ble_eq_true h
set_option maxRecDepth 100000 in
theorem gls_ok{W:World}(h:laidMetH Tryz.prog Rh W)(g:Nat):RelI (HV.full W) (gls g) (.pointer (some ⟨g,0,none⟩)):=by
 unfold gls;cases h1:Nat.beq g 0 with
 |true=>
  obtain rfl:=Nat.eq_of_beq_eq_true h1;have:=tab_rel (W:=W) (g:=0) (k:=.u8) (zs:=spZ) (Q33 (by kernel_rfl)) fun j z hj=>Q2r h (by kernel_rfl) 1 (n:= "strings.asciiSpace") (by rw[← laid_sp];rfl) (g:=0) (t:=294) (e:=5) (by kernel_rfl) (by kernel_rfl) (by kernel_rfl) (by kernel_rfl) (by kernel_rfl) j z hj
  rw[← sp_eq] at this;exact this
 |false=>exact .undef _
theorem gv_ok{W:World}(h:W.ShapedOpen Tryz.prog):GvOk gls (fun k=>k<W.heap.size) W:=fun g sz cs hg=>by
 unfold gls at hg;cases h1:Nat.beq g 0 with
 |true=>
  obtain rfl:=Nat.eq_of_beq_eq_true h1;cases hg;exact tab_gv h (g:=0) (n:=256) (zero:=Array.replicate 256 (.int .u8 0)) (t:=294) (of_decide_eq_true (by kernel_rfl)) (by kernel_rfl) (by kernel_rfl)
 |false=>rw[h1] at hg;cases hg
theorem relAgg{K:HV}{ys:List AV}{cs:Array Value}(h:RelL K ys (Value.agg cs).cells.toList):RelI K (.agg ys) (.agg cs):=by
 have hc:(Value.agg cs).cells=cs:=rfl;rw[hc] at h;refine .agg ys cs (by rw[h.1];simp) (fun v hv=> ?_) fun j a v ha hv=>(h.2 j a v ha (by simpa using hv)).2
 obtain⟨j,hj,rfl⟩:=Array.mem_iff_getElem.1 hv;have hl:j<ys.length:=by have:=h.1;simp at this;omega
 obtain⟨h1,h2⟩:=h.2 j ys[j] cs[j] (List.getElem?_eq_getElem hl) (by simp[hj])
 exact h2.oneCell h1
set_option maxRecDepth 100000 in
theorem TF(H:Type)(enc:TypeId×Value→H)(W:World)(base:Nat)(args:Array Value)(ds gs:List (DataW H))(before:List MemPlace)
  (a3:∀(j:Nat) t v,Tryz.f3.params[j]? =some t→args[j]? =some v→Value.okWide Tryz.prog W .any base t v)
  (hW:DataW.Whole enc Tryz.prog Tryz.f3.params.toList Rows.buffersRemoveUnusedSpec.vars false W args.toList ds gs before)
  (hL:laidMetH Tryz.prog Rh W) (hS:W.ShapedOpen Tryz.prog) (hz:(DataW.weightsEach Tryz.prog (Tryz.f3.params.toList++Rows.buffersRemoveUnusedSpec.plain.varTypes Tryz.prog) (ds++gs)).all (· ≤reachBytes)=true):
  Calls Tryz.prog 3 args W fun e W'=>∃v,e= .returned v∧Rows.buffersRemoveUnusedSpec.post enc Tryz.prog Tryz.f3 false true false false W args v W':=by
 have a7:=hW;obtain⟨p,q,a6,hV,rfl,am,an⟩:=hW;have hA:DataW.TrodAll enc Tryz.prog W 0 (fun _=>true) true Tryz.f3.params.toList args.toList ds p:=a6
 rw[Tryz.params3] at hA a3 hz;obtain⟨v0,ap,d0,ah,p0,q0,a5,rfl,rfl,h0,r0⟩:=trodAll_cons hA;obtain⟨rfl,rfl,rfl⟩:=trodAll_nil r0;obtain rfl:args= #[v0]:=by cases args;simp_all
 obtain⟨rfl,rfl⟩:=trodVars_none hV;have a4:SzE Tryz.prog [25] [d0]:=fun k hk=>by
  have:=List.all_eq_true.1 hz k hk;simpa using this
 obtain⟨z0,a4⟩:=a4.cons;obtain⟨c0,rfl,_⟩:=okWide_struct Tryz.underlying25 (a3 0 25 v0 rfl rfl);obtain⟨x0,i0,a9⟩:=Y0.arg (Q61 (enc:=enc) (w:=W) (base:=0) (spare:=fun _=>true) (held:=true)) h0
 refine(Q2s (Ko (by kernel_rfl)) (Mq x0 true (s_law x0 (okN_r (i0 z0)).1 (okN_z (i0 z0)) (okN_r (i0 z0)).2)) (W:=W) rfl (gls_ok hL) (gv_ok hS) fun j t v ht hv=> ?_).mono fun e W' ⟨he,hb⟩=>⟨_,he,Q48 lawOk rfl a7 rfl hb⟩
 match j with
 |0=>cases ht;cases hv;exact relAgg a9
 |j+1=>cases ht
set_option maxRecDepth 100000 in
theorem lifted(os:Os)(a3:os.Started)(H:Type)(enc:TypeId×Value→H):
  ReturnsInHanded {} Tryz.checked os 3 .any (fun w args=>(Rows.buffersRemoveUnusedSpec.pre enc Tryz.prog Tryz.f3 [] false w args∧laidMetH Tryz.prog Rh w)∧sizedMet enc Tryz.prog Tryz.f3 (OpenSpec.ofChange Rows.buffersRemoveUnusedSpec) false w args)
   (Rows.buffersRemoveUnusedSpec.post enc Tryz.prog Tryz.f3 false true false false):=by
 refine Q2p (C:=Tryz.checked) (X:=fun w=>laidMetH Tryz.prog Rh w) (fun _ _ hh h=>h.of_heap hh) own a3 (by kernel_rfl) Tryz.func3
  (ChangeSpec.witness_shaped (enc:=enc) (C:=Tryz.checked) (os:=os) (X:=fun w _=>laidMetH Tryz.prog Rh w) false (World.laidAll Tryz.prog os Rh)
   #[.agg #[.slice none 0 0,.slice none 0 0]] 8 (World.laidAll_os _ _ _)
   (World.shaped_of_ZipB (by kernel_rfl) (by kernel_rfl)) (by kernel_rfl) (by kernel_rfl) (by kernel_rfl)
   (by rw[MakeChecks.laidMetH_plain _ _ _ (by kernel_rfl)];exact laidMet_laidAll _ (by kernel_rfl) (by kernel_rfl))) ?_
 intro W base args ds gs before a4 hW hL hS hz;exact TF H enc W base args ds gs before a4 hW hL hS hz
theorem j1:(Rows.buffersRemoveUnusedRow.inPlace==Tryz.prog.inPlace 3)=true:=by kernel_rfl
theorem j2:(Rows.buffersRemoveUnusedRow.unfollowed==Tryz.prog.unfollowed 3)=true:=by kernel_rfl
theorem j3:(Rows.buffersRemoveUnusedRow.recurses==Tryz.prog.recurses 3)=true:=by kernel_rfl
theorem j4:(Rows.buffersRemoveUnusedRow.named==Tryz.prog.varsNamed 3)=true:=by kernel_rfl
theorem joined:joinedFacts Tryz.prog 3 Tryz.f3 Rows.buffersRemoveUnusedSpec Rows.buffersRemoveUnusedRow=true:=by
 unfold joinedFacts;rw[j1,j2,j3,j4]
 kernel_rfl
theorem g1:Tryz.prog.funcNamed "brocade/brocadelaw40.BuffersRemoveUnused" =some 3:=by kernel_rfl
theorem g2:false=Tryz.prog.looks []:=by kernel_rfl
theorem g3:false=Rows.buffersRemoveUnusedRow.goesBy Tryz.prog:=by kernel_rfl
theorem g4:([25].all fun u=> !Tryz.prog.wantsStandIn u)=true:=by kernel_rfl
theorem Q4e:Rows.BuffersRemoveUnusedSaid:=
 OpenClaim.holds_of_wide 3 Tryz.f3 rfl rfl rfl rfl rfl rfl rfl ⟨rfl,rfl,rfl,rfl,rfl⟩ rfl rfl rfl rfl rfl g1 Tryz.func3 joined
  (of_decide_eq_true (by kernel_rfl)) (by unfold Func.isWrapper;first | (rw[if_pos (by decide+kernel)];kernel_rfl) | (rw[if_neg (by decide+kernel)];exact⟨rfl,rfl⟩))
  (fun os a3 H enc _=>lifted os a3 H enc)
theorem proved:Rows.BuffersRemoveUnusedCardSaid:=
 Claim7.holds_tied_plain_at .later [] [.listed,.data] true (true,"220fbd8a5ba5e9f04272a9f9d4f892d20933e6e2bcfad22ded9e3ded4a41cff9") false Q4e (fun _ h=>by cases h) (by kernel_rfl) (fun _ h=>by cases h) buffersRemoveUnused_row_tie rfl ⟨rfl,rfl⟩ (by kernel_rfl) rfl
  (fun f fn hf a4=>by
   obtain rfl:f=3:=Option.some.inj (g1.symm.trans hf) |>.symm
   obtain rfl:fn=Tryz.f3:=(Option.some.inj (Tryz.func3.symm.trans a4)).symm;exact⟨g2,fun j t ht=>by
    rw[Tryz.params3] at ht;have hm:t∈ [25]:=by simpa using Array.mem_of_getElem? ht
    have a3:=g4;exact(show Tryz.prog.wantsStandIn t=false by simpa using List.all_eq_true.1 a3 t hm)⟩)
  g3
end Go.Proofs.YtkgphhemcglgnaaGreatDoor
end
