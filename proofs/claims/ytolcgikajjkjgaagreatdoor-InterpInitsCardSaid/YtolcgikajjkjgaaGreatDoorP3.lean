/- Proved in the last of these texts: for every input the law returns true and its arguments read afterwards as they read before. This text: a part of the proof. -/
import Derived.Test.YtolcgikajjkjgaaGreatDoorP2
import Derived.ChangeArms
import Derived.RangeFuncRecord
set_option linter.unusedVariables false
set_option linter.unusedSimpArgs false
section
namespace HY
open Go Go.RowKit
section
variable {P : Program} {m : Nat → Lc} {H : HV} {B : Nat → Prop} {H0 : HV} {gl : Nat → AV} {rest : List (AV × Value)} {st : St} {a : Act} {w : World} {ch : Qo}
def Ld(hp:Hp)(m:Nat→Lc)(id:Nat):AV×Value:=match hp id with
 |some (.cells ver _)=>(.ptr id ver 0,.pointer (some ⟨(m id).g,(m id).base+0,none⟩))
 |some (.map _)=>(.mp id,.map (some (m id).g))
 |_=>(.nilp,.pointer none)
theorem pin_ok{hp:Hp}(id:Nat):RV H (Q4 hp m) (Ld hp m id).1 (Ld hp m id).2:=by
 unfold Ld;split
 ·rename_i ver cs a3;refine .ptr id ver 0 _ ⟨_,a3,fun v hv=>by cases hv;exact Nat.le_refl _⟩ fun l hl=> ?_
  rw[YW a3] at hl;cases hl;rfl
 ·rename_i es a3;exact .mp id _ (by simp[Q4,a3])
 ·exact .imm _ _ .nilp
theorem S6{hp:Hp}{nx f:Nat}{args:List AV}{r:AV}{nb:List (Nat×Box)}{nx':Nat}{a6:Bool}(h:CP ch hp nx f args=some (r,nb,nx',a6)):
  ∃ids a4 S hp' a5 a3 N,optJ (XJ 12) args=some ids∧Ch hp 100000 ids .nil []=some (a4,S)∧ch f args (Ud hp S) nx=some (r,hp',nx')∧XJ 12 r=some a5∧
   Ch (lkb hp') 100000 (S++a5) .nil []=some (a3,N)∧(∀id∈N,nx≤id∨memT a4 id=true)∧nx≤nx'∧nb=pick (lkb hp') N∧a6= !S.all (L1 hp (lkb hp')):=by
 unfold CP at h;split at h
 ·rename_i ids a7;split at h
  ·rename_i a4 S hS;split at h
   ·rename_i r' hp' ad hc;split at h
    ·rename_i a5 a8;split at h
     ·rename_i a3 N hN;split at h
      ·rename_i hb;cases h;rw[Bool.and_eq_true,List.all_eq_true] at hb;refine⟨ids,a4,S,hp',a5,a3,N,a7,hS,hc,a8,hN,fun id a9=> ?_,Nat.le_of_ble_eq_true hb.2,rfl,rfl⟩
       have:=hb.1 id a9;rw[Bool.or_eq_true] at this;exact this.imp Nat.le_of_ble_eq_true fun h=>h
      ·cases h
     ·cases h
    ·cases h
   ·cases h
  ·cases h
 ·cases h
theorem FP{b:Box}{l:List Nat}(h:CI b=some l):b.elder=true:=by cases b<;>first | rfl | cases h
theorem S7{hp:Hp}{nx f:Nat}{args:List AV}{r:AV}{nb:List (Nat×Box)}{nx':Nat}{a4:Bool}(h:CP ch hp nx f args=some (r,nb,nx',a4)):
  ∃(hp':Hp) (N:List Nat),nb=pick hp' N∧nx≤nx'∧(∀id∈N,nx≤id∨∃b,hp id=some b∧(a4=false→hp' id=some b)):=by
 obtain⟨ids,ad,S,hp',ah,aa,N,ab,hS,hc,ac,hN,a8,a9,rfl,rfl⟩:=S6 h;obtain⟨s1,s2,_,_⟩:=Ci (S0:=fun _=>False) _ _ _ _ _ _ hS (fun id hm=>by rw[Il] at hm;cases hm) (fun id a3=>by cases a3)
 refine⟨_,N,rfl,a9,fun id a3=>(a8 id a3).imp (fun h=>h) fun hm=> ?_⟩
 have a3:=(s1 id hm).elim (fun h=>h) fun h=>h.elim
 obtain⟨b,l,hb,_⟩:=s2 id a3;refine⟨b,hb,fun a7=> ?_⟩
 have a5:S.all (L1 hp (lkb hp'))=true:=by simpa using a7
 have:=List.all_eq_true.1 a5 id a3;unfold L1 at this;rw[hb] at this;split at this
 ·rename_i x y hx hy;cases hx;rw[hy,Q2a this]
 ·cases this
theorem Q2k(c9:ch.Ok P gl)(h:RelS m H B H0 gl rest st a.tmps w){f:Nat}{args:List AV}{vs:Array Value}{r:AV}{nb:List (Nat×Box)}{nx':Nat}{c5:Bool}(hl:args.length=vs.size)
  (hr:∀(j:Nat) (x:AV) (v:Value),args[j]? =some x→vs[j]? =some v→RV H (st.env m) x v) (hk:CP ch (lkb st.hp) st.nx f args=some (r,nb,nx',c5)):
  Ans P f vs w fun e w'=>∃v m' H',e= .returned v∧Qa B w w'∧RelS m' H' B H0 gl rest ⟨st.n,st.sl,X2 st.hp nb,nx'⟩ a.tmps w'∧RV H' (Q4 (lkb (X2 st.hp nb)) m') r v:=by
 classical
 obtain⟨ids,c1,S,hp',cr,cu,N,bw,hS,hc,bz,hN,bu,ci,rfl,_⟩:=S6 hk;obtain⟨s1,s2,s3,_⟩:=Ci (S0:=fun _=>False) _ _ _ _ _ _ hS (fun id hm=>by rw[Il] at hm;cases hm) (fun id a4=>by cases a4)
 have s1:∀id,memT c1 id=true→id∈S:=fun id hm=>(s1 id hm).elim (fun h=>h) fun h=>h.elim
 have s3:∀j∈ids,j∈S:=fun j hj=>(s3 j hj).elim (fun h=>h) fun h=>h.elim
 have s2:∀id∈S,∃b l,lkb st.hp id=some b∧CI b=some l∧∀j∈l,j∈S:=fun id a4=>by
  obtain⟨b,l,a1,a2,a3⟩:=s2 id a4;exact⟨b,l,a1,a2,fun j hj=>(a3 j hj).elim (fun h=>h) fun h=>h.elim⟩
 obtain⟨_,n2,n3,_⟩:=Ci (S0:=fun _=>False) _ _ _ _ _ _ hN (fun id hm=>by rw[Il] at hm;cases hm) (fun id a4=>by cases a4)
 have n3:∀j∈S++cr,j∈N:=fun j hj=>(n3 j hj).elim (fun h=>h) fun h=>h.elim
 have ar:∀id∈S,id∈N:=fun id a4=>n3 id (List.mem_append_left _ a4)
 have ai:∀id∈N,∃b l,lkb hp' id=some b∧CI b=some l∧∀j∈l,j∈N:=fun id a4=>by
  obtain⟨b,l,a1,a2,a3⟩:=n2 id a4;exact⟨b,l,a1,a2,fun j hj=>(a3 j hj).elim (fun h=>h) fun h=>h.elim⟩
 have c6:∀id∈N,st.nx≤id∨id∈S:=fun id a4=>(bu id a4).imp (fun h=>h) (s1 id)
 have ao:∀k,lkb (Ud (lkb st.hp) S) k=if k∈S then lkb st.hp k else none:=Be S
 let B':Nat→Prop:=fun k=>k<w.heap.size∧∀id∈S,(m id).g≠k
 have ap:∀id∈S,∀b,lkb st.hp id=some b→Real b (m id):=fun id a4 b hb=>by
  obtain⟨b',l,a5,am,_⟩:=s2 id a4;rw[hb] at a5;cases a5;exact Box.elder_real (FP am) _
 have b3:∀k,B k→B' k:=fun k hk=>⟨h.heap.low k hk,fun id a4 e=>by
  obtain⟨b,l,hb,_⟩:=s2 id a4;exact(h.heap.sepR id b hb (ap id a4 b hb)).1 (e▸hk)⟩
 have br:∀id∈S,F8 (st.env m) (Q4 (lkb (Ud (lkb st.hp) S)) m) id:=fun id a4=>by
  have e:lkb (Ud (lkb st.hp) S) id=lkb st.hp id:=by rw[ao,if_pos a4]
  refine⟨fun ver ⟨b,hb,hv⟩=>⟨b,by rw[e];exact hb,hv⟩,fun ver l hl=> ?_,fun l hl=> ?_⟩
  ·simp only[Q4,e] at hl ⊢;exact hl
  ·simp only[Q4,e] at hl ⊢;exact hl
 have bh:∀(j:Nat) (x:AV) (v:Value),args[j]? =some x→vs[j]? =some v→RV H (Q4 (lkb (Ud (lkb st.hp) S)) m) x v:=fun j x v hx hv=>by
  obtain⟨q,hq,hs⟩:=MT bw x (List.mem_of_getElem? hx);exact(hr j x v hx hv).agree 12 hq fun id a4=>br id (s3 id (hs id a4))
 have h0:RelH m H B' H gl (lkb (Ud (lkb st.hp) S)) st.nx w:=
  {sat:=h.heap.sat,old:=fun _ _ _=>rfl,low:=fun _ hk=>hk.1,
   fresh:=fun id a4=>by rw[ao,h.heap.fresh id a4];split<;>rfl,
   box:=fun id b hb=>by
    rw[ao] at hb;split at hb
    ·rename_i a4;obtain⟨b',l,a5,am,bk⟩:=s2 id a4;rw[hb] at a5;cases a5;exact(h.heap.box id b hb).agree am fun j hj=>br j (bk j hj)
    ·cases hb
   sepR:=fun id b hb a6=>by
    rw[ao] at hb;split at hb
    ·rename_i a4;obtain⟨q1,q2,q3⟩:=h.heap.sepR id b hb a6;exact⟨fun hk=>hk.2 id a4 rfl,q2,q3⟩
    ·cases hb
   injR:=fun id a8 b b' hb a5 h1 h2 e=>by
    rw[ao] at hb a5;split at hb
    ·split at a5;·exact h.heap.injR id a8 b b' hb a5 h1 h2 e
     ·cases a5
    ·cases hb
   gv:=fun g sz cs hg=>let⟨q1,q2⟩:=h.heap.gv g sz cs hg;⟨b3 g q1,q2⟩
   gl:=h.heap.gl
   ty:=fun id ver cs hb=>by
    rw[ao] at hb;split at hb;·exact h.heap.ty id ver cs hb
    ·cases hb}
 refine(c9 _ _ _ _ _ _ _ hc m H B' H (S.map (Ld (lkb st.hp) m)) w vs h0 hl bh fun p hp=> ?_).mono fun e w1 bm=> ?_
 ·obtain⟨id,a4,rfl⟩:=List.mem_map.1 hp;have e:Ld (lkb st.hp) m id=Ld (lkb (Ud (lkb st.hp) S)) m id:=by
   unfold Ld;rw[ao,if_pos a4]
  rw[e];exact pin_ok id
 ·obtain⟨v,m1,H1,rfl,ak,hH,cl,bn⟩:=bm
  let m2:Nat→Lc:=fun id=>if id∈N then m1 id else m id
  have aa:∀id∈N,m2 id=m1 id:=fun id a4=>if_pos a4
  have ac:∀id,id∉N→m2 id=m id:=fun id a4=>if_neg a4
  have ah:∀k,lkb (X2 st.hp (pick (lkb hp') N)) k=if k∈N then lkb hp' k else lkb st.hp k:=fun k=>by
   rw[JU];by_cases hk:k∈N
   ·obtain⟨b,l,hb,_⟩:=ai k hk;simp[hk,hb]
   ·simp[hk]
  have b6:∀id∈N,F8 (Q4 (lkb hp') m1) (Q4 (lkb (X2 st.hp (pick (lkb hp') N))) m2) id:=fun id a4=>by
   have e:lkb (X2 st.hp (pick (lkb hp') N)) id=lkb hp' id:=by rw[ah,if_pos a4]
   have em:=aa id a4;exact⟨fun ver ⟨b,hb,hv⟩=>⟨b,by rw[e];exact hb,hv⟩,fun ver l hl=>by simp only[Q4,e,em] at hl ⊢;exact hl,fun l hl=>by simp only[Q4,e,em] at hl ⊢;exact hl⟩
  have bg:Env.le (st.env m) (Q4 (lkb (X2 st.hp (pick (lkb hp') N))) m2):=by
   have be:∀id∈S,(∀ver,(st.env m).al id ver→(Q4 (lkb hp') m1).al id ver)∧(∀ver l,(st.env m).al id ver→(Q4 (lkb hp') m1).loc id ver=some l→(st.env m).loc id ver=some l)∧(∀l,(st.env m).lp id=some l→(Q4 (lkb hp') m1).lp id=some l):=fun id a4=>by
    obtain⟨b,l,hb,am,_⟩:=s2 id a4;obtain⟨b1,l1,af,ce,_⟩:=ai id (ar id a4);have aw:=bn _ (List.mem_map.2 ⟨id,a4,rfl⟩);unfold Ld at aw;rw[hb] at aw;cases b with
    |cells ver cs=>
     simp only at aw;obtain⟨ad,e1,aj,e2⟩:=aw.ptr_inv;cases e1;obtain⟨b2,bv,c0⟩:=aj;rw[af] at bv;cases bv;have bb:∀v0,(st.env m).al id v0→v0≤ver:=fun v0 ⟨b,a5,hv⟩=>by rw[hb] at a5;cases a5;exact hv ver rfl
     refine⟨fun v0 h0=>⟨b1,af,fun v hv=>Nat.le_trans (bb v0 h0) (c0 v hv)⟩,fun v0 l h0 hl=> ?_,fun l hl=>by simp[Q4,hb] at hl⟩
     have h1:=bb v0 h0;simp only[Q4,af] at hl;split at hl
     ·rename_i v hv;split at hl
      ·rename_i co;subst co;cases hl;have h2:=c0 v hv;obtain rfl:v=ver:=by omega
       have e3:=e2 (m1 id) (by simp only[Q4,af,hv,if_true])
       simp only[Addr.mk.injEq,Nat.add_zero,and_true] at e3;cases b1 with
       |cells v' cs1=>
        obtain⟨C,te,q1,q2,_,_⟩:=h.heap.box id _ hb;obtain⟨C1,da,p1,p2,_,_⟩:=hH.box id _ af;obtain⟨C2,d3,p3,p4⟩:=ak.rows _ _ _ _ q1;rw[← e3.1] at p1;rw[p1] at p3;cases p3;have hz:(m1 id).size=(m id).size:=by omega
        have:m1 id=m id:=by
         cases hm1:m1 id with | mk g1 b1 z1=>
         cases hm:m id with | mk g0 b0 z0=>
         rw[hm1,hm] at e3 hz;simp at e3 hz;rw[e3.1,e3.2,hz]
        rw[this,YW hb]
       |map es=>cases hv
       |_=>cases ce
      ·cases hl
     ·cases hl
    |map es=>
     simp only at aw;obtain⟨l0,e1,e2⟩:=aw.mp_inv;cases e1;refine⟨fun v0 _=>⟨b1,af,fun v hv=> ?_⟩,fun v0 l h0 hl=> ?_,fun l hl=> ?_⟩
     ·simp only[Q4,af] at e2;cases b1<;>first | (cases e2;done) | (cases hv;done)
     ·simp only[Q4,af] at e2 hl;cases b1<;>first | (cases e2;done) | (cases hl;done)
     ·simp only[Q4,hb,Option.some.injEq] at hl;subst hl;exact e2
    |_=>cases am
   have old:∀id b,lkb st.hp id=some b→id∉S→lkb (X2 st.hp (pick (lkb hp') N)) id=some b∧m2 id=m id:=fun id b hb hs=>by
    have hn:id∉N:=fun hn=>by
     rcases c6 id hn with cd | cm
     ·rw[h.heap.fresh id cd] at hb;cases hb
     ·exact hs cm
    exact⟨by rw[ah,if_neg hn];exact hb,ac id hn⟩
   refine⟨fun id ver aj=> ?_,fun id ver l aj hl=> ?_,fun id l hl=> ?_⟩
   ·by_cases hs:id∈S;·exact(b6 id (ar id hs)).al ver ((be id hs).1 ver aj)
    ·obtain⟨b,hb,hv⟩:=aj;exact⟨b,(old id b hb hs).1,hv⟩
   ·by_cases hs:id∈S
    ·refine(be id hs).2.1 ver l aj ?_;have e:lkb (X2 st.hp (pick (lkb hp') N)) id=lkb hp' id:=by rw[ah,if_pos (ar id hs)]
     have em:=aa id (ar id hs);simp only[Q4,e,em] at hl ⊢;exact hl
    ·obtain⟨b,hb,hv⟩:=aj;obtain⟨e1,e2⟩:=old id b hb hs;simp only[Q4,e1,e2] at hl;simp only[Q4,hb];exact hl
   ·by_cases hs:id∈S;·exact(b6 id (ar id hs)).lp l ((be id hs).2.2 l hl)
    ·cases hb:lkb st.hp id with
     |none=>simp[Q4,hb] at hl
     |some b=>
      obtain⟨e1,e2⟩:=old id b hb hs;simp only[Q4,hb] at hl;simp only[Q4,e1,e2];exact hl
  have b8:HV.le H H1:=fun b o u hu=>by
   have cf:=U3 h.heap.sat hu;have:B' b:=⟨cf,fun id a4 e=>by
    obtain⟨bx,l,hb,_⟩:=s2 id a4;have:=(h.heap.sepR id bx hb (ap id a4 bx hb)).2.2 o;rw[e,hu] at this;cases this⟩
   rw[hH.old b o this];exact hu
  have aq:∀id b,lkb st.hp id=some b→Real b (m id)→id∉S→B' (m id).g:=fun id b hb a6 cg=>by
   refine⟨(h.heap.sepR id b hb a6).2.1,fun a8 b5 e=> ?_⟩
   obtain⟨b',l,a5,_⟩:=s2 a8 b5;have:=h.heap.injR a8 id b' b a5 hb (ap a8 b5 b' a5) a6 e;subst this;exact cg b5
  have b7:∀id,id∉N→id∉S:=fun id hn hs=>hn (ar id hs)
  have bl:RelH m2 H1 B H0 gl (lkb (X2 st.hp (pick (lkb hp') N))) nx' w1:=
   {sat:=hH.sat
    old:=fun b o hb=>by rw[hH.old b o (b3 b hb)];exact h.heap.old b o hb
    low:=fun b hb=>Nat.lt_of_lt_of_le (h.heap.low b hb) ak.size
    fresh:=fun id a4=>by
     rw[ah];split;·exact hH.fresh id a4
     ·exact h.heap.fresh id (Nat.le_trans ci a4)
    box:=fun id b hb=>by
     rw[ah] at hb;split at hb
     ·rename_i hn;obtain⟨b',l,a5,am,bk⟩:=ai id hn;rw[hb] at a5;cases a5;rw[aa id hn];exact(hH.box id b hb).agree am fun j hj=>b6 j (bk j hj)
     ·rename_i hn;rw[ac id hn];exact(h.heap.box id b hb).mono' b8 bg fun a6=>ak.block _ (aq id b hb a6 (b7 id hn))
    sepR:=fun id b hb a6=>by
     rw[ah] at hb;split at hb
     ·rename_i hn;rw[aa id hn] at a6 ⊢;obtain⟨q1,q2,q3⟩:=hH.sepR id b hb a6;exact⟨fun hk=>q1 (b3 _ hk),q2,q3⟩
     ·rename_i hn;rw[ac id hn] at a6 ⊢;obtain⟨q1,q2,q3⟩:=h.heap.sepR id b hb a6;refine⟨q1,Nat.lt_of_lt_of_le q2 ak.size,fun o=> ?_⟩
      rw[hH.old _ o (aq id b hb a6 (b7 id hn))];exact q3 o
    injR:=fun id a8 b b' hb a5 a6 ab e=>by
     have ay:∀i j bi bj,lkb hp' i=some bi→j∉N→lkb st.hp j=some bj→Real bi (m1 i)→Real bj (m j)→(m1 i).g≠(m j).g:=fun i j bi bj c7 hj c8 cj ck e=>
      (hH.sepR i bi c7 cj).1 (e▸aq j bj c8 ck (b7 j hj))
     rw[ah] at hb a5;split at hb
     ·rename_i hn;rw[aa id hn] at a6 e;split at a5
      ·rename_i ag;rw[aa a8 ag] at ab e;exact hH.injR id a8 b b' hb a5 a6 ab e
      ·rename_i ag;rw[ac a8 ag] at ab e;exact absurd e (ay id a8 b b' hb ag a5 a6 ab)
     ·rename_i hn;rw[ac id hn] at a6 e;split at a5
      ·rename_i ag;rw[aa a8 ag] at ab e;exact absurd e.symm (ay a8 id b' b a5 hn hb ab a6)
      ·rename_i ag;rw[ac a8 ag] at ab e;exact h.heap.injR id a8 b b' hb a5 a6 ab e
    gv:=(fun g sz cs hg=>let⟨q1,C,te,fr,q2,q3⟩:=h.heap.gv g sz cs hg;⟨q1,C,te,fr,by rw[ak.block g (b3 g q1)];exact q2,q3⟩)
    gl:=fun g=>(h.heap.gl g).mono b8
    ty:=fun id ver cs hb=>by
     rw[ah] at hb;split at hb
     ·rename_i hn;rw[aa id hn];exact hH.ty id ver cs hb
     ·rename_i hn;rw[ac id hn];exact(h.heap.ty id ver cs hb).mono (ak.block _ (aq id _ hb trivial (b7 id hn)))}
  refine⟨v,m2,H1,rfl,ak.mono b3,⟨bl,h.size,fun k=>(h.slot k).mono b8 bg,fun p hp=>(h.rest p hp).mono b8 bg⟩,?_⟩
  exact cl.agree 12 bz fun id a4=>b6 id (n3 id (List.mem_append_right _ a4))
end
end HY
end
section
namespace HY
open Go Go.RowKit
def Cn(gl:Nat→AV)(ch:Qo)(a3:Nat)(o:Oper)(st:St):Option (St×Bool):=
 match o.guard with
 |none=>match QC o.dst st.n&&Nat.ble a3 st.nx with
  |true=>match Yn (st.ev gl) o.op with
   |some (f,args)=>match CP ch (lkb st.hp) st.nx f args with
    |some (r,nb,nx',chg)=>some ((⟨st.n,st.sl,X2 st.hp nb,nx'⟩:St).putO o.dst r,chg)
    |none=>none
   |none=>none
  |false=>none
 |some _=>none
def UO(gl:Nat→AV)(ch:Qo)(a3:Nat)(al:Bool)(o:Oper)(st:St):Option St:=match Cn gl ch a3 o st with
 |some (s,chg)=>match chg&& !al with
  |true=>none
  |false=>some s
 |none=>none
def stpH(P:Program)(gl:Nat→AV)(ch:Qo)(all:List Oper)(base:Nat)(hv hc:List Nat)(i:Nat)(o:Oper)(st:St):Option St:=
 match hv.any (Nat.beq i) with
 |true=>UO gl ch (base+all.length) (hc.any (Nat.beq i)) o st
 |false=>Xl P gl (fun _=>ch) false (fun _=>none) all (base+i) o st
def hvOk(all:List Oper)(hv:List Nat):Prop:=∀j i,j<i→j∈hv→i∈hv→((Xk all []).getD i 0).testBit j=true
def LJ(all:List Oper)(i:Nat):Bool:=(List.range all.length).all fun j=>Nat.beq j i || match all[j]? with
 |some o=>Nat.beq (hk o.op) 0 || (match Nat.blt j i with
  |true=>((Xk all []).getD i 0).testBit j
  |false=>((Xk all []).getD j 0).testBit i)
 |none=>true
def refsO(gl:Nat→AV)(o:Oper)(st:St):Bool:=match Yn (st.ev gl) o.op with
 |some (_,args)=>match optJ (XJ 12) args with
  |some (_::_)=>true
  |_=>false
 |none=>false
def runH(P:Program)(gl:Nat→AV)(ch:Qo)(all:List Oper)(base:Nat):List Nat→List Nat→List Nat→St→Option (St×List Nat×List Nat)
 | [],hv,hc,st=>some (st,hv,hc)
 |i::l,hv,hc,st=>match all[i]? with
  |some o=>match(match refsO gl o st with | true=>Cn gl ch (base+all.length) o st | false=>none) with
   |some (s,chg)=>match hv.all (fun j=>((Xk all []).getD i 0).testBit j) with
    |true=>match chg with
     |true=>match LJ all i with
      |true=>runH P gl ch all base l (i::hv) (i::hc) s
      |false=>none
     |false=>runH P gl ch all base l (i::hv) hc s
    |false=>none
   |none=>match Xl P gl (fun _=>ch) false (fun _=>none) all (base+i) o st with
    |some s=>runH P gl ch all base l hv hc s
    |none=>none
  |none=>none
section
variable {P : Program} {m : Nat → Lc} {H : HV} {B : Nat → Prop} {H0 : HV} {gl : Nat → AV} {rest : List (AV × Value)} {st : St} {a : Act} {w : World} {ch : Qo} {all : List Oper}
theorem CQ{a4:Nat}{o:Oper}{st':St}{a3:Bool}(h:Cn gl ch a4 o st=some (st',a3)):
  ∃f args r hp' N nx',o.guard=none∧QC o.dst st.n=true∧a4≤st.nx∧Yn (st.ev gl) o.op=some (f,args)∧CP ch (lkb st.hp) st.nx f args=some (r,pick hp' N,nx',a3)∧(∀id∈N,st.nx≤id∨∃b,lkb st.hp id=some b∧(a3=false→hp' id=some b))∧st.nx≤nx'∧
   st'=(⟨st.n,st.sl,X2 st.hp (pick hp' N),nx'⟩:St).putO o.dst r:=by
 unfold Cn at h;split at h
 ·rename_i hg;split at h
  ·rename_i hd;rw[Bool.and_eq_true] at hd;split at h
   ·rename_i f args hc;split at h
    ·rename_i r nb nx' a6 hx;cases h;obtain⟨hp',N,rfl,q2,q1⟩:=S7 hx;exact⟨f,args,r,hp',N,nx',hg,hd.1,Nat.le_of_ble_eq_true hd.2,hc,hx,q1,q2,rfl⟩
    ·cases h
   ·cases h
  ·cases h
 ·cases h
theorem DT{a4:Nat}{al:Bool}{o:Oper}{st':St}(h:UO gl ch a4 al o st=some st'):∃a3,Cn gl ch a4 o st=some (st',a3)∧(a3=true→al=true):=by
 unfold UO at h;split at h
 ·rename_i s a3 hr;split at h;·cases h
  ·rename_i hc;cases h;refine⟨a3,hr,fun e=> ?_⟩
   subst e;simpa using hc
 ·cases h
theorem N6{a4:Nat}{al a3:Bool}{o:Oper}{st':St}(h:Cn gl ch a4 o st=some (st',a3))(a5:a3=true→al=true):UO gl ch a4 al o st=some st':=by
 unfold UO;rw[h];cases a3 with
 |false=>rfl
 |true=>rw[a5 rfl];rfl
theorem IF{a3:Nat}{o:Oper}{f:Nat}{args:List AV}{r:AV}{nb:List (Nat×Box)}{nx':Nat}{a4:Bool}(hg:o.guard=none)(hd:QC o.dst st.n=true)(ht:a3≤st.nx)(hc:Yn (st.ev gl) o.op=some (f,args))(hx:CP ch (lkb st.hp) st.nx f args=some (r,nb,nx',a4)):
  Cn gl ch a3 o st=some ((⟨st.n,st.sl,X2 st.hp nb,nx'⟩:St).putO o.dst r,a4):=by
 unfold Cn;rw[hg];have:(QC o.dst st.n&&Nat.ble a3 st.nx)=true:=by rw[Bool.and_eq_true];exact⟨hd,Nat.ble_eq_true_of_le ht⟩
 simp only[this,hc,hx]
theorem Q0u(a4:ch.Ok P gl)(h:RelS m H B H0 gl rest st a.tmps w){a6:Nat}{al:Bool}{o:Oper}{st':St}(hk:UO gl ch a6 al o st=some st')(ro:Option Nat)(n:Nat):G1 P ro n B H0 gl rest a w o st':=by
 obtain⟨a7,hk,_⟩:=DT hk;obtain⟨f,args,r,hp',N,nx',hg,hd,ht,hc,hx,hN,ab,rfl⟩:=CQ hk;refine M6 h hc ro n fun vs hl hr=> ?_
 refine(Q2k a4 h hl hr hx).mono fun e w' ⟨v,m',H',he,hb,a3,a5⟩=>⟨v,m',H',he,hb,?_⟩
 exact a3.putO (dst:=o.dst) hd a5
theorem R0(h:RelS m H B H0 gl rest st a.tmps w){op:Op}{f:Nat}{args:List AV}(hc:Yn (st.ev gl) op=some (f,args)):∀x∈args,∃v,RV H (st.env m) x v:=fun y hy=>by
 obtain⟨c,x,a7,ho,hx,hf,rfl⟩:=GS hc;rw[List.mem_append,List.mem_map] at hy;rcases hy with⟨z,_,rfl⟩ | hy
 ·exact⟨_,h.ev z⟩
 ·have a3:=h.ev x;rw[hf] at a3;obtain⟨us,_,a5,a6⟩:=a3.fn_inv;obtain⟨j,hj⟩:=List.getElem?_of_mem hy;exact⟨_,a6 j y _ hj (Array.getElem?_eq_getElem (by rw[← a5];exact(List.getElem?_eq_some_iff.1 hj).1))⟩
theorem SX{op:Op}{f:Nat}{args:List AV}{ev:Operand→AV}(hc:Yn ev op=some (f,args)):hk op=1:=by
 obtain⟨c,x,a3,rfl,hx,_⟩:=GS hc;simp[hk,hx]
theorem lkb_new{hp hp':Hp}{N:List Nat}{t:Tr Box}{nx k:Nat}{C:Nat→Box→Prop}(hN:∀id∈N,nx≤id∨∃b,hp id=some b∧C id b)(hk:k<nx)(h0:hp k=none):lkb (X2 t (pick hp' N)) k=lkb t k:=by
 rw[JU,if_neg];rintro⟨h1,_⟩;rcases hN k h1 with h | ⟨b,h,_⟩
 ·omega
 ·rw[h0] at h;cases h
theorem Bk{hp:Hp}{N:List Nat}{nx k:Nat}{C:Nat→Box→Prop}(hN:∀id∈N,nx≤id∨∃b,hp id=some b∧C id b)(hk:k<nx)(h0:hp k=none):k∉N:=fun h1=>by
 rcases hN k h1 with h | ⟨b,h,_⟩
 ·omega
 ·rw[h0] at h;cases h
theorem B9{hp':Hp}{N:List Nat}{nx:Nat}(hN:∀id∈N,nx≤id∨∃b,lkb st.hp id=some b∧(false=false→hp' id=some b))(hf:∀id,nx≤id→lkb st.hp id=none):Ext (lkb st.hp) (lkb (X2 st.hp (pick hp' N))):=fun id b hb=>by
 rw[JU];split
 ·rename_i hc;rcases hN id hc.1 with h | ⟨b',h,h2⟩
  ·rw[hf id h] at hb;cases hb
  ·rw[hb] at h;cases h;exact h2 rfl
 ·exact hb
theorem Q0q{x y:St}{a3:Nat}{al:Bool}{o:Oper}{s:St}(h:StEq x y)(hk:UO gl ch a3 al o x=some s):∃s',UO gl ch a3 al o y=some s'∧StEq s s':=by
 obtain⟨a6,hk,a4⟩:=DT hk;obtain⟨f,args,r,hp',N,nx',hg,hd,ht,hc,hx,hN,ab,rfl⟩:=CQ hk;refine⟨(⟨y.n,y.sl,X2 y.hp (pick hp' N),nx'⟩:St).putO o.dst r,?_,?_⟩;·refine N6 (IF hg (by rw[← h.n];exact hd) (by rw[← h.nx];exact ht) (by rw[← h.ev];exact hc) (by rw[← h.hp,← h.nx];exact hx)) a4
 ·refine⟨by rw[N0,N0];exact h.n,by rw[Cg,Cg],fun k=> ?_,?_⟩
  ·have:=YP (⟨x.n,x.sl,X2 x.hp (pick hp' N),nx'⟩:St) o.dst (r,none) k;have h2:=YP (⟨y.n,y.sl,X2 y.hp (pick hp' N),nx'⟩:St) o.dst (r,none) k;show St.get (St.eff _ o.dst (r,none)) k=St.get (St.eff _ o.dst (r,none)) k;rw[this,h2];split;·rfl
   ·exact h.get k
  ·rw[J0,J0];funext k;rw[JU,JU,h.hp]
theorem swapSH(h:RelS m H B H0 gl rest st a.tmps w){oj oi:Oper}{bj ap:Nat}{al:Bool}(hc:LG all oj oi=false)(af:hkCl (hk oj.op) (hk oi.op)=false)(au:al=true→hk oj.op=0){s1 s2:St}(h1:Xl P gl (fun _=>ch) false (fun _=>none) all bj oj st=some s1)(h2:UO gl ch ap al oi s1=some s2):
  ∃t1 t2,UO gl ch ap al oi st=some t1∧Xl P gl (fun _=>ch) false (fun _=>none) all bj oj t1=some t2∧StEq t2 s2:=by
 obtain⟨c1,c2,c3⟩:=WU hc;rw[Xx] at h1;split at h1
 ·rename_i k1;simp only[Bool.and_eq_true,Option.isNone_iff_eq_none] at k1;obtain⟨⟨aw,a7⟩,b2⟩:=k1;have a6:bj<st.nx:=Nat.le_of_ble_eq_true b2;split at h1
  ·rename_i rj ak;cases h1;obtain⟨aq,h2,aa⟩:=DT h2;obtain⟨f,args,r,hp',N,nx',hg,hd,ht,a8,hx,hN,ah,rfl⟩:=CQ h2;rw[Gq] at hd;rw[G5] at ht hx hN ah;obtain⟨e1,e2⟩:=Uj (st:=st) (gl:=gl) (all:=all) (o:=oi) rj c1;rw[WQ e1] at a8;have b1:=SX a8;have a9:∀id b,rj.2=some (id,b)→id=bj:=fun id b hb=>by
    have am:VB P (fun _=>ch) false (fun _=>none) all bj oj (gval all oj st) (st.ev gl) (lkb st.hp)=some (rj.1,some (id,b)):=by rw[ak,← hb]
    rcases NV (fun _=>rfl) am with h | ⟨b0,_⟩
    ·exact h
    ·rw[b0,b1] at af;cases af
   have ag:Ext (lkb st.hp) (lkb (st.eff oj.dst rj).hp):=by
    rw[KH];split
    ·rename_i id b hb;obtain rfl:=a9 id b hb;exact Ea a7
    ·exact fun _ _ h=>h
   rw[S5 h ag (R0 h a8)] at hx;obtain⟨a4,N2,ai,b4,ab⟩:=S7 hx;have aj:∀t,X2 t (pick hp' N)=X2 t (pick a4 N2):=fun t=>by rw[ai]
   simp only[ai] at hx;have ay:∀id,st.nx≤id→lkb st.hp id=none:=fun id a9=>h.heap.fresh id a9
   let st':St:=⟨st.n,st.sl,X2 st.hp (pick a4 N2),nx'⟩
   have ax:st'.ev gl=st.ev gl:=by funext x;cases x<;>rfl
   have az:gval all oj st'=gval all oj st:=by unfold gval;split<;>first | rfl | (split<;>rfl)
   obtain⟨f1,f2⟩:=Uj (st:=st') (gl:=gl) (all:=all) (o:=oj) (r,none) c3;have ac:VB P (fun _=>ch) false (fun _=>none) all bj oj (gval all oj (st'.putO oi.dst r)) ((st'.putO oi.dst r).ev gl) (lkb (st'.putO oi.dst r).hp)=some rj:=by
    rw[← ak];refine Df (f2.trans az) (fun x hx=>(f1 x hx).trans (congrFun ax x)) ?_
    rw[J0];cases aq with
    |false=>exact EA h (B9 ab ay)
    |true=>exact Mx (au (aa rfl))
   rw[aj];refine⟨st'.putO oi.dst r,(st'.putO oi.dst r).eff oj.dst rj,N6 (IF hg hd ht a8 hx) aa,?_,?_⟩
   ·rw[Xx,if_pos,ac];simp only[Bool.and_eq_true,Option.isNone_iff_eq_none,N0,J0,Cg];exact⟨⟨aw,by show lkb (X2 st.hp (pick a4 N2)) bj=none;rw[lkb_new ab a6 a7];exact a7⟩,Nat.ble_eq_true_of_le (Nat.lt_of_lt_of_le a6 ah)⟩
   ·refine⟨by rw[Gq,N0,N0,Gq],by rw[G5,Cg,Cg],fun k=> ?_,?_⟩
    ·rw[YP];have q1:=YP st' oi.dst (r,none) k;have q2:=YP (⟨(st.eff oj.dst rj).n,(st.eff oj.dst rj).sl,X2 (st.eff oj.dst rj).hp (pick a4 N2),nx'⟩:St) oi.dst (r,none) k;have q3:=YP st oj.dst rj k;rw[show(st'.putO oi.dst r).get k=_ from q1];refine Eq.trans ?_ (Eq.symm q2);have q4:St.get (⟨(st.eff oj.dst rj).n,(st.eff oj.dst rj).sl,X2 (st.eff oj.dst rj).hp (pick a4 N2),nx'⟩:St) k=(st.eff oj.dst rj).get k:=rfl
     rw[q4,q3];by_cases k1:oj.dst=some k<;>by_cases k2:oi.dst=some k<;>simp only[k1,k2,if_true,if_false]
     ·exact absurd k1 (Gh c2 (by simp[k2]))
     all_goals rfl
    ·rw[KH,J0,J0];funext k;show(match rj.2 with | some (id,b)=>updF (lkb (X2 st.hp (pick a4 N2))) id (some b) | none=>lkb (X2 st.hp (pick a4 N2))) k=lkb (X2 (st.eff oj.dst rj).hp (pick a4 N2)) k
     rw[JU (hp:=a4) N2 (st.eff oj.dst rj).hp,KH];cases hb:rj.2 with
     |some x=>
      obtain⟨id,b⟩:=x;obtain rfl:=a9 id b hb;by_cases e:k=id
      ·subst e;simp only[Qj];rw[if_neg fun hh=>Bk ab a6 a7 hh.1]
      ·simp only[Qn _ _ e,JU]
     |none=>simp only[JU]
  ·cases h1
 ·cases h1
theorem swapHS(h:RelS m H B H0 gl rest st a.tmps w){oj oi:Oper}{bi ab:Nat}{al:Bool}(am:bi<ab)(hc:LG all oj oi=false)(ad:hkCl (hk oj.op) (hk oi.op)=false)(ak:al=true→hk oi.op=0){s1 s2:St}(h1:UO gl ch ab al oj st=some s1)(h2:Xl P gl (fun _=>ch) false (fun _=>none) all bi oi s1=some s2):
  ∃t1 t2,Xl P gl (fun _=>ch) false (fun _=>none) all bi oi st=some t1∧UO gl ch ab al oj t1=some t2∧StEq t2 s2:=by
 obtain⟨c1,c2,c3⟩:=WU hc;obtain⟨ai,h1,a9⟩:=DT h1;obtain⟨f,args,r,hp',N,nx',hg,hd,ht,aa,hx,hN,bf,rfl⟩:=CQ h1;have aw:=SX aa;rw[Xx] at h2;split at h2
 ·rename_i k1;simp only[Bool.and_eq_true,Option.isNone_iff_eq_none,N0,J0,Cg] at k1;obtain⟨⟨ao,a4⟩,be⟩:=k1;have a8:bi<st.nx:=Nat.lt_of_lt_of_le am ht;have a4:lkb st.hp bi=none:=by
   rw[JU] at a4;split at a4
   ·rename_i hh;rw[a4] at hh;simp at hh
   ·exact a4
  split at h2
  ·rename_i ri ax;cases h2;have aq:∀id,st.nx≤id→lkb st.hp id=none:=fun id a7=>h.heap.fresh id a7
   let st':St:=⟨st.n,st.sl,X2 st.hp (pick hp' N),nx'⟩
   have ap:st'.ev gl=st.ev gl:=by funext x;cases x<;>rfl
   have ar:gval all oi st'=gval all oi st:=by unfold gval;split<;>first | rfl | (split<;>rfl)
   obtain⟨f1,f2⟩:=Uj (st:=st') (gl:=gl) (all:=all) (o:=oi) (r,none) c1;have a5:VB P (fun _=>ch) false (fun _=>none) all bi oi (gval all oi st) (st.ev gl) (lkb st.hp)=some ri:=by
    rw[← ax];refine(Df (f2.trans ar) (fun x hx=>(f1 x hx).trans (congrFun ap x)) ?_).symm
    rw[J0];cases ai with
    |false=>exact EA h (B9 hN aq)
    |true=>exact Mx (ak (a9 rfl))
   have a7:∀id b,ri.2=some (id,b)→id=bi:=fun id b hb=>by
    have af:VB P (fun _=>ch) false (fun _=>none) all bi oi (gval all oi st) (st.ev gl) (lkb st.hp)=some (ri.1,some (id,b)):=by rw[a5,← hb]
    rcases NV (fun _=>rfl) af with h | ⟨au,_⟩
    ·exact h
    ·rw[au,aw] at ad;cases ad
   obtain⟨g1,g2⟩:=Uj (st:=st) (gl:=gl) (all:=all) (o:=oj) ri c3;have ae:Ext (lkb st.hp) (lkb (st.eff oi.dst ri).hp):=by
    rw[KH];split
    ·rename_i id b hb;obtain rfl:=a7 id b hb;exact Ea a4
    ·exact fun _ _ h=>h
   refine⟨st.eff oi.dst ri,(⟨(st.eff oi.dst ri).n,(st.eff oi.dst ri).sl,X2 (st.eff oi.dst ri).hp (pick hp' N),nx'⟩:St).putO oj.dst r,?_,?_,?_⟩
   ·rw[Xx,if_pos,a5];simp only[Bool.and_eq_true,Option.isNone_iff_eq_none];exact⟨⟨ao,a4⟩,Nat.ble_eq_true_of_le a8⟩
   ·exact N6 (IF hg (by rw[Gq];exact hd) (by rw[G5];exact ht) (by rw[WQ g1];exact aa) (by rw[S5 h ae (R0 h aa),G5];exact hx)) a9
   ·refine⟨by simp only[Gq,N0],by simp only[G5,Cg],fun k=> ?_,?_⟩
    ·rw[YP];have q1:=YP st' oj.dst (r,none) k;have q2:=YP (⟨(st.eff oi.dst ri).n,(st.eff oi.dst ri).sl,X2 (st.eff oi.dst ri).hp (pick hp' N),nx'⟩:St) oj.dst (r,none) k;have q3:=YP st oi.dst ri k;rw[show(st'.putO oj.dst r).get k=_ from q1];refine Eq.trans q2 ?_;have q4:St.get (⟨(st.eff oi.dst ri).n,(st.eff oi.dst ri).sl,X2 (st.eff oi.dst ri).hp (pick hp' N),nx'⟩:St) k=(st.eff oi.dst ri).get k:=rfl;rw[q4,q3]
     by_cases k1:oj.dst=some k<;>by_cases k2:oi.dst=some k<;>simp only[k1,k2,if_true,if_false]
     ·exact absurd k1 (Gh c2 (by simp[k2]))
     all_goals rfl
    ·rw[KH,J0,J0];funext k;show lkb (X2 (st.eff oi.dst ri).hp (pick hp' N)) k=(match ri.2 with | some (id,b)=>updF (lkb (X2 st.hp (pick hp' N))) id (some b) | none=>lkb (X2 st.hp (pick hp' N))) k
     rw[JU (hp:=hp') N (st.eff oi.dst ri).hp,KH];cases hb:ri.2 with
     |some x=>
      obtain⟨id,b⟩:=x;obtain rfl:=a7 id b hb;by_cases e:k=id
      ·subst e;simp only[Qj];rw[if_neg fun hh=>Bk hN a8 a4 hh.1]
      ·simp only[Qn _ _ e,JU]
     |none=>simp only[JU]
  ·cases h2
 ·cases h2
theorem NL{hv:List Nat}{i:Nat}:hv.any (Nat.beq i)=true↔i∈hv:=by
 rw[List.any_eq_true];constructor
 ·rintro⟨x,hx,h⟩;rw[Nat.eq_of_beq_eq_true h];exact hx
 ·intro h;exact⟨i,h,Nat.beq_refl i⟩
theorem R5{i j:Nat}{oj:Oper}(h:LJ all i=true)(hj:all[j]? =some oj)(a4:j≠i):hk oj.op=0∨(j<i∧((Xk all []).getD i 0).testBit j=true)∨(i<j∧((Xk all []).getD j 0).testBit i=true):=by
 have:=List.all_eq_true.1 h j (List.mem_range.2 (List.getElem?_eq_some_iff.1 hj).1);rw[Hu a4,hj] at this;simp only[Bool.false_or,Bool.or_eq_true] at this;rcases this with h | h
 ·exact .inl (Nat.eq_of_beq_eq_true h)
 ·right;split at h;·rename_i a3;exact .inl ⟨Nat.le_of_ble_eq_true a3,h⟩
  ·rename_i a3;refine .inr ⟨?_,h⟩;have:¬j<i:=fun hh=>by
    have:Nat.blt j i=true:=Nat.ble_eq_true_of_le hh;rw[a3] at this;cases this
   omega
theorem Bz(a6:ch.Ok P gl)(ac:G3 all=true)(ab:mdR all=false){base:Nat}{hv hc:List Nat}(a9:hvOk all hv)(a7:∀i∈hc,LJ all i=true):Me P B H0 gl rest all (stpH P gl ch all base hv hc) where
 sound:=fun {i o st s a w m H} h hk ro n next Q hn=>by
  unfold stpH at hk;split at hk
  ·obtain⟨_,aa,_⟩:=DT hk;obtain⟨_,_,_,_,_,_,hg,_⟩:=CQ aa;rw[if_pos (by simp[Region.wanted,hg])]
   exact Q0u a6 h hk ro n next Q hn
  ·exact Lh (Wj a6) h hk ro n next Q hn
 eq:=fun {i o x y s} h hk=>by
  unfold stpH at hk ⊢;split at hk
  ·rename_i hi;exact Q0q h hk
  ·rename_i hi;exact h.stepO hk
 swap:=fun {j i oj oi st s1 s2 a w m H} hji hoj hoi hbit h h1 h2=>by
  have a3:WT (mdR all) all oj oi=false:=by
   cases a3:WT (mdR all) all oj oi with
   |false=>rfl
   |true=>have:=(Je ac i oi hoi).pair j oj hji hoj a3;rw[hbit] at this;cases this
  rw[ab] at a3;simp only[WT,Bool.or_eq_false_iff,Bool.not_false,Bool.true_and] at a3;have af:i<all.length:=(List.getElem?_eq_some_iff.1 hoi).1;unfold stpH at h1 h2 ⊢;cases hj:hv.any (Nat.beq j) with
  |true=>
   simp only[hj] at h1 ⊢;cases hi:hv.any (Nat.beq i) with
   |true=>
    have:=a9 j i hji (NL.1 hj) (NL.1 hi);rw[hbit] at this;cases this
   |false=>
    simp only[hi] at h2;refine swapHS h (by omega) a3.1 a3.2 (fun a4=> ?_) h1 h2
    rcases R5 (a7 j (NL.1 a4)) hoi (by omega) with h | h | h
    ·exact h
    ·omega
    ·rw[hbit] at h;cases h.2
  |false=>
   simp only[hj] at h1 ⊢;cases hi:hv.any (Nat.beq i) with
   |true=>
    simp only[hi] at h2;refine swapSH h a3.1 a3.2 (fun a4=> ?_) h1 h2
    rcases R5 (a7 i (NL.1 a4)) hoj (by omega) with h | h | h
    ·exact h
    ·rw[hbit] at h;cases h.2
    ·omega
   |false=>
    simp only[hi] at h2;exact swap h (by omega) ⟨a3.1,.inl a3.2⟩ h1 h2
theorem Es{base:Nat}:∀(n k:Nat) (hv hc a4 a5:List Nat) (st s:St),runH P gl ch all base (List.range' k n) hv hc st=some (s,a4,a5)→(∀j∈hv,j<k)→(∀j∈hc,j<k)→hvOk all hv→(∀i∈hc,LJ all i=true)→
  hvOk all a4∧(∀i∈a5,LJ all i=true)∧(∀j,j<k→(j∈a4↔j∈hv))∧(∀j,j<k→(j∈a5↔j∈hc))∧runG (stpH P gl ch all base a4 a5) all (List.range' k n) st=some s
 |0,k,hv,hc,a4,a5,st,s,h,h1,h1c,h2,h3=>by
  simp only[List.range'_zero,runH,Option.some.injEq,Prod.mk.injEq] at h;obtain⟨rfl,rfl,rfl⟩:=h;exact⟨h2,h3,fun j _=>Iff.rfl,fun j _=>Iff.rfl,rfl⟩
 |n+1,k,hv,hc,a4,a5,st,s,h,h1,h1c,h2,h3=>by
  simp only[List.range'_succ,runH] at h;split at h
  ·rename_i o ho;split at h
   ·rename_i s1 af a6;have a6:Cn gl ch (base+all.length) o st=some (s1,af):=by
     split at a6;·exact a6
     ·cases a6
    split at h
    ·rename_i ae;have ad:hvOk all (k::hv):=fun j i ag hj hi=>by
      rcases List.mem_cons.1 hi with e | hi
      ·subst e;rcases List.mem_cons.1 hj with e | hj
       ·omega
       ·exact List.all_eq_true.1 ae j hj
      ·rcases List.mem_cons.1 hj with e | hj
       ·have:=h1 i hi;omega
       ·exact h2 j i ag hj hi
     have ac:∀j∈k::hv,j<k+1:=fun j hj=>by
      rcases List.mem_cons.1 hj with e | hj
      ·omega
      ·have:=h1 j hj;omega
     have a8:∀l:List Nat,∀j,j<k→(j∈k::l↔j∈l):=fun l j hj=>⟨fun h=>by
      rcases List.mem_cons.1 h with e | h
      ·omega
      ·exact h,fun h=>by simp[h]⟩
     split at h
     ·split at h
      ·rename_i ab;obtain⟨q1,q2,q3,q4,q5⟩:=Es n (k+1) (k::hv) (k::hc) a4 a5 s1 s h ac (fun j hj=>by
        rcases List.mem_cons.1 hj with e | hj
        ·omega
        ·have:=h1c j hj;omega) ad (fun i hi=>by
        rcases List.mem_cons.1 hi with e | hi
        ·rw[e];exact ab
        ·exact h3 i hi)
       refine⟨q1,q2,fun j hj=>(q3 j (by omega)).trans (a8 hv j hj),fun j hj=>(q4 j (by omega)).trans (a8 hc j hj),?_⟩
       have hk:a4.any (Nat.beq k)=true:=NL.2 ((q3 k (by omega)).2 (by simp))
       have ah:a5.any (Nat.beq k)=true:=NL.2 ((q4 k (by omega)).2 (by simp))
       simp only[List.range'_succ,runG,ho,stpH,hk,ah,N6 a6 (fun _=>rfl)]
       exact q5
      ·cases h
     ·obtain⟨q1,q2,q3,q4,q5⟩:=Es n (k+1) (k::hv) hc a4 a5 s1 s h ac (fun j hj=>by have:=h1c j hj;omega) ad h3
      refine⟨q1,q2,fun j hj=>(q3 j (by omega)).trans (a8 hv j hj),fun j hj=>q4 j (by omega),?_⟩
      have hk:a4.any (Nat.beq k)=true:=NL.2 ((q3 k (by omega)).2 (by simp))
      simp only[List.range'_succ,runG,ho,stpH,hk,N6 a6 (al:=a5.any (Nat.beq k)) (fun e=>by cases e)]
      exact q5
    ·cases h
   ·split at h
    ·rename_i s1 a6;obtain⟨q1,q2,q3,q4,q5⟩:=Es n (k+1) hv hc a4 a5 s1 s h (fun j hj=>by have:=h1 j hj;omega) (fun j hj=>by have:=h1c j hj;omega) h2 h3
     refine⟨q1,q2,fun j hj=>q3 j (by omega),fun j hj=>q4 j (by omega),?_⟩
     have hk:a4.any (Nat.beq k)=false:=by
      cases hb:a4.any (Nat.beq k) with
      |false=>rfl
      |true=>have:=h1 k ((q3 k (by omega)).1 (NL.1 hb));omega
     simp only[List.range'_succ,runG,ho,stpH,hk,a6];exact q5
    ·cases h
  ·cases h
end
end HY
end
section
namespace HY
open Go Go.RowKit
abbrev X4:=Nat→List AV→Tr Box→Nat→Option (AV×Tr Box×Nat)
def RoundOk(P:Program)(gl:Nat→AV)(id:Nat)(args:List AV)(hp:Tr Box)(nx:Nat)(r:AV)(hp':Tr Box)(nx':Nat):Prop:=
 ∀(m:Nat→Lc) (H:HV) (B:Nat→Prop) (H0:HV) (rest:List (AV×Value)) (w:World) (vs:Array Value) (l:Nat),RelH m H B H0 gl (lkb hp) nx w→(Q4 (lkb hp) m).lp id=some l→args.length=vs.size→
  (∀(j:Nat) (x:AV) (v:Value),args[j]? =some x→vs[j]? =some v→RV H (Q4 (lkb hp) m) x v)→(∀p∈rest,RV H (Q4 (lkb hp) m) p.1 p.2)→
  ∃fn tmps a3 bd,(Instr.yield l vs).run P w= .ok (.round l fn tmps a3 bd) w∧∀ro n,RoundIn (FW ro) n P l fn tmps a3 bd w fun e w'=>
   ∃v m' H',e= .returned v∧Qa B w w'∧RelH m' H' B H0 gl (lkb hp') nx' w'∧RV H' (Q4 (lkb hp') m') r v∧∀p∈rest,RV H' (Q4 (lkb hp') m') p.1 p.2
def X4.Ok(P:Program)(gl:Nat→AV)(rd:X4):Prop:=∀id args hp nx r hp' nx',rd id args hp nx=some (r,hp',nx')→RoundOk P gl id args hp nx r hp' nx'
def Oi(ev:Operand→AV)(op:Op):Option (Nat×List AV):=
 match op with
 | .call c=>match c.callee with
  | .value x=>match ev x with
   | .yld id=>some (id,c.args.toList.map ev)
   |_=>none
  |_=>none
 |_=>none
def xinl(ch:Qo)(rd:X4)(ev:Operand→AV)(op:Op)(dst:Option Nat)(st:St):Option St:=
 match Yn ev op with
 |some (f,args)=>match ch f args st.hp st.nx with
  |some (r,hp',nx')=>some ((st.setHp hp' nx').putO dst r)
  |none=>none
 |none=>match Oi ev op with
  |some (id,args)=>match rd id args st.hp st.nx with
   |some (r,hp',nx')=>some ((st.setHp hp' nx').putO dst r)
   |none=>none
  |none=>none
def NH(P:Program)(gl:Nat→AV)(ch:Qo)(rd:X4)(o:Oper)(st:St):Option St:=
 if YV o.op then xinl ch rd (st.ev gl) o.op o.dst st
 else match xop P st.nx o.dst o.op (st.ev gl) (lkb st.hp) with
  |some r=>match r.2 with
   |some _=>some ((st.bump 1).eff o.dst r)
   |none=>some (st.putO o.dst r.1)
  |none=>match xopM P st.nx o.dst o.op (st.ev gl) (lkb st.hp) with
   |some r=>some ((st.bump 1).eff o.dst r)
   |none=>none
def xseq(P:Program)(gl:Nat→AV)(ch:Qo)(rd:X4)(all:List Oper):List Oper→St→Option St
 | [],st=>some st
 |o::l,st=>if QC o.dst st.n then(match o.guard with
  |none=>match NH P gl ch rd o st with
   |some s=>xseq P gl ch rd all l s
   |none=>none
  |some (j,want)=>match WW all j with
   |some g=>match Mi (st.get g) want with
    |some true=>match NH P gl ch rd o st with
     |some s=>xseq P gl ch rd all l s
     |none=>none
    |some false=>xseq P gl ch rd all l (st.putO o.dst (.tup []))
    |none=>none
   |none=>none) else none
def LF(l:List Oper):Option Oper:=
 match l[l.length - 1]? with
 |some o=>match o.op with
  | .mapUpdate .. =>match o.guard with
   |none=>some o
   |_=>none
  | .call c=>match c.callee with
   | .value (.tmp _)=>match o.guard with
    |none=>some o
    |_=>none
   | .builtin .copy=>match o.guard with
    |none=>some o
    |_=>none
   |_=>none
  |_=>none
 |none=>none
def QJ:Code→Bool
 | .region _ ops draw=> !draw || (G3 ops.toList&& (match LF ops.toList with | some _=>Ic ops.toList | none=>true))
 | .seq a b=>QJ a&&QJ b
 | .cond _ a b=>QJ a&&QJ b
 | .block _ c=>QJ c
 | .loop c=>QJ c
 | .scope c=>QJ c
 | .rangeFunc _ _ a b=>QJ a&&QJ b
 |_=>true
def Fg(P:Program)(gl:Nat→AV)(ch:Qo)(l:List Oper)(base:Nat)(n:Nat)(st:St):Option St:=match mdR l with
 |true=>runF P gl (fun _=>ch) l base (List.range n) (fun _=>none) st
 |false=>match runH P gl ch l base (List.range n) [] [] st with
  |some (s,_,_)=>some s
  |none=>none
theorem PK{P:Program}{gl:Nat→AV}{ch:Qo}{l:List Oper}{base n:Nat}{st s:St}(h:Fg P gl ch l base n st=some s):
  (∃F,runI P gl (fun _=>ch) (mdR l) F l base (List.range n) st=some s∧(mdR l=true→Ia F l base n))∨(mdR l=false∧∃hv hc,hvOk l hv∧(∀i∈hc,LJ l i=true)∧runG (stpH P gl ch l base hv hc) l (List.range n) st=some s):=by
 unfold Fg at h;cases hm:mdR l with
 |true=>rw[hm] at h;obtain⟨F,h1,h2⟩:=Q1o h;exact .inl ⟨F,h1,fun _=>h2⟩
 |false=>
  rw[hm] at h;simp only at h;split at h
  ·rename_i hv hc hs;cases h;rw[List.range_eq_range'] at hs;obtain⟨q2,q3,_,_,q4⟩:=Es n 0 [] [] hv hc st s hs (fun j hj=>by cases hj) (fun j hj=>by cases hj) (fun j i _ hj=>by cases hj) (fun i hi=>by cases hi)
   rw[← List.range_eq_range'] at q4;exact .inr ⟨rfl,hv,hc,q2,q3,q4⟩
  ·cases h
def xregD(P:Program)(gl:Nat→AV)(ch:Qo)(rd:X4)(l:List Oper)(st:St):Option St:=
 match LF l with
 |some o=>match Fg P gl ch l st.nx (l.length - 1) (st.bump l.length) with
  |some s=>if QC o.dst s.n then(match xopM P s.nx o.dst o.op (s.ev gl) (lkb s.hp) with
   |some r=>some ((s.bump 1).eff o.dst r)
   |none=>xinl ch rd (s.ev gl) o.op o.dst s) else none
  |none=>none
 |none=>Fg P gl ch l st.nx l.length (st.bump l.length)
def lift(o:Option St):Option (Exit×St×List Nat):=match o with | some s=>some (.normal,s,[]) | none=>none
def Hv(P:Program)(f:Nat):Bool:=match P.funcs[f]? with
 |some fn=>(fn.name != "runtime.NumGoroutine")&&fn.body.isSome
 |none=>false
theorem D8{P:Program}{f:Nat}(h:Hv P f=true):MA P f:=by
 unfold Hv at h;split at h
 ·rename_i fn hf;simp only[Bool.and_eq_true,bne_iff_ne] at h;exact DK hf (by simpa using h.1) h.2
 ·cases h
def Od(P:Program)(gl:Nat→AV)(ch:Qo)(g:Operand)(ps:Array Tmp)(a3 bd:Code)(st:St):Option (Exit×St×List Nat):=
 match st.ev gl g with
 | .fn f caps=>bif Hv P f then match ch f (.yld (st.nx+1)::caps) (pt (pt st.hp st.nx (.defb true)) (st.nx+1) (.loop .ready none st.n st.sl ps a3 bd st.nx)) (st.nx+2) with
  |some (_,hp',nx')=>match lkb hp' (st.nx+1) with
   |some (.loop s3 pend n3 sl3 ps3 as3 bd3 d3)=>if s3= .busy then none else match pend with
    |none=>some (.normal,st.setHp (pt hp' (st.nx+1) (.loop .exhausted pend n3 sl3 ps3 as3 bd3 d3)) nx',[st.nx])
    |some .ret=>some (.ret,st.setHp (pt hp' (st.nx+1) (.loop .exhausted pend n3 sl3 ps3 as3 bd3 d3)) nx',[st.nx])
    |some (.exit i)=>some (.exit i,st.setHp (pt hp' (st.nx+1) (.loop .exhausted pend n3 sl3 ps3 as3 bd3 d3)) nx',[st.nx])
    |_=>none
   |_=>none
  |none=>none
  else none
 |_=>none
def V5(P:Program)(gl:Nat→AV)(ch:Qo)(rd:X4)(a3:Bool):Nat→Code→St→Option (Exit×St×List Nat)
 |0,_,_=>none
 |k+1,c,st=>match c with
  | .skip=>some (.normal,st,[])
  | .label _=>some (.normal,st,[])
  | .exit id=>some (.exit id,st,[])
  | .ret=>some (.ret,st,[])
  | .region _ ops draw=>bif draw then lift (xregD P gl ch rd ops.toList st) else lift (xseq P gl ch rd ops.toList ops.toList st)
  | .seq a b=>match V5 P gl ch rd a3 k a st with
   |some (.normal,s,d)=>match V5 P gl ch rd a3 k b s with
    |some (e,s',d')=>some (e,s',d'++d)
    |none=>none
   |r=>r
  | .cond c a b=>match st.ev gl c with
   | .bool t=>bif t then V5 P gl ch rd a3 k a st else V5 P gl ch rd a3 k b st
   |_=>none
  | .block id c=>match V5 P gl ch rd a3 k c st with
   |some (.exit i,s,d)=>if i=id then some (.normal,s,d) else some (.exit i,s,d)
   |r=>r
  | .loop c=>match V5 P gl ch rd a3 k c st with
   |some (.normal,s,d)=>match V5 P gl ch rd a3 k (.loop c) s with
    |some (e,s',d')=>some (e,s',d'++d)
    |none=>none
   |r=>r
  | .rangeFunc g ps azz bd=>bif a3 then Od P gl ch g ps azz bd st else none
  | .scope c=>match V5 P gl ch rd a3 k c st with
   |some (.goto _,_,_)=>none
   |r=>r
  |_=>none
def Mj(D:List (Nat×Nat)):List Deferred:=D.map fun p=> {target:=.collected p.2,args:= #[]}
def Vx(gl:Nat→AV)(B:Nat→Prop)(H0:HV)(rest:List (AV×Value))(a:Act)(w:World)(st':St)(ds:List Nat)(a':Act)(w':World):Prop:=
 ∃m' H' D,D.map (·.1)=ds∧a'.defers=Mj D++a.defers∧(∀p∈D,(st'.env m').lp p.1=some p.2)∧Qa B w w'∧RelS m' H' B H0 gl rest st' a'.tmps w'
def Fo(P:Program)(gl:Nat→AV)(ro:Option Nat)(n:Nat)(c:Code)(st:St)(ex:Exit)(st':St)(ds:List Nat):Prop:=
 ∀(B:Nat→Prop) (H0:HV) (rest:List (AV×Value)) (m:Nat→Lc) (H:HV) (a:Act) (w:World),RelS m H B H0 gl rest st a.tmps w→c.wpIn (FW ro) n P (fun e a' w'=>e=ex∧Vx gl B H0 rest a w st' ds a' w') a w
section
variable {P : Program} {m : Nat → Lc} {H : HV} {B : Nat → Prop} {H0 : HV} {gl : Nat → AV} {rest : List (AV × Value)} {st : St} {a : Act} {w : World} {ch : Qo} {rd : X4}
theorem Ap{H':HV}{E E':Env}{x:AV}(h:RV H E x Go.undef):RV H' E' x Go.undef:=by
 unfold Go.undef at h ⊢;cases h with
 |imm _ _ h=>
  cases h with
  |undef=>exact .imm _ _ (.undef _)
  |val=>exact .imm _ _ (.val _)
  |tup cs _ hl _=>
   have:cs=[]:=List.eq_nil_of_length_eq_zero (by simpa using hl)
   subst this;exact .tup [] #[] rfl (fun j c v hj=>by simp at hj)
 |tup cs _ hl _=>
  have:cs=[]:=List.eq_nil_of_length_eq_zero (by simpa using hl)
  subst this;exact .tup [] #[] rfl (fun j c v hj=>by simp at hj)
theorem RelS.taken(h:RelS m H B H0 gl rest st a.tmps w){dst:Option Nat}(hd:QC dst st.n=true){hp':Tr Box}{nx':Nat}{r:AV}{v:Value}{m':Nat→Lc}{H':HV}{w':World}(hh:RelH m' H' B H0 gl (lkb hp') nx' w')(a6:RV H' (Q4 (lkb hp') m') r v)
  (a3:∀p∈ (List.range st.n).map (fun k=>(st.get k,a.tmps.getD k Go.undef))++rest,RV H' (Q4 (lkb hp') m') p.1 p.2):RelS m' H' B H0 gl rest ((st.setHp hp' nx').putO dst r) (a.put dst v).tmps w':=by
 have h1:RelS m' H' B H0 gl rest (st.setHp hp' nx') a.tmps w':=by
  refine⟨hh,h.size,fun k=> ?_,fun p hp=>a3 p (List.mem_append_right _ hp)⟩
  rcases Nat.lt_or_ge k st.n with a5 | a4
  ·exact a3 (st.get k,a.tmps.getD k Go.undef) (List.mem_append_left _ (List.mem_map.2 ⟨k,List.mem_range.2 a5,rfl⟩))
  ·have hu:a.tmps.getD k Go.undef=Go.undef:=by rw[Array.getD_eq_getD_getElem?,Array.getElem?_eq_none (by rw[h.size];exact a4)];rfl
   have:=h.slot k;rw[hu] at this ⊢;exact Ap this
 exact h1.putO hd a6
theorem RelS.hold(h:RelS m H B H0 gl rest st a.tmps w):∀p∈ (List.range st.n).map (fun k=>(st.get k,a.tmps.getD k Go.undef))++rest,RV H (st.env m) p.1 p.2:=fun p hp=>by
 rw[List.mem_append,List.mem_map] at hp;rcases hp with⟨q,_,rfl⟩ | hp
 ·exact h.slot _
 ·exact h.rest p hp
theorem Q28{ev:Operand→AV}{op:Op}{id:Nat}{args:List AV}(h:Oi ev op=some (id,args)):∃c x,op= .call c∧c.callee= .value x∧ev x= .yld id∧args=c.args.toList.map ev:=by
 unfold Oi at h;split at h
 ·rename_i c;split at h
  ·rename_i x hx;split at h
   ·rename_i a5 hf;cases h;exact⟨c,x,rfl,hx,hf,rfl⟩
   ·cases h
  ·cases h
 ·cases h
theorem P9(ae:ch.Ok P gl)(aj:rd.Ok P gl)(h:RelS m H B H0 gl rest st a.tmps w){o:Oper}(hd:QC o.dst st.n=true){st':St}(hk:xinl ch rd (st.ev gl) o.op o.dst st=some st')(ro:Option Nat)(n:Nat):G1 P ro n B H0 gl rest a w o st':=by
 unfold xinl at hk;split at hk
 ·rename_i f args hc;split at hk
  ·rename_i r hp' nx' hr;cases hk;have a7:=ae _ _ _ _ _ _ _ hr;refine M6 h hc ro n fun vs hl hv=> ?_
   refine(a7 m H B H0 _ w vs h.heap hl hv h.hold).mono fun e w' a3=> ?_
   obtain⟨v,m',H',rfl,hb,hh,a9,a4⟩:=a3;exact⟨v,m',H',rfl,hb,h.taken hd hh a9 a4⟩
  ·cases hk
 ·split at hk
  ·rename_i id args hy;split at hk
   ·rename_i r hp' nx' hr;cases hk;obtain⟨c,x,ho,hx,af,rfl⟩:=Q28 hy;have ac:=h.ev x;rw[af] at ac;obtain⟨l,hl,ah⟩:=ac.yld_inv;have a6:=MQ h c.args.toList;obtain⟨fn,tmps,ad,bd,ab,a5⟩:=aj _ _ _ _ _ _ _ hr m H B H0 _ w (c.args.map a.eval) l h.heap ah (by simp) (fun j y v hy hv=>a6.2 j y v hy (by simpa using hv)) h.hold
    intro next Q hn;refine⟨fun _ _=>trivial,?_⟩
    have a8:(execOp a.eval o).run P w= .ok (.round l fn tmps ad bd) w:=by
     unfold execOp;simp only[ho,resolve,hx,Sem.run_bind,hl,Deferred.ofValue,Sem.run_pure,Result.andThen_ok,invoke,Array.empty_append];exact ab
    rw[Oper.semAt_eq _ _ _ (fun c e=>by rw[ho] at e;cases e),a8]
    refine⟨(fun hh=>by simp[FW] at hh),(a5 ro (n - 1)).mono fun e w' a3=> ?_⟩
    obtain⟨v,m',H',rfl,hb,hh,a9,a4⟩:=a3;exact hn _ _ _ _ (XU _ _ _) hb (h.taken hd hh a9 a4)
   ·cases hk
  ·cases hk
theorem RelS.bump(h:RelS m H B H0 gl rest st a.tmps w)(k:Nat):RelS m H B H0 gl rest (st.bump k) a.tmps w:=
 ⟨{h.heap with fresh:=fun id a3=>h.heap.fresh id (Nat.le_trans (Nat.le_add_right _ _) a3)},h.size,h.slot,h.rest⟩
theorem xop_ok0(h:RelS m H B H0 gl rest st a.tmps w){o:Oper}(hd:QC o.dst st.n=true){r:AV×Option (Nat×Box)}(hk:xop P st.nx o.dst o.op (st.ev gl) (lkb st.hp)=some r)(hn:r.2=none):
  OpOk P B H0 gl rest a w o.dst (st.putO o.dst r.1) (execOp a.eval o):=by
 have h1:=Oc (P:=P) (st:=st.bump 1) (h.bump 1) hd (h.heap.fresh _ (Nat.le_refl _)) (Nat.lt_succ_self _) hk;obtain⟨v,b⟩:=r;cases hn;obtain⟨nx,u,w',m',H',h2,h3,h4,h5⟩:=h1;refine⟨nx,u,w',m',H',h2,h3,h4,?_⟩;have a3:((st.bump 1).eff o.dst (v,none)).hp=st.hp:=by show((st.bump 1).putO o.dst v).hp=st.hp;rw[J0];rfl
 have a4:∀k,((st.bump 1).eff o.dst (v,none)).get k=(st.putO o.dst v).get k:=fun k=>by cases o.dst<;>rfl
 refine⟨?_,?_,fun k=> ?_,fun p hp=> ?_⟩
 ·have hh:=h5.heap;rw[a3] at hh;rw[J0,Cg];exact {hh with fresh:=h.heap.fresh}
 ·rw[N0];have:=h5.size;rw[Gq] at this;exact this
 ·have:=h5.slot k;rw[a4] at this;show RV H' (Q4 (lkb (st.putO o.dst v).hp) m') _ _;rw[J0];unfold St.env at this;rw[a3] at this;exact this
 ·have:=h5.rest p hp;show RV H' (Q4 (lkb (st.putO o.dst v).hp) m') _ _;rw[J0];unfold St.env at this;rw[a3] at this;exact this
theorem IG(a5:ch.Ok P gl)(a6:rd.Ok P gl)(h:RelS m H B H0 gl rest st a.tmps w){o:Oper}(hd:QC o.dst st.n=true){st':St}(hk:NH P gl ch rd o st=some st')(ro:Option Nat)(n:Nat):G1 P ro n B H0 gl rest a w o st':=by
 unfold NH at hk;split at hk;·exact P9 a5 a6 h hd hk ro n
 ·split at hk
  ·rename_i r hr;have h1:=(Oc (st:=st.bump 1) (h.bump 1) hd (h.heap.fresh _ (Nat.le_refl _)) (Nat.lt_succ_self _) hr).step (ro:=ro) (n:=n) (Lv hr);split at hk;·cases hk;exact h1
   ·rename_i hn;cases hk;have h2:=(xop_ok0 h hd hr hn).step (ro:=ro) (n:=n) (Lv hr);exact h2
  ·split at hk
   ·rename_i r hr;cases hk;exact(BT (st:=st.bump 1) (h.bump 1) hd (h.heap.fresh _ (Nat.le_refl _)) (Nat.lt_succ_self _) hr).step (ro:=ro) (n:=n) (E0 hr)
   ·cases hk
theorem ST(a5:ch.Ok P gl)(a7:rd.Ok P gl){all:List Oper}{ro:Option Nat}{n:Nat}{d0:List Deferred}{w0:World}{sF:St}{Q:Exit→Act→World→Prop}
  (hQ:∀(a:Act) (w:World) (m:Nat→Lc) (H:HV),a.defers=d0→Qa B w0 w→RelS m H B H0 gl rest sF a.tmps w→Q .normal a w):
  ∀(a3 l:List Oper) (st:St) (a:Act) (w:World) (m:Nat→Lc) (H:HV),all=a3++l→xseq P gl ch rd all l st=some sF→a.defers=d0→Qa B w0 w→RelS m H B H0 gl rest st a.tmps w→wpOpsIn (FW ro) n P all.toArray Q (List.range' a3.length l.length) a w
 |a3,[],st,a,w,m,H,_,hk,hd,hb,hr=>by
  simp only[xseq,Option.some.injEq] at hk;subst hk;exact hQ a w m H hd hb hr
 |a3,o::l,st,a,w,m,H,he,hk,hd,hb,hr=>by
  simp only[List.length_cons,List.range'_succ,wpOpsIn];have ho:all.toArray[a3.length]? =some o:=by rw[List.getElem?_toArray,he,List.getElem?_append_right (Nat.le_refl _)];simp
  simp only[ho];have ih:=ST a5 a7 (all:=all) (ro:=ro) (n:=n) hQ (a3++[o]) l;simp only[List.length_append,List.length_cons,List.length_nil,Nat.zero_add,List.append_assoc,List.singleton_append] at ih;simp only[xseq] at hk;split at hk
  ·rename_i a4;have go:∀s,NH P gl ch rd o st=some s→xseq P gl ch rd all l s=some sF→o.wpIn (FW ro) n P a w (wpOpsIn (FW ro) n P all.toArray Q (List.range' (a3.length+1) l.length)) Q:=fun s hs hk=>
    IG a5 a7 hr a4 hs ro n _ _ fun a' w' m' H' aa a9 ab=>ih s a' w' m' H' he hk (aa.trans hd) (hb.trans a9) ab
   split at hk
   ·rename_i hg;rw[if_pos (by simp[Region.wanted,hg])]
    split at hk;·rename_i s hs;exact go s hs hk
    ·cases hk
   ·rename_i j af hg;split at hk
    ·rename_i g a6;split at hk
     ·rename_i ht;rw[if_pos (NU hg a6 ht (hr.slot g))];split at hk;·rename_i s hs;exact go s hs hk
      ·cases hk
     ·rename_i ht;rw[if_neg (by rw[NU hg a6 ht (hr.slot g)];simp)]
      exact⟨fun _ _=>trivial,ih _ _ w m H he hk ((XU _ _ _).trans hd) hb (hr.putO a4 (.tup [] #[] rfl (fun j c v hj=>by simp at hj)))⟩
     ·cases hk
    ·cases hk
  ·cases hk
theorem Lt{F:Fence}{n:Nat}{Q:Exit→Act→World→Prop}{c:Code}(I:Nat→Act→World→Prop)
  (round:∀j a w,I j a w→c.wpIn F n P (Exit.then (fun a' w'=>∃i,i<j∧I i a' w') Q) a w) {j:Nat} {a:Act} {w:World} (h₀:I j a w):(Code.loop c).wpIn F n P Q a w:=by
 intro b k cs ad hb hr;have key:∀j a w,I j a w→∃e a' w',Q e a' w'∧ArrivesIn (Machine.fenced P F) P (lone (b.atR a (.code c:: .inLoop c::k)) cs w) b k cs e a' w':=by
  intro j
  induction j using Nat.strongRecOn with
  |_ j ih=>
   intro a w hI;obtain⟨e,a₁,w₁,hq,a3⟩:=round j a w hI b (.inLoop c::k) cs ad hb hr;cases e with
   |normal=>
    obtain⟨i,aa,a9⟩:=hq;obtain⟨e₂,a₂,w₂,ab,a5⟩:=ih i aa a₁ w₁ a9;exact⟨e₂,a₂,w₂,ab,.of_steps (StepsIn.trans a3 (.one (fenced_calm hb hr rfl) stepR_inLoop)) a5⟩
   |exit id=>exact⟨_,a₁,w₁,hq,.pass (x:=.inLoop c) rfl (fun _ _=>.inl (by simp)) a3⟩
   |goto l=>exact⟨_,a₁,w₁,hq,.pass (x:=.inLoop c) rfl (fun _ _=>.inl (by simp)) a3⟩
   |ret=>exact⟨_,a₁,w₁,hq,.pass (x:=.inLoop c) rfl (fun _ _=>.inl (by simp)) a3⟩
   |panic ch=>exact⟨_,a₁,w₁,hq,.pass (x:=.inLoop c) rfl (fun _ _=>.inl (by simp)) a3⟩
   |outgrown=>exact⟨_,a₁,w₁,hq,.pass (x:=.inLoop c) rfl (fun _ _=>.inl (by simp)) a3⟩
 obtain⟨e,a',w',hq,a3⟩:=key j a w h₀;exact⟨e,a',w',hq,.of_steps (.one (fenced_calm hb hr rfl) stepR_loop) a3⟩
theorem Vx.nil{B:Nat→Prop}{st':St}{a':Act}{w':World}{m':Nat→Lc}{H':HV}(hd:a'.defers=a.defers)(hb:Qa B w w')(hr:RelS m' H' B H0 gl rest st' a'.tmps w'):Vx gl B H0 rest a w st' [] a' w':=
 ⟨m',H',[],rfl,by simpa[Mj] using hd,(fun p hp=>by simp at hp),hb,hr⟩
def No(D:List (Nat×Nat)):List (AV×Value):=D.map fun p=>(.yld p.1,.func (.yield p.2) #[] #[])
theorem RelS.more(h:RelS m H B H0 gl rest st a.tmps w){D:List (Nat×Nat)}(hD:∀p∈D,(st.env m).lp p.1=some p.2):RelS m H B H0 gl (No D++rest) st a.tmps w:=
 ⟨h.heap,h.size,h.slot,fun p hp=>by
  rw[List.mem_append] at hp;rcases hp with hp | hp
  ·unfold No at hp;rw[List.mem_map] at hp;obtain⟨q,hq,rfl⟩:=hp;exact .yld _ _ (hD q hq)
  ·exact h.rest p hp⟩
theorem Vx.then{B:Nat→Prop}{s1 st':St}{d1 d2:List Nat}{a1 a2:Act}{w1 w2:World}{D:List (Nat×Nat)}(hD:D.map (·.1)=d1)(a4:a1.defers=Mj D++a.defers)(hb:Qa B w w1)(h2:Vx gl B H0 (No D++rest) a1 w1 st' d2 a2 w2):Vx gl B H0 rest a w st' (d2++d1) a2 w2:=by
 obtain⟨m2,H2,D2,e1,e2,e3,e4,e5⟩:=h2;refine⟨m2,H2,D2++D,by simp[e1,hD],by rw[e2,a4,← List.append_assoc];simp[Mj],fun p hp=> ?_,hb.trans e4,⟨e5.heap,e5.size,e5.slot,fun p hp=>e5.rest p (List.mem_append_right _ hp)⟩⟩
 rw[List.mem_append] at hp;rcases hp with hp | hp
 ·exact e3 p hp
 ·have:=e5.rest (.yld p.1,.func (.yield p.2) #[] #[]) (List.mem_append_left _ (List.mem_map.2 ⟨p,hp,rfl⟩));obtain⟨l,k1,k2⟩:=this.yld_inv;cases k1;exact k2
theorem Pd{o:Option St}{ex:Exit}{st':St}{ds:List Nat}(h:lift o=some (ex,st',ds)):o=some st'∧ex= .normal∧ds=[]:=by
 cases o with
 |none=>cases h
 |some s=>cases h;exact⟨rfl,rfl,rfl⟩
theorem Oy{l:List Oper}{o:Oper}(h:LF l=some o):l[l.length - 1]? =some o∧o.guard=none:=by
 unfold LF at h;split at h
 ·rename_i o' ho;split at h
  ·split at h;·rename_i hg;cases h;exact⟨ho,hg⟩
   ·cases h
  ·split at h
   ·split at h;·rename_i hg;cases h;exact⟨ho,hg⟩
    ·cases h
   ·split at h;·rename_i hg;cases h;exact⟨ho,hg⟩
    ·cases h
   ·cases h
  ·cases h
 ·cases h
theorem Q40(a6:ch.Ok P gl)(am:rd.Ok P gl)(a4:P.follows .mixedOrders=true){l:List Oper}(a3:(G3 l&& (match LF l with | some _=>Ic l | none=>true))=true)(ro:Option Nat)(n id:Nat)(h:RelS m H B H0 gl rest st a.tmps w){st':St}(hk:xregD P gl ch rd l st=some st'):
  (Code.region id l.toArray true).wpIn (FW ro) n P (fun e a' w'=>e= .normal∧Vx gl B H0 rest a w st' [] a' w') a w:=by
 rw[Bool.and_eq_true] at a3;unfold xregD at hk;split at hk
 ·rename_i o ho;obtain⟨hol,hg⟩:=Oy ho;have a7:Ic l=true:=by have:=a3.2;rw[ho] at this;exact this
  split at hk
  ·rename_i s hs;split at hk
   ·rename_i a8;have ah:∀(a':Act) (w':World) (m':Nat→Lc) (H':HV) (K:Act→World→Prop),a'.defers=a.defers→Qa B w w'→RelS m' H' B H0 gl rest s a'.tmps w'→
      (∀a2 w2,(fun e a' w'=>e=Exit.normal∧Vx gl B H0 rest a w st' [] a' w') .normal a2 w2→K a2 w2)→o.wpIn (FW ro) n P a' w' K (fun e a' w'=>e= .normal∧Vx gl B H0 rest a w st' [] a' w'):=fun a' w' m' H' K hd hb hr hK=>by
     split at hk
     ·rename_i r ai;cases hk;exact((BT (st:=s.bump 1) (hr.bump 1) a8 (hr.heap.fresh _ (Nat.le_refl _)) (Nat.lt_succ_self _) ai).step (ro:=ro) (n:=n) (E0 ai)) K _ fun a2 w2 m2 H2 aa a9 af=>hK _ _ ⟨rfl,Vx.nil (aa.trans hd) (hb.trans a9) af⟩
     ·exact P9 a6 am hr a8 hk ro n K _ fun a2 w2 m2 H2 aa a9 af=>hK _ _ ⟨rfl,Vx.nil (aa.trans hd) (hb.trans a9) af⟩
    rcases PK hs with⟨F,hs,hF⟩ | ⟨ad,hv,hc,ac,ab,hs⟩
    ·exact TK (Wj a6) a4 a3.1 a7 hol hg h hs hF ah
    ·exact RK (Bz a6 a3.1 ad ac ab) a4 a3.1 a7 hol hg h hs ah
   ·cases hk
  ·cases hk
 ·rcases PK hk with⟨F,hk,hF⟩ | ⟨ad,hv,hc,ac,ab,hk⟩
  ·exact OP (Wj a6) a4 a3.1 h hk hF fun a' w' m' H' hd hb hr=>⟨rfl,Vx.nil hd hb hr⟩
  ·exact HQ (Bz a6 a3.1 ad ac ab) a4 a3.1 h hk fun a' w' m' H' hd hb hr=>⟨rfl,Vx.nil hd hb hr⟩
end
end HY
end
section
namespace HY
open Go Go.RowKit
section
variable {P : Program} {m : Nat → Lc} {H : HV} {B : Nat → Prop} {H0 : HV} {gl : Nat → AV} {rest : List (AV × Value)} {st : St} {a : Act} {w : World} {ch : Qo} {rd : X4}
theorem Ej{hp:Hp}{id:Nat}{s:LoopState}{pend:Option Code}{n:Nat}{sl:Tr AV}{ps:Array Tmp}{a3 bd:Code}{d:Nat}(h:hp id=some (.loop s pend n sl ps a3 bd d)):(Q4 hp m).lp id=some (m id).g:=by simp[Q4,h]
set_option maxHeartbeats 1000000 in
theorem Q21(bg:ch.Ok P gl){g:Operand}{ps:Array Tmp}{a3 bd:Code}{ex:Exit}{st':St}{ds:List Nat}(hk:Od P gl ch g ps a3 bd st=some (ex,st',ds))(n:Nat):Fo P gl none n (.rangeFunc g ps a3 bd) st ex st' ds:=by
 intro B H0 rest m H a w hr;unfold Od at hk;split at hk
 ·rename_i f bo hg;cases hbd:Hv P f with
  |false=>rw[hbd] at hk;cases hk
  |true=>
  rw[hbd] at hk;simp only[cond_true] at hk;have ai:=D8 hbd;split at hk
  ·rename_i rv hp' nx' hc;have ap:=bg _ _ _ _ _ _ _ hc;have b0:=hr.ev g;rw[hg] at b0;obtain⟨us,hu,c0,bk⟩:=b0.fn_inv;refine wpIn_rangeFunc fun fn _=> ?_
   have bb:Yk H (Q4 (updF (lkb st.hp) st.nx (some (.defb true))) (updF m st.nx ⟨w.heap.size,0,0⟩)) (.defb true) ⟨w.heap.size,0,0⟩ (w.alloc (.deferred (some []))):=X9 w _;obtain⟨r1,E1⟩:=hr.heap.newObj (nx':=st.nx+2) (hr.heap.fresh _ (Nat.le_refl _)) (by omega) (by omega) _ _ rfl bb
   have bc:Yk H (Q4 (updF (updF (lkb st.hp) st.nx (some (.defb true))) (st.nx+1) (some (.loop .ready none st.n st.sl ps a3 bd st.nx))) (updF (updF m st.nx ⟨w.heap.size,0,0⟩) (st.nx+1) ⟨(w.alloc (.deferred (some []))).heap.size,0,0⟩)) (.loop .ready none st.n st.sl ps a3 bd st.nx) ⟨(w.alloc (.deferred (some []))).heap.size,0,0⟩
     ((w.alloc (.deferred (some []))).alloc (.loop {state:=.ready,pending:=none,fn:=fn,tmps:=a.tmps,params:=ps,assign:=a3,body:=bd,defers:=w.heap.size})):=by
    refine⟨fn,a.tmps,w.heap.size,X9 _ _,hr.size,fun k=> ?_,?_⟩
    ·have ba:=Nj (m:=updF m st.nx ⟨w.heap.size,0,0⟩) (hp:=updF (lkb st.hp) st.nx (some (.defb true))) (id:=st.nx+1) (b:=.loop .ready none st.n st.sl ps a3 bd st.nx) (l:=⟨(w.alloc (.deferred (some []))).heap.size,0,0⟩) (by rw[Qn _ _ (by omega)];exact hr.heap.fresh _ (by omega))
     exact((hr.slot k).mono (.refl _) E1).mono (.refl _) ba
    ·simp[Q4,Qn (lkb st.hp |>fun f=>updF f st.nx (some (.defb true))) _ (show st.nx≠st.nx+1 by omega),Qj,Qn (updF m st.nx ⟨w.heap.size,0,0⟩) _ (show st.nx≠st.nx+1 by omega)]
   obtain⟨r2,E2⟩:=r1.newObj (id:=st.nx+1) (nx':=st.nx+2) (by rw[Qn _ _ (by omega)];exact hr.heap.fresh _ (by omega)) (by omega) (by omega) _ _ rfl bc
   have c1:(w.alloc (.deferred (some []))).heap.size=w.heap.size+1:=by simp
   have a7:(Q4 (updF (updF (lkb st.hp) st.nx (some (.defb true))) (st.nx+1) (some (.loop .ready none st.n st.sl ps a3 bd st.nx))) (updF (updF m st.nx ⟨w.heap.size,0,0⟩) (st.nx+1) ⟨(w.alloc (.deferred (some []))).heap.size,0,0⟩)).lp (st.nx+1)=some (w.heap.size+1):=by
    simp[Q4,Qj]
   have aa:(Q4 (updF (updF (lkb st.hp) st.nx (some (.defb true))) (st.nx+1) (some (.loop .ready none st.n st.sl ps a3 bd st.nx))) (updF (updF m st.nx ⟨w.heap.size,0,0⟩) (st.nx+1) ⟨(w.alloc (.deferred (some []))).heap.size,0,0⟩)).lp st.nx=some w.heap.size:=by
    have e1:updF (updF (lkb st.hp) st.nx (some (.defb true))) (st.nx+1) (some (.loop .ready none st.n st.sl ps a3 bd st.nx)) st.nx=some (.defb true):=by rw[Qn _ _ (by omega),Qj]
    have e2:updF (updF m st.nx ⟨w.heap.size,0,0⟩) (st.nx+1) ⟨(w.alloc (.deferred (some []))).heap.size,0,0⟩ st.nx=⟨w.heap.size,0,0⟩:=by rw[Qn _ _ (by omega),Qj]
    simp only[Q4,e1,e2]
   have a5:=E1.trans E2;rw[← Z1,← Z1] at r2 a7 aa a5;have ah:Qa B w ((w.alloc (.deferred (some []))).alloc (.loop {state:=.ready,pending:=none,fn:=fn,tmps:=a.tmps,params:=ps,assign:=a3,body:=bd,defers:=w.heap.size})):=
    ((Qa.refl B w).alloc hr.heap.low _).alloc (fun k hk=>by have:=hr.heap.low k hk;simp;omega) _
   have a6:(Instr.enterLoop fn a.tmps ps a3 bd (FW none).round).run P w= .ok (w.heap.size+1,[{target:=.collected w.heap.size,args:= #[]}]) ((w.alloc (.deferred (some []))).alloc (.loop {state:=.ready,pending:=none,fn:=fn,tmps:=a.tmps,params:=ps,assign:=a3,body:=bd,defers:=w.heap.size})):=run_enterLoop_outer fn a.tmps ps a3 bd;generalize ((w.alloc (.deferred (some []))).alloc (.loop {state:=.ready,pending:=none,fn:=fn,tmps:=a.tmps,params:=ps,assign:=a3,body:=bd,defers:=w.heap.size}))=W2 at r2 ah a6
   generalize (updF (updF m st.nx ⟨w.heap.size,0,0⟩) (st.nx+1) ⟨(w.alloc (.deferred (some []))).heap.size,0,0⟩)=m2 at r2 a7 aa a5;have b3:(resolve a.eval (rangeCall g (w.heap.size+1)) 0).run P W2= .ok {target:=.fn (.func f) us,args:= #[.func (.yield (w.heap.size+1)) #[] #[]]} W2:=by
    have:a.eval g= .func (.func f) #[] us:=hu;show(Deferred.ofValue (a.eval g) (#[Operand.const (.func (.yield (w.heap.size+1)) #[] #[])].map a.eval)).run P W2=_;rw[this];simp[Deferred.ofValue,Act.eval]
   have b1:(invoke (.fn (.func f) us) #[.func (.yield (w.heap.size+1)) #[] #[]]).run P W2= .ok (.enter f (#[.func (.yield (w.heap.size+1)) #[] #[]]++us)) W2:=by
    simp only[invoke];exact ai _ _
   have ae:=Ans.calls (he:=ai)<| ap m2 H B H0 ((List.range st.n).map (fun k=>(st.get k,a.tmps.getD k Go.undef))++(No [(st.nx,w.heap.size),(st.nx+1,w.heap.size+1)]++rest)) _ (#[.func (.yield (w.heap.size+1)) #[] #[]]++us) r2 (by simp;omega) (fun j x v hx hv=>by
     cases j with
     |zero=>
      simp only[List.getElem?_cons_zero,Option.some.injEq] at hx;subst hx;have:v= .func (.yield (w.heap.size+1)) #[] #[]:=by rw[Array.getElem?_append_left (by simp)] at hv;simpa using hv.symm
      subst this;exact .yld _ _ a7
     |succ j=>
      rw[List.getElem?_cons_succ] at hx;refine(bk j x v hx ?_).mono (.refl _) a5;rw[Array.getElem?_append_right (by simp)] at hv
      simpa using hv) (fun p hp=>by
     rw[List.mem_append,List.mem_map,List.mem_append] at hp;rcases hp with⟨q,_,rfl⟩ | hp | hp
     ·exact(hr.slot _).mono (.refl _) a5
     ·simp only[No,List.map_cons,List.map_nil,List.mem_cons,List.not_mem_nil,or_false] at hp;rcases hp with rfl | rfl
      ·exact .yld _ _ aa
      ·exact .yld _ _ a7
     ·exact(hr.rest p hp).mono (.refl _) a5)
   refine⟨_,_,_,_,_,_,_,_,a6,b3,fun _ _=>trivial,b1,(fun hh=>by simp[FW] at hh),WS (ae.mono fun e w3 aw=> ?_)⟩
   ·obtain⟨v,m',H',rfl,be,aq,_,a4⟩:=aw;split at hk
    ·rename_i s3 pend n3 b6 ag ac ad d3 af;split at hk;·cases hk
     ·rename_i ao;have bm:=a4 (.yld (st.nx+1),.func (.yield (w.heap.size+1)) #[] #[]) (by simp[No])
      obtain⟨l1,q1,q2⟩:=bm.yld_inv;cases q1;have au:(m' (st.nx+1)).g=w.heap.size+1:=by
       rw[Ej af] at q2;simpa using q2
      have bf:=aq.box _ _ af;obtain⟨ak,t3,aj,ab,b5,b4,bh⟩:=bf;rw[au] at ab;have az:=run_endLoop (P:=P) ab ao;have b2:=aq.putObj af rfl (b':=.loop .exhausted pend n3 b6 ag ac ad d3) rfl (.loop {state:=.exhausted,pending:=pend,fn:=ak,tmps:=t3,params:=ag,assign:=ac,body:=ad,defers:=aj}) (fun C e fr q=>by rw[au,ab] at q;cases q) (fun E' ax=>⟨ak,t3,aj,by rw[World.putObj_heap_same (aq.sep _ _ af).2.1],b5,fun k=>(b4 k).mono (.refl _) ax,ax.lp _ _ bh⟩)
      obtain⟨ar,am,ay⟩:=b2;rw[← Z1] at ar am;rw[au] at ar ay;have a9:Vx gl B H0 rest a w (st.setHp (pt hp' (st.nx+1) (.loop .exhausted pend n3 b6 ag ac ad d3)) nx') [st.nx] {a with defers:=[{target:=.collected w.heap.size,args:= #[]}]++a.defers} (w3.putObj (w.heap.size+1) (.loop {state:=.exhausted,pending:=pend,fn:=ak,tmps:=t3,params:=ag,assign:=ac,body:=ad,defers:=aj})):=by
       refine⟨m',H',[(st.nx,w.heap.size)],rfl,rfl,fun p hp=> ?_,(ah.trans be).trans ay,?_⟩
       ·simp only[List.mem_singleton] at hp;subst hp;have bl:=(a4 (.yld st.nx,.func (.yield w.heap.size) #[] #[]) (by simp[No])).mono (.refl _) am
        obtain⟨l0,q3,q4⟩:=bl.yld_inv;cases q3;exact q4
       ·have:=RelS.taken (dst:=none) hr rfl (r:=.undef) (v:=Go.undef) ar (.imm _ _ (.undef _)) (fun p hp=>by
         refine(a4 p ?_).mono (.refl _) am;rw[List.mem_append] at hp ⊢;rcases hp with hp | hp
         ·exact .inl hp
         ·exact .inr (List.mem_append_right _ hp))
        exact this
      refine⟨pend,_,az,?_⟩;split at hk;·cases hk;exact⟨rfl,a9⟩
      ·cases hk;exact wpIn_ret ⟨rfl,a9⟩
      ·cases hk;exact wpIn_exit ⟨rfl,a9⟩
      ·cases hk
    ·cases hk
  ·cases hk
 ·cases hk
end
end HY
end
section
namespace HY
open Go Go.RowKit
section
variable {F : Fence} {n : Nat} {P : Program} {b : Frame} {a : Act} {k : List Item} {cs : List Frame} {w : World} {Q : Exit → Act → World → Prop}
theorem De{c:Code}:step P (lone (b.atR a (.code (.scope c)::k)) cs w)= .next (lone (b.atR a (.code c:: .inScope c::k)) cs w):=
 step_lone_go (by simp[stepG,stepG.exec,Frame.atR])
theorem F4{c:Code}:step P (lone (b.atR a (.inScope c::k)) cs w)= .next (lone (b.atR a k) cs w):=
 step_lone_go (by simp[stepG,stepG.exec,Frame.atR])
theorem Q0r{c:Code}(h:c.wpIn F n P (Exit.noGoto Q) a w):(Code.scope c).wpIn F n P Q a w:=by
 intro b k cs aa hb hr;have h0:(lone (b.atR a (.code (.scope c)::k)) cs w).fenced P F:=fenced_calm hb hr rfl;obtain⟨e,a₁,w₁,hq,a3⟩:=h b (.inScope c::k) cs aa hb hr;cases e with
 |normal=>exact⟨.normal,a₁,w₁,hq,.head h0 De (StepsIn.trans a3 (.one (fenced_calm hb hr rfl) F4))⟩
 |exit id=>
  have hx:exitTo id (.inScope c::k)=exitTo id k:=by simp[exitTo]
  exact⟨.exit id,a₁,w₁,hq,fun k' hk=>.head h0 De (a3.1 k' (by rw[hx];exact hk)),
   fun a9 hk=>let⟨k₁,h1,h2⟩:=a3.2 a9 (by rw[hx];exact hk);⟨k₁,h1,.head h0 De h2⟩⟩
 |goto l=>exact hq.elim
 |ret=>exact⟨_,a₁,w₁,hq,.of_steps (.one h0 De) a3⟩
 |panic ch=>exact⟨_,a₁,w₁,hq,.of_steps (.one h0 De) a3⟩
 |outgrown=>exact⟨_,a₁,w₁,hq,.of_steps (.one h0 De) a3⟩
end
section
variable {P : Program} {gl : Nat → AV} {ch : Qo} {rd : X4}
theorem Av(a9:ch.Ok P gl)(af:rd.Ok P gl)(ab:P.follows .mixedOrders=true)(a7:Bool)(ro:Option Nat)(ac:a7=true→ro=none)(n:Nat):∀(K k:Nat),k≤K→∀(c:Code) (st:St) (ex:Exit) (st':St) (ds:List Nat),QJ c=true→V5 P gl ch rd a7 k c st=some (ex,st',ds)→Fo P gl ro n c st ex st' ds
 |_,0,_,_,_,_,_,_,_,h=>by cases h
 |0,k+1,hK,_,_,_,_,_,_,_=>by omega
 |K+1,k+1,hK,c,st,ex,st',ds,hok,h=>by
  have ah:=Av a9 af ab a7 ro ac n K;have ih:=ah k (by omega)
  intro B H0 rest m H a w hr;cases c with
  |skip=>cases h;exact wpIn_skip ⟨rfl,.nil rfl (Qa.refl _ _) hr⟩
  |label l=>cases h;exact wpIn_label ⟨rfl,.nil rfl (Qa.refl _ _) hr⟩
  |exit id=>cases h;exact wpIn_exit ⟨rfl,.nil rfl (Qa.refl _ _) hr⟩
  |ret=>cases h;exact wpIn_ret ⟨rfl,.nil rfl (Qa.refl _ _) hr⟩
  |region id ops draw=>
   simp only[V5] at h;cases draw with
   |true=>
    simp only[cond_true] at h;obtain⟨hs,rfl,rfl⟩:=Pd h;simp only[QJ,Bool.not_true,Bool.false_or] at hok;have:=Q40 a9 af ab hok ro n id hr hs;simpa using this
   |false=>
    simp only[cond_false] at h;obtain⟨hs,rfl,rfl⟩:=Pd h;refine wpIn_region ?_;have:=ST a9 af (all:=ops.toList) (ro:=ro) (n:=n) (d0:=a.defers) (w0:=w) (Q:=fun e a' w'=>e= .normal∧Vx gl B H0 rest a w st' [] a' w') (fun a' w' m' H' hd hb ae=>⟨rfl,.nil hd hb ae⟩) [] ops.toList st a w m H rfl hs rfl (Qa.refl _ _) hr
    simpa[List.range_eq_range'] using this
  |seq x y=>
   simp only[V5] at h;simp only[QJ,Bool.and_eq_true] at hok;split at h
   ·rename_i s d hs;split at h
    ·rename_i e2 s2 d2 ag;cases h;refine wpIn_seq (wpIn_mono (ih x st .normal s d hok.1 hs B H0 rest m H a w hr) fun e a' w' hq=> ?_)
     obtain⟨rfl,m',H',D,hD,hd,aa,hb,ae⟩:=hq;refine wpIn_mono (ih y s ex st' d2 hok.2 ag B H0 _ m' H' a' w' (ae.more aa)) fun e a2 w2 hq=> ?_
     obtain⟨rfl,hq⟩:=hq;exact⟨rfl,Vx.then (s1:=s) hD hd hb hq⟩
    ·cases h
   ·rename_i a5;refine wpIn_seq (wpIn_mono (ih x st ex st' ds hok.1 h B H0 rest m H a w hr) fun e a' w' hq=> ?_)
    obtain⟨rfl,hq⟩:=hq;cases e with
    |normal=>exact absurd h (a5 _ _)
    |_=>exact⟨rfl,hq⟩
  |cond c x y=>
   simp only[V5] at h;simp only[QJ,Bool.and_eq_true] at hok;split at h
   ·rename_i t ht;have hv:=hr.ev c;rw[ht] at hv;cases t with
    |true=>exact wpIn_cond hv.bool_inv (ih x st ex st' ds hok.1 h B H0 rest m H a w hr)
    |false=>exact wpIn_cond hv.bool_inv (ih y st ex st' ds hok.2 h B H0 rest m H a w hr)
   ·cases h
  |block id c=>
   simp only[V5] at h;simp only[QJ] at hok;split at h
   ·rename_i i s d hs;refine wpIn_block (wpIn_mono (ih c st (.exit i) s d hok hs B H0 rest m H a w hr) fun e a' w' hq=> ?_)
    obtain⟨rfl,hq⟩:=hq;split at h
    ·rename_i hi;cases h;simp only[Exit.inBlock,hi,if_true];exact⟨trivial,hq⟩
    ·rename_i hi;cases h;simp only[Exit.inBlock,hi,if_false];exact⟨trivial,hq⟩
   ·rename_i a5;refine wpIn_block (wpIn_mono (ih c st ex st' ds hok h B H0 rest m H a w hr) fun e a' w' hq=> ?_)
    obtain⟨rfl,hq⟩:=hq;cases e with
    |exit i=>exact absurd h (a5 _ _ _)
    |_=>exact⟨rfl,hq⟩
  |loop c=>
   have ay:=hok;simp only[QJ] at hok;refine Lt (j:=k+1) (fun j a' w'=>j≤k+1∧∃st1 m1 H1 D a8,V5 P gl ch rd a7 j (.loop c) st1=some (ex,st',a8)∧a8++D.map (·.1)=ds∧a'.defers=Mj D++a.defers∧(∀p∈D,(st1.env m1).lp p.1=some p.2)∧Qa B w w'∧RelS m1 H1 B H0 gl rest st1 a'.tmps w') (fun j a1 w1 hI=> ?_) ⟨Nat.le_refl _,st,m,H,[],ds,h,by simp,by simp[Mj],by simp,Qa.refl _ _,hr⟩
   obtain⟨hj,st1,m1,H1,D,a8,hx,hD,aj,aa,ai,am⟩:=hI;cases j with
   |zero=>cases hx
   |succ j=>
    simp only[V5] at hx;split at hx
    ·rename_i s d hs;split at hx
     ·rename_i e2 s2 d2 ag;cases hx;refine wpIn_mono (ah j (by omega) c st1 .normal s d hok hs B H0 _ m1 H1 a1 w1 (am.more aa)) fun e a2 w2 hq=> ?_
      obtain⟨rfl,hq⟩:=hq;obtain⟨m2,H2,D2,e1,e2,e3,e4,e5⟩:=Vx.then (a:=a) (s1:=st1) rfl aj ai hq;exact⟨j,Nat.lt_succ_self _,by omega,s,m2,H2,D2,d2,ag,by rw[e1,← List.append_assoc];exact hD,e2,e3,e4,e5⟩
     ·cases hx
    ·rename_i a5;refine wpIn_mono (ah j (by omega) c st1 ex st' a8 hok hx B H0 _ m1 H1 a1 w1 (am.more aa)) fun e a2 w2 hq=> ?_
     obtain⟨rfl,hq⟩:=hq;have ak:=Vx.then (a:=a) (s1:=st1) rfl aj ai hq;rw[hD] at ak;cases e with
     |normal=>exact absurd hx (a5 _ _)
     |_=>exact⟨rfl,ak⟩
  |rangeFunc g ps azz bd=>
   cases a7 with
   |true=>
    have:=ac rfl;subst this;exact Q21 a9 h n B H0 rest m H a w hr
   |false=>cases h
  |scope c=>
   simp only[V5] at h;simp only[QJ] at hok;split at h;·cases h
   ·rename_i a5;refine Q0r (wpIn_mono (ih c st ex st' ds hok h B H0 rest m H a w hr) fun e a' w' hq=> ?_)
    obtain⟨rfl,hq⟩:=hq;cases e with
    |goto l=>exact absurd h (a5 _ _ _)
    |_=>exact⟨rfl,hq⟩
  |_=>cases h
theorem Wh(a6:ch.Ok P gl)(a8:rd.Ok P gl)(a4:P.follows .mixedOrders=true)(a3:Bool)(ro:Option Nat)(a5:a3=true→ro=none)(n k:Nat)(c:Code)(st:St)(ex:Exit)(st':St)(ds:List Nat)(a7:QJ c=true)(h:V5 P gl ch rd a3 k c st=some (ex,st',ds)):Fo P gl ro n c st ex st' ds:=
 Av a6 a8 a4 a3 ro a5 n k k (Nat.le_refl _) c st ex st' ds a7 h
end
end HY
end
section
namespace HY
open Go Go.RowKit
def Eo:List Nat→List AV→St→Option St
 | [],[],st=>some st
 |p::ps,x::xs,st=>if QC (some p) st.n then Eo ps xs (st.putO (some p) x) else none
 |_,_,_=>none
def Iz(ex:Exit):Option (Option Code):=match ex with
 | .normal=>some none
 | .ret=>some (some .ret)
 | .exit i=>some (some (.exit i))
 |_=>none
def Oe(P:Program)(gl:Nat→AV)(fl:Nat)(ch:Qo)(rd:X4):X4:=fun id args hp nx=>
 match lkb hp id with
 |some (.loop _ _ n sl ps azz bd _)=>bif QJ azz&&QJ bd then(match Eo ps.toList args ⟨n,sl,hp,nx⟩ with
  |some s0=>match V5 P gl ch rd false fl azz s0 with
   |some (.normal,s1,[])=>match lkb s1.hp id with
    |some (.loop .ready pend1 n1 sl1 ps1 as1 bd1 d1)=>match V5 P gl ch rd false fl bd (s1.setHp (pt s1.hp id (.loop .busy pend1 n1 sl1 ps1 as1 bd1 d1)) s1.nx) with
     |some (ex,s2,[])=>match lkb s2.hp id with
      |some (.loop _ _ n2 sl2 ps2 as2 bd2 d2)=>match Iz ex with
       |some j=>some (.bool j.isNone,pt s2.hp id (.loop (if j.isNone then .ready else .done) j n2 sl2 ps2 as2 bd2 d2),s2.nx)
       |none=>none
      |_=>none
     |_=>none
    |_=>none
   |_=>none
  |none=>none) else none
 |_=>none
section
variable {P : Program} {m : Nat → Lc} {H : HV} {B : Nat → Prop} {H0 : HV} {gl : Nat → AV} {rest : List (AV × Value)} {st : St} {a : Act} {w : World} {ch : Qo} {rd : X4}
theorem RI:∀(ps:List Nat) (xs:List AV) (vs:List Value) (st:St) (tmps:Array Value) (s0:St),RelS m H B H0 gl rest st tmps w→Eo ps xs st=some s0→xs.length=vs.length→(∀(j:Nat) (x:AV) (v:Value),xs[j]? =some x→vs[j]? =some v→RV H (st.env m) x v)→
  ps.length=vs.length∧RelS m H B H0 gl rest s0 ((ps.zip vs).foldl (fun tmps (q:Nat×Value)=>tmps.setIfInBounds q.1 q.2) tmps) w∧s0.hp=st.hp∧s0.nx=st.nx
 | [],[],vs,st,tmps,s0,h,hk,hl,_=>by
  have:vs=[]:=List.eq_nil_of_length_eq_zero (by simpa using hl.symm)
  subst this;cases hk;exact⟨rfl,h,rfl,rfl⟩
 |p::ps,x::xs,vs,st,tmps,s0,h,hk,hl,hv=>by
  cases vs with
  |nil=>simp at hl
  |cons v vs=>
   simp only[Eo] at hk;split at hk
   ·rename_i hd;have h1:=RelS.putO (a:= {tmps:=tmps,defers:=[]}) (dst:=some p) h hd (hv 0 x v rfl rfl);obtain⟨e1,e2,e3,e4⟩:=RI ps xs vs (st.putO (some p) x) _ s0 h1 hk (by simpa using hl) (fun j y u hy hu=>hv (j+1) y u (by simpa using hy) (by simpa using hu))
    exact⟨by simp[e1],e2,by rw[e3];rfl,by rw[e4];rfl⟩
   ·cases hk
 | [],_::_,_,_,_,_,_,hk,_,_=>by cases hk
 |_::_,[],_,_,_,_,_,hk,_,_=>by cases hk
theorem Bh{E:Env}{id l:Nat}{v:AV×Value}(hv:v=(.yld id,.func (.yield l) #[] #[]))(h:RV H E v.1 v.2):E.lp id=some l:=by
 subst hv;obtain⟨l',q1,q2⟩:=h.yld_inv;cases q1;exact q2
set_option maxHeartbeats 1000000 in
theorem Q22(bb:ch.Ok P gl)(bl:rd.Ok P gl)(ar:P.follows .mixedOrders=true)(fl:Nat):X4.Ok P gl (Oe P gl fl ch rd):=by
 intro id args hp nx r hp' nx' hk m H B H0 rest w vs l hh b4 hl b0 b6;unfold Oe at hk;split at hk
 ·rename_i s pend n sl ps aw bd d bc;cases hok:(QJ aw&&QJ bd) with
  |false=>rw[hok] at hk;cases hk
  |true=>
   rw[hok] at hk;simp only[cond_true] at hk;rw[Bool.and_eq_true] at hok;split at hk
   ·rename_i s0 c7;split at hk
    ·rename_i s1 c8;split at hk
     ·rename_i a6 n1 br ap aj ak d1 ae;split at hk
      ·rename_i ex s2 c9;split at hk
       ·rename_i st2 ce n2 aq ac a8 a9 d2 af;split at hk
        ·rename_i j hj;cases hk;have c3:(m id).g=l:=by rw[Ej bc] at b4;simpa using b4
         obtain⟨fn,tmps,dg,au,cd,ca,hd⟩:=hh.box _ _ bc;rw[c3] at au;have c6:RelS m H B H0 gl ((.yld id,.func (.yield l) #[] #[])::rest) ⟨n,sl,hp,nx⟩ tmps w:=
          ⟨hh,cd,ca,fun p hp=>by
           rw[List.mem_cons] at hp;rcases hp with rfl | hp
           ·exact .yld _ _ b4
           ·exact b6 p hp⟩
         obtain⟨c4,bk,e1,e2⟩:=RI ps.toList args vs.toList _ tmps s0 c6 c7 (by simpa using hl) (fun j x v hx hv=>b0 j x v hx (by simpa using hv))
         have b1:(ps.zip vs).foldl (fun tmps (q:Nat×Value)=>tmps.setIfInBounds q.1 q.2) tmps=(ps.toList.zip vs.toList).foldl (fun tmps (q:Nat×Value)=>tmps.setIfInBounds q.1 q.2) tmps:=by
          rw[← Array.foldl_toList,Array.toList_zip]
         rw[← b1] at bk;refine⟨fn,_,aw,bd,run_yield au (by simpa using c4.symm),fun ro k=> ?_⟩
         refine roundIn_of_wpIn trivial ?_;have hA:=Wh bb bl ar false (some l) (by simp) k fl aw s0 .normal s1 [] hok.1 c8 B H0 _ m H {tmps:=(ps.zip vs).foldl (fun tmps (q:Nat×Value)=>tmps.setIfInBounds q.1 q.2) tmps,defers:=[]} w bk
         refine wpIn_mono hA fun e a1 w1 hq=> ?_
         obtain⟨rfl,m1,H1,D1,cm, -, -,bz,a4⟩:=hq;have bg:=Bh rfl (a4.rest (.yld id,.func (.yield l) #[] #[]) (by simp))
         have be:(m1 id).g=l:=by
          have:=Ej (m:=m1) ae;rw[show(Q4 (lkb s1.hp) m1).lp id=some l from bg] at this;simpa using this.symm
         obtain⟨ay,ad,ax,aa,bo,bm,c1⟩:=a4.heap.box _ _ ae;obtain⟨b2,az,b9⟩:=a4.heap.putObj ae rfl (b':=.loop .busy a6 n1 br ap aj ak d1) rfl (.loop {state:=.busy,pending:=a6,fn:=ay,tmps:=ad,params:=ap,assign:=aj,body:=ak,defers:=ax}) (fun C e fr q=>by rw[aa] at q;cases q) (fun E' ag=>⟨ay,ad,ax,by rw[World.putObj_heap_same (a4.heap.sep _ _ ae).2.1],bo,fun k=>(bm k).mono (.refl _) ag,ag.lp _ _ c1⟩)
         rw[be] at aa b2 b9;rw[← Z1] at b2 az;refine⟨_,run_beginRound aa rfl,?_⟩;have b5:RelS m1 H1 B H0 gl ((.yld id,.func (.yield l) #[] #[])::rest) (s1.setHp (pt s1.hp id (.loop .busy a6 n1 br ap aj ak d1)) s1.nx) a1.tmps (w1.putObj l (.loop {state:=.busy,pending:=a6,fn:=ay,tmps:=ad,params:=ap,assign:=aj,body:=ak,defers:=ax})):=
          ⟨b2,a4.size,fun k=>(a4.slot k).mono (.refl _) az,fun p hp=>(a4.rest p hp).mono (.refl _) az⟩
         have hB:=Wh bb bl ar false (some l) (by simp) k fl bd _ ex s2 [] hok.2 c9 B H0 _ m1 H1 a1 _ b5
         refine wpIn_mono hB fun e a3 w3 hq=> ?_
         obtain⟨rfl,m3,H3,D3,cn, -, -,c0,a5⟩:=hq;have bh:=Bh rfl (a5.rest (.yld id,.func (.yield l) #[] #[]) (by simp))
         have bf:(m3 id).g=l:=by
          have:=Ej (m:=m3) af;rw[show(Q4 (lkb s2.hp) m3).lp id=some l from bh] at this;simpa using this.symm
         obtain⟨ao,a7,am,ab,bp,bn,c2⟩:=a5.heap.box _ _ af;obtain⟨b3,b8,ba⟩:=a5.heap.putObj af rfl (b':=.loop (if j.isNone then .ready else .done) j n2 aq ac a8 a9 d2) rfl (.loop {state:=if j.isNone then .ready else .done,pending:=j,fn:=ao,tmps:=a7,params:=ac,assign:=a8,body:=a9,defers:=am}) (fun C e fr q=>by rw[ab] at q;cases q) (fun E' ag=>⟨ao,a7,am,by rw[World.putObj_heap_same (a5.heap.sep _ _ af).2.1],bp,fun k=>(bn k).mono (.refl _) ag,ag.lp _ _ c2⟩)
         rw[bf] at ab b3 ba;rw[← Z1] at b3 b8;have ah:=run_endRound (P:=P) j ab;have ai:∃v m' H',Ending.returned (.bool j.isNone)= .returned v∧Qa B w (w3.putObj l (.loop {state:=if j.isNone then .ready else .done,pending:=j,fn:=ao,tmps:=a7,params:=ac,assign:=a8,body:=a9,defers:=am}))∧RelH m' H' B H0 gl (lkb (pt s2.hp id (.loop (if j.isNone then .ready else .done) j n2 aq ac a8 a9 d2))) s2.nx (w3.putObj l (.loop {state:=if j.isNone then .ready else .done,pending:=j,fn:=ao,tmps:=a7,params:=ac,assign:=a8,body:=a9,defers:=am}))∧RV H' (Q4 (lkb (pt s2.hp id (.loop (if j.isNone then .ready else .done) j n2 aq ac a8 a9 d2))) m') (.bool j.isNone) v∧∀p∈rest,RV H' (Q4 (lkb (pt s2.hp id (.loop (if j.isNone then .ready else .done) j n2 aq ac a8 a9 d2))) m') p.1 p.2:=
          ⟨.bool j.isNone,m3,H3,rfl,((bz.trans b9).trans c0).trans ba,b3,.imm _ _ (.bool _),fun p hp=>(a5.rest p (List.mem_cons_of_mem _ hp)).mono (.refl _) b8⟩
         cases e with
         |normal=>cases hj;exact⟨_,_,ah,ai⟩
         |ret=>cases hj;exact⟨_,_,ah,ai⟩
         |exit i=>cases hj;exact⟨_,_,ah,ai⟩
         |_=>cases hj
        ·cases hk
       ·cases hk
      ·cases hk
     ·cases hk
    ·cases hk
   ·cases hk
 ·cases hk
end
end HY
end
section
namespace HY
open Go Go.RowKit
def Yc:Nat→List AV→Tr AV
 |_,[]=>.nil
 |k,x::xs=>pt (Yc (k+1) xs) k x
theorem DN:∀(xs:List AV) (k j:Nat),lk .undef (Yc k xs) j=if k≤j then(xs[j - k]?).getD .undef else .undef
 | [],k,j=>by
  have:lk .undef (Yc k []) j= .undef:=by unfold lk Yc;cases path j<;>rfl
  rw[this];simp
 |x::xs,k,j=>by
  simp only[Yc];rw[Gs];by_cases h:k=j;·subst h;simp
  ·rw[if_neg h,DN xs (k+1) j];by_cases h':k≤j
   ·rw[if_pos h',if_pos (by omega)]
    have:j - k=(j - (k+1))+1:=by omega
    rw[this,List.getElem?_cons_succ]
   ·rw[if_neg h',if_neg (by omega)]
def resAV(P:Program)(st:St):ResultVar→Option AV
 | .tmp t=>some (st.get t)
 | .cell a t=>Co P t (st.get a) (lkb st.hp)
def MX(P:Program)(st:St):List ResultVar→Option (List AV)
 | []=>some []
 |x::r=>match resAV P st x with
  |some v=>match MX P st r with
   |some vs=>some (v::vs)
   |none=>none
  |none=>none
def Ml(P:Program)(st:St)(l:List ResultVar):Option AV:=
 match MX P st l with
 |some [v]=>some v
 |some vs=>some (.tup vs)
 |none=>none
section
variable {P : Program} {m : Nat → Lc} {H : HV} {B : Nat → Prop} {H0 : HV} {gl : Nat → AV} {rest : List (AV × Value)} {st : St} {tmps : Array Value} {w : World}
theorem res_one(h:RelS m H B H0 gl rest st tmps w){x:ResultVar}{r:AV}(hr:resAV P st x=some r):
  ∃v,(match x with | .tmp t=>pure (tmps.getD t Go.undef) | .cell a t=>do loadVar t (← asAddr (tmps.getD a Go.undef)):Sem Value).run P w= .ok v w∧RV H (st.env m) r v:=by
 cases x with
 |tmp t=>cases hr;exact⟨_,rfl,h.slot t⟩
 |cell a t=>
  simp only[resAV] at hr;obtain⟨v,h1,h2⟩:=Oa (P:=P) h.heap (h.slot a) hr;refine⟨v,?_,h2⟩;show(do loadVar t (← asAddr (tmps.getD a Go.undef)):Sem Value).run P w=_
  generalize tmps.getD a Go.undef=u at h1 ⊢;simp only[Instr.loadAt,Instr.sureAddr,asAddr] at h1 ⊢;cases u<;>simp at h1 ⊢
  rename_i ad;cases ad<;>simp at h1 ⊢
  exact h1
theorem PI(h:RelS m H B H0 gl rest st tmps w):∀(l:List ResultVar) (a3:List AV),MX P st l=some a3→
  ∃vs:List Value,(l.mapM (fun x:ResultVar=>(match x with | .tmp t=>pure (tmps.getD t Go.undef) | .cell a t=>do loadVar t (← asAddr (tmps.getD a Go.undef)):Sem Value))).run P w= .ok vs w∧a3.length=vs.length∧∀(j:Nat) (c:AV) (v:Value),a3[j]? =some c→vs[j]? =some v→RV H (st.env m) c v
 | [],a3,hk=>by
  simp only[MX,Option.some.injEq] at hk;subst hk;exact⟨[],by simp,rfl,fun j c v hj=>by simp at hj⟩
 |x::l,a3,hk=>by
  simp only[MX] at hk;split at hk
  ·rename_i v hv;split at hk
   ·rename_i us a6;cases hk;obtain⟨u,h1,h2⟩:=res_one h hv;obtain⟨vs,h3,h4,h5⟩:=PI h l us a6;refine⟨u::vs,?_,by simp[h4],fun j c v hj hv=> ?_⟩
    ·simp only[List.mapM_cons,Sem.run_bind];rw[h1];simp only[Result.andThen_ok,h3,Sem.run_pure]
    ·cases j with
     |zero=>simp only[List.getElem?_cons_zero,Option.some.injEq] at hj hv;subst hj;subst hv;exact h2
     |succ j=>exact h5 j c v (by simpa using hj) (by simpa using hv)
   ·cases hk
  ·cases hk
theorem Mu(h:RelS m H B H0 gl rest st tmps w){fn:Func}{r:AV}(hr:Ml P st fn.results.toList=some r):∃v,(results fn tmps).run P w= .ok v w∧RV H (st.env m) r v:=by
 unfold Ml at hr;obtain⟨a4,ha⟩:∃a4,MX P st fn.results.toList=some a4:=by
  cases hx:MX P st fn.results.toList with
  |none=>rw[hx] at hr;cases hr
  |some a4=>exact⟨a4,rfl⟩
 rw[ha] at hr;obtain⟨vs,a9,hl,a3⟩:=PI h _ _ ha;have a8:(results fn tmps).run P w= .ok (if h:vs.toArray.size=1 then vs.toArray[0] else .tuple vs.toArray) w:=by
  unfold results;have a7:(fn.results.mapM (fun x:ResultVar=>(match x with | .tmp t=>pure (tmps.getD t Go.undef) | .cell a t=>do loadVar t (← asAddr (tmps.getD a Go.undef)):Sem Value))).run P w= .ok vs.toArray w:=by
   rw[← Array.toArray_toList (xs:=fn.results),List.mapM_toArray,Sem.run_map,a9];rfl
  rw[Sem.run_bind];refine Eq.trans (congrArg (fun x=>Result.andThen x _) a7) ?_
  rfl
 refine⟨_,a8,?_⟩
 match a4,vs,hl,hr,a3 with
 | [],vs,hl,hr,a3=>
  have:vs=[]:=List.eq_nil_of_length_eq_zero (by simpa using hl.symm)
  subst this;cases hr;simp only[List.size_toArray,List.length_nil];exact .tup [] #[] rfl (fun j c v hj=>by simp at hj)
 | [x],[v],hl,hr,a3=>
  cases hr;simpa using a3 0 _ _ rfl rfl
 |x::y::l,vs,hl,hr,a3=>
  cases hr;rw[dif_neg (by simp at hl ⊢;omega)]
  exact .tup _ _ (by simpa using hl) fun j c v hj hv=>a3 j c v hj (by simpa using hv)
end
def shut:List Nat→Tr Box→Option (Tr Box)
 | [],hp=>some hp
 |id::ds,hp=>match lkb hp id with
  |some (.defb true)=>shut ds (pt hp id (.defb false))
  |_=>none
section
variable {P : Program} {m : Nat → Lc} {H : HV} {B : Nat → Prop} {H0 : HV} {gl : Nat → AV}
theorem Bg{hp:Hp}{id:Nat}{o:Bool}(h:hp id=some (.defb o)):(Q4 hp m).lp id=some (m id).g:=by simp[Q4,h]
theorem Bu{F:Fence}{n:Nat}{fn:Func}{tmps:Array Value}{R:Ending→World→Prop}{nx:Nat}{hp':Tr Box}:∀(D:List (Nat×Nat)) (hp:Tr Box) (w:World),RelH m H B H0 gl (lkb hp) nx w→(∀p∈D,(Q4 (lkb hp) m).lp p.1=some p.2)→shut (D.map (·.1)) hp=some hp'→
  (∀w',RelH m H B H0 gl (lkb hp') nx w'→Env.le (Q4 (lkb hp) m) (Q4 (lkb hp') m)→Qa B w w'→∃v,(results fn tmps).run P w'= .ok v w'∧R (.returned v) w')→LeavesInM F n P fn tmps R (Mj D) .returning w
 | [],hp,w,h,_,hk,hQ=>by
  cases hk;exact hQ w h (.refl _) (Qa.refl _ _)
 | (id,l)::D,hp,w,h,hD,hk,hQ=>by
  simp only[List.map_cons,shut] at hk;split at hk
  ·rename_i a4;have hl:(m id).g=l:=by
    have:=hD (id,l) (by simp)
    rw[Bg a4] at this;simpa using this
   have a3:w.heap[(m id).g]? =some (.deferred (some [])):=h.box _ _ a4;obtain⟨a6,a5,a7⟩:=h.putObj a4 rfl (b':=.defb false) rfl (.deferred none) (fun C e fr q=>by rw[a3] at q;cases q) (fun E' ab=>World.putObj_heap_same (h.sep _ _ a4).2.1)
   rw[← Z1] at a6 a5;rw[hl] at a3 a6 a7;refine⟨by simp,.inl ⟨l,_,rfl,run_takeDeferred a3,?_⟩⟩
   exact Bu D _ _ a6 (fun p hp=>a5.lp _ _ (hD p (List.mem_cons_of_mem _ hp))) hk (fun w' h3 a8 a9=>hQ w' h3 (a5.trans a8) (a7.trans a9))
  ·cases hk
end
def CJ(ex:Exit):Bool:=match ex with
 | .normal | .ret=>true
 |_=>false
def xfun(P:Program)(gl:Nat→AV)(gd:Nat→Bool)(fl:Nat)(ch:Qo)(rd:X4):Qo:=fun f args hp nx=>
 bif gd f then(match P.funcs[f]? with
  |some fn=>match fn.body with
   |some c=>bif Nat.ble args.length fn.ntmps then(match V5 P gl ch rd true fl c ⟨fn.ntmps,Yc 0 args,hp,nx⟩ with
    |some (ex,s,ds)=>bif CJ ex then(match shut ds s.hp with
     |some hp'=>match Ml P (s.setHp hp' s.nx) fn.results.toList with
      |some r=>some (r,hp',s.nx)
      |none=>none
     |none=>none) else none
    |none=>none) else none
   |none=>none
  |none=>none) else none
def okFn(P:Program)(f:Nat):Bool:=
 match P.funcs[f]? with
 |some fn=>(fn.name != "runtime.NumGoroutine")&&match fn.body with
  |some c=>QJ c
  |none=>false
 |none=>false
structure DH (P:Program) (gd:Nat→Bool):Prop where
 mix:P.follows .mixedOrders=true
 fn:∀f,gd f=true→okFn P f=true
theorem xfun_ok{P:Program}{gl:Nat→AV}{gd:Nat→Bool}{fl:Nat}{ch:Qo}{rd:X4}(hp:DH P gd)(ai:ch.Ok P gl)(aq:rd.Ok P gl):Qo.Ok P gl (xfun P gl gd fl ch rd):=by
 intro f args ao nx r hp' nx' hk;unfold xfun at hk;cases hg:gd f with
 |false=>rw[hg] at hk;cases hk
 |true=>
  rw[hg] at hk;simp only[cond_true] at hk;have a3:=hp.fn f hg;unfold okFn at a3;split at hk
  ·rename_i fn hf;rw[hf] at a3;simp only[Bool.and_eq_true,bne_iff_ne] at a3;obtain⟨a8,a3⟩:=a3;split at hk
   ·rename_i c hb;rw[hb] at a3;simp only at a3;cases a4:Nat.ble args.length fn.ntmps with
    |false=>rw[a4] at hk;cases hk
    |true=>
     rw[a4] at hk;simp only[cond_true] at hk;have a4:=Nat.le_of_ble_eq_true a4;split at hk
     ·rename_i ex s ds hx;cases hex:CJ ex with
      |false=>rw[hex] at hk;cases hk
      |true=>
      rw[hex] at hk;simp only[cond_true] at hk;split at hk
      ·rename_i b1 aa;split at hk
       ·rename_i r' ap;cases hk;intro m H B H0 rest w vs hh hl a6 a9;refine .inl ⟨DK hf (by simpa using a8) (by rw[hb];rfl),?_⟩
        have h0:RelS m H B H0 gl rest ⟨fn.ntmps,Yc 0 args,ao,nx⟩ (vs++Array.replicate (fn.ntmps - vs.size) Go.undef) w:=by
         refine⟨hh,by simp;omega,fun k=> ?_,a9⟩
         show RV H _ (lk .undef (Yc 0 args) k) _;rw[DN,if_pos (Nat.zero_le _),Nat.sub_zero];cases hx:args[k]? with
         |none=>exact .imm _ _ (.undef _)
         |some x=>
          have hk:k<vs.size:=by rw[← hl];exact(List.getElem?_eq_some_iff.1 hx).1
          have hv:(vs++Array.replicate (fn.ntmps - vs.size) Go.undef).getD k Go.undef=vs[k]:=by
           rw[Array.getD_eq_getD_getElem?,Array.getElem?_append_left hk,Array.getElem?_eq_getElem hk];rfl
          rw[hv];exact a6 k x _ hx (Array.getElem?_eq_getElem hk)
        have a7:=Wh ai aq hp.mix true none (fun _=>rfl) 0 fl c _ ex s ds a3 hx B H0 rest m H {tmps:=vs++Array.replicate (fn.ntmps - vs.size) Go.undef,defers:=[]} w h0
        refine CallsIn.calls (F:=FW none) (callsIn_of_wp_marks hf hb trivial (wpIn_mono a7 fun e a' w' hq=> ?_)) (fun k d hd=>by simp[FW] at hd)
        obtain⟨rfl,m',H',D,hD,hd,am,ah,a5⟩:=hq;subst hD;have ac:LeavesInM (FW none) 0 P fn a'.tmps (fun e w'=>∃v m' H',e= .returned v∧Qa B w w'∧RelH m' H' B H0 gl (lkb hp') s.nx w'∧RV H' (Q4 (lkb hp') m') r v∧∀p∈rest,RV H' (Q4 (lkb hp') m') p.1 p.2) a'.defers .returning w':=by
         rw[hd,List.append_nil];refine Bu D _ w' a5.heap am aa fun w3 h3 ab ag=> ?_
         have ad:RelS m' H' B H0 gl rest (s.setHp hp' s.nx) a'.tmps w3:=⟨h3,a5.size,fun k=>(a5.slot k).mono (.refl _) ab,fun p hp=>(a5.rest p hp).mono (.refl _) ab⟩
         obtain⟨v,hv,ar⟩:=Mu ad ap;exact⟨v,hv,v,m',H',rfl,ah.trans ag,h3,ar,ad.rest⟩
        cases e with
        |normal=>exact ac
        |ret=>exact ac
        |_=>cases hex
       ·cases hk
      ·cases hk
     ·cases hk
   ·cases hk
  ·cases hk
end HY
end
section
namespace HY
open Go Go.RowKit
def HV.full(w:World):HV:=fun b o=>w.cell? ⟨b,o,none⟩
theorem Q2i(w:World):HV.sat (HV.full w) w:=fun _ _ _ h=>h
def RelL(H:HV)(a3:List AV)(cs:List Value):Prop:=a3.length=cs.length∧∀(j:Nat) (a:AV) (v:Value),a3[j]? =some a→cs[j]? =some v→a.one=true∧RelI H a v
theorem RelL.nil{H:HV}:RelL H [] []:=⟨rfl,fun j a v h=>by simp at h⟩
theorem RelL.one{H:HV}{a:AV}{v:Value}(h1:a.one=true)(h:RelI H a v):RelL H [a] [v]:=⟨rfl,fun j x u hx hu=>by
 cases j with
 |zero=>simp at hx hu;subst hx;subst hu;exact⟨h1,h⟩
 |succ j=>simp at hx⟩
theorem RelL.append{H:HV}{a b:List AV}{c d:List Value}(h:RelL H a c)(k:RelL H b d):RelL H (a++b) (c++d):=by
 refine⟨by simp[h.1,k.1],fun j x u hx hu=> ?_⟩
 rw[List.getElem?_append] at hx hu;split at hx;·rename_i hj;rw[if_pos (by rw[← h.1];exact hj)] at hu;exact h.2 j x u hx hu
 ·rename_i hj;rw[if_neg (by rw[← h.1];exact hj),← h.1] at hu;exact k.2 _ x u hx hu
section
variable {H : Type} {enc : TypeId × Value → H} {P : Program} {w : World} {base : Nat} {spare : Nat → Bool} {held : Bool}
def X5(enc:TypeId×Value→H)(P:Program)(w:World)(base:Nat)(spare:Nat→Bool)(held:Bool)(n:Nat)(t:TypeId){α:Type}(E:α→List AV)(I:α→DataW H→Prop):Prop:=
 ∀a3 cs d ps,a3≤n→DataW.trod enc P w base spare held a3 t cs=some (d,ps)→∃a,I a d∧RelL (HV.full w) (E a) cs
theorem Aj(n:Nat){t:TypeId}{k:IntKind}(ht:P.underlying t=some (.int k)):
  X5 enc P w base spare held n t (fun a:Int=>[.int k a]) (fun a d=>(Lit.int k a).wf=true∧d= .lit (.int k a)):=fun a3 cs d ps _ h=>by
 obtain⟨m,rfl,he,hw⟩:=DataW.trod_int ht h;cases he;exact⟨m,⟨hw,rfl⟩,.one rfl (.int k m)⟩
theorem PE(n:Nat){t:TypeId}(ht:P.underlying t=some .string):
  X5 enc P w base spare held n t (fun a:List UInt8=>[.str a]) (fun a d=>a.length≤maxLen∧d= .lit (.string a)):=fun a3 cs d ps _ h=>by
 obtain⟨m,rfl,he,hl⟩:=DataW.trod_string ht h;cases he;refine⟨m.data.toList,⟨by rw[Array.length_toList];exact hl,rfl⟩,.one rfl ?_⟩
 have:=RelI.str (H:=HV.full w) m.data.toList;simpa using this
def SliceI{α:Type}(I:α→DataW H→Prop)(l:List α)(d:DataW H):Prop:=
 l.length≤maxLen∧((l=[]∧d= .nil)∨∃a3 spare,d= .slice a3 spare∧a3.length=l.length∧∀(i:Nat) (a:α) (e:DataW H),l[i]? =some a→a3[i]? =some e→I a e)
theorem R2{α β:Type}(R:Nat→α→β→Prop):∀(l:List β) (k:Nat),(∀i b,l[i]? =some b→∃a,R (k+i) a b)→∃a3:List α,a3.length=l.length∧∀i a b,a3[i]? =some a→l[i]? =some b→R (k+i) a b
 | [],k,_=>⟨[],rfl,fun i a b h=>by simp at h⟩
 |b::l,k,h=>by
  obtain⟨a,ha⟩:=h 0 b rfl;obtain⟨a3,hl,a4⟩:=R2 R l (k+1) (fun i b' hb=>by
   have:=h (i+1) b' hb;rw[show k+1+i=k+(i+1) by omega];exact this)
  refine⟨a::a3,by simp[hl],fun i x y hx hy=> ?_⟩
  cases i with
  |zero=>simp at hx hy;subst hx;subst hy;exact ha
  |succ i=>
   have:=a4 i x y hx hy;rw[show k+1+i=k+(i+1) by omega] at this;exact this
theorem OO{n:Nat}{t e:TypeId}{sz:Nat}{α:Type}{E:α→List AV}{I:α→DataW H→Prop}(F:α→AV)(ht:P.underlying t=some (.slice e))(hc:P.cellsOf e=sz)(ac:0<sz)(hF:∀a,(F a).cells=E a)(he:X5 enc P w base spare held n e E I):
  X5 enc P w base spare held (n+1) t (fun l:List α=>[.sl sz (l.map F)]) (SliceI I):=fun b6 cs d ps bf h=>by
 rcases DataW.trod_slice ht h with⟨rfl,hx⟩ | ⟨a,len,cap,a4,rest,m,rfl,rfl,hx,hb,hl,hm,a6,b4,_,_⟩
 ·cases hx;exact⟨[],⟨Nat.zero_le _,.inl ⟨rfl,rfl⟩⟩,.one rfl (.sl0 _ _ _ (Nat.zero_le _))⟩
 ·cases hx;subst hc;have ap:∀i b,a4[i]? =some b→∃x:α,I x b.1∧∃cs',w.cells? base (a.add ((0+i)*P.cellsOf e)) (P.cellsOf e)=some cs'∧RelL (HV.full w) (E x) cs':=fun i b hb=>by
   have hi:i<len:=by rw[← a6];exact(List.getElem?_eq_some_iff.1 hb).1
   have:=b4 i hi;rw[hb] at this;obtain⟨cs',h1,h2⟩:=Option.bind_eq_some_iff.1 this;obtain⟨x,hx,hr⟩:=he m cs' b.1 b.2 (by omega) h2
   exact⟨x,hx,cs',by rw[Nat.zero_add];exact h1,hr⟩
  obtain⟨a3,ad,ae⟩:=R2 (fun i (x:α) (b:DataW H×List MemPlace)=>I x b.1∧∃cs',w.cells? base (a.add (i*P.cellsOf e)) (P.cellsOf e)=some cs'∧RelL (HV.full w) (E x) cs') a4 0 ap
  have aa:∀i x,a3[i]? =some x→∃b,a4[i]? =some b:=fun i x hx=>by
   have:i<a3.length:=(List.getElem?_eq_some_iff.1 hx).1;exact⟨_,List.getElem?_eq_getElem (by omega)⟩
  refine⟨a3,⟨by omega,.inr ⟨_,_,rfl,by simp[ad],fun i x e' hx am=> ?_⟩⟩,.one rfl ?_⟩
  ·rw[List.getElem?_map,Option.map_eq_some_iff] at am;obtain⟨b,af,rfl⟩:=am;exact(ae i x b hx af).1
  ·by_cases h0:a3=[]
   ·subst h0;have:len=0:=by rw[← a6,← ad];rfl
    subst this;exact .sl0 _ _ _ hm
   ·have ah:(a3.map F).length=len:=by simp[ad,a6]
    have ai:0<a3.length:=List.length_pos_iff.2 h0;obtain⟨b0,b1⟩:=aa 0 a3[0] (List.getElem?_eq_getElem ai);obtain⟨_,bb,b3,_⟩:=ae 0 _ _ (List.getElem?_eq_getElem ai) b1;obtain⟨_,be,ag⟩:=World.cells?_some b3;have a7:a.spot=none:=by
     have:=ag 0 ac;rw[List.getElem?_eq_getElem (by omega)] at this
     have:=World.cell?_spot this;simpa[Addr.add] using this
    obtain⟨ab,ao,ba⟩:=a;simp only at a7;subst a7;rw[← ah];refine .sl (P.cellsOf e) (a3.map F) ab ao cap (fun i j=>(w.cell? ⟨ab,ao+i*P.cellsOf e+j,none⟩).getD Go.undef) ac (by omega) hm (fun i x hx=> ?_) (fun i x j c hx hj=> ?_) (fun i x j c hx hj=> ?_)
    all_goals
     rw[List.getElem?_map,Option.map_eq_some_iff] at hx;obtain⟨y,hy,rfl⟩:=hx;obtain⟨b,af⟩:=aa i y hy;obtain⟨_,cs',b2,hr⟩:=ae i y b hy af;obtain⟨_,a9,a8⟩:=World.cells?_some b2
    ·rw[hF,hr.1,a9]
    all_goals
     rw[hF] at hj;have b5:j<P.cellsOf e:=by
      have:=(List.getElem?_eq_some_iff.1 hj).1;rw[hr.1,a9] at this;exact this
     have ak:cs'[j]? =some (cs'[j]'(by omega)):=List.getElem?_eq_getElem (by omega)
     have hw:=a8 j b5;rw[ak] at hw;have aj:((⟨ab,ao,none⟩:Addr).add ((0+i)*P.cellsOf e)).add j=⟨ab,ao+i*P.cellsOf e+j,none⟩:=by
      rw[Nat.zero_add];unfold Addr.add;split<;>split<;>simp_all
     rw[aj] at hw;obtain⟨h1,h2⟩:=hr.2 j c _ hj ak
    ·simp only[HV.full,hw,Option.getD_some,true_and];exact h2.oneCell h1
    ·simp only[hw,Option.getD_some];exact h2
def Mr(P:Program):Nat→List Field→Nat→Bool
 |o,[],o'=>o==o'
 |o,f::fs,o'=>f.offset==o&&Mr P (o+P.cellsOf f.type) fs o'
def NI(enc:TypeId×Value→H)(P:Program)(w:World)(base:Nat)(spare:Nat→Bool)(held:Bool)(n:Nat)(fs:List Field){α:Type}(E:α→List AV)(I:α→List (DataW H)→Prop):Prop:=
 ∀(a3 o o':Nat) (cs:List Value) (xs:List (DataW H×List MemPlace)),a3≤n→xs.length=fs.length→Mr P o fs o'=true→cs.length=o'→
  (∀(i:Nat) (f:Field),fs[i]? =some f→DataW.trod enc P w base spare held a3 f.type ((cs.drop f.offset).take (P.cellsOf f.type))=xs[i]?)→∃a,I a (xs.map (·.1))∧RelL (HV.full w) (E a) (cs.drop o)
theorem Q01(n:Nat):NI enc P w base spare held n [] (fun _:Unit=>[]) (fun _ ds=>ds=[]):=fun a3 o o' cs xs _ hl hf hc _=>by
 simp only[Mr,beq_iff_eq] at hf;have:xs=[]:=List.length_eq_zero_iff.1 hl;subst this;refine⟨(),rfl,?_⟩;rw[List.drop_of_length_le (by omega)]
 exact .nil
theorem OE{n:Nat}{f:Field}{fs:List Field}{α β:Type}{E1:α→List AV}{I1:α→DataW H→Prop}{E2:β→List AV}{I2:β→List (DataW H)→Prop}
  (h1:X5 enc P w base spare held n f.type E1 I1) (h2:NI enc P w base spare held n fs E2 I2):
  NI enc P w base spare held n (f::fs) (fun x:α×β=>E1 x.1++E2 x.2) (fun x ds=>∃d a4,ds=d::a4∧I1 x.1 d∧I2 x.2 a4):=fun a3 o o' cs xs a5 hl hf hc hx=>by
 simp only[Mr,Bool.and_eq_true,beq_iff_eq] at hf;obtain⟨ho,hf⟩:=hf;cases xs with
 |nil=>simp at hl
 |cons x xs=>
  have h0:=hx 0 f rfl;simp only[List.getElem?_cons_zero] at h0;obtain⟨a,ha,a7⟩:=h1 a3 _ x.1 x.2 a5 h0;obtain⟨b,hb,a8⟩:=h2 a3 (o+P.cellsOf f.type) o' cs xs a5 (by simpa using hl) hf hc (fun i g hg=>hx (i+1) g hg)
  refine⟨(a,b),⟨x.1,xs.map (·.1),rfl,ha,hb⟩,?_⟩;have:=a7.append a8;rw[ho,← List.drop_drop,List.take_append_drop] at this;exact this
theorem PF{n:Nat}{t:TypeId}{fs:Array Field}{α:Type}{E:α→List AV}{I:α→List (DataW H)→Prop}(ht:P.underlying t=some (.struct fs))(hf:Mr P 0 fs.toList (P.cellsOf t)=true)
  (h:NI enc P w base spare held n fs.toList E I):X5 enc P w base spare held (n+1) t E (fun a d=>∃ds,d= .agg ds∧I a ds):=fun a6 cs d ps aa hh=>by
 obtain⟨xs,m,rfl,hx,hc,hl,a4⟩:=DataW.trod_struct ht hh;cases hx;obtain⟨a,ha,hr⟩:=h m 0 _ cs xs (by omega) (by simpa using hl) hf hc (fun i f a5=>a4 i f (by rw[← Array.getElem?_toList];exact a5))
 exact⟨a,⟨_,rfl,ha⟩,by simpa using hr⟩
theorem X5.to{n:Nat}{t:TypeId}{α β:Type}{E:α→List AV}{I:α→DataW H→Prop}(h:X5 enc P w base spare held n t E I)(g:α→β){E':β→List AV}{I':β→DataW H→Prop}(hE:∀a,E' (g a)=E a)(hI:∀a d,I a d→I' (g a) d):
  X5 enc P w base spare held n t E' I':=fun a3 cs d ps a4 hh=>by
 obtain⟨a,ha,hr⟩:=h a3 cs d ps a4 hh;exact⟨g a,hI a d ha,by rw[hE];exact hr⟩
theorem X5.le{n m:Nat}{t:TypeId}{α:Type}{E:α→List AV}{I:α→DataW H→Prop}(h:X5 enc P w base spare held n t E I)(hm:m≤n):X5 enc P w base spare held m t E I:=
 fun a3 cs d ps a4 hh=>h a3 cs d ps (Nat.le_trans a4 hm) hh
theorem X5.arg{t:TypeId}{α:Type}{E:α→List AV}{I:α→DataW H→Prop}(h:∀n,X5 enc P w base spare held n t E I){v:Value}{d:DataW H}{ps:List MemPlace}(hd:DataW.Trod enc P w base spare held t v d ps):
  ∃a,I a d∧RelL (HV.full w) (E a) v.cells.toList:=by
 obtain⟨a3,hf⟩:=hd;exact h a3 a3 _ _ _ (Nat.le_refl _) hf
theorem RelL.val1{K:HV}{a:AV}{v:Value}(h:RelL K [a] v.cells.toList)(hv:∀cs,v≠ .agg cs):RelI K a v:=by
 have hc:v.cells= #[v]:=by cases v<;>first | rfl | exact absurd rfl (hv _)
 rw[hc] at h;exact(h.2 0 a v rfl rfl).2
end
end HY
end
section
namespace HY
open Go Go.RowKit Go.ChangeShapes Go.WideShapes
section
variable {H : Type} {enc : TypeId × Value → H} {P : Program} {w : World} {base : Nat} {spare : Nat → Bool} {held : Bool}
def Sz(P:Program)(t:TypeId)(d:DataW H):Prop:=∀k∈DataW.weights P t d,k≤reachBytes
def SzE(P:Program)(ts:List TypeId)(ds:List (DataW H)):Prop:=∀k∈DataW.weightsEach P ts ds,k≤reachBytes
theorem SzE.cons{t:TypeId}{ts:List TypeId}{d:DataW H}{ds:List (DataW H)}(h:SzE P (t::ts) (d::ds)):Sz P t d∧SzE P ts ds:=by
 unfold SzE at h;rw[DataW.weightsEach] at h;exact⟨fun k hk=>h k (List.mem_append_left _ hk),fun k hk=>h k (List.mem_append_right _ hk)⟩
theorem LX{e:TypeId}:∀(ds:List (DataW H)) (i:Nat) (d:DataW H) (k:Nat),ds[i]? =some d→k∈DataW.weights P e d→k∈DataW.weightsAll P e ds
 | [],i,d,k,h,_=>by simp at h
 |x::r,0,d,k,h,hk=>by simp at h;subst h;rw[DataW.weightsAll];exact List.mem_append_left _ hk
 |x::r,i+1,d,k,h,hk=>by rw[DataW.weightsAll];exact List.mem_append_right _ (LX r i d k (by simpa using h) hk)
theorem rzZero{α:Type}(t:TypeId)(E:α→List AV){I:α→DataW H→Prop}:X5 enc P w base spare held 0 t E I:=fun a3 cs d ps hf h=>by
 obtain rfl:a3=0:=by omega
 simp[DataW.trod] at h
theorem Cj(n:Nat){t:TypeId}{k:IntKind}(ht:P.underlying t=some (.int k)):X5 enc P w base spare held n t (fun a:Int=>[.int k a]) (fun _ d=>Sz P t d→True):=
 (Aj n ht).to id (fun _=>rfl) fun _ _ _ _=>trivial
theorem Et(n:Nat){t:TypeId}(ht:P.underlying t=some .string):X5 enc P w base spare held n t (fun a:List UInt8=>[.str a]) (fun a d=>Sz P t d→True):=
 (PE n ht).to id (fun _=>rfl) fun _ _ _ _=>trivial
theorem UM{n:Nat}{t e:TypeId}{sz:Nat}{α:Type}{E:α→List AV}{f:α→Prop}(F:α→AV)(ht:P.underlying t=some (.slice e))(hc:P.cellsOf e=sz)(a6:0<sz)(hF:∀a,(F a).cells=E a)(he:X5 enc P w base spare held n e E (fun a d=>Sz P e d→f a)):
  X5 enc P w base spare held (n+1) t (fun l:List α=>[.sl sz (l.map F)]) (fun l d=>Sz P t d→l.length*P.bytesOf e≤reachBytes∧∀a∈l,f a):=
 (OO F ht hc a6 hF he).to id (fun _=>rfl) fun l d h hz=>by
  obtain⟨_,⟨rfl,rfl⟩ | ⟨a3,sp,rfl,hl,hi⟩⟩:=h
  ·simp
  ·unfold Sz at hz;rw[DataW.weights] at hz;simp only[ht] at hz;refine⟨?_,fun a ha=> ?_⟩
   ·have:=hz _ (List.mem_cons_self ..);have h2:l.length*P.bytesOf e≤(a3.length+sp.length)*P.bytesOf e:=Nat.mul_le_mul_right _ (by omega)
    simp only[id];omega
   ·obtain⟨i,a4⟩:=List.getElem?_of_mem ha;have a5:i<a3.length:=by have:=(List.getElem?_eq_some_iff.1 a4).1;simp only[id] at this;omega
    exact hi i a _ a4 (List.getElem?_eq_getElem a5) fun k hk=>hz k (List.mem_cons_of_mem _ (List.mem_append_left _ (LX a3 i _ k (List.getElem?_eq_getElem a5) hk)))
theorem WV(n:Nat):NI enc P w base spare held n [] (fun _:Unit=>[]) (fun _ ds=>SzE P [] ds→True):=fun a3 o o' cs xs hf hl hb hc hx=>by
 obtain⟨a,_,h⟩:=Q01 n a3 o o' cs xs hf hl hb hc hx;exact⟨a,fun _=>trivial,h⟩
theorem Zg{n:Nat}{f:Field}{fs:List Field}{α β:Type}{E1:α→List AV}{w1:α→Prop}{E2:β→List AV}{w2:β→Prop}
  (h1:X5 enc P w base spare held n f.type E1 (fun a d=>Sz P f.type d→w1 a)) (h2:NI enc P w base spare held n fs E2 (fun a ds=>SzE P (fs.map (·.type)) ds→w2 a)):
  NI enc P w base spare held n (f::fs) (fun x:α×β=>E1 x.1++E2 x.2) (fun x ds=>SzE P ((f::fs).map (·.type)) ds→w1 x.1∧w2 x.2):=fun a3 o o' cs xs hf hl hb hc hx=>by
 obtain⟨a,⟨d,ds,e,i1,i2⟩,h⟩:=OE h1 h2 a3 o o' cs xs hf hl hb hc hx;refine⟨a,fun hz=> ?_,h⟩
 rw[e,List.map_cons] at hz;exact⟨i1 hz.cons.1,i2 hz.cons.2⟩
theorem UA{n:Nat}{t:TypeId}{fs:Array Field}{α:Type}{E:α→List AV}{f:α→Prop}(ht:P.underlying t=some (.struct fs))(hf:Mr P 0 fs.toList (P.cellsOf t)=true)
  (h:NI enc P w base spare held n fs.toList E (fun a ds=>SzE P (fs.toList.map (·.type)) ds→f a)):X5 enc P w base spare held (n+1) t E (fun a d=>Sz P t d→f a):=
 (PF ht hf h).to id (fun _=>rfl) fun a d hd hz=>by
  obtain⟨ds,rfl,h⟩:=hd;refine h fun k hk=>hz k ?_
  rw[DataW.weights];simp only[ht];exact hk
end
end HY
end
section
namespace HY
open Go Go.RowKit
def El:X4:=fun _ _ _ _=>none
theorem Ip{P:Program}{gl:Nat→AV}:X4.Ok P gl El:=fun _ _ _ _ _ _ _ h=>by cases h
end HY
end
section
namespace HY
open Go Go.RowKit
structure Pu (P:Program) (gl:Nat→AV) (f:Nat) (args:List AV) (r:AV):Prop where
 ok:K3 P gl f args r .nil 0
structure KB where
 slot:Nat
 path:List Nat:=[]
 own:Nat:=0
 cut:Bool:=false
 fz:Bool:=false
structure Alt where
 {α:Type}
 φ:α→Prop
 ex:Exit
 vs:α→List AV
 bs:α→List Box
inductive Hint:Type 1 where
 |v (x:AV)
 |b (t:Bool)
 |split
 |e {α:Type} (sh:α→AV)
 |u
 |s
 |a
 |us (s:List UInt8)
 |o
 |nn
 |z (kb:List KB) (h:Option Hint)
 |n {α:Type} (sh:α→AV) (s:Nat) (h:Option Hint)
 |fl {α:Type} (sh:α→AV) (s:Nat) (h:Option Hint)
 |cc (r:AV)
 |c {α:Type} (sh:α→AV)
 |cb
 |h (kb:List KB) {α:Type} (r:α→AV) (bs:α→List Box)
 |hb (kb:List KB) {α:Type} (bs:α→List Box)
 |i (sub:List (Nat×Hint))
 |l {υ ω:Type} (gs:List KB) (ks:List Nat) (kb:List KB) (kx:List Nat) (kbx:List KB) (alts:υ→ω→List Alt)
abbrev Z7:=List (Nat×Hint)
def lkH:Z7→Nat→Option Hint
 | [],_=>none
 | (k,h)::r,n=>match Nat.beq k n with
  |true=>some h
  |false=>lkH r n
def Ff(dst:Option Nat)(op:Op):Nat:=
 match dst with
 |some d=>d
 |none=>match op with
  | .store _ (.tmp k) _=>1000000+k
  |_=>1000000
abbrev Res:=AV×Option (Nat×Box)
def oblV(P:Program)(bid:Nat)(dst:Option Nat)(op:Op)(ev:Operand→AV)(hp:Hp)(r:AV):Prop:=
 match op with
 | .indexAddr t x i=>YK P t (ev x) (ev i)=some r
 | .index t x i=>LZ P t (ev x) (ev i)=some r
 | .slice t x lo hi mx=>Kj P t (ev x) (lo.map ev) (hi.map ev) (mx.map ev)=some r
 | .load t x=>Co P t (ev x) hp=some r
 | .binOp o t x y _=>xbin P o t (ev x) (ev y)=some r
 | .convert src to x=>S2 P src to (ev x)=some r
 |op=>xop P bid dst op ev hp=some (r,none)
theorem oblV_ok{P:Program}{bid:Nat}{dst:Option Nat}{op:Op}{ev:Operand→AV}{hp:Hp}{r:AV}(h:oblV P bid dst op ev hp r):xop P bid dst op ev hp=some (r,none):=by
 unfold oblV at h;split at h;·refine Zs ?_;show xv _=_;rw[h];rfl
 ·refine Zs ?_;show xv _=_;rw[h];rfl
 ·refine Zs ?_;show xv _=_;rw[h];rfl
 ·refine Zs ?_;show xv _=_;rw[h];rfl
 ·refine Zs ?_;show xv _=_;rw[h];rfl
 ·refine Zs ?_;show xv _=_;rw[h];rfl
 ·exact h
def bI(d:Int):Option AV→Option Int
 |none=>some d
 |some (.int _ n)=>some n
 |some _=>none
def ieq(P:Program)(t:TypeId)(sz:Nat):Bool:=match elI P t with
 |some k=>Nat.beq k sz
 |none=>false
theorem MP{P:Program}{t:TypeId}{sz:Nat}(h:ieq P t sz=true):elI P t=some sz:=by
 unfold ieq at h;split at h;·rename_i k hk;rw[hk,Nat.eq_of_beq_eq_true h]
 ·cases h
def keq(a b:IntKind):Bool:=if a=b then true else false
theorem keq_ok{a b:IntKind}(h:keq a b=true):a=b:=by
 unfold keq at h;split at h
 ·assumption
 ·cases h
def wopS(P:Program)(op:Op)(ev:Operand→AV)(K:Res→Prop):Prop:=
 match op with
 | .binOp o _ x y _=>match ev x,ev y with
  | .str a,.str b=>match o with
   | .add=>a.length+b.length≤9223372036854775807∧K (.str (a++b),none)
   |_=>False
  | .int k a,.int k' b=>match o with
   | .shl=>0≤b∧K (.int k (k.wrap (a*2^ (min b.toNat k.bits))),none)
   | .shr=>0≤b∧K (.int k (a.fdiv (2^ (min b.toNat k.bits))),none)
   |o=>match keq k k' with
    |true=>match o with
     | .quo=>b≠0∧K (.int k (k.wrap (a.tdiv b)),none)
     | .rem=>b≠0∧K (.int k (a.tmod b),none)
     |_=>False
    |false=>False
  |_,_=>False
 | .indexAddr t x i=>match ev i with
  | .int _ k=>match ev x with
   | .bs id ver sz off len=>match ieq P t sz with
    |true=>(0≤k∧k<len)∧K (.ptr id ver (off+k.toNat*sz),none)
    |false=>False
   | .ow id ver sz len=>match ieq P t sz with
    |true=>(0≤k∧k<len)∧K (.oe id ver sz k.toNat 0,none)
    |false=>False
   | .ptr id ver off=>match arI P t with
    |some (n,z,_)=>(0≤k∧k<n)∧K (.ptr id ver (off+k.toNat*z),none)
    |none=>False
   | .ip sz xs j off=>match arI P t with
    |some (n,z,_)=>(0≤k∧k<n)∧K (.ip sz xs j (off+k.toNat*z),none)
    |none=>False
   |_=>False
  |_=>False
 | .slice t x lo hi mx=>match mx with
  |some _=>False
  |none=>match bI 0 (lo.map ev) with
   |some l=>match ev x with
    | .str s=>match VH P t with
     |true=>match hi with
      |none=>(0≤l∧l≤s.length)∧K (.str (s.drop l.toNat),none)
      |some hi=>match bI 0 (some (ev hi)) with
       |some h=>(0≤l∧l≤h∧h≤s.length)∧K (.str ((s.take h.toNat).drop l.toNat),none)
       |none=>False
     |false=>False
    | .sl sz xs=>match ieq P t sz with
     |true=>match hi with
      |none=>(0≤l∧l≤xs.length)∧K (.sl sz (xs.drop l.toNat),none)
      |some hi=>match bI 0 (some (ev hi)) with
       |some h=>(0≤l∧l≤h∧h≤xs.length)∧K (.sl sz ((xs.take h.toNat).drop l.toNat),none)
       |none=>False
     |false=>False
    | .bs id ver sz off len=>match bI len (hi.map ev) with
     |some h=>match ieq P t sz with
      |true=>(0≤l∧l<h∧h≤len)∧K (.bs id ver sz (off+l.toNat*sz) (h.toNat - l.toNat),none)
      |false=>False
     |none=>False
    | .ow id ver sz len=>match bI len (hi.map ev) with
     |some h=>match ieq P t sz with
      |true=>(l=0∧0≤h∧h≤len)∧K (.ow id ver sz h.toNat,none)
      |false=>False
     |none=>False
    |_=>False
   |none=>False
 |_=>False
theorem bI_ok{d:Nat}{o:Option AV}{n:Int}(h:bI d o=some n)(h0:0≤n):bndN d o=some n.toNat:=by
 unfold bI at h;split at h;·cases h;rfl
 ·cases h;simp only[bndN];rw[if_pos h0]
 ·cases h
theorem bI_okS{d d':Nat}{x:AV}{n:Int}(h:bI d (some x)=some n)(h0:0≤n):bndN d' (some x)=some n.toNat:=by
 unfold bI at h;split at h;·rename_i e;cases e
 ·rename_i k e;cases e;cases h;simp only[bndN];rw[if_pos h0]
 ·cases h
theorem BK{P:Program}{bid:Nat}{dst:Option Nat}{op:Op}{ev:Operand→AV}{hp:Hp}{K:Res→Prop}(h:wopS P op ev K):∃r,xop P bid dst op ev hp=some r∧K r:=by
 unfold wopS at h;split at h
 ·rename_i o t x y p;split at h
  ·rename_i a b hx hy;split at h
   ·refine⟨_,Zs ?_,h.2⟩;show xv (xbin P .add t (ev x) (ev y))=_;rw[hx,hy];show xv (TZ .add a b)=_;simp only[TZ,if_pos h.1];rfl
   ·cases h
  ·rename_i k a k' b hx hy;split at h
   ·refine⟨_,Zs ?_,h.2⟩;show xv (xbin P .shl t (ev x) (ev y))=_;rw[hx,hy];simp only[xbin,if_pos h.1];rfl
   ·refine⟨_,Zs ?_,h.2⟩;show xv (xbin P .shr t (ev x) (ev y))=_;rw[hx,hy];simp only[xbin,if_pos h.1];rfl
   ·split at h
    ·rename_i hk;obtain rfl:=keq_ok hk;split at h
     ·refine⟨_,Zs ?_,h.2⟩;show xv (xbin P .quo t (ev x) (ev y))=_;rw[hx,hy];simp only[xbin,if_true,TY,if_neg h.1];rfl
     ·refine⟨_,Zs ?_,h.2⟩;show xv (xbin P .rem t (ev x) (ev y))=_;rw[hx,hy];simp only[xbin,if_true,TY,if_neg h.1];rfl
     ·cases h
    ·cases h
  ·cases h
 ·rename_i t x i;split at h
  ·rename_i k0 k hi;split at h
   ·rename_i id ver sz off len hx;split at h
    ·rename_i ht;refine⟨_,Zs ?_,h.2⟩;show xv (YK P t (ev x) (ev i))=_;rw[hx,hi];simp only[YK];rw[if_pos ⟨MP ht,h.1.1,h.1.2⟩];rfl
    ·cases h
   ·rename_i id ver sz len hx;split at h
    ·rename_i ht;refine⟨_,Zs ?_,h.2⟩;show xv (YK P t (ev x) (ev i))=_;rw[hx,hi];simp only[YK];rw[if_pos ⟨MP ht,h.1.1,h.1.2⟩];rfl
    ·cases h
   ·rename_i id ver off hx;split at h
    ·rename_i n z g ht;refine⟨_,Zs ?_,h.2⟩;show xv (YK P t (ev x) (ev i))=_;rw[hx,hi];simp only[YK,ht];rw[if_pos h.1];rfl
    ·cases h
   ·rename_i sz xs j off hx;split at h
    ·rename_i n z g ht;refine⟨_,Zs ?_,h.2⟩;show xv (YK P t (ev x) (ev i))=_;rw[hx,hi];simp only[YK,ht];rw[if_pos h.1];rfl
    ·cases h
   ·cases h
  ·cases h
 ·rename_i t x lo hi mx;split at h;·cases h
  ·split at h
   ·rename_i l hl;have a6:∀d:Int,0≤l→bndN 0 (lo.map ev)=some l.toNat:=fun _ h0=>bI_ok hl h0
    split at h
    ·rename_i s hx;split at h
     ·rename_i ht;split at h
      ·obtain⟨⟨h0,h1⟩,hK⟩:=h;refine⟨_,Zs ?_,hK⟩;show xv (Kj P t (ev x) (lo.map ev) none none)=_;rw[hx];simp only[Kj,a6 0 h0,show bndN s.length none=some s.length from rfl];rw[if_pos ⟨ht,rfl,by omega,Nat.le_refl _⟩,List.take_length];rfl
      ·rename_i hi;split at h
       ·rename_i hh a5;obtain⟨⟨h0,h1,h2⟩,hK⟩:=h;refine⟨_,Zs ?_,hK⟩;show xv (Kj P t (ev x) (lo.map ev) (some (ev hi)) none)=_;rw[hx];simp only[Kj,a6 0 h0,bI_okS a5 (by omega)]
        rw[if_pos ⟨ht,rfl,by omega,by omega⟩];rfl
       ·cases h
     ·cases h
    ·rename_i sz xs hx;split at h
     ·rename_i ht;split at h
      ·obtain⟨⟨h0,h1⟩,hK⟩:=h;refine⟨_,Zs ?_,hK⟩;show xv (Kj P t (ev x) (lo.map ev) none none)=_;rw[hx];simp only[Kj,a6 0 h0,show bndN xs.length none=some xs.length from rfl];rw[if_pos ⟨MP ht,by omega,Nat.le_refl _⟩,List.take_length];rfl
      ·rename_i hi;split at h
       ·rename_i hh a5;obtain⟨⟨h0,h1,h2⟩,hK⟩:=h;refine⟨_,Zs ?_,hK⟩;show xv (Kj P t (ev x) (lo.map ev) (some (ev hi)) none)=_;rw[hx];simp only[Kj,a6 0 h0,bI_okS a5 (by omega)]
        rw[if_pos ⟨MP ht,by omega,by omega⟩];rfl
       ·cases h
     ·cases h
    ·rename_i id ver sz off len hx;split at h
     ·rename_i hh a5;split at h
      ·rename_i ht;obtain⟨⟨h0,h1,h2⟩,hK⟩:=h;refine⟨_,Zs ?_,hK⟩;show xv (Kj P t (ev x) (lo.map ev) (hi.map ev) none)=_;rw[hx];simp only[Kj,a6 0 h0,bI_ok a5 (by omega)]
       rw[if_pos ⟨MP ht,by omega,by omega⟩,if_neg (by omega)];rfl
      ·cases h
     ·cases h
    ·rename_i id ver sz len hx;split at h
     ·rename_i hh a5;split at h
      ·rename_i ht;obtain⟨⟨h0,h1,h2⟩,hK⟩:=h;refine⟨_,Zs ?_,hK⟩;show xv (Kj P t (ev x) (lo.map ev) (hi.map ev) none)=_;rw[hx];simp only[Kj,a6 0 (by omega),bI_ok a5 (by omega)]
       rw[if_pos ⟨MP ht,by omega,by omega⟩];rfl
      ·cases h
     ·cases h
    ·cases h
   ·cases h
 ·cases h
def wsrc(P:Program)(t t':TypeId)(sz:Nat)(x:AV)(hp:Hp):Option (Nat×List AV):=
 match x with
 | .str b=>match VH P t'&&Nat.beq sz 1 with
  |true=>some (b.length,b.map G2)
  |false=>none
 |x=>match Nat.beq t' t with
  |true=>xsrc sz x hp
  |false=>none
def wappT(bid e tg sz a3 n:Nat)(ds:List AV)(s:AV)(hp:Hp)(K:Res→Prop):Prop:=
 match s with
 | .nil=>(n≠0∧n*a3≤140737488355328∧n≤9223372036854775807)∧K (.bs bid tg sz 0 n,some (bid,.cells tg ds))
 | .emp=>(n≠0∧n*a3≤140737488355328∧n≤9223372036854775807)∧K (.bs bid tg sz 0 n,some (bid,.cells tg ds))
 | .bs id ver z off len=>match hp id with
  |some (.cells v cs)=>match Nat.beq z sz&&Nat.beq v ver with
   |true=>(n≠0∧off+len*sz≤cs.length∧(len+n)*a3≤140737488355328∧len+n≤9223372036854775807)∧K (.bs id (Dp e off ver) sz 0 (len+n),some (id,.cells (Dp e off ver) ((cs.drop off).take (len*sz)++ds)))
   |false=>False
  |_=>False
 |_=>False
theorem Q3d{bid e tg sz a3 n:Nat}{ds:List AV}{s:AV}{hp:Hp}{K:Res→Prop}(h:wappT bid e tg sz a3 n ds s hp K):n≠0∧∃r,Gu bid e tg sz a3 n ds s hp=some r∧K r:=by
 unfold wappT at h;unfold Gu;split at h
 ·obtain⟨⟨h0,h1,h2⟩,hK⟩:=h;exact⟨h0,_,by simp only[if_pos (And.intro h1 h2)],hK⟩
 ·obtain⟨⟨h0,h1,h2⟩,hK⟩:=h;exact⟨h0,_,by simp only[if_pos (And.intro h1 h2)],hK⟩
 ·split at h
  ·rename_i v cs a9;split at h
   ·rename_i hc;rw[Bool.and_eq_true] at hc;obtain rfl:=Nat.eq_of_beq_eq_true hc.1;obtain rfl:=Nat.eq_of_beq_eq_true hc.2;obtain⟨⟨h0,h1,h2,h3⟩,hK⟩:=h;exact⟨h0,_,by simp only[a9];rw[if_pos ⟨trivial,trivial,h1,h2,h3⟩],hK⟩
   ·cases h
  ·cases h
 ·cases h
def wels(sz:Nat)(x:AV)(hp:Hp)(K:List AV→Prop):Prop:=
 match x with
 | .ow id ver z len=>match hp id with
  |some (.own v z' xs)=>match Nat.beq z sz&& (Nat.beq z' sz&&Nat.beq v ver) with
   |true=>len=xs.length∧K xs
   |false=>False
  |_=>False
 |x=>match xels sz x hp with
  |some ys=>K ys
  |none=>False
theorem BG{sz:Nat}{x:AV}{hp:Hp}{K:List AV→Prop}(h:wels sz x hp K):∃ys,xels sz x hp=some ys∧K ys:=by
 unfold wels at h;split at h
 ·rename_i id ver z len;split at h
  ·rename_i v z' xs a5;split at h
   ·rename_i hc;simp only[Bool.and_eq_true] at hc;obtain⟨hl,hK⟩:=h;refine⟨xs,?_,hK⟩;simp only[xels,a5];rw[hc.1,hc.2.1,hc.2.2,hl,Nat.ble_eq_true_of_le (Nat.le_refl _)];simp
   ·cases h
  ·cases h
 ·split at h;·rename_i ys a6;exact⟨ys,a6,h⟩
  ·cases h
def wapp(P:Program)(bid:Nat)(op:Op)(ev:Operand→AV)(hp:Hp)(K:Res→Prop):Prop:=
 match op with
 | .call c=>match c.callee with
  | .builtin .append=>match c.argTypes.toList,c.args.toList.map ev with
   | [t,t'],[s,x]=>match elG P t with
    |some (sz,by_,_)=>match s with
     | .ow id ver z len=>match Nat.beq sz z&&Nat.beq t' t with
      |true=>match hp id with
       |some (.own v z' xs)=>match Nat.beq z' z&&Nat.beq v ver with
        |true=>wels z x hp (fun ys=>(len=xs.length∧(len+ys.length)*by_≤140737488355328∧len+ys.length≤9223372036854775807)∧K (.ow id (ver+4096) z (len+ys.length),some (id,.own (ver+4096) z (xs++ys))))
        |false=>False
       |_=>False
      |false=>False
     |s=>match wsrc P t t' sz x hp with
      |some (n,ds)=>wappT bid (elT P t) (tagE P (elT P t)) sz by_ n ds s hp K
      |none=>False
    |none=>False
   |_,_=>False
  |_=>False
 |_=>False
theorem wapp_ok{P:Program}{bid:Nat}{dst:Option Nat}{op:Op}{ev:Operand→AV}{hp:Hp}{K:Res→Prop}(h:wapp P bid op ev hp K):∃r,xop P bid dst op ev hp=some r∧K r:=by
 unfold wapp at h;split at h
 ·rename_i c;split at h
  ·rename_i hc;split at h
   ·rename_i t t' s x ht hx;split at h
    ·rename_i sz aa zs a5;split at h
     ·rename_i id ver z len;split at h
      ·rename_i a4;rw[Bool.and_eq_true] at a4;obtain rfl:=Nat.eq_of_beq_eq_true a4.1;obtain rfl:=Nat.eq_of_beq_eq_true a4.2;split at h
       ·rename_i v z' xs ac;split at h
        ·rename_i a6;rw[Bool.and_eq_true] at a6;obtain⟨ys,ad,⟨h1,h2,h3⟩,hK⟩:=BG h;subst h1;refine⟨_,xop_ofO ?_ ?_ ?_,hK⟩
         ·have:∀n ds,(if n=0 then(if Fd (.ow id ver sz xs.length) then some ((.ow id ver sz xs.length:AV),(none:Option (Nat×Box))) else none) else Gu bid (elT P t') (tagE P (elT P t')) sz aa n ds (.ow id ver sz xs.length) hp)=none:=fun n ds=>by
           split<;>rfl
          simp only[xop0,hc,J2,ht,hx,UN,a5,if_true];split;·exact this _ _
          ·rfl
         ·simp only[xopX,hc,ht,hx,Mo,a5];split
          ·split
           ·split;·rfl
            ·rfl
           ·rfl
          ·rfl
         ·simp only[xopO,hc,ht,hx,W4,a5,ac,ad];rw[Nat.beq_refl,Nat.beq_refl,a6.1,a6.2,Nat.ble_eq_true_of_le (Nat.le_refl _)];simp[h2,h3]
        ·cases h
       ·cases h
      ·cases h
     ·split at h
      ·rename_i n ds a3;obtain⟨h0,r,hr,hK⟩:=Q3d h;refine⟨r,?_,hK⟩;unfold wsrc at a3;split at a3
       ·rename_i b;split at a3
        ·rename_i a4;cases a3;have e0:xop0 P bid dst (.call c) ev hp=none:=by
          simp only[xop0,hc,J2,ht,hx,UN,a5,xsrc];split<;>rfl
         refine My e0 ?_;simp only[xopX,hc,ht,hx,Mo,a5];rw[a4];cases b with
         |nil=>exact absurd rfl h0
         |cons c0 b0=>exact hr
        ·cases a3
       ·split at a3
        ·rename_i a4;obtain rfl:=Nat.eq_of_beq_eq_true a4;refine Zs ?_;simp only[xop0,hc,J2,ht,hx,UN,a5,if_true,a3];rw[if_neg h0];exact hr
        ·cases a3
      ·cases h
    ·cases h
   ·cases h
  ·cases h
 ·cases h
theorem If:∀(s:List UInt8),MJ (s.map G2)=some s
 | []=>rfl
 |c::s=>by
  have hc:=c.toNat_lt;have h:(decide ((0:Int)≤(c.toNat:Int))&&decide ((c.toNat:Int)<256))=true:=by simp;omega
  simp only[List.map_cons,G2,MJ,h];rw[If s];simp
def wus(P:Program)(op:Op)(ev:Operand→AV)(hp:Hp)(s:List UInt8)(K:Res→Prop):Prop:=
 match op with
 | .convert src to x=>match ev x with
  | .bs id ver sz off len=>match hp id with
   |some (.cells v cs)=>match Nat.beq v ver&& (Nat.beq sz 1&& (Nm P src&&VH P to)) with
    |true=>(off+len≤cs.length∧(cs.drop off).take len=s.map G2)∧K (.str s,none)
    |false=>False
   |_=>False
  |_=>False
 | .call c=>match c.callee with
  | .builtin b=>match b with
   | .unsafeSliceData=>match c.args.toList.map ev with
    | [x]=>match x with
     | .bs id ver _ off len=>0<len∧K (.ptr id ver off,none)
     | .nil=>K (.nilp,none)
     |_=>False
    |_=>False
   | .unsafeString=>match c.argTypes.toList,c.args.toList.map ev with
    | [pt,_],[p,n]=>match p with
     | .ptr id ver off=>match n with
      | .int .i64 n=>match hp id with
       |some (.cells v cs)=>match ptTo P pt with
        |some e=>match Nat.beq v ver&& (Nat.beq off 0&& (Nat.beq (ver%4096) (e+1)&&Nat.beq (P.cellsOf e) 1)) with
         |true=>(0<n∧n≤9223372036854775807∧n.toNat≤cs.length∧cs.take n.toNat=s.map G2)∧K (.str s,some (id,.dead))
         |false=>False
        |none=>False
       |_=>False
      |_=>False
     | .nilp=>match n with
      | .int .i64 0=>K (.str [],none)
      |_=>False
     |_=>False
    |_,_=>False
   |_=>False
  |_=>False
 |_=>False
theorem wus_ok{P:Program}{bid:Nat}{dst:Option Nat}{op:Op}{ev:Operand→AV}{hp:Hp}{s:List UInt8}{K:Res→Prop}(h:wus P op ev hp s K):∃r,xop P bid dst op ev hp=some r∧K r:=by
 unfold wus at h;split at h
 ·rename_i ag to x;split at h
  ·rename_i id ver sz off len hx;split at h
   ·rename_i v cs a8;split at h
    ·rename_i hc;simp only[Bool.and_eq_true] at hc;obtain⟨h1,h2,h3,h4⟩:=hc;obtain⟨⟨af,hs⟩,hK⟩:=h;refine⟨_,?_,hK⟩;have e0:xop0 P bid dst (.convert ag to x) ev hp=none:=by simp only[xop0,hx,S2];rfl
     refine My e0 ?_;simp only[xopX,hx,N4,a8,hs,If];rw[h1,h2,h3,h4,Nat.ble_eq_true_of_le af];rfl
    ·cases h
   ·cases h
  ·cases h
 ·rename_i c;split at h
  ·rename_i b hc;split at h
   ·split at h
    ·rename_i x hx;split at h
     ·rename_i id ver z off len;refine⟨_,?_,h.2⟩;have e0:xop0 P bid dst (.call c) ev hp=none:=by simp only[xop0,hc,J2]
      refine My e0 ?_;simp only[xopX,hc,hx,E3];rw[Nat.ble_eq_true_of_le (show 0+1≤len from h.1) |>(fun e=>(show Nat.blt 0 len=true from e))]
      rfl
     ·refine⟨_,?_,h⟩;have e0:xop0 P bid dst (.call c) ev hp=none:=by simp only[xop0,hc,J2]
      refine My e0 ?_;simp only[xopX,hc,hx,E3];rfl
     ·cases h
    ·cases h
   ·split at h
    ·rename_i pt it p n ht hx;split at h
     ·rename_i id ver off;split at h
      ·rename_i n;split at h
       ·rename_i v cs a8;split at h
        ·rename_i e he;split at h
         ·rename_i a9;simp only[Bool.and_eq_true] at a9;obtain⟨h1,h2,h3,h4⟩:=a9;obtain⟨⟨a1,a2,a3,a4⟩,hK⟩:=h;refine⟨_,?_,hK⟩;have e0:xop0 P bid dst (.call c) ev hp=none:=by simp only[xop0,hc,J2]
          refine My e0 ?_;simp only[xopX,hc,ht,hx,Mp,a8,he,a4,If];rw[h1,h2,h3,h4,Nat.ble_eq_true_of_le a3];simp[a1,a2]
         ·cases h
        ·cases h
       ·cases h
      ·cases h
     ·split at h
      ·refine⟨_,?_,h⟩;have e0:xop0 P bid dst (.call c) ev hp=none:=by simp only[xop0,hc,J2]
       refine My e0 ?_;simp only[xopX,hc,ht,hx,Mp]
      ·cases h
     ·cases h
    ·cases h
   ·cases h
  ·cases h
 ·cases h
def wdef(P:Program)(bid:Nat)(dst:Option Nat)(op:Op)(ev:Operand→AV)(hp:Hp)(K:Res→Prop):Prop:=
 match xop P bid dst op ev hp with
 |some r=>K r
 |none=>False
def wst(P:Program)(dst:Option Nat)(op:Op)(ev:Operand→AV)(hp:Hp)(K:Res→Prop):Prop:=
 match op with
 | .store t x y=>match dst with
  |some _=>False
  |none=>match ev x with
   | .oe id ver sz i off=>match tyI P t with
    |some (n,_)=>match hp id with
     |some (.own v z xs)=>match ev y with
      |yv=>match Nat.beq v ver&& (Nat.beq z sz&& (Nat.ble (off+n) sz&& (yv.okc&& (Nat.beq yv.cells.length n&&yv.cells.all immA)))) with
       |true=>i<xs.length∧K (.undef,some (id,.own v z (xs.set i (putE off n z ((xs[i]?).getD .undef) yv))))
       |false=>match Nat.beq v ver&& (Nat.beq z sz&& (Nat.ble (off+n) sz&& (yv.okc&& (Nat.beq yv.cells.length n&&Nat.beq n 1)))) with
        |true=>i<xs.length∧K (.undef,some (id,.hol v z xs i off ((yv.cells[0]?).getD .undef)))
        |false=>False
     |_=>False
    |none=>False
   |_=>False
 | .load t x=>match ev x with
  | .oe id ver sz i off=>match tyI P t with
   |some (n,g)=>match hp id with
    |some (.hol v z _ j c r)=>match Nat.beq v ver&& (Nat.beq z sz&& (Nat.beq off c&&Nat.beq (wd g n) 1)) with
     |true=>i=j∧K (Cf g n 0 [r],none)
     |false=>False
    |_=>False
   |none=>False
  |_=>False
 |op=>wopS P op ev K
theorem wst_ok{P:Program}{bid:Nat}{dst:Option Nat}{op:Op}{ev:Operand→AV}{hp:Hp}{K:Res→Prop}(h:wst P dst op ev hp K):∃r,xop P bid dst op ev hp=some r∧K r:=by
 unfold wst at h;split at h
 ·rename_i t x y;split at h;·cases h
  ·split at h
   ·rename_i id ver sz i off hx;split at h
    ·rename_i n g ht;split at h
     ·rename_i v z xs a4;simp only at h;split at h
      ·rename_i hc;obtain⟨hi,hK⟩:=h;simp only[Bool.and_eq_true] at hc;refine⟨_,Zs ?_,hK⟩;have hb:Nat.blt i xs.length=true:=Nat.ble_eq_true_of_le hi;simp only[xop0,Option.isNone_none,if_true,Dc,ht,hx,a4];rw[hc.1,hc.2.1,hb,hc.2.2.1,hc.2.2.2.1,hc.2.2.2.2.1,hc.2.2.2.2.2];rfl
      ·rename_i hn;split at h
       ·rename_i hc;obtain⟨hi,hK⟩:=h;simp only[Bool.and_eq_true] at hc;refine⟨_,Zs ?_,hK⟩;have hb:Nat.blt i xs.length=true:=Nat.ble_eq_true_of_le hi;simp only[xop0,Option.isNone_none,if_true,Dc,ht,hx,a4];rw[hc.1,hc.2.1,hc.2.2.1,hc.2.2.2.1,hc.2.2.2.2.1] at hn;rw[hc.1,hc.2.1,hb,hc.2.2.1,hc.2.2.2.1,hc.2.2.2.2.1,hc.2.2.2.2.2];simp only[Bool.true_and] at hn ⊢;rw[if_neg (by rw[hn];simp),if_pos trivial]
       ·cases h
     ·cases h
    ·cases h
   ·cases h
 ·rename_i t x;split at h
  ·rename_i id ver sz i off hx;split at h
   ·rename_i n g ht;split at h
    ·rename_i v z xs j c r a4;split at h
     ·rename_i hc;obtain⟨rfl,hK⟩:=h;simp only[Bool.and_eq_true] at hc;refine⟨_,Zs ?_,hK⟩;show xv (Co P t (ev x) hp)=_;rw[hx];simp only[Co,ht,a4];rw[hc.1,hc.2.1,hc.2.2.1,hc.2.2.2,show Nat.beq i i=true from Nat.beq_refl i];rfl
     ·cases h
    ·cases h
   ·cases h
  ·cases h
 ·exact BK h
def wask(P:Program)(bid:Nat)(dst:Option Nat)(op:Op)(ev:Operand→AV)(hp:Hp)(h:Option Hint)(K:Res→Prop):Prop:=
 match h with
 |none=>wdef P bid dst op ev hp K
 |some h=>match h with
  | .v x=>oblV P bid dst op ev hp x∧K (x,none)
  | .b t=>match xop P bid dst op ev hp with
   |some (.bool u,none)=>u=t∧K (.bool t,none)
   |_=>False
  | .split=>match xop P bid dst op ev hp with
   |some (.bool u,none)=>(u=true→K (.bool true,none))∧(u=false→K (.bool false,none))
   |_=>False
  | .e sh=>match op with
   | .indexAddr t a i=>match ev a with
    | .sl sz xs=>match ev i with
     | .int _ k=>match ieq P t sz with
      |true=>∃x,(0≤k∧xs[k.toNat]? =some (sh x))∧K (.ip sz [sh x] 0 0,none)
      |false=>False
     |_=>False
    |_=>wopS P op ev K
   | .load t a=>match ev a with
    | .oe id ver sz i off=>match tyI P t with
     |some (n,g)=>match hp id with
      |some (.own v z xs)=>match Nat.beq v ver&& (Nat.beq z sz&&Nat.ble (off+wd g n) sz) with
       |true=>∃x,xs[i]? =some (sh x)∧K (Cf g n off (sh x).cells,none)
       |false=>False
      |_=>False
     |none=>False
    |_=>wdef P bid dst op ev hp K
   | .store t x y=>match dst with
    |some _=>False
    |none=>match ev x with
     | .oe id ver sz i off=>match tyI P t with
      |some (n,_)=>match hp id with
       |some (.own v z xs)=>match ev y with
        |yv=>match Nat.beq v ver&& (Nat.beq z sz&& (Nat.ble (off+n) sz&& (yv.okc&& (Nat.beq yv.cells.length n&&yv.cells.all immA)))) with
         |true=>∃x,xs[i]? =some (sh x)∧K (.undef,some (id,.own v z (xs.set i (putE off n z (sh x) yv))))
         |false=>False
       |_=>False
      |none=>False
     |_=>False
   |_=>False
  | .u=>match op with
   | .index t a i=>match ev a with
    | .str s=>match ev i with
     | .int _ k=>match VH P t with
      |true=>∃x:UInt8,(0≤k∧s[k.toNat]? =some x)∧K (.int .u8 x.toNat,none)
      |false=>False
     |_=>False
    |_=>False
   |_=>False
  | .s=>wst P dst op ev hp K
  | .a=>wapp P bid op ev hp K
  | .us s=>wus P op ev hp s K
  |_=>False
theorem BF{P:Program}{bid:Nat}{dst:Option Nat}{op:Op}{ev:Operand→AV}{hp:Hp}{K:Res→Prop}(hw:wdef P bid dst op ev hp K):∃r,xop P bid dst op ev hp=some r∧K r:=by
 unfold wdef at hw;split at hw;·rename_i r hr;exact⟨r,hr,hw⟩
 ·cases hw
theorem BE{P:Program}{bid:Nat}{dst:Option Nat}{op:Op}{ev:Operand→AV}{hp:Hp}{h:Option Hint}{K:Res→Prop}(hw:wask P bid dst op ev hp h K):∃r,xop P bid dst op ev hp=some r∧K r:=by
 unfold wask at hw;split at hw;·exact BF hw
 ·rename_i h;split at hw;·exact⟨_,oblV_ok hw.1,hw.2⟩
  ·split at hw
   ·rename_i t u hx;obtain⟨rfl,hK⟩:=hw;exact⟨_,hx,hK⟩
   ·cases hw
  ·split at hw
   ·rename_i u hx;refine⟨_,hx,?_⟩;cases u with
    |true=>exact hw.1 rfl
    |false=>exact hw.2 rfl
   ·cases hw
  ·rename_i sh;split at hw
   ·rename_i t a i;split at hw
    ·rename_i sz xs hx;split at hw
     ·rename_i k0 k hi;split at hw
      ·rename_i ht;obtain⟨x,⟨h0,h1⟩,hK⟩:=hw;refine⟨_,Zs ?_,hK⟩;show xv (YK P t (ev a) (ev i))=_;rw[hx,hi];have a6:k<xs.length:=by
        have:=(List.getElem?_eq_some_iff.1 h1).1;omega
       simp only[YK];rw[if_pos ⟨MP ht,h0,a6⟩,h1];rfl
      ·cases hw
     ·cases hw
    ·exact BK hw
   ·rename_i t a;split at hw
    ·rename_i id ver sz i off hx;split at hw
     ·rename_i n g ht;split at hw
      ·rename_i v z xs a9;split at hw
       ·rename_i hc;simp only[Bool.and_eq_true] at hc;obtain⟨x,h1,hK⟩:=hw;refine⟨_,Zs ?_,hK⟩;show xv (Co P t (ev a) hp)=_;rw[hx];have a6:i<xs.length:=(List.getElem?_eq_some_iff.1 h1).1;simp only[Co,ht,a9];rw[hc.1,hc.2.1,hc.2.2,show Nat.blt i xs.length=true from Nat.ble_eq_true_of_le a6,h1];rfl
       ·cases hw
      ·cases hw
     ·cases hw
    ·exact BF hw
   ·rename_i t x y;split at hw;·cases hw
    ·split at hw
     ·rename_i id ver sz i off hx;split at hw
      ·rename_i n g ht;split at hw
       ·rename_i v z xs a9;simp only at hw;split at hw
        ·rename_i hc;obtain⟨e,h1,hK⟩:=hw;simp only[Bool.and_eq_true] at hc;refine⟨_,Zs ?_,hK⟩;have hb:Nat.blt i xs.length=true:=Nat.ble_eq_true_of_le (List.getElem?_eq_some_iff.1 h1).1;simp only[xop0,Option.isNone_none,if_true,Dc,ht,hx,a9];rw[hc.1,hc.2.1,hb,hc.2.2.1,hc.2.2.2.1,hc.2.2.2.2.1,hc.2.2.2.2.2,h1];rfl
        ·cases hw
       ·cases hw
      ·cases hw
     ·cases hw
   ·cases hw
  ·split at hw
   ·rename_i t a i;split at hw
    ·rename_i s hx;split at hw
     ·rename_i k0 k hi;split at hw
      ·rename_i ht;obtain⟨x,⟨h0,h1⟩,hK⟩:=hw;refine⟨_,Zs ?_,hK⟩;show xv (LZ P t (ev a) (ev i))=_;rw[hx,hi];have a6:k<s.length:=by
        have:=(List.getElem?_eq_some_iff.1 h1).1;omega
       simp only[LZ];rw[if_pos (by simp[ht,h0,a6]),h1];rfl
      ·cases hw
     ·cases hw
    ·cases hw
   ·cases hw
  ·exact wst_ok hw
  ·exact wapp_ok hw
  ·exact wus_ok hw
  ·cases hw
end HY
end
section
namespace HY
open Go Go.RowKit
def refId:AV→Option Nat
 | .ptr id _ _=>some id
 | .bs id _ _ _ _=>some id
 | .ow id _ _ _=>some id
 | .oe id _ _ _ _=>some id
 |_=>none
def Ms(hp:Hp):AV→List Nat→Option (Nat×Nat)
 |_,[]=>none
 |v,i::p=>match v with
  | .agg cs=>match cs[i]? with
   |some c=>Ms hp c p
   |none=>none
  | .tup cs=>match cs[i]? with
   |some c=>Ms hp c p
   |none=>none
  | .fn _ cs=>match cs[i]? with
   |some c=>Ms hp c p
   |none=>none
  |v=>match refId v with
   |some id=>match p with
    | []=>some (id,i)
    |_::_=>match hp id with
     |some (.cells _ cs)=>match cs[i]? with
      |some c=>Ms hp c p
      |none=>none
     |some (.hol _ _ _ _ _ r)=>match i with
      |0=>Ms hp r p
      |_=>none
     |_=>none
   |none=>none
def bsOk(sz off z v ver len:Nat)(cs:List AV):Bool:=Nat.beq z sz&& (Nat.beq off 0&& (Nat.beq v ver&& (Nat.ble (len*sz) cs.length&& (cs.take (len*sz)).all immA)))
def cut1(st:St)(c:Bool)(id ver len:Nat):Option St:=
 match c with
 |false=>some st
 |true=>match lkb st.hp id with
  |some (.own v z xs)=>match Nat.beq v ver with
   |true=>some ⟨st.n,st.sl,pt st.hp id (.own v z (xs.take len)),st.nx⟩
   |false=>none
  |_=>none
def fz1(st:St)(k:Nat)(p:List Nat)(id ver sz len:Nat)(K:St→Prop):Prop:=
 match lkb st.hp id with
 |some (.own v z xs)=>match Nat.beq v ver&&Nat.beq z sz with
  |true=>len=xs.length∧K ⟨st.n,pt st.sl k (Gt p (st.get k) (.sl z xs)),pt st.hp id (.own (v+4096) z []),st.nx⟩
  |false=>K st
 |_=>K st
def ghS(st:St)(k:Nat)(p:List Nat)(x:AV)(sz:Nat)(c:Bool):Option St:=
 match x with
 | .nil=>some ⟨st.n,pt st.sl k (Gt p (st.get k) (.ow st.nx 0 sz 0)),pt st.hp st.nx (.own 0 sz []),st.nx+1⟩
 | .emp=>some ⟨st.n,pt st.sl k (Gt p (st.get k) (.ow st.nx 0 sz 0)),pt st.hp st.nx (.own 0 sz []),st.nx+1⟩
 | .bs id ver z off len=>match lkb st.hp id with
  |some (.cells v cs)=>match bsOk sz off z v ver len cs with
   |true=>some ⟨st.n,pt st.sl k (Gt p (st.get k) (.ow id ver sz len)),pt st.hp id (.own ver sz (YJ sz len (cs.take (len*sz)))),st.nx⟩
   |false=>none
  |_=>none
 | .ow id ver _ len=>cut1 st c id ver len
 | .undef=>some st
 | .sl _ _=>some st
 |_=>none
def ghC(st:St)(bx i sz:Nat)(c:Bool):Option St:=
 match lkb st.hp bx with
 |some (.cells vb cb)=>match cb[i]? with
  |some x=>match x with
   | .nil=>some ⟨st.n,st.sl,pt (pt st.hp st.nx (.own 0 sz [])) bx (.cells vb (cb.set i (.ow st.nx 0 sz 0))),st.nx+1⟩
   | .emp=>some ⟨st.n,st.sl,pt (pt st.hp st.nx (.own 0 sz [])) bx (.cells vb (cb.set i (.ow st.nx 0 sz 0))),st.nx+1⟩
   | .bs id ver z off len=>match lkb st.hp id with
    |some (.cells v cs)=>match bsOk sz off z v ver len cs&& !Nat.beq bx id with
     |true=>some ⟨st.n,st.sl,pt (pt st.hp id (.own ver sz (YJ sz len (cs.take (len*sz))))) bx (.cells vb (cb.set i (.ow id ver sz len))),st.nx⟩
     |false=>none
    |_=>none
   | .ow id ver _ len=>cut1 st c id ver len
   |_=>none
  |none=>none
 |_=>none
def gh1(st:St)(k:KB):Option St:=
 match k.own with
 |0=>some st
 |sz+1=>match W1 k.path (st.get k.slot) with
  |some x=>ghS st k.slot k.path x (sz+1) k.cut
  |none=>match Ms (lkb st.hp) (st.get k.slot) k.path with
   |some (bx,j)=>ghC st bx j (sz+1) k.cut
   |none=>none
def fzS(st:St)(k:KB)(K:St→Prop):Prop:=
 match W1 k.path (st.get k.slot) with
 |some x=>match x with
  | .ow id ver sz len=>fz1 st k.slot k.path id ver sz len K
  | .ptr id ver off=>match lkb st.hp id with
   |some (.cells v cs)=>match Nat.beq v ver&& (Nat.blt 0 cs.length&&cs.all immA) with
    |true=>K ⟨st.n,pt st.sl k.slot (Gt k.path (st.get k.slot) (.ip cs.length [.agg cs] 0 off)),pt st.hp id (.own (v+4096) 1 []),st.nx⟩
    |false=>False
   |_=>K st
  |_=>K st
 |none=>False
def KZ:List KB→St→(St→Prop)→Prop
 | [],st,K=>K st
 |k::ks,st,K=>match k.fz with
  |true=>fzS st k (fun s=>KZ ks s K)
  |false=>match gh1 st k with
   |some st'=>KZ ks st' K
   |none=>False
theorem FQ{sz off z v ver len:Nat}{cs:List AV}(h:bsOk sz off z v ver len cs=true):z=sz∧off=0∧v=ver∧len*sz≤cs.length∧(cs.take (len*sz)).all immA=true:=by
 simp only[bsOk,Bool.and_eq_true] at h;exact⟨Nat.eq_of_beq_eq_true h.1,Nat.eq_of_beq_eq_true h.2.1,Nat.eq_of_beq_eq_true h.2.2.1,Nat.le_of_ble_eq_true h.2.2.2.1,h.2.2.2.2⟩
theorem B7{gl:Nat→AV}{st st':St}{c:Bool}{id ver len:Nat}(h:cut1 st c id ver len=some st'):Conv gl st st':=by
 unfold cut1 at h;split at h;·cases h;exact .refl
 ·split at h
  ·rename_i v z xs a3;split at h;·cases h;exact Q2e id v z len xs a3
   ·cases h
  ·cases h
theorem ghS_ok{gl:Nat→AV}{st st':St}{k:Nat}{p:List Nat}{x:AV}{sz:Nat}{c:Bool}(a3:0<sz)(hi:W1 p (st.get k)=some x)(h:ghS st k p x sz c=some st'):Conv gl st st':=by
 unfold ghS at h;split at h;·cases h;exact A0 k p sz _ a3 hi rfl
 ·cases h;exact A0 k p sz _ a3 hi rfl
 ·rename_i id ver z off len;split at h
  ·rename_i v cs a5;split at h
   ·rename_i hc;cases h;obtain⟨rfl,rfl,rfl,h1,h2⟩:=FQ hc;exact ML k p id _ _ len cs a3 hi a5 h1 h2
   ·cases h
  ·cases h
 ·exact B7 h
 ·cases h;exact .refl
 ·cases h;exact .refl
 ·cases h
theorem ghC_ok{gl:Nat→AV}{st st':St}{bx i sz:Nat}{c:Bool}(a3:0<sz)(h:ghC st bx i sz c=some st'):Conv gl st st':=by
 unfold ghC at h;split at h
 ·rename_i vb cb hb;split at h
  ·rename_i x hx;split at h;·cases h;exact SZ bx i sz vb cb _ a3 hb hx rfl
   ·cases h;exact SZ bx i sz vb cb _ a3 hb hx rfl
   ·rename_i id ver z off len;split at h
    ·rename_i v cs a6;split at h
     ·rename_i hc;cases h;rw[Bool.and_eq_true] at hc;obtain⟨rfl,rfl,rfl,h1,h2⟩:=FQ hc.1;exact FV bx i id _ vb _ len cb cs a3 (fun e=>by subst e;simp at hc) hb hx a6 h1 h2
     ·cases h
    ·cases h
   ·exact B7 h
   ·cases h
  ·cases h
 ·cases h
theorem gh1_ok{gl:Nat→AV}{st st':St}{k:KB}(h:gh1 st k=some st'):Conv gl st st':=by
 unfold gh1 at h;split at h;·cases h;exact .refl
 ·split at h;·rename_i x hx;exact ghS_ok (Nat.succ_pos _) hx h
  ·split at h;·exact ghC_ok (Nat.succ_pos _) h
   ·cases h
theorem fzS_ok{gl:Nat→AV}{st:St}{k:KB}{K:St→Prop}(h:fzS st k K):∃st',Conv gl st st'∧K st':=by
 unfold fzS at h;split at h
 ·rename_i x hx;split at h
  ·rename_i id ver z len;unfold fz1 at h;split at h
   ·rename_i v z' xs a4;split at h
    ·rename_i hv;rw[Bool.and_eq_true] at hv;obtain rfl:=Nat.eq_of_beq_eq_true hv.1;obtain rfl:=Nat.eq_of_beq_eq_true hv.2;obtain⟨hl,hK⟩:=h;exact⟨_,OB k.slot k.path id v _ len xs hx a4 hl,hK⟩
    ·exact⟨st,.refl,h⟩
   ·exact⟨st,.refl,h⟩
  ·rename_i id ver off;split at h
   ·rename_i v cs a4;split at h
    ·rename_i hv;simp only[Bool.and_eq_true] at hv;obtain rfl:=Nat.eq_of_beq_eq_true hv.1;exact⟨_,FX k.slot k.path id v off cs hx a4 (Nat.le_of_ble_eq_true hv.2.1) hv.2.2,h⟩
    ·cases h
   ·exact⟨st,.refl,h⟩
  ·exact⟨st,.refl,h⟩
 ·cases h
theorem Yr{gl:Nat→AV}:∀ {ks:List KB} {st:St} {K:St→Prop},KZ ks st K→∃st',Conv gl st st'∧K st'
 | [],st,K,h=>⟨st,.refl,h⟩
 |k::ks,st,K,h=>by
  simp only[KZ] at h;split at h
  ·obtain⟨s1,h1,h2⟩:=fzS_ok (gl:=gl) h;obtain⟨s2,h3,h4⟩:=Yr h2;exact⟨s2,h1.trans h3,h4⟩
  ·split at h
   ·rename_i s1 h1;obtain⟨s2,h3,h4⟩:=Yr h;exact⟨s2,(gh1_ok h1).trans h3,h4⟩
   ·cases h
def LH(hp:Hp):AV→List Nat→Option Nat
 |v,[]=>refId v
 |v,i::p=>match v with
  | .agg cs=>match cs[i]? with
   |some c=>LH hp c p
   |none=>none
  | .tup cs=>match cs[i]? with
   |some c=>LH hp c p
   |none=>none
  | .fn _ cs=>match cs[i]? with
   |some c=>LH hp c p
   |none=>none
  |v=>match refId v with
   |some id=>match hp id with
    |some (.cells _ cs)=>match cs[i]? with
     |some c=>LH hp c p
     |none=>none
    |some (.hol _ _ _ _ _ r)=>match i with
     |0=>LH hp r p
     |_=>none
    |_=>none
   |none=>none
def Gr(st:St):List KB→List Nat
 | []=>[]
 |k::r=>match k.fz with
  |true=>Gr st r
  |false=>match LH (lkb st.hp) (st.get k.slot) k.path with
   |some id=>id::Gr st r
   |none=>Gr st r
def idxN:List Nat→Nat→Option Nat
 | [],_=>none
 |k::r,id=>match Nat.beq k id with
  |true=>some 0
  |false=>match idxN r id with
   |some j=>some (j+1)
   |none=>none
def nodN:List Nat→Bool
 | []=>true
 |k::r=>match idxN r k with
  |some _=>false
  |none=>nodN r
def curV(hp:Hp)(id ver:Nat):Option Nat:=match hp id with
 |some (.cells v _)=>match Nat.beq v ver with
  |true=>some (v%4096)
  |false=>none
 |some (.own v _ _)=>match Nat.beq v ver with
  |true=>some 0
  |false=>none
 |some (.hol v _ _ _ _ _)=>match Nat.beq v ver with
  |true=>some 0
  |false=>none
 |_=>none
def mapR(g:Nat→Nat→Option (Nat×Nat)):Nat→AV→AV
 |0,_=>.undef
 |k+1,v=>match v with
  | .ptr id ver off=>match g id ver with
   |some (j,t)=>.ptr j t off
   |none=>.undef
  | .bs id ver sz off len=>match g id ver with
   |some (j,t)=>.bs j t sz off len
   |none=>.undef
  | .ow id ver sz len=>match g id ver with
   |some (j,t)=>.ow j t sz len
   |none=>.undef
  | .oe id ver sz i off=>match g id ver with
   |some (j,t)=>.oe j t sz i off
   |none=>.undef
  | .yld _=>.undef
  | .mp _=>.undef
  | .agg cs=>.agg (cs.map (mapR g k))
  | .tup cs=>.tup (cs.map (mapR g k))
  | .fn f cs=>.fn f (cs.map (mapR g k))
  |v=>v
def gR(hp:Hp)(ids:List Nat)(id ver:Nat):Option (Nat×Nat):=
 match idxN ids id with
 |some j=>match curV hp id ver with
  |some t=>some (j,t)
  |none=>none
 |none=>none
abbrev ren(hp:Hp)(ids:List Nat):Nat→AV→AV:=mapR (gR hp ids)
def renB(hp:Hp)(ids:List Nat):Box→Option Box
 | .cells ver cs=>some (.cells (ver%4096) (cs.map (ren hp ids 12)))
 | .own _ sz xs=>some (.own 0 sz xs)
 | .hol _ sz xs i c r=>some (.hol 0 sz xs i c (ren hp ids 12 r))
 |_=>none
def Er(hp:Hp)(all:List Nat):List Nat→Option (List Box)
 | []=>some []
 |id::r=>match hp id with
  |some b=>match renB hp all b with
   |some b'=>match Er hp all r with
    |some l=>some (b'::l)
    |none=>none
   |none=>none
  |none=>none
def pinOk(hp:Hp)(ids:List Nat):AV→Bool
 | .ptr id ver _=>match idxN ids id with
  |some j=>match curV hp id ver with
   |some t=>Nat.beq j id&&Nat.beq t ver
   |none=>false
  |none=>false
 | .undef=>true
 | .agg cs=>cs.all immA
 |v=>immA v
def JV(a3:List AV)(ks:List Nat)(kb:List KB)(st:St)(K:List AV→List Box→Prop):Prop:=
 match nodN (Gr st kb)&&a3.all (pinOk (lkb st.hp) (Gr st kb)) with
 |true=>match Er (lkb st.hp) (Gr st kb) (Gr st kb) with
  |some bs=>K (ks.map fun k=>ren (lkb st.hp) (Gr st kb) 12 (st.get k)) bs
  |none=>False
 |false=>False
def slOf:List Nat→List AV→Tr AV
 |k::ks,v::vs=>pt (slOf ks vs) k v
 |_,_=>.nil
def hpOf:Nat→List Box→Tr Box
 |_,[]=>.nil
 |j,b::r=>pt (hpOf (j+1) r) j b
def Qz(n:Nat)(ks:List Nat)(vs:List AV)(bs:List Box):St:=⟨n,slOf ks vs,hpOf 0 bs,bs.length⟩
theorem Pe{α:Type}(d:α)(k:Nat):lk d .nil k=d:=by unfold lk;cases path k<;>rfl
theorem Wf:∀(bs:List Box) (j k:Nat),lkb (hpOf j bs) k=if j≤k then bs[k - j]? else none
 | [],j,k=>by simp[hpOf,Zq]
 |b::r,j,k=>by
  simp only[hpOf,Z1];by_cases h:k=j;·subst h;rw[Qj];simp
  ·rw[Qn _ _ h,Wf r (j+1) k];by_cases h':j≤k;·rw[if_pos (by omega),if_pos h',show k - j=k - (j+1)+1 by omega,List.getElem?_cons_succ]
   ·rw[if_neg (by omega),if_neg h']
theorem A5:∀ {ids:List Nat} {id j:Nat},idxN ids id=some j→ids[j]? =some id
 |k::r,id,j,h=>by
  simp only[idxN] at h;split at h;·rename_i hk;cases h;rw[Nat.eq_of_beq_eq_true hk];rfl
  ·split at h;·rename_i j' hj;cases h;simpa using A5 hj
   ·cases h
theorem Hz:∀ {ids:List Nat} {id:Nat},idxN ids id=none→∀(j:Nat),ids[j]? ≠some id
 | [],id,_,j=>by simp
 |k::r,id,h,j=>by
  simp only[idxN] at h;split at h;·cases h
  ·rename_i hk;split at h;·cases h
   ·rename_i hn;cases j with
    |zero=>intro e;simp at e;subst e;simp at hk
    |succ j=>rw[List.getElem?_cons_succ];exact Hz hn j
theorem Iq:∀ {ids:List Nat},nodN ids=true→∀ {i j id:Nat},ids[i]? =some id→ids[j]? =some id→i=j
 | [],_,i,j,id,hi,_=>by simp at hi
 |k::r,h,i,j,id,hi,hj=>by
  simp only[nodN] at h;split at h;·cases h
  ·rename_i hn;cases i with
   |zero=>
    simp only[List.getElem?_cons_zero,Option.some.injEq] at hi;cases j with
    |zero=>rfl
    |succ j=>rw[List.getElem?_cons_succ,← hi] at hj;exact absurd hj (Hz hn j)
   |succ i=>
    cases j with
    |zero=>
     simp only[List.getElem?_cons_zero,Option.some.injEq] at hj;rw[List.getElem?_cons_succ,← hj] at hi;exact absurd hi (Hz hn i)
    |succ j=>
     rw[List.getElem?_cons_succ] at hi hj;rw[Iq h hi hj]
def Box.mark:Box→Nat
 | .cells v _=>v%4096
 |_=>0
theorem curV_ok{hp:Hp}{id ver t:Nat}(h:curV hp id ver=some t):∃b,hp id=some b∧b.ver? =some ver∧b.mark=t:=by
 unfold curV at h;split at h
 ·rename_i v cs hh;split at h;·rename_i hv;cases h;obtain rfl:=Nat.eq_of_beq_eq_true hv;exact⟨_,hh,rfl,rfl⟩
  ·cases h
 ·rename_i v sz xs hh;split at h;·rename_i hv;cases h;obtain rfl:=Nat.eq_of_beq_eq_true hv;exact⟨_,hh,rfl,rfl⟩
  ·cases h
 ·rename_i v sz xs i c r hh;split at h;·rename_i hv;cases h;obtain rfl:=Nat.eq_of_beq_eq_true hv;exact⟨_,hh,rfl,rfl⟩
  ·cases h
 ·cases h
theorem SG{H:HV}{E E':Env}{g:Nat→Nat→Option (Nat×Nat)}(hg:∀id ver j t,g id ver=some (j,t)→E'.al j t∧∀l,E'.loc j t=some l→E.loc id ver=some l):∀(k:Nat) (v:AV) (u:Value),RV H E v u→RV H E' (mapR g k v) u
 |0,_,_,_=>.imm _ _ (.undef _)
 |k+1,v,u,h=>by
  have ih:=SG (H:=H) hg k;cases v with
  |ptr id ver off=>
   simp only[mapR];split
   ·rename_i j t hj;obtain⟨a,rfl,_,a3⟩:=h.ptr_inv;obtain⟨h1,h2⟩:=hg id ver j t hj;exact .ptr _ _ _ _ h1 fun l hl=>a3 l (h2 l hl)
   ·exact .imm _ _ (.undef _)
  |bs id ver sz off len=>
   simp only[mapR];split
   ·rename_i j t hj;obtain⟨a,cap,rfl,_,hl,hm,a3⟩:=h.bs_inv;obtain⟨h1,h2⟩:=hg id ver j t hj;exact .bs _ _ _ _ _ _ _ h1 hl hm fun l hl=>a3 l (h2 l hl)
   ·exact .imm _ _ (.undef _)
  |ow id ver sz len=>
   simp only[mapR];split
   ·rename_i j t hj;obtain⟨a,cap,rfl,_,hl,hm,ae,a3⟩:=h.ow_inv;obtain⟨h1,h2⟩:=hg id ver j t hj;exact .ow _ _ _ _ _ _ h1 hl hm ae fun l hl=>a3 l (h2 l hl)
   ·exact .imm _ _ (.undef _)
  |oe id ver sz i off=>
   simp only[mapR];split
   ·rename_i j t hj;obtain⟨a,rfl,_,a3⟩:=h.oe_inv;obtain⟨h1,h2⟩:=hg id ver j t hj;exact .oe _ _ _ _ _ _ h1 fun l hl=>a3 l (h2 l hl)
   ·exact .imm _ _ (.undef _)
  |yld id=>exact .imm _ _ (.undef _)
  |mp id=>exact .imm _ _ (.undef _)
  |agg cs=>
   obtain⟨vs,rfl,hl,h1,hc⟩:=h.agg_inv;refine .agg _ vs (by simpa using hl) h1 fun j c v hj hv=> ?_
   rw[List.getElem?_map,Option.map_eq_some_iff] at hj;obtain⟨c0,a6,rfl⟩:=hj;exact ih c0 v (hc j c0 v a6 hv)
  |tup cs=>
   obtain⟨vs,rfl,hl,hc⟩:=h.tup_inv;refine .tup _ vs (by simpa using hl) fun j c v hj hv=> ?_
   rw[List.getElem?_map,Option.map_eq_some_iff] at hj;obtain⟨c0,a6,rfl⟩:=hj;exact ih c0 v (hc j c0 v a6 hv)
  |fn f cs=>
   obtain⟨vs,rfl,hl,hc⟩:=h.fn_inv;refine .fn f _ vs (by simpa using hl) fun j c v hj hv=> ?_
   rw[List.getElem?_map,Option.map_eq_some_iff] at hj;obtain⟨c0,a6,rfl⟩:=hj;exact ih c0 v (hc j c0 v a6 hv)
  |_=>cases h with | imm _ _ h=>exact .imm _ _ h
section
variable {hp : Hp} {ids : List Nat} {m m' : Nat → Lc} {H : HV} {hp' : Hp}
theorem gR_inv{id ver j t:Nat}(h:gR hp ids id ver=some (j,t)):idxN ids id=some j∧curV hp id ver=some t:=by
 unfold gR at h;split at h
 ·rename_i j' hj;split at h;·rename_i t' ht;cases h;exact⟨hj,ht⟩
  ·cases h
 ·cases h
theorem ren_ok(a5:∀(j id:Nat) (b:Box) (ver:Nat),ids[j]? =some id→hp id=some b→b.ver? =some ver→m' j=m id∧∃b',hp' j=some b'∧b'.ver? =some b.mark)(k:Nat)(v:AV)(u:Value)(h:RV H (Q4 hp m) v u):RV H (Q4 hp' m') (ren hp ids k v) u:=
 SG (fun id ver j t hg=>by
  obtain⟨hj,hc⟩:=gR_inv hg;obtain⟨b,hb,hv,ht⟩:=curV_ok hc;obtain⟨hm,b',a4,a3⟩:=a5 j id b ver (A5 hj) hb hv;rw[ht] at a3;refine⟨Fa a4 a3,fun l hl=> ?_⟩
  rw[G6 a4 a3] at hl;rw[G6 hb hv,← hm];exact hl) k v u h
theorem RM{all:List Nat}:∀ {ids:List Nat} {bs:List Box},Er hp all ids=some bs→bs.length=ids.length∧∀(j id:Nat),ids[j]? =some id→∃b b',hp id=some b∧renB hp all b=some b'∧bs[j]? =some b'
 | [],bs,h=>by cases h;exact⟨rfl,fun j id hj=>by simp at hj⟩
 |id0::r,bs,h=>by
  simp only[Er] at h;split at h
  ·rename_i b hb;split at h
   ·rename_i b' a4;split at h
    ·rename_i l hl;cases h;obtain⟨h1,h2⟩:=RM hl;refine⟨by simp[h1],fun j id hj=> ?_⟩
     cases j with
     |zero=>simp at hj;subst hj;exact⟨b,b',hb,a4,rfl⟩
     |succ j=>simpa using h2 j id (by simpa using hj)
    ·cases h
   ·cases h
  ·cases h
theorem Ix{b b':Box}(h:renB hp ids b=some b'):(∃ver cs,b= .cells ver cs∧b'= .cells (ver%4096) (cs.map (ren hp ids 12)))∨(∃ver sz xs,b= .own ver sz xs∧b'= .own 0 sz xs)∨∃ver sz xs i c r,b= .hol ver sz xs i c r∧b'= .hol 0 sz xs i c (ren hp ids 12 r):=by
 cases b<;>simp only[renB,Option.some.injEq,reduceCtorEq] at h
 ·exact .inl ⟨_,_,rfl,h.symm⟩
 ·exact .inr (.inl ⟨_,_,_,rfl,h.symm⟩)
 ·exact .inr (.inr ⟨_,_,_,_,_,_,rfl,h.symm⟩)
theorem Iy{b b':Box}(h:renB hp ids b=some b'):(∃v,b.ver? =some v)∧b'.ver? =some b.mark∧∀l,Real b' l↔Real b l:=by
 rcases Ix h with⟨v,cs,rfl,rfl⟩ | ⟨v,sz,xs,rfl,rfl⟩ | ⟨v,sz,xs,i,c,r,rfl,rfl⟩
 ·exact⟨⟨v,rfl⟩,rfl,fun l=>Iff.rfl⟩
 ·exact⟨⟨v,rfl⟩,rfl,fun l=>Iff.rfl⟩
 ·exact⟨⟨v,rfl⟩,rfl,fun l=>Iff.rfl⟩
end
section
variable {m : Nat → Lc} {H : HV} {B : Nat → Prop} {H0 : HV} {gl : Nat → AV} {rest : List (AV × Value)} {st : St} {tmps : Array Value} {w : World}
theorem RelH.sub{hp:Hp}{nx:Nat}{B':Nat→Prop}{H1:HV}(h:RelH m H B H0 gl hp nx w){ids:List Nat}{bs:List Box}(hn:nodN ids=true)(b7:Er hp ids ids=some bs)
  (hold:∀b o,B' b→H b o=H1 b o) (ai:∀b,B' b→b<w.heap.size) (ak:∀(j id:Nat) (b:Box),ids[j]? =some id→hp id=some b→Real b (m id)→¬B' (m id).g) (b9:GvOk gl B' w):
  RelH (fun j=>m ((ids[j]?).getD 0)) H B' H1 gl (lkb (hpOf 0 bs)) bs.length w∧∀(k:Nat) (v:AV) (u:Value),RV H (Q4 hp m) v u→RV H (Q4 (lkb (hpOf 0 bs)) fun j=>m ((ids[j]?).getD 0)) (ren hp ids k v) u:=by
 obtain⟨ah,a8⟩:=RM b7;have aa:∀j,lkb (hpOf 0 bs) j=bs[j]? :=fun j=>by rw[Wf];simp
 have a4:∀j b',lkb (hpOf 0 bs) j=some b'→∃id b,ids[j]? =some id∧hp id=some b∧renB hp ids b=some b':=fun j b' hj=>by
  rw[aa] at hj;have ag:j<ids.length:=by rw[← ah];exact(List.getElem?_eq_some_iff.1 hj).1
  obtain⟨b,b2,h1,h2,h3⟩:=a8 j _ (List.getElem?_eq_getElem ag);rw[hj] at h3;cases h3;exact⟨_,b,List.getElem?_eq_getElem ag,h1,h2⟩
 have hm:∀(j id:Nat),ids[j]? =some id→m ((ids[j]?).getD 0)=m id:=fun j id hj=>by rw[hj];rfl
 have a7:∀(k:Nat) (v:AV) (u:Value),RV H (Q4 hp m) v u→RV H (Q4 (lkb (hpOf 0 bs)) fun j=>m ((ids[j]?).getD 0)) (ren hp ids k v) u:=ren_ok fun j id b ver hj hb hv=>by
  obtain⟨b0,b',h1,h2,h3⟩:=a8 j id hj;rw[hb] at h1;cases h1;exact⟨hm j id hj,b',by rw[aa];exact h3,(Iy h2).2.1⟩
 refine⟨{sat:=h.sat,old:=hold,low:=ai,fresh:=fun j hj=> ?_,box:=fun j b' hj=> ?_,sepR:=fun j b' hj hr=> ?_,injR:=fun i j b1 b2 h1 h2 r1 r2 he=> ?_,gv:=b9,gl:=h.gl,ty:=fun j v cs hj=> ?_},a7⟩
 ·rw[aa,List.getElem?_eq_none hj]
 ·obtain⟨id,b,a5,hb,a6⟩:=a4 j b' hj;rw[hm j id a5];have a9:=h.box id b hb;rcases Ix a6 with⟨v,cs,rfl,rfl⟩ | ⟨v,sz,xs,rfl,rfl⟩ | ⟨v,sz,xs,i0,c0,r0,rfl,rfl⟩
  ·obtain⟨C,e,c1,c2,c3,c4⟩:=a9;refine⟨C,e,c1,c2,by simpa using c3,fun i c hc=> ?_⟩
   rw[List.getElem?_map,Option.map_eq_some_iff] at hc;obtain⟨c0,b8,rfl⟩:=hc;obtain⟨u,b1,b2,b3⟩:=c4 i c0 b8;exact⟨u,b1,b2,a7 12 c0 u b3⟩
  ·exact a9
  ·obtain⟨d1,d2,d3,d4,d5,C,e,c1,c2,c3,c4,u,b1,b2,b3⟩:=a9;exact⟨d1,d2,d3,d4,d5,C,e,c1,c2,c3,c4,u,b1,b2,a7 12 _ u b3⟩
 ·obtain⟨id,b,a5,hb,a6⟩:=a4 j b' hj;rw[hm j id a5] at hr ⊢;have aj:=((Iy a6).2.2 _).1 hr;obtain⟨_,y,z⟩:=h.sepR id b hb aj;exact⟨ak j id b a5 hb aj,y,z⟩
 ·obtain⟨am,ar,hi,b5,ba⟩:=a4 i b1 h1;obtain⟨ao,au,hj,b6,bb⟩:=a4 j b2 h2;rw[hm i am hi] at r1 he;rw[hm j ao hj] at r2 he;have:=h.injR am ao ar au b5 b6 (((Iy ba).2.2 _).1 r1) (((Iy bb).2.2 _).1 r2) he;subst this;exact Iq hn hi hj
 ·obtain⟨id,b,a5,hb,a6⟩:=a4 j _ hj;rw[hm j id a5];rcases Ix a6 with⟨v0,bl,rfl,he⟩ | ⟨v0,sz,xs,rfl,he⟩ | ⟨v0,sz,xs,i0,c0,r0,rfl,he⟩
  ·cases he;have:=h.ty id _ _ hb;unfold TyOk at this ⊢;rw[Nat.mod_mod];exact this
  ·cases he
  ·cases he
theorem PQ:∀(ks:List Nat) (f:Nat→AV) (k:Nat),lk .undef (slOf ks (ks.map f)) k= .undef∨lk .undef (slOf ks (ks.map f)) k=f k
 | [],f,k=>.inl (Pe _ _)
 |a::ks,f,k=>by
  simp only[List.map_cons,slOf];rw[Gs];by_cases h:a=k;·subst h;simp
  ·rw[if_neg h];exact PQ ks f k
theorem Pf{g:Nat→Nat→Option (Nat×Nat)}{k:Nat}{v:AV}(h:immA v=true):mapR g (k+1) v=v:=by
 cases v<;>first | rfl | (cases h;done) | skip
 rename_i f cs;have:cs=[]:=by simpa[immA] using h
 subst this;rfl
theorem pin_ren{hp:Hp}{ids:List Nat}{p:AV}(h:pinOk hp ids p=true):ren hp ids 12 p=p:=by
 unfold pinOk at h;split at h
 ·rename_i id ver off;split at h
  ·rename_i j hj;split at h
   ·rename_i t ht;rw[Bool.and_eq_true] at h;obtain rfl:=Nat.eq_of_beq_eq_true h.1;obtain rfl:=Nat.eq_of_beq_eq_true h.2;simp only[ren,mapR,gR,hj,ht]
   ·cases h
  ·cases h
 ·rfl
 ·rename_i cs;show AV.agg (cs.map (mapR (gR hp ids) 11))=_;congr 1;have:∀x∈cs,mapR (gR hp ids) 11 x=x:=fun x hx=>Pf (List.all_eq_true.1 h x hx)
  exact(List.map_congr_left this).trans (List.map_id _)
 ·exact Pf h
theorem U0{a4:List AV}{ks:List Nat}{kb:List KB}{K:List AV→List Box→Prop}(h:RelS m H B H0 gl rest st tmps w)(hp:rest.map (·.1)=a4)(hw:JV a4 ks kb st K):∃vs bs m',K vs bs∧RelS m' H B H0 gl rest (Qz st.n ks vs bs) tmps w:=by
 unfold JV at hw;split at hw
 ·rename_i hc;rw[Bool.and_eq_true] at hc;split at hw
  ·rename_i bs a7;obtain⟨h1,a3⟩:=h.heap.sub hc.1 a7 h.heap.old h.heap.low (fun j id b _ hb hr=>(h.heap.sepR id b hb hr).1) h.heap.gv
   refine⟨_,bs,_,hw,h1,h.size,fun k=> ?_,fun p hp'=> ?_⟩
   ·show RV H _ (lk .undef (slOf ks (ks.map fun k=>ren (lkb st.hp) (Gr st kb) 12 (st.get k))) k) _
    rcases PQ ks (fun k=>ren (lkb st.hp) (Gr st kb) 12 (st.get k)) k with e | e
    ·rw[e];exact .imm _ _ (.undef _)
    ·rw[e];exact a3 12 _ _ (h.slot k)
   ·have a6:=List.all_eq_true.1 hc.2 p.1 (by rw[← hp];exact List.mem_map_of_mem hp')
    have:=a3 12 p.1 p.2 (h.rest p hp');rw[pin_ren a6] at this;exact this
  ·cases hw
 ·cases hw
end
end HY
end
section
namespace HY
open Go Go.RowKit
def Mf(hp:Hp):List Nat→List Box→Nat→Option (List (Nat×Nat))
 | [],[],_=>some []
 | [],b::bs,nx=>match b.ver? with
  |some v=>match Mf hp [] bs (nx+1) with
   |some l=>some ((nx,v)::l)
   |none=>none
  |none=>none
 |_::_,[],_=>none
 |id::ids,b::bs,nx=>match hp id with
  |some (.cells v _)=>match b with
   | .cells t _=>match Nat.beq (v%4096) t with
    |true=>match Mf hp ids bs nx with
     |some l=>some ((id,v)::l)
     |none=>none
    |false=>none
   |_=>none
  |some (.own v _ _)=>match b with
   | .own _ _ _=>match Mf hp ids bs nx with
    |some l=>some ((id,v+4096)::l)
    |none=>none
   |_=>none
  |_=>none
def gB(ps:List (Nat×Nat))(bs:List Box)(j t:Nat):Option (Nat×Nat):=
 match ps[j]? with
 |some p=>match bs[j]? with
  |some b=>match b.ver? with
   |some v=>match Nat.beq v t with
    |true=>some p
    |false=>none
   |none=>none
  |none=>none
 |none=>none
def unB(g:Nat→Nat→Option (Nat×Nat))(ver:Nat):Box→Box
 | .cells _ cs=>.cells ver (cs.map (mapR g 12))
 | .own _ sz xs=>.own ver sz xs
 | .hol _ sz xs i c r=>.hol ver sz xs i c (mapR g 12 r)
 |b=>b
def Db(g:Nat→Nat→Option (Nat×Nat))(t:Tr Box):List (Nat×Nat)→List Box→Tr Box
 | (id,ver)::ps,b::bs=>pt (Db g t ps bs) id (unB g ver b)
 |_,_=>t
structure E5 (hp:Hp) (ids:List Nat) (bs:List Box) (nx:Nat) (ps:List (Nat×Nat)) (j id ver:Nat) (b:Box):Prop where
 here:(∃v cs t cs',ids[j]? =some id∧hp id=some (.cells v cs)∧b= .cells t cs'∧ver=v∧v%4096=t)∨(∃v sz xs v' sz' xs',ids[j]? =some id∧hp id=some (.own v sz xs)∧b= .own v' sz' xs'∧ver=v+4096)∨(ids.length≤j∧id=nx+(j - ids.length)∧b.ver? =some ver)
theorem Mg{hp:Hp}:∀ {ids:List Nat} {bs:List Box} {nx:Nat} {ps:List (Nat×Nat)},Mf hp ids bs nx=some ps→ps.length=bs.length∧ids.length≤bs.length∧∀(j id ver:Nat) (b:Box),ps[j]? =some (id,ver)→bs[j]? =some b→E5 hp ids bs nx ps j id ver b
 | [],[],nx,ps,h=>by cases h;exact⟨rfl,Nat.le_refl _,fun j id ver b hj=>by simp at hj⟩
 | [],b0::bs,nx,ps,h=>by
  simp only[Mf] at h;split at h
  ·rename_i v hv;split at h
   ·rename_i l hl;cases h;obtain⟨h1,h2,h3⟩:=Mg hl;refine⟨by simp[h1],by simp,fun j id ver b hj hb=> ?_⟩
    cases j with
    |zero=>simp at hj hb;obtain⟨rfl,rfl⟩:=hj;subst hb;exact⟨.inr (.inr ⟨by simp,by simp,hv⟩)⟩
    |succ j=>
     rw[List.getElem?_cons_succ] at hj hb;rcases(h3 j id ver b hj hb).here with⟨_,_,_,_,e,_⟩ | ⟨_,_,_,_,_,_,e,_⟩ | ⟨a1,a2,a3⟩
     ·simp at e
     ·simp at e
     ·exact⟨.inr (.inr ⟨by simp,by simp at a2 ⊢;omega,a3⟩)⟩
   ·cases h
  ·cases h
 |_::_,[],nx,ps,h=>by cases h
 |a8::ids,b0::bs,nx,ps,h=>by
  have go:∀(p:Nat×Nat) (l:List (Nat×Nat)),Mf hp ids bs nx=some l→E5 hp (a8::ids) (b0::bs) nx (p::l) 0 p.1 p.2 b0→
    (p::l).length=(b0::bs).length∧(a8::ids).length≤(b0::bs).length∧∀(j id ver:Nat) (b:Box),(p::l)[j]? =some (id,ver)→(b0::bs)[j]? =some b→E5 hp (a8::ids) (b0::bs) nx (p::l) j id ver b:=by
   intro p l hl h0;obtain⟨h1,h2,h3⟩:=Mg hl;refine⟨by simp[h1],by simp;omega,fun j id ver b hj hb=> ?_⟩
   cases j with
   |zero=>simp at hj hb;subst hj;subst hb;exact h0
   |succ j=>
    rw[List.getElem?_cons_succ] at hj hb;rcases(h3 j id ver b hj hb).here with⟨v,cs,t,cs',e1,e2,e3,e4,e5⟩ | ⟨v,sz,xs,v',a9,aa,e1,e2,e3,e4⟩ | ⟨a1,a2,a3⟩
    ·exact⟨.inl ⟨v,cs,t,cs',by simpa using e1,e2,e3,e4,e5⟩⟩
    ·exact⟨.inr (.inl ⟨v,sz,xs,v',a9,aa,by simpa using e1,e2,e3,e4⟩)⟩
    ·exact⟨.inr (.inr ⟨by simp;omega,by simp at a2 ⊢;omega,a3⟩)⟩
  simp only[Mf] at h;split at h
  ·rename_i v cs a6;split at h
   ·rename_i t cs';split at h
    ·rename_i hv;split at h
     ·rename_i l hl;cases h;exact go _ _ hl ⟨.inl ⟨v,cs,t,cs',rfl,a6,rfl,rfl,Nat.eq_of_beq_eq_true hv⟩⟩
     ·cases h
    ·cases h
   ·cases h
  ·rename_i v sz xs a6;split at h
   ·rename_i v' a9 aa;split at h
    ·rename_i l hl;cases h;exact go _ _ hl ⟨.inr (.inl ⟨v,sz,xs,v',a9,aa,rfl,a6,rfl,rfl⟩)⟩
    ·cases h
   ·cases h
  ·cases h
theorem Ak{g:Nat→Nat→Option (Nat×Nat)}{t:Tr Box}:∀ {ps:List (Nat×Nat)} {bs:List Box},(∀(i j id v v':Nat),ps[i]? =some (id,v)→ps[j]? =some (id,v')→i=j)→∀(j id ver:Nat) (b:Box),ps[j]? =some (id,ver)→bs[j]? =some b→lkb (Db g t ps bs) id=some (unB g ver b)
 | [],_,_,j,id,ver,b,hj,_=>by simp at hj
 |_::_,[],_,j,id,ver,b,_,hb=>by simp at hb
 | (id0,v0)::ps,b0::bs,hinj,j,id,ver,b,hj,hb=>by
  simp only[Db];rw[Z1];cases j with
  |zero=>simp at hj hb;obtain⟨rfl,rfl⟩:=hj;subst hb;rw[Qj]
  |succ j=>
   have a3:id≠id0:=fun e=>by
    subst e;have:=hinj 0 (j+1) id v0 ver rfl hj;omega
   rw[Qn _ _ a3];exact Ak (fun i j id v v' h1 h2=>by have:=hinj (i+1) (j+1) id v v' (by simpa using h1) (by simpa using h2);omega) j id ver b (by simpa using hj) (by simpa using hb)
theorem TN{g:Nat→Nat→Option (Nat×Nat)}{t:Tr Box}:∀ {ps:List (Nat×Nat)} {bs:List Box} {id:Nat},(∀(j v:Nat),ps[j]? ≠some (id,v))→lkb (Db g t ps bs) id=lkb t id
 | [],_,_,_=>by simp[Db]
 |_::_,[],_,_=>by simp[Db]
 | (id0,v0)::ps,b0::bs,id,h=>by
  simp only[Db];have a3:id≠id0:=fun e=>h 0 v0 (by simp[e])
  rw[Z1,Qn _ _ a3];exact TN fun j v hj=>h (j+1) v (by simpa using hj)
theorem E5.ver{hp:Hp}{ids:List Nat}{bs:List Box}{nx:Nat}{ps:List (Nat×Nat)}{j id ver:Nat}{b:Box}(h:E5 hp ids bs nx ps j id ver b):∃v,b.ver? =some v:=by
 rcases h.here with⟨v,cs,t,cs',e1,e2,rfl,e4,e5⟩ | ⟨v,sz,xs,v',a8,a9,e1,e2,rfl,e4⟩ | ⟨a1,a2,a3⟩
 ·exact⟨_,rfl⟩
 ·exact⟨_,rfl⟩
 ·exact⟨_,a3⟩
theorem Cm{g:Nat→Nat→Option (Nat×Nat)}{ver v:Nat}{b:Box}(h:b.ver? =some v):(unB g ver b).ver? =some ver∧∀l,Real (unB g ver b) l↔Real b l:=by
 cases b<;>first | exact⟨rfl,fun _=>Iff.rfl⟩ | cases h
def OffB(hp:Hp)(m:Nat→Lc)(ids:List Nat)(w:World)(k:Nat):Prop:=k<w.heap.size∧∀(j id:Nat) (b:Box),ids[j]? =some id→hp id=some b→Real b (m id)→(m id).g≠k
section
variable {m : Nat → Lc} {H : HV} {B : Nat → Prop} {H0 : HV} {gl : Nat → AV} {t : Tr Box} {nx : Nat} {w : World}
theorem RelH.offB(h:RelH m H B H0 gl (lkb t) nx w)(ids:List Nat):∀k,B k→OffB (lkb t) m ids w k:=fun k hk=>⟨h.low k hk,fun _ id b _ hb hr e=>(h.sepR id b hb hr).1 (e▸hk)⟩
theorem back_ok(h:RelH m H B H0 gl (lkb t) nx w){ids:List Nat}{a6:List Box}{ps:List (Nat×Nat)}(hn:nodN ids=true)(cu:Mf (lkb t) ids a6 nx=some ps){m':Nat→Lc}{H':HV}{w':World}
  (hH:RelH m' H' (OffB (lkb t) m ids w) H gl (lkb (hpOf 0 a6)) a6.length w') (hb:Qa (OffB (lkb t) m ids w) w w') (ca:∀(j id v:Nat) (cs:List AV),ids[j]? =some id→lkb t id=some (.cells v cs)→m' j=m id):
  ∃M,RelH M H' B H0 gl (lkb (Db (gB ps a6) t ps a6)) (nx+(a6.length - ids.length)) w'∧Env.le (Q4 (lkb t) m) (Q4 (lkb (Db (gB ps a6) t ps a6)) M)∧HV.le H H'∧
   (∀v u,RV H' (Q4 (lkb (hpOf 0 a6)) m') v u→RV H' (Q4 (lkb (Db (gB ps a6) t ps a6)) M) (mapR (gB ps a6) 12 v) u)∧Qa B w w':=by
 classical
 obtain⟨bp,df,c7⟩:=Mg cu;have ak:∀j,lkb (hpOf 0 a6) j=a6[j]? :=fun j=>by rw[Wf];simp
 have a8:∀(j id ver:Nat),ps[j]? =some (id,ver)→∃b,a6[j]? =some b∧E5 (lkb t) ids a6 nx ps j id ver b:=fun j id ver hj=>by
  have bg:j<a6.length:=by rw[← bp];exact(List.getElem?_eq_some_iff.1 hj).1
  exact⟨_,List.getElem?_eq_getElem bg,c7 j id ver _ hj (List.getElem?_eq_getElem bg)⟩
 have aw:∀id b,lkb t id=some b→id<nx:=fun id b hb=>by
  rcases Nat.lt_or_ge id nx with aw | cq
  ·exact aw
  ·have:=h.fresh id cq;rw[this] at hb;cases hb
 have ai:∀(j id ver:Nat),ps[j]? =some (id,ver)→(ids[j]? =some id∧id<nx)∨(ids.length≤j∧id=nx+(j - ids.length)):=fun j id ver hj=>by
  obtain⟨b,_,hs⟩:=a8 j id ver hj;rcases hs.here with⟨v,cs,t,cs',e1,e2,_⟩ | ⟨v,sz,xs,v',bl,bm,e1,e2,_⟩ | ⟨a1,a2,_⟩
  ·exact .inl ⟨e1,aw _ _ e2⟩
  ·exact .inl ⟨e1,aw _ _ e2⟩
  ·exact .inr ⟨a1,a2⟩
 have bo:∀(i j id v v':Nat),ps[i]? =some (id,v)→ps[j]? =some (id,v')→i=j:=fun i j id v v' hi hj=>by
  rcases ai i id v hi with⟨a1,a2⟩ | ⟨a1,a2⟩<;>rcases ai j id v' hj with⟨b1,b2⟩ | ⟨b1,b2⟩
  ·exact Iq hn a1 b1
  ·omega
  ·omega
  ·omega
 have hM:∃M:Nat→Lc,(∀(j id ver:Nat),ps[j]? =some (id,ver)→M id=m' j)∧∀(id:Nat),(∀(j v:Nat),ps[j]? ≠some (id,v))→M id=m id:=by
  refine⟨fun id=>if hx:∃(j v:Nat),ps[j]? =some (id,v) then m' hx.choose else m id,fun j id ver hj=> ?_,fun id a4=> ?_⟩
  ·have hx:∃(j v:Nat),ps[j]? =some (id,v):=⟨j,ver,hj⟩;obtain⟨v,hv⟩:=hx.choose_spec;show(if hx:∃(j v:Nat),ps[j]? =some (id,v) then m' hx.choose else m id)=m' j
   rw[dif_pos hx,bo _ j id v ver hv hj]
  ·show(if hx:∃(j v:Nat),ps[j]? =some (id,v) then m' hx.choose else m id)=m id
   rw[dif_neg];rintro⟨j,v,hj⟩;exact a4 j v hj
 obtain⟨M,ag,ah⟩:=hM;have cr:∀(j id:Nat),ids[j]? =some id→∃ver,ps[j]? =some (id,ver):=fun j id hj=>by
  have bg:=(List.getElem?_eq_some_iff.1 hj).1;have ct:j<ps.length:=by omega
  have hp:=List.getElem?_eq_getElem ct;rcases ai j ps[j].1 ps[j].2 hp with⟨a1,_⟩ | ⟨a1,_⟩
  ·rw[hj] at a1;cases a1;exact⟨_,hp⟩
  ·omega
 generalize hT:Db (gB ps a6) t ps a6=T;have af:∀(j id ver:Nat) (b:Box),ps[j]? =some (id,ver)→a6[j]? =some b→lkb T id=some (unB (gB ps a6) ver b):=fun j id ver b hj hb=>by subst hT;exact Ak bo j id ver b hj hb
 have a9:∀(id:Nat),(∀(j v:Nat),ps[j]? ≠some (id,v))→lkb T id=lkb t id:=fun id a4=>by subst hT;exact TN a4
 have bf:=h.offB ids;have ac:∀id b,lkb t id=some b→Real b (m id)→(∀(j v:Nat),ps[j]? ≠some (id,v))→OffB (lkb t) m ids w (m id).g:=fun id b hb hr a4=>⟨(h.sepR id b hb hr).2.1,fun j ce b2 hj cm cv e=>by
  have:=h.injR ce id b2 b cm hb cv hr e;subst this;obtain⟨ver,hv⟩:=cr j ce hj;exact a4 j ver hv⟩
 have bn:HV.le H H':=fun b o v hv=>by
  rw[hH.old b o ⟨U3 h.sat hv,fun j id bx _ hb hr e=>by
   have:=(h.sepR id bx hb hr).2.2 o;rw[e,hv] at this;cases this⟩]
  exact hv
 have hE:Env.le (Q4 (lkb t) m) (Q4 (lkb T) M):=by
  refine⟨fun id ver ⟨b,h1,h2⟩=> ?_,fun id ver l ⟨b,h1,h2⟩ hl=> ?_,fun id l hl=> ?_⟩
  ·by_cases hx:∃(j v:Nat),ps[j]? =some (id,v)
   ·obtain⟨j,v,hj⟩:=hx;obtain⟨b',ab,hs⟩:=a8 j id v hj;obtain⟨v0,ad⟩:=hs.ver;refine⟨_,af j id v b' hj ab,fun v1 cd=> ?_⟩
    rw[(Cm ad).1] at cd;cases cd;rcases hs.here with⟨v2,cs,t2,cs',e1,e2,_,e4,_⟩ | ⟨v2,sz,xs,v',bl,bm,e1,e2,_,e4⟩ | ⟨a1,a2,_⟩
    ·rw[h1] at e2;cases e2;rw[e4];exact h2 _ rfl
    ·rw[h1] at e2;cases e2;rw[e4];exact Nat.le_trans (h2 _ rfl) (Nat.le_add_right _ _)
    ·have:=aw _ _ h1;omega
   ·have a4:∀(j v:Nat),ps[j]? ≠some (id,v):=fun j v hj=>hx ⟨j,v,hj⟩
    exact⟨b,by rw[a9 id a4];exact h1,h2⟩
  ·by_cases hx:∃(j v:Nat),ps[j]? =some (id,v)
   ·obtain⟨j,v,hj⟩:=hx;obtain⟨b',ab,hs⟩:=a8 j id v hj;obtain⟨v0,ad⟩:=hs.ver;have au:=af j id v b' hj ab;simp only[Q4,au,(Cm ad).1] at hl;split at hl
    ·rename_i hv;subst hv;rcases hs.here with⟨v2,cs,t2,cs',e1,e2,_,e4,_⟩ | ⟨v2,sz,xs,v',bl,bm,e1,e2,_,e4⟩ | ⟨a1,a2,_⟩
     ·cases hl;rw[ag j id _ hj,ca j id v2 cs e1 e2,e4];exact G6 e2 rfl
     ·rw[h1] at e2;cases e2;have:=h2 _ rfl;omega
     ·have:=aw _ _ h1;omega
    ·cases hl
   ·have a4:∀(j v:Nat),ps[j]? ≠some (id,v):=fun j v hj=>hx ⟨j,v,hj⟩
    simp only[Q4,a9 id a4,ah id a4] at hl ⊢;exact hl
  ·by_cases hx:∃(j v:Nat),ps[j]? =some (id,v)
   ·obtain⟨j,v,hj⟩:=hx;obtain⟨b',ab,hs⟩:=a8 j id v hj;rcases hs.here with⟨v2,cs,t2,cs',e1,e2,_,e4,_⟩ | ⟨v2,sz,xs,v',bl,bm,e1,e2,_,e4⟩ | ⟨a1,a2,_⟩
    ·simp only[Q4,e2] at hl;cases hl
    ·simp only[Q4,e2] at hl;cases hl
    ·have:=h.fresh id (by omega)
     simp only[Q4,this] at hl;cases hl
   ·have a4:∀(j v:Nat),ps[j]? ≠some (id,v):=fun j v hj=>hx ⟨j,v,hj⟩
    simp only[Q4,a9 id a4,ah id a4] at hl ⊢;exact hl
 have b7:∀(v:AV) (u:Value),RV H' (Q4 (lkb (hpOf 0 a6)) m') v u→RV H' (Q4 (lkb T) M) (mapR (gB ps a6) 12 v) u:=fun v u hv=>by
  refine SG (fun j tv id ver hg=> ?_) 12 v u hv
  unfold gB at hg;split at hg
  ·rename_i p hp;split at hg
   ·rename_i b hb;split at hg
    ·rename_i v0 ad;split at hg
     ·rename_i cn;cases hg;obtain rfl:=Nat.eq_of_beq_eq_true cn;have au:=af j id ver b hp hb;refine⟨Fa au (Cm ad).1,fun l hl=> ?_⟩
      rw[G6 au (Cm ad).1,ag j id ver hp] at hl;rw[G6 (by rw[ak];exact hb) ad];exact hl
     ·cases hg
    ·cases hg
   ·cases hg
  ·cases hg
 refine⟨M,{sat:=hH.sat,old:=fun b o hB=> ?_,low:=fun b hB=>Nat.lt_of_lt_of_le (h.low b hB) hb.size,fresh:=fun id a7=> ?_,box:=fun id b a7=> ?_,sepR:=fun id b a7 hr=> ?_,injR:=fun i j b1 b2 h1 h2 r1 r2 he=> ?_,gv:=h.gv.mono fun k hk=>hb.block k (bf k hk),gl:=hH.gl,ty:=fun id v cs a7=> ?_},hE,bn,b7,hb.mono bf⟩
 ·rw[hH.old b o (bf b hB)];exact h.old b o hB
 ·rw[a9 id fun j v hj=> ?_]
  ·exact h.fresh id (by omega)
  ·have bg:j<a6.length:=by rw[← bp];exact(List.getElem?_eq_some_iff.1 hj).1
   rcases ai j id v hj with⟨_,a2⟩ | ⟨a1,a2⟩<;>omega
 ·by_cases hx:∃(j v:Nat),ps[j]? =some (id,v)
  ·obtain⟨j,v,hj⟩:=hx;obtain⟨b',ab,hs⟩:=a8 j id v hj;obtain⟨v0,ad⟩:=hs.ver;rw[af j id v b' hj ab] at a7;cases a7;rw[ag j id v hj];have bz:=hH.box j b' (by rw[ak];exact ab)
   cases b' with
   |cells v2 cs=>
    obtain⟨C,e,c1,c2,c3,c4⟩:=bz;refine⟨C,e,c1,c2,by simpa using c3,fun i c hc=> ?_⟩
    rw[List.getElem?_map,Option.map_eq_some_iff] at hc;obtain⟨c0,co,rfl⟩:=hc;obtain⟨u,b1,b2,b3⟩:=c4 i c0 co;exact⟨u,b1,b2,b7 c0 u b3⟩
   |own v2 sz xs=>exact bz
   |hol v2 sz xs i c r=>
    obtain⟨d1,d2,d3,d4,d5,C,e,c1,c2,c3,c4,u,b1,b2,b3⟩:=bz;exact⟨d1,d2,d3,d4,d5,C,e,c1,c2,c3,c4,u,b1,b2,b7 r u b3⟩
   |_=>cases ad
  ·have a4:∀(j v:Nat),ps[j]? ≠some (id,v):=fun j v hj=>hx ⟨j,v,hj⟩
   rw[a9 id a4] at a7;rw[ah id a4];exact(h.box id b a7).mono' bn hE fun hr=>hb.block _ (ac id b a7 hr a4)
 ·by_cases hx:∃(j v:Nat),ps[j]? =some (id,v)
  ·obtain⟨j,v,hj⟩:=hx;obtain⟨b',ab,hs⟩:=a8 j id v hj;obtain⟨v0,ad⟩:=hs.ver;rw[af j id v b' hj ab] at a7;cases a7;rw[ag j id v hj] at hr ⊢;obtain⟨x,y,z⟩:=hH.sepR j b' (by rw[ak];exact ab) (((Cm ad).2 _).1 hr)
   exact⟨fun hB=>x (bf _ hB),y,z⟩
  ·have a4:∀(j v:Nat),ps[j]? ≠some (id,v):=fun j v hj=>hx ⟨j,v,hj⟩
   rw[a9 id a4] at a7;rw[ah id a4] at hr ⊢;obtain⟨x,y,z⟩:=h.sepR id b a7 hr;exact⟨x,Nat.lt_of_lt_of_le y hb.size,fun o=>by rw[hH.old _ o (ac id b a7 hr a4)];exact z o⟩
 ·by_cases hx:∃(k v:Nat),ps[k]? =some (i,v)<;>by_cases hy:∃(k v:Nat),ps[k]? =some (j,v)
  ·obtain⟨k1,v1,ap⟩:=hx;obtain⟨k2,v2,aj⟩:=hy;obtain⟨c1,b5,c5⟩:=a8 k1 i v1 ap;obtain⟨c2,b6,c6⟩:=a8 k2 j v2 aj;obtain⟨u1,c8⟩:=c5.ver;obtain⟨u2,c9⟩:=c6.ver;rw[af k1 i v1 c1 ap b5] at h1;rw[af k2 j v2 c2 aj b6] at h2;cases h1;cases h2;rw[ag k1 i v1 ap] at r1 he;rw[ag k2 j v2 aj] at r2 he;have:=hH.injR k1 k2 c1 c2 (by rw[ak];exact b5) (by rw[ak];exact b6) (((Cm c8).2 _).1 r1) (((Cm c9).2 _).1 r2) he
   subst this;rw[ap] at aj;cases aj;rfl
  ·obtain⟨k1,v1,ap⟩:=hx;obtain⟨c1,b5,c5⟩:=a8 k1 i v1 ap;obtain⟨u1,c8⟩:=c5.ver;have a4:∀(k v:Nat),ps[k]? ≠some (j,v):=fun k v hk=>hy ⟨k,v,hk⟩
   rw[af k1 i v1 c1 ap b5] at h1;rw[a9 j a4] at h2;cases h1;rw[ag k1 i v1 ap] at r1 he;rw[ah j a4] at r2 he;exact absurd (by rw[he];exact ac j b2 h2 r2 a4) (hH.sepR k1 c1 (by rw[ak];exact b5) (((Cm c8).2 _).1 r1)).1
  ·obtain⟨k2,v2,aj⟩:=hy;obtain⟨c2,b6,c6⟩:=a8 k2 j v2 aj;obtain⟨u2,c9⟩:=c6.ver;have a4:∀(k v:Nat),ps[k]? ≠some (i,v):=fun k v hk=>hx ⟨k,v,hk⟩
   rw[af k2 j v2 c2 aj b6] at h2;rw[a9 i a4] at h1;cases h2;rw[ag k2 j v2 aj] at r2 he;rw[ah i a4] at r1 he;exact absurd (by rw[← he];exact ac i b1 h1 r1 a4) (hH.sepR k2 c2 (by rw[ak];exact b6) (((Cm c9).2 _).1 r2)).1
  ·have bq:∀(k v:Nat),ps[k]? ≠some (i,v):=fun k v hk=>hx ⟨k,v,hk⟩
   have br:∀(k v:Nat),ps[k]? ≠some (j,v):=fun k v hk=>hy ⟨k,v,hk⟩
   rw[a9 i bq] at h1;rw[a9 j br] at h2;rw[ah i bq] at r1 he;rw[ah j br] at r2 he;exact h.injR i j b1 b2 h1 h2 r1 r2 he
 ·by_cases hx:∃(j v:Nat),ps[j]? =some (id,v)
  ·obtain⟨j,v1,hj⟩:=hx;obtain⟨b',ab,hs⟩:=a8 j id v1 hj;rw[af j id v1 b' hj ab] at a7;rw[ag j id v1 hj];rcases hs.here with⟨v2,d7,t2,cs',e1,e2,rfl,e4,e5⟩ | ⟨v2,sz,xs,v',bl,bm,e1,e2,rfl,e4⟩ | ⟨a1,a2,a3⟩
   ·simp only[unB,Option.some.injEq,Box.cells.injEq] at a7;obtain⟨rfl,_⟩:=a7;have:=hH.ty j t2 cs' (by rw[ak];exact ab)
    unfold TyOk at this ⊢;rw[e4,e5];rw[← e5,Nat.mod_mod,e5] at this;exact this
   ·simp only[unB,Option.some.injEq,reduceCtorEq] at a7
   ·cases b' with
    |cells v3 cs3=>
     cases a3;simp only[unB,Option.some.injEq,Box.cells.injEq] at a7;obtain⟨rfl,_⟩:=a7;exact hH.ty j _ cs3 (by rw[ak];exact ab)
    |own=>simp only[unB,Option.some.injEq,reduceCtorEq] at a7
    |hol=>simp only[unB,Option.some.injEq,reduceCtorEq] at a7
    |_=>cases a3
  ·have a4:∀(j v:Nat),ps[j]? ≠some (id,v):=fun j v hj=>hx ⟨j,v,hj⟩
   rw[a9 id a4] at a7;rw[ah id a4];exact(h.ty id v cs a7).mono (hb.block _ (ac id _ a7 trivial a4))
end
end HY
end
section
namespace HY
open Go Go.RowKit
def WX(o:Oper)(gv:Option AV):Option Bool:=
 match o.guard with
 |none=>some true
 |some (_,want)=>match gv with
  |some x=>Mi x want
  |none=>none
theorem Lu{P:Program}{ch:Yv}{md:Bool}{F:Zj}{all:List Oper}{bid:Nat}{o:Oper}{gv:Option AV}{ev:Operand→AV}{hp:Hp}:VB P ch md F all bid o gv ev hp=match WX o gv with | some true=>xoF P ch md F all bid o ev hp | some false=>some (.tup [],none) | none=>none:=by
 unfold VB WX;cases o.guard with
 |none=>rfl
 |some x=>
  cases gv with
  |none=>rfl
  |some y=>first | (simp only;done) | (simp only;cases Mi y x.2 with | none=>rfl | some b=>cases b<;>rfl)
def NT(f:AV→(AV→Prop)→Prop):List AV→(List AV→Prop)→Prop
 | [],K=>K []
 |x::xs,K=>f x (fun y=>NT f xs (fun ys=>K (y::ys)))
def Mn(hp:Hp):Nat→AV→(AV→Prop)→Prop
 |0,_,_=>False
 |k+1,x,K=>match x with
  | .bs id ver sz off len=>match hp id with
   |some (.cells v cs)=>match Nat.beq v ver&& (Nat.ble (off+len*sz) cs.length&&Nat.blt 0 sz) with
    |true=>NT (Mn hp k) ((cs.drop off).take (len*sz)) (fun ds=>K (.sl sz (JP sz len ds)))
    |false=>False
   |_=>False
  | .ow id ver sz len=>match hp id with
   |some (.own v z xs)=>match Nat.beq v ver&&Nat.beq z sz with
    |true=>len=xs.length∧K (.sl sz xs)
    |false=>False
   |_=>False
  | .agg cs=>NT (Mn hp k) cs (fun ds=>K (.agg ds))
  | .tup cs=>NT (Mn hp k) cs (fun ds=>K (.tup ds))
  | .fn f cs=>NT (Mn hp k) cs (fun ds=>K (.fn f ds))
  | .ptr id ver off=>match hp id with
   |some (.cells v cs)=>match Nat.beq v ver&&Nat.blt 0 cs.length with
    |true=>NT (Mn hp k) cs (fun ds=>K (.ip cs.length [.agg ds] 0 off))
    |false=>False
   |_=>False
  | .oe .. =>False
  | .yld _=>False
  | .mp _=>False
  |x=>K x
theorem DS{R:AV→Value→Prop}{R':AV→Value→Prop}{f:AV→(AV→Prop)→Prop}(hf:∀x u K,R x u→f x K→∃t,K t∧R' t u):∀(cs:List AV) (us:List Value) (K:List AV→Prop),cs.length≤us.length→(∀(j:Nat) (c:AV) (u:Value),cs[j]? =some c→us[j]? =some u→R c u)→NT f cs K→
  ∃ds,K ds∧ds.length=cs.length∧∀(j:Nat) (d:AV) (u:Value),ds[j]? =some d→us[j]? =some u→R' d u
 | [],us,K,_,_,h=>⟨[],h,rfl,fun j d u hj=>by simp at hj⟩
 |c::cs,[],K,hl,_,_=>by simp at hl
 |c::cs,u::us,K,hl,hr,h=>by
  obtain⟨t,ht,hR⟩:=hf c u _ (hr 0 c u rfl rfl) h;obtain⟨ds,hK,a5,a6⟩:=DS hf cs us _ (by simpa using hl) (fun j c' u' h1 h2=>hr (j+1) c' u' (by simpa using h1) (by simpa using h2)) ht
  refine⟨t::ds,hK,by simp[a5],fun j d u' h1 h2=> ?_⟩
  cases j with
  |zero=>simp at h1 h2;subst h1;subst h2;exact hR
  |succ j=>exact a6 j d u' (by simpa using h1) (by simpa using h2)
theorem bs_tree{K:HV}{E:Env}{H:HV}{w:World}{id ver sz off len:Nat}{cs ds:List AV}{l:Lc}{v:Value}(hx:RV H E (.bs id ver sz off len) v)(hE:E.loc id ver=some l)(ac:Vp H E cs l w)(ay:off+len*sz≤cs.length)(ah:0<sz)(ao:ds.length=len*sz)
  (ae:∀(j:Nat) (d:AV) (u:Value),ds[j]? =some d→w.cell? ⟨l.g,l.base+(off+j),none⟩=some u→RelI K d u) (hK:∀o,K l.g o=w.cell? ⟨l.g,o,none⟩):RelI K (.sl sz (JP sz len ds)) v:=by
 obtain⟨a,cap,rfl,_,ap,aj,af⟩:=hx.bs_inv;obtain⟨rfl,ar⟩:=af _ hE;obtain⟨C,e,hC,b0,au,am⟩:=ac;have aa:(JP sz len ds).length=len:=by simp[JP]
 have ad:∀(i:Nat) (x:AV),(JP sz len ds)[i]? =some x→i<len∧x= .agg ((ds.drop (i*sz)).take sz):=fun i x hx=>by
  have hi:i<len:=by rw[← aa];exact(List.getElem?_eq_some_iff.1 hx).1
  simp[JP,hi] at hx;exact⟨hi,hx.symm⟩
 have ag:∀i,i<len→i*sz+sz≤len*sz:=fun i hi=>by
  have:(i+1)*sz≤len*sz:=Nat.mul_le_mul_right _ hi;rw[Nat.add_mul] at this;omega
 have a5:∀(i:Nat) (x:AV) (j:Nat) (c:AV),(JP sz len ds)[i]? =some x→x.cells[j]? =some c→i<len∧j<sz∧ds[i*sz+j]? =some c:=fun i x j c hx hj=>by
  obtain⟨hi,rfl⟩:=ad i x hx;simp only[AV.cells] at hj;have a8:j<sz:=by have:=(List.getElem?_eq_some_iff.1 hj).1;simp at this;omega
  rw[List.getElem?_take,if_pos a8,List.getElem?_drop] at hj;exact⟨hi,a8,hj⟩
 have a6:∀(n:Nat) (c:AV),ds[n]? =some c→∃u,C[l.base+off+n]? =some u∧u.oneCell'=true∧RelI K c u:=fun n c hn=>by
  have az:n<len*sz:=by rw[← ao];exact(List.getElem?_eq_some_iff.1 hn).1
  have ak:cs[off+n]? =some (cs[off+n]'(by omega)):=List.getElem?_eq_getElem (by omega)
  obtain⟨u,a1,a2,a3⟩:=am _ _ ak;exact⟨u,by rw[Nat.add_assoc];exact a1,a2,ae n c u hn (by rw[Xr _ _ _ _ _ _ hC];exact a1)⟩
 have:=RelI.sl (H:=K) sz (JP sz len ds) l.g (l.base+off) cap (fun i j=>(C[l.base+off+(i*sz+j)]?).getD Go.undef) ah (by rw[aa];exact ap) aj
  (fun i x hx=>by
   obtain⟨hi,rfl⟩:=ad i x hx;have:=ag i hi;simp[AV.cells];omega)
  (fun i x j c hx hj=>by
   obtain⟨hi,a8,hn⟩:=a5 i x j c hx hj;obtain⟨u,a1,a2,a3⟩:=a6 _ c hn;rw[a1];refine⟨?_,a2⟩;rw[hK,Xr _ _ _ _ _ _ hC,Nat.add_assoc,a1];rfl)
  (fun i x j c hx hj=>by
   obtain⟨hi,a8,hn⟩:=a5 i x j c hx hj;obtain⟨u,a1,a2,a3⟩:=a6 _ c hn;rw[a1];exact a3)
 rw[aa] at this;exact this
theorem RS{H:HV}{hp:Hp}{m:Nat→Lc}{w:World}(ac:∀id b,hp id=some b→Yk H (Q4 hp m) b (m id) w)(hd:∀id bx,hp id=some bx→Real bx (m id)→∀o,H (m id).g o=none):∀(k:Nat) (x:AV) (v:Value) (K:AV→Prop),RV H (Q4 hp m) x v→Mn hp k x K→∃t,K t∧RelI (snap H hp m w) t v
 |0,x,v,K,_,h=>h.elim
 |k+1,x,v,K,hx,h=>by
  have ih:=RS ac hd k;have ar:HV.le H (snap H hp m w):=LS hd;have ao:∀id b ver,hp id=some b→b.ver? =some ver→Real b (m id)→∀o,snap H hp m w (m id).g o=w.cell? ⟨(m id).g,o,none⟩:=fun id b ver a4 hv hr o=>by
   unfold snap;rw[if_pos ⟨id,b,ver,a4,hv,hr,rfl⟩]
  unfold Mn at h;split at h
  ·rename_i id ver sz off len;split at h
   ·rename_i v' cs a4;split at h
    ·rename_i hc;simp only[Bool.and_eq_true] at hc;obtain rfl:=Nat.eq_of_beq_eq_true hc.1;have au:=Nat.le_of_ble_eq_true hc.2.1;have ag:0<sz:=Nat.le_of_ble_eq_true hc.2.2;have hb:=ac id _ a4;obtain⟨C,e,hC,ax,ak,af⟩:=hb;obtain⟨ds,hK,a7,aa⟩:=DS (R:=RV H (Q4 hp m)) (R':=RelI (snap H hp m w)) ih ((cs.drop off).take (len*sz)) ((List.range (len*sz)).map fun j=>(C[(m id).base+(off+j)]?).getD Go.undef) _ (by simp;omega) (fun j c u hc hu=>by
      have a8:j<len*sz:=by have:=(List.getElem?_eq_some_iff.1 hu).1;simpa using this
      rw[List.getElem?_take,if_pos a8,List.getElem?_drop] at hc;obtain⟨u',a1,_,a3⟩:=af _ c hc;simp[a8,a1] at hu;subst hu;exact a3) h
     have aj:ds.length=len*sz:=by rw[a7];simp;omega
     refine⟨_,hK,bs_tree hx (G6 a4 rfl) ⟨C,e,hC,ax,ak,af⟩ au ag aj (fun j d u hj hu=> ?_) (ao id _ _ a4 rfl trivial)⟩
     have a8:j<len*sz:=by rw[← aj];exact(List.getElem?_eq_some_iff.1 hj).1
     rw[Xr _ _ _ _ _ _ hC] at hu;exact aa j d u hj (by simp[a8,hu])
    ·cases h
   ·cases h
  ·rename_i id ver sz len;split at h
   ·rename_i v' z xs a4;split at h
    ·rename_i hc;rw[Bool.and_eq_true] at hc;obtain rfl:=Nat.eq_of_beq_eq_true hc.1;obtain rfl:=Nat.eq_of_beq_eq_true hc.2;obtain⟨hl,hK⟩:=h;exact⟨_,hK,RE (w:=w) hx (G6 a4 rfl) (ac id _ a4) hl ar fun h0 o=>ao id _ _ a4 rfl h0 o⟩
    ·cases h
   ·cases h
  ·rename_i cs;obtain⟨vs,rfl,h1,h2,h3⟩:=hx.agg_inv;obtain⟨ds,hK,a7,aa⟩:=DS (R:=RV H (Q4 hp m)) (R':=RelI (snap H hp m w)) ih cs vs.toList _ (by simp[h1]) (fun j c u hc hu=>h3 j c u hc (by simpa using hu)) h
   exact⟨_,hK,.agg ds vs (by rw[a7];exact h1) h2 fun j c u hj hu=>aa j c u hj (by simpa using hu)⟩
  ·rename_i cs;obtain⟨vs,rfl,h1,h3⟩:=hx.tup_inv;obtain⟨ds,hK,a7,aa⟩:=DS (R:=RV H (Q4 hp m)) (R':=RelI (snap H hp m w)) ih cs vs.toList _ (by simp[h1]) (fun j c u hc hu=>h3 j c u hc (by simpa using hu)) h
   exact⟨_,hK,.tup ds vs (by rw[a7];exact h1) fun j c u hj hu=>aa j c u hj (by simpa using hu)⟩
  ·rename_i f cs;obtain⟨vs,rfl,h1,h3⟩:=hx.fn_inv;obtain⟨ds,hK,a7,aa⟩:=DS (R:=RV H (Q4 hp m)) (R':=RelI (snap H hp m w)) ih cs vs.toList _ (by simp[h1]) (fun j c u hc hu=>h3 j c u hc (by simpa using hu)) h
   exact⟨_,hK,.fn f ds vs (by rw[a7];exact h1) fun j c u hj hu=>aa j c u hj (by simpa using hu)⟩
  ·rename_i id ver off;split at h
   ·rename_i v' cs a4;split at h
    ·rename_i hc;simp only[Bool.and_eq_true] at hc;obtain rfl:=Nat.eq_of_beq_eq_true hc.1;have ag:0<cs.length:=Nat.le_of_ble_eq_true hc.2;obtain⟨C,e,hC,ax,ak,af⟩:=ac id _ a4;obtain⟨ds,hK,a7,aa⟩:=DS (R:=RV H (Q4 hp m)) (R':=RelI (snap H hp m w)) ih cs ((List.range cs.length).map fun j=>(C[(m id).base+j]?).getD Go.undef) _ (by simp) (fun j c u hc hu=>by
      have a8:j<cs.length:=by have:=(List.getElem?_eq_some_iff.1 hu).1;simpa using this
      obtain⟨u',a1,_,a3⟩:=af _ c hc;simp[a8,a1] at hu;subst hu;exact a3) h
     obtain⟨a,rfl,_,aw⟩:=hx.ptr_inv;obtain rfl:=aw _ (G6 a4 rfl);have am:∀(i:Nat) (x:AV),[AV.agg ds][i]? =some x→i=0∧x= .agg ds:=fun i x hx=>by
      cases i with
      |zero=>simp at hx;exact⟨rfl,hx.symm⟩
      |succ i=>simp at hx
     have ae:∀(i:Nat) (x:AV) (j:Nat) (c:AV),[AV.agg ds][i]? =some x→x.cells[j]? =some c→i=0∧j<cs.length∧ds[j]? =some c:=fun i x j c hx hj=>by
      obtain⟨rfl,rfl⟩:=am i x hx;exact⟨rfl,by rw[← a7];exact(List.getElem?_eq_some_iff.1 hj).1,hj⟩
     have ah:∀(j:Nat) (c:AV),j<cs.length→ds[j]? =some c→∃u,C[(m id).base+j]? =some u∧u.oneCell'=true∧RelI (snap H hp m w) c u:=fun j c hj hc=>by
      obtain⟨u,a1,a2,_⟩:=af j _ (List.getElem?_eq_getElem hj);exact⟨u,a1,a2,aa j c u hc (by simp[hj,a1])⟩
     have:=RelI.ip (H:=snap H hp m w) cs.length [.agg ds] (m id).g (m id).base 0 off (fun _ j=>(C[(m id).base+j]?).getD Go.undef) ag (by simp)
      (fun i x hx=>by obtain⟨_,rfl⟩:=am i x hx;exact a7)
      (fun i x j c hx hj=>by
       obtain⟨rfl,a8,hn⟩:=ae i x j c hx hj;obtain⟨u,a1,a2,a3⟩:=ah j c a8 hn;rw[a1];refine⟨?_,a2⟩;rw[ao id _ _ a4 rfl trivial,Xr _ _ _ _ _ _ hC,Nat.zero_mul,Nat.add_zero,a1];rfl)
      (fun i x j c hx hj=>by
       obtain⟨rfl,a8,hn⟩:=ae i x j c hx hj;obtain⟨u,a1,a2,a3⟩:=ah j c a8 hn;rw[a1];exact a3)
     rw[Nat.zero_mul,Nat.add_zero] at this;exact⟨_,hK,this⟩
    ·cases h
   ·cases h
  ·cases h
  ·cases h
  ·cases h
  ·rename_i x n1 n2 n3 n4 n5 n6 n7 n8 n9;refine⟨_,h,?_⟩;cases hx with
   |imm _ _ hx=>exact hx.mono ar
   |ptr=>exact absurd rfl (n6 _ _ _)
   |bs=>exact absurd rfl (n1 _ _ _ _ _)
   |ow=>exact absurd rfl (n2 _ _ _ _)
   |oe=>exact absurd rfl (n7 _ _ _ _ _)
   |yld=>exact absurd rfl (n8 _)
   |mp=>exact absurd rfl (n9 _)
   |fn=>exact absurd rfl (n5 _ _)
   |agg=>exact absurd rfl (n3 _)
   |tup=>exact absurd rfl (n4 _)
end HY
end
section
namespace HY
open Go Go.RowKit
theorem PL{H:HV}{m:Nat→Lc}:∀ {x:AV} {v:Value},RV H (Q4 (lkb .nil) m) x v→RelI H x v:=by
 intro x v h
 induction h with
 |imm _ _ h=>exact h
 |ptr id ver off a hal=>obtain⟨b,hb,_⟩:=hal;rw[Zq] at hb;cases hb
 |bs id ver sz off len a cap hal=>obtain⟨b,hb,_⟩:=hal;rw[Zq] at hb;cases hb
 |ow id ver sz len a cap hal=>obtain⟨b,hb,_⟩:=hal;rw[Zq] at hb;cases hb
 |oe id ver sz i off a hal=>obtain⟨b,hb,_⟩:=hal;rw[Zq] at hb;cases hb
 |yld id l hl=>simp[Q4,Zq] at hl
 |mp id l hl=>simp[Q4,Zq] at hl
 |fn f cs vs h _ ih=>exact .fn f cs vs h ih
 |agg cs vs h h1 _ ih=>exact .agg cs vs h h1 ih
 |tup cs vs h _ ih=>exact .tup cs vs h ih
structure LeT (x t:AV):Prop where
 ok:∀(H:HV) (v:Value),RelI H x v→RelI H t v
theorem LeT.refl(x:AV):LeT x x:=⟨fun _ _ h=>h⟩
theorem LeT.nil(sz:Nat):LeT .nil (.sl sz []):=⟨fun H v h=>by cases h;exact .sl0 _ _ _ (Nat.zero_le _)⟩
inductive LeL:List AV→List AV→Prop
 |nil:LeL [] []
 |cons {x t:AV} {xs ts:List AV}:LeT x t→LeL xs ts→LeL (x::xs) (t::ts)
theorem LeL.get:∀ {xs ts:List AV},LeL xs ts→xs.length=ts.length∧∀(j:Nat) (t:AV),ts[j]? =some t→∃x,xs[j]? =some x∧LeT x t
 |_,_,.nil=>⟨rfl,fun j t h=>by simp at h⟩
 |_,_,.cons h r=>⟨by simp[r.get.1],fun j t' hj=>by
  cases j with
  |zero=>simp at hj;subst hj;exact⟨_,rfl,h⟩
  |succ j=>simpa using r.get.2 j t' (by simpa using hj)⟩
theorem LeL.refl:∀(xs:List AV),LeL xs xs
 | []=>.nil
 |x::xs=>.cons (.refl x) (LeL.refl xs)
theorem LeT.agg{xs ts:List AV}(h:LeL xs ts):LeT (.agg xs) (.agg ts):=⟨fun H v hv=>by
 obtain⟨h1,h2⟩:=h.get;cases hv with
 |agg _ vs a b c=>
  exact .agg _ vs (by rw[← h1];exact a) b fun j t u hj hu=>by
   obtain⟨x,hx,a3⟩:=h2 j t hj;exact a3.ok H u (c j x u hx hu)⟩
theorem LeT.tup{xs ts:List AV}(h:LeL xs ts):LeT (.tup xs) (.tup ts):=⟨fun H v hv=>by
 obtain⟨h1,h2⟩:=h.get;cases hv with
 |tup _ vs a c=>
  exact .tup _ vs (by rw[← h1];exact a) fun j t u hj hu=>by
   obtain⟨x,hx,a3⟩:=h2 j t hj;exact a3.ok H u (c j x u hx hu)⟩
theorem Pu.le{P:Program}{gl:Nat→AV}{f:Nat}{args a3:List AV}{r r':AV}(h:Pu P gl f a3 r)(ha:LeL args a3)(hr:LeT r r'):Pu P gl f args r':=⟨fun m H B H0 w vs hh hl hv=>by
 obtain⟨h1,h2⟩:=ha.get;refine(h.ok m H B H0 w vs hh (by rw[← h1];exact hl) fun j x v hx a5=> ?_).mono fun e w' ⟨v,m',H',a,b,c,d⟩=>⟨v,m',H',a,b,c,.imm _ _ (hr.ok _ _ (PL d))⟩
 obtain⟨y,hy,a4⟩:=h2 j x hx;exact .imm _ _ (a4.ok _ _ (PL (hv j y v hy a5)))⟩
def DR:Nat→List Box→List AV
 |_,[]=>[]
 |j,b::r=>match b with
  | .cells t _=>.ptr j t 0::DR (j+1) r
  |_=>DR (j+1) r
def NC(m:Nat→Lc):Nat→List Box→List (AV×Value)
 |_,[]=>[]
 |j,b::r=>match b with
  | .cells t _=>(.ptr j t 0,.pointer (some ⟨(m j).g,(m j).base,none⟩))::NC m (j+1) r
  |_=>NC m (j+1) r
theorem Af{m:Nat→Lc}:∀(j:Nat) (bs:List Box),(NC m j bs).map (·.1)=DR j bs
 |_,[]=>rfl
 |j,b::r=>by
  cases b<;>simp only[NC,DR,List.map_cons,Af (j+1) r]
theorem Ag{m:Nat→Lc}:∀(k:Nat) (bs:List Box) (p:AV×Value),p∈NC m k bs→∃j t cs,bs[j]? =some (.cells t cs)∧p=(.ptr (k+j) t 0,.pointer (some ⟨(m (k+j)).g,(m (k+j)).base,none⟩))
 |_,[],p,h=>by simp[NC] at h
 |k,b::r,p,h=>by
  have tl:p∈NC m (k+1) r→∃j t cs,(b::r)[j]? =some (.cells t cs)∧p=(.ptr (k+j) t 0,.pointer (some ⟨(m (k+j)).g,(m (k+j)).base,none⟩)):=fun h=>by
   obtain⟨j,t,cs,h1,h2⟩:=Ag (k+1) r p h;refine⟨j+1,t,cs,by simpa using h1,?_⟩
   rw[show k+(j+1)=k+1+j by omega];exact h2
  cases b with
  |cells t cs=>
   simp only[NC,List.mem_cons] at h;rcases h with rfl | h
   ·exact⟨0,t,cs,rfl,rfl⟩
   ·exact tl h
  |_=>exact tl h
theorem Py{m:Nat→Lc}:∀(k:Nat) (bs:List Box) (j t:Nat) (cs:List AV),bs[j]? =some (.cells t cs)→((.ptr (k+j) t 0,.pointer (some ⟨(m (k+j)).g,(m (k+j)).base,none⟩)):AV×Value)∈NC m k bs
 |_,[],j,t,cs,h=>by simp at h
 |k,b::r,j,t,cs,h=>by
  cases j with
  |zero=>
   simp at h;subst h;exact List.mem_cons_self
  |succ j=>
   have ih:=Py (m:=m) (k+1) r j t cs (by simpa using h)
   rw[show k+1+j=k+(j+1) by omega] at ih
   cases b with
   |cells t0 cs0=>exact List.mem_cons_of_mem _ ih
   |_=>exact ih
structure PuH (P:Program) (gl:Nat→AV) (f:Nat) (args:List AV) (bs:List Box) (r:AV) (bs':List Box):Prop where
 ok:∀(m:Nat→Lc) (H:HV) (B:Nat→Prop) (H0:HV) (rest:List (AV×Value)) (w:World) (vs:Array Value),RelH m H B H0 gl (lkb (hpOf 0 bs)) bs.length w→args.length=vs.size→
  (∀(j:Nat) (x:AV) (v:Value),args[j]? =some x→vs[j]? =some v→RV H (Q4 (lkb (hpOf 0 bs)) m) x v)→rest.map (·.1)=DR 0 bs→(∀p∈rest,RV H (Q4 (lkb (hpOf 0 bs)) m) p.1 p.2)→
  Ans P f vs w fun e w'=>∃v m' H',e= .returned v∧Qa B w w'∧RelH m' H' B H0 gl (lkb (hpOf 0 bs')) bs'.length w'∧RV H' (Q4 (lkb (hpOf 0 bs')) m') r v∧∀p∈rest,RV H' (Q4 (lkb (hpOf 0 bs')) m') p.1 p.2
theorem PuH.zero{P:Program}{gl:Nat→AV}{f:Nat}{args:List AV}{r:AV}{a3:List Box}(h:PuH P gl f args [] r a3):K3 P gl f args r (hpOf 0 a3) a3.length:=fun m H B H0 w vs hh hl hv=>
 (h.ok m H B H0 [] w vs hh hl hv rfl (fun p hp=>by simp at hp)).mono fun e w' ⟨v,m',H',a,b,c,d,_⟩=>⟨v,m',H',a,b,c,d⟩
def wgive1(kb:List KB)(n:Nat)(Q:List AV→List Box→List Nat→St→Prop)(sc:St):Prop:=
 match nodN (Gr sc kb) with
 |true=>match Er (lkb sc.hp) (Gr sc kb) (Gr sc kb) with
  |some bs=>Q ((List.range n).map fun k=>ren (lkb sc.hp) (Gr sc kb) 12 (sc.get k)) bs (Gr sc kb) sc
  |none=>False
 |false=>False
def Fj(kb:List KB)(args:List AV)(hp:Tr Box)(nx:Nat)(Q:List AV→List Box→List Nat→St→Prop):Prop:=
 KZ kb ⟨args.length,Yc 0 args,hp,nx⟩ (wgive1 kb args.length Q)
def TR(ids:List Nat)(sc:St)(a3:List Box)(r:AV)(K:AV→Tr Box→Nat→Prop):Prop:=
 match Mf (lkb sc.hp) ids a3 sc.nx with
 |some ps=>K (mapR (gB ps a3) 12 r) (Db (gB ps a3) sc.hp ps a3) (sc.nx+(a3.length - ids.length))
 |none=>False
section
variable {P : Program} {gl : Nat → AV} {m : Nat → Lc} {H : HV} {B : Nat → Prop} {H0 : HV} {rest : List (AV × Value)} {st : St} {a : Act} {w : World}
theorem FT(h:RelS m H B H0 gl rest st a.tmps w){dst:Option Nat}(hd:QC dst st.n=true){f:Nat}{args:List AV}{vs:Array Value}(hl:args.length=vs.size)(hv:∀(j:Nat) (x:AV) (v:Value),args[j]? =some x→vs[j]? =some v→RV H (st.env m) x v)
  {kb:List KB} {K:St→Prop} {Q:List AV→List Box→List Nat→St→Prop}
  (hQ:∀a5 au ids sc,Q a5 au ids sc→∃r a4,PuH P gl f a5 au r a4∧TR ids sc a4 r (fun rr hp' nx'=>K ((st.setHp hp' nx').putO dst rr)))
  (hw:Fj kb args st.hp st.nx Q):
  Ans P f vs w fun e w'=>∃st' v m' H',K st'∧e= .returned v∧Qa B w w'∧RelS m' H' B H0 gl rest st' (a.put dst v).tmps w':=by
 unfold Fj at hw;obtain⟨sc,ag,hw⟩:=Yr (gl:=gl) hw;have bc:RelS m H B H0 gl ((List.range st.n).map (fun k=>(st.get k,a.tmps.getD k Go.undef))++rest) ⟨args.length,Yc 0 args,st.hp,st.nx⟩ vs w:=by
  refine⟨h.heap,hl.symm,fun k=> ?_,h.hold⟩
  show RV H _ (lk .undef (Yc 0 args) k) _;rw[DN,if_pos (Nat.zero_le _),Nat.sub_zero];cases hx:args[k]? with
  |none=>exact .imm _ _ (.undef _)
  |some x=>
   have hk:k<vs.size:=by rw[← hl];exact(List.getElem?_eq_some_iff.1 hx).1
   rw[show vs.getD k Go.undef=vs[k] by rw[Array.getD_eq_getD_getElem?,Array.getElem?_eq_getElem hk];rfl]
   exact hv k x _ hx (Array.getElem?_eq_getElem hk)
 obtain⟨m1,H1,hs⟩:=ag.2 m H B H0 _ vs w bc;unfold wgive1 at hw;split at hw
 ·rename_i ab;split at hw
  ·rename_i bs b4;generalize hids:Gr sc kb=ids at*;obtain⟨r,a4,bg,a3⟩:=hQ _ _ _ _ hw;unfold TR at a3;split at a3
   ·rename_i ps bb;have bf:=hs.heap.offB ids;obtain⟨ae,ac⟩:=hs.heap.sub (B':=OffB (lkb sc.hp) m1 ids w) (H1:=H1) ab b4 (fun _ _ _=>rfl) (fun _ hk=>hk.1) (fun j id b hj hb hr hB=>hB.2 j id b hj hb hr rfl) (fun g sz cs hg=>let⟨h1,h2⟩:=hs.heap.gv g sz cs hg;⟨bf g h1,h2⟩)
    generalize hm0:(fun(j:Nat)=>m1 ((ids[j]?).getD 0))=m0 at ae ac
    have bm:∀j,lkb (hpOf 0 bs) j=bs[j]? :=fun j=>by rw[Wf];simp
    have b7:∀j,lkb (hpOf 0 a4) j=a4[j]? :=fun j=>by rw[Wf];simp
    refine(bg.ok m0 H1 _ H1 (NC m0 0 bs) w vs ae (by simpa using hl) (fun j x v hx bq=> ?_) (Af 0 bs) (fun p hp=> ?_)).mono fun e w' aj=> ?_
    ·have b6:j<args.length:=by have:=(List.getElem?_eq_some_iff.1 hx).1;simpa using this
     simp[b6] at hx;subst hx;have:=hs.slot j;rw[show vs.getD j Go.undef=v by rw[Array.getD_eq_getD_getElem?,bq];rfl] at this
     exact ac 12 _ _ this
    ·obtain⟨j,t,cs,h1,rfl⟩:=Ag 0 bs p hp;rw[Nat.zero_add];have hb:lkb (hpOf 0 bs) j=some (.cells t cs):=by rw[bm];exact h1
     refine .ptr _ _ _ _ (Fa hb rfl) fun l hl=> ?_
     rw[G6 hb rfl] at hl;cases hl;rfl
    ·obtain⟨v,m',H',rfl,b3,hH,bn,ai⟩:=aj;have ba:∀(j id v:Nat) (cs:List AV),ids[j]? =some id→lkb sc.hp id=some (.cells v cs)→m' j=m1 id:=fun j id v cs hj a7=>by
      obtain⟨bk,af⟩:=RM b4;obtain⟨b0,b1,e1,e2,e3⟩:=af j id hj;rw[a7] at e1;cases e1;rcases Ix e2 with⟨v1,c4,e4,rfl⟩ | ⟨_,_,_,e4,_⟩ | ⟨_,_,_,_,_,_,e4,_⟩
      ·cases e4;obtain⟨bx,cl,ak⟩:=Mg bb;have b6:=(List.getElem?_eq_some_iff.1 hj).1;have b5:j<a4.length:=by omega
       have bl:j<ps.length:=by omega
       have bo:=ak j ps[j].1 ps[j].2 a4[j] (List.getElem?_eq_getElem bl) (List.getElem?_eq_getElem b5);rcases bo.here with⟨v2,c5,t2,cs',f1,f2,f3,f4,f5⟩ | ⟨v2,sz,xs,v',cr,cv,f1,f2,f3,f4⟩ | ⟨a1,_,_⟩
       ·rw[hj] at f1;injection f1 with f1
        rw[← f1,a7] at f2;cases f2;have b2:lkb (hpOf 0 a4) j=some (.cells t2 cs'):=by rw[b7,List.getElem?_eq_getElem b5,f3]
        have hp:=ai _ (Py (m:=m0) 0 bs j _ _ e3);rw[Nat.zero_add] at hp;obtain⟨ad,aa,_,b8⟩:=hp.ptr_inv;have b9:m0 j=m1 id:=by rw[← hm0];simp[hj]
        have:=b8 (m' j) (by rw[f5];exact G6 b2 rfl)
        simp only[Value.pointer.injEq,Option.some.injEq] at aa;subst aa;simp only[Addr.mk.injEq] at this;obtain⟨g1,g2,_⟩:=this;rw[b9] at g1 g2;obtain⟨C,e,c1,c2,_,_⟩:=hs.heap.box id _ a7;obtain⟨C1,c7,d1,d2,_,_⟩:=hH.box j _ b2;obtain⟨C2,ce,k1,k2⟩:=b3.rows _ C e _ c1;rw[← g1] at d1;rw[d1] at k1;cases k1;have a8:(m' j).size=(m1 id).size:=by rw[← d2,← c2];exact k2
        cases hmj:m' j with
        |mk a b c=>cases hmi:m1 id with
         |mk a' b' c'=>
          rw[hmj] at g1 g2 a8;rw[hmi] at g1 g2 a8;simp only[Nat.add_zero] at g2;simp only at g1 a8;rw[g1,g2,a8]
       ·rw[hj] at f1;injection f1 with f1
        rw[← f1,a7] at f2;cases f2
       ·omega
      ·cases e4
      ·cases e4
     obtain⟨M,hR,hE,az,bp,bh⟩:=back_ok hs.heap ab bb hH b3 ba;exact⟨_,v,M,H',a3,rfl,bh,h.taken hd hR (bp r v bn) fun p hp=>(hs.rest p hp).mono az hE⟩
   ·cases a3
  ·cases hw
 ·cases hw
theorem Q2b(h:RelS m H B H0 gl rest st a.tmps w){dst:Option Nat}(hd:QC dst st.n=true){f:Nat}{ts:List AV}{vs:Array Value}(hl:ts.length=vs.size)(hv:∀(j:Nat) (x:AV) (v:Value),ts[j]? =some x→vs[j]? =some v→RelI H x v){r:AV}(hp:Pu P gl f ts r):
  Ans P f vs w fun e w'=>∃v m' H',e= .returned v∧Qa B w w'∧RelS m' H' B H0 gl rest (st.putO dst r) (a.put dst v).tmps w':=by
 have h0:RelH m H (fun k=>k<w.heap.size) H gl (lkb .nil) 0 w:=
  {sat:=h.heap.sat,old:=fun _ _ _=>rfl,low:=fun _ hk=>hk,fresh:=fun _ _=>Zq _,box:=(fun _ _ hh=>by rw[Zq] at hh;cases hh),sepR:=(fun _ _ hh=>by rw[Zq] at hh;cases hh),injR:=(fun _ _ _ _ hh=>by rw[Zq] at hh;cases hh),gl:=h.heap.gl,ty:=(fun _ _ _ hh=>by rw[Zq] at hh;cases hh),gv:=fun g sz cs hg=>let⟨h1,h2⟩:=h.heap.gv g sz cs hg;⟨h.heap.low _ h1,h2⟩}
 refine(hp.ok m H _ H w vs h0 hl (fun j x v hx a7=>.imm _ _ (hv j x v hx a7))).mono fun e w' a4=> ?_
 obtain⟨v,m',H',rfl,a5,hH,a6⟩:=a4;obtain⟨hA,a9⟩:=h.after a5.toB H' hH.sat;refine⟨v,m,_,rfl,a5.mono h.heap.low,hA.putO hd (.imm _ _ ((PL a6).mono fun b o u hu=> ?_))⟩
 by_cases hlt:b<w.heap.size;·simp only[if_pos hlt];rw[← hH.old b o hlt];exact hu
 ·simp only[if_neg hlt];exact hu
end
end HY
end
section
namespace HY
open Go Go.RowKit
structure LeV (x t:AV):Prop where
 ok:∀(H:HV) (E:Env) (v:Value),RV H E x v→RV H E t v
structure St.Same (s t:St):Prop where
 n:s.n=t.n
 nx:s.nx=t.nx
 get:∀k,s.get k=t.get k
 hp:lkb s.hp=lkb t.hp
def wnrm{α:Type}(sh:α→AV)(s:Nat)(st:St)(K:St→Prop):Prop:=
 match st.get s with
 | .int k m=>∃n,n=m∧K ⟨st.n,pt st.sl s (.int k n),st.hp,st.nx⟩
 | .str t=>∃u,u=t∧K ⟨st.n,pt st.sl s (.str u),st.hp,st.nx⟩
 | .bool t=>∃u,u=t∧K ⟨st.n,pt st.sl s (.bool u),st.hp,st.nx⟩
 | .ow id ver sz len=>match lkb st.hp id with
  |some (.own v z xs)=>∃l:List α,(List.map sh l=xs∧l.length=len)∧K ⟨st.n,pt st.sl s (.ow id ver sz l.length),pt st.hp id (.own v z (List.map sh l)),st.nx⟩
  |_=>False
 | .oe id _ _ _ _=>match lkb st.hp id with
  |some (.own v z xs)=>∃l:List α,List.map sh l=xs∧K ⟨st.n,st.sl,pt st.hp id (.own v z (List.map sh l)),st.nx⟩
  |_=>False
 | .tup []=>K st
 | .undef=>K st
 |v=>∃x:α,LeV v (sh x)∧K ⟨st.n,pt st.sl s (sh x),st.hp,st.nx⟩
theorem Eu{st:St}{s:Nat}{x y:AV}(h:st.get s=x)(e:y=x):St.Same ⟨st.n,pt st.sl s y,st.hp,st.nx⟩ st where
 n:=rfl
 nx:=rfl
 get k:=by
  show lk .undef (pt st.sl s y) k=_;rw[Gs];split;·rename_i e2;subst e2;rw[e,h]
  ·rfl
 hp:=rfl
theorem Bt{st:St}{id:Nat}{b b':Box}(h:lkb st.hp id=some b)(e:b'=b):St.Same ⟨st.n,st.sl,pt st.hp id b',st.nx⟩ st where
 n:=rfl
 nx:=rfl
 get k:=rfl
 hp:=by
  show lkb (pt st.hp id b')=_;rw[Z1];funext j;unfold updF;split;·rename_i e2;subst e2;rw[e,h]
  ·rfl
theorem St.Same.trans{a b c:St}(h:St.Same a b)(k:St.Same b c):St.Same a c:=⟨h.n.trans k.n,h.nx.trans k.nx,fun i=>(h.get i).trans (k.get i),h.hp.trans k.hp⟩
structure St.Tell (gl:Nat→AV) (s t:St):Prop where
 n:s.n=t.n
 rel:∀(m:Nat→Lc) (H:HV) (B:Nat→Prop) (H0:HV) (rest:List (AV×Value)) (tmps:Array Value) (w:World),RelS m H B H0 gl rest t tmps w→RelS m H B H0 gl rest s tmps w
theorem St.Tell.refl(gl:Nat→AV)(s:St):St.Tell gl s s:=⟨rfl,fun _ _ _ _ _ _ _ h=>h⟩
theorem St.Tell.trans{gl:Nat→AV}{a b c:St}(h:St.Tell gl a b)(k:St.Tell gl b c):St.Tell gl a c:=⟨h.n.trans k.n,fun _ _ _ _ _ _ _ r=>h.rel _ _ _ _ _ _ _ (k.rel _ _ _ _ _ _ _ r)⟩
theorem RelS.same{m:Nat→Lc}{H:HV}{B:Nat→Prop}{H0:HV}{gl:Nat→AV}{rest:List (AV×Value)}{s t:St}{tmps:Array Value}{w:World}(h:RelS m H B H0 gl rest t tmps w)(e:St.Same s t):RelS m H B H0 gl rest s tmps w:=by
 have he:s.env m=t.env m:=by show Q4 (lkb s.hp) m=Q4 (lkb t.hp) m;rw[e.hp]
 refine⟨?_,?_,fun k=> ?_,fun p hp=> ?_⟩
 ·rw[e.hp,e.nx];exact h.heap
 ·rw[e.n];exact h.size
 ·rw[he,e.get];exact h.slot k
 ·rw[he];exact h.rest p hp
theorem St.Same.tell{gl:Nat→AV}{s t:St}(e:St.Same s t):St.Tell gl s t:=⟨e.n,fun _ _ _ _ _ _ _ h=>h.same e⟩
theorem tell_le{gl:Nat→AV}{st:St}{s:Nat}{x y:AV}(h:st.get s=x)(e:LeV x y):St.Tell gl ⟨st.n,pt st.sl s y,st.hp,st.nx⟩ st where
 n:=rfl
 rel m H B H0 rest tmps w r:=by
  refine⟨r.heap,r.size,fun k=> ?_,r.rest⟩
  show RV H (st.env m) (lk .undef (pt st.sl s y) k) _;rw[Gs];split;·rename_i e2;subst e2;exact e.ok _ _ _ (h▸r.slot _)
  ·exact r.slot k
theorem BJ{gl:Nat→AV}{α:Type}{sh:α→AV}{s:Nat}{st:St}{K:St→Prop}(h:wnrm sh s st K):∃st',K st'∧St.Tell gl st' st:=by
 unfold wnrm at h;split at h;·rename_i k m hx;obtain⟨n,rfl,h⟩:=h;exact⟨_,h,(Eu hx rfl).tell⟩
 ·rename_i t hx;obtain⟨n,rfl,h⟩:=h;exact⟨_,h,(Eu hx rfl).tell⟩
 ·rename_i t hx;obtain⟨n,rfl,h⟩:=h;exact⟨_,h,(Eu hx rfl).tell⟩
 ·rename_i id ver sz len hx;split at h
  ·rename_i v z xs a4;obtain⟨l,⟨rfl,rfl⟩,h⟩:=h;exact⟨_,h,((Bt (st:=⟨st.n,pt st.sl s _,st.hp,st.nx⟩) a4 rfl).trans (Eu hx rfl)).tell⟩
  ·cases h
 ·rename_i id _ _ _ _ hx;split at h
  ·rename_i v z xs a4;obtain⟨l,rfl,h⟩:=h;exact⟨_,h,(Bt a4 rfl).tell⟩
  ·cases h
 ·exact⟨_,h,.refl _ _⟩
 ·exact⟨_,h,.refl _ _⟩
 ·rename_i v _ _ hx;obtain⟨x,a5,h⟩:=h;exact⟨_,h,tell_le rfl a5⟩
def wfill{α:Type}(sh:α→AV)(s:Nat)(st:St)(K:St→Prop):Prop:=
 match st.get s with
 | .ow id _ _ _=>match lkb st.hp id with
  |some (.hol v z xs i c r)=>match r with
   | .ow id2 v2 z2 len=>match lkb st.hp id2 with
    |some (.own v' z' ys)=>match Nat.beq v' v2&&Nat.beq z' z2 with
     |true=>len=ys.length∧∃x:α,xs[i]? =some (sh x)∧∃l:List α,List.map sh l=xs.set i (putE c 1 z (sh x) (.sl z' ys))∧K ⟨st.n,st.sl,pt (pt st.hp id2 (.own (v'+4096) z' [])) id (.own v z (List.map sh l)),st.nx⟩
     |false=>False
    |_=>False
   |_=>False
  |_=>False
 |_=>False
theorem Q3f{gl:Nat→AV}{α:Type}{sh:α→AV}{s:Nat}{st:St}{K:St→Prop}(h:wfill sh s st K):∃st',Conv gl st st'∧K st':=by
 unfold wfill at h;split at h
 ·split at h
  ·rename_i v z xs i c r a5;split at h
   ·rename_i a6 v2 z2 len;split at h
    ·rename_i v' z' ys a3;split at h
     ·rename_i hc;rw[Bool.and_eq_true] at hc;obtain rfl:=Nat.eq_of_beq_eq_true hc.1;obtain rfl:=Nat.eq_of_beq_eq_true hc.2;obtain⟨hl,x,hx,l,he,hK⟩:=h;refine⟨_,?_,hK⟩;rw[he];exact Q16 _ v z i c a6 _ _ len xs ys (sh x) a5 a3 hl hx
     ·cases h
    ·cases h
   ·cases h
  ·cases h
 ·cases h
def inner:Option Hint→Option Hint
 |some (.n _ _ h)=>h
 |some (.z _ h)=>match h with
  |some (.n _ _ h)=>h
  |h=>h
 |h=>h
def outer:Option Hint→Option Hint
 |some (.z _ h)=>h
 |h=>h
def TT(hs:Z7):List Oper→St→(St→Prop)→Prop
 | [],st,K=>K st
 |o::l,st,K=>match outer (lkH hs (Ff o.dst o.op)) with
  |some (.n sh s _)=>wnrm sh s st (fun st=>TT hs l st K)
  |_=>TT hs l st K
theorem RX{gl:Nat→AV}{hs:Z7}:∀ {l:List Oper} {st:St} {K:St→Prop},TT hs l st K→∃st',K st'∧St.Tell gl st' st
 | [],st,K,h=>⟨st,h,.refl _ _⟩
 |o::l,st,K,h=>by
  simp only[TT] at h;split at h
  ·obtain⟨s1,h1,e1⟩:=BJ (gl:=gl) h;obtain⟨s2,h2,e2⟩:=RX (gl:=gl) h1;exact⟨s2,h2,e2.trans e1⟩
  ·exact RX h
end HY
end
