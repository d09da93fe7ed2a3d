/- Proved in the last of these texts: for every input the law returns true and its arguments read afterwards as they read before. This text: a part of the proof. -/
import Derived.Test.YtolcgikajjkjgaaGreatDoorP2
import Derived.ChangeArms
import Derived.RangeFuncRecord
section
namespace HY
open Go Go.RowKit
section
variable {P : Program} {m : Nat → Lc} {H : HV} {B : Nat → Prop} {H0 : HV} {gl : Nat → AV} {rest : List (AV × Value)} {st : St} {a : Act} {w : World} {ch : Qm}
def MF(hp:Hp)(m:Nat→Lc)(id:Nat):AV×Value:=match hp id with
 |some (.cells ver _)=>(.ptr id ver 0,.pointer (some ⟨(m id).g,(m id).base+0,none⟩))
 |some (.map _)=>(.mp id,.map (some (m id).g))
 |_=>(.nilp,.pointer none)
theorem pin_ok{hp:Hp}(id:Nat):RV H (Q3 hp m) (MF hp m id).1 (MF hp m id).2:=by
 unfold MF;split
 ·rename_i ver cs a3;refine .ptr id ver 0 _ ⟨_,a3,fun v hv=>by cases hv;exact Nat.le_refl _⟩ fun l hl=> ?_
  rw[Yd a3] at hl;cases hl;rfl
 ·rename_i es a3;exact .mp id _ (by simp[Q3,a3])
 ·exact .imm _ _ .nilp
theorem T2{hp:Hp}{nx f:Nat}{args:List AV}{r:AV}{nb:List (Nat×Box)}{nx':Nat}{a6:Bool}(h:C7 ch hp nx f args=some (r,nb,nx',a6)):
  ∃ids a4 S hp' a5 a3 N,optJ (Xv 12) args=some ids∧Dy hp 100000 ids .nil []=some (a4,S)∧ch f args (JC hp S) nx=some (r,hp',nx')∧Xv 12 r=some a5∧
   Dy (lkb hp') 100000 (S++a5) .nil []=some (a3,N)∧(∀id∈N,nx≤id∨memT a4 id=true)∧nx≤nx'∧nb=pick (lkb hp') N∧a6= !S.all (Mp hp (lkb hp')):=by
 unfold C7 at h;split at h
 ·rename_i ids a7;split at h
  ·rename_i a4 S hS;split at h
   ·rename_i r' hp' ad hc;split at h
    ·rename_i a5 a8;split at h
     ·rename_i a3 N hN;split at h
      ·rename_i hb;cases h;rw[Bool.and_eq_true,List.all_eq_true] at hb;refine⟨ids,a4,S,hp',a5,a3,N,a7,hS,hc,a8,hN,fun id a9=> ?_,Nat.le_of_ble_eq_true hb.2,rfl,rfl⟩
       have:=hb.1 id a9;rw[Bool.or_eq_true] at this;exact this.imp Nat.le_of_ble_eq_true fun h=>h
      ·cases h
     ·cases h
    ·cases h
   ·cases h
  ·cases h
 ·cases h
theorem AP{b:Box}{l:List Nat}(h:DW b=some l):b.elder=true:=by cases b<;>first | rfl | cases h
theorem T3{hp:Hp}{nx f:Nat}{args:List AV}{r:AV}{nb:List (Nat×Box)}{nx':Nat}{a4:Bool}(h:C7 ch hp nx f args=some (r,nb,nx',a4)):
  ∃(hp':Hp) (N:List Nat),nb=pick hp' N∧nx≤nx'∧(∀id∈N,nx≤id∨∃b,hp id=some b∧(a4=false→hp' id=some b)):=by
 obtain⟨ids,ad,S,hp',ah,aa,N,ab,hS,hc,ac,hN,a8,a9,rfl,rfl⟩:=T2 h;obtain⟨s1,s2,_,_⟩:=Dz (S0:=fun _=>False) _ _ _ _ _ _ hS (fun id hm=>by rw[LG] at hm;cases hm) (fun id a3=>by cases a3)
 refine⟨_,N,rfl,a9,fun id a3=>(a8 id a3).imp (fun h=>h) fun hm=> ?_⟩
 have a3:=(s1 id hm).elim (fun h=>h) fun h=>h.elim
 obtain⟨b,l,hb,_⟩:=s2 id a3;refine⟨b,hb,fun a7=> ?_⟩
 have a5:S.all (Mp hp (lkb hp'))=true:=by simpa using a7
 have:=List.all_eq_true.1 a5 id a3;unfold Mp at this;rw[hb] at this;split at this
 ·rename_i x y hx hy;cases hx;rw[hy,Q0o this]
 ·cases this
theorem Q0z(ce:ch.Ok P gl)(h:RelS m H B H0 gl rest st a.tmps w){f:Nat}{args:List AV}{vs:Array Value}{r:AV}{nb:List (Nat×Box)}{nx':Nat}{c8:Bool}(hl:args.length=vs.size)
  (hr:∀(j:Nat) (x:AV) (v:Value),args[j]? =some x→vs[j]? =some v→RV H (st.env m) x v) (hk:C7 ch (lkb st.hp) st.nx f args=some (r,nb,nx',c8)):
  Ans P f vs w fun e w'=>∃v m' H',e= .returned v∧Qa B w w'∧RelS m' H' B H0 gl rest ⟨st.n,st.sl,ZS st.hp nb,nx'⟩ a.tmps w'∧RV H' (Q3 (lkb (ZS st.hp nb)) m') r v:=by
 classical
 obtain⟨ids,c4,S,hp',cu,cw,N,c1,hS,hc,c2,hN,bz,cl,rfl,_⟩:=T2 hk;obtain⟨s1,s2,s3,_⟩:=Dz (S0:=fun _=>False) _ _ _ _ _ _ hS (fun id hm=>by rw[LG] at hm;cases hm) (fun id a4=>by cases a4)
 have s1:∀id,memT c4 id=true→id∈S:=fun id hm=>(s1 id hm).elim (fun h=>h) fun h=>h.elim
 have s3:∀j∈ids,j∈S:=fun j hj=>(s3 j hj).elim (fun h=>h) fun h=>h.elim
 have s2:∀id∈S,∃b l,lkb st.hp id=some b∧DW b=some l∧∀j∈l,j∈S:=fun id a4=>by
  obtain⟨b,l,a1,a2,a3⟩:=s2 id a4;exact⟨b,l,a1,a2,fun j hj=>(a3 j hj).elim (fun h=>h) fun h=>h.elim⟩
 obtain⟨_,n2,n3,_⟩:=Dz (S0:=fun _=>False) _ _ _ _ _ _ hN (fun id hm=>by rw[LG] at hm;cases hm) (fun id a4=>by cases a4)
 have n3:∀j∈S++cu,j∈N:=fun j hj=>(n3 j hj).elim (fun h=>h) fun h=>h.elim
 have ar:∀id∈S,id∈N:=fun id a4=>n3 id (List.mem_append_left _ a4)
 have ai:∀id∈N,∃b l,lkb hp' id=some b∧DW b=some l∧∀j∈l,j∈N:=fun id a4=>by
  obtain⟨b,l,a1,a2,a3⟩:=n2 id a4;exact⟨b,l,a1,a2,fun j hj=>(a3 j hj).elim (fun h=>h) fun h=>h.elim⟩
 have c9:∀id∈N,st.nx≤id∨id∈S:=fun id a4=>(bz id a4).imp (fun h=>h) (s1 id)
 have ao:∀k,lkb (JC (lkb st.hp) S) k=if k∈S then lkb st.hp k else none:=Oc S
 let B':Nat→Prop:=fun k=>k<w.heap.size∧∀id∈S,(m id).g≠k
 have ap:∀id∈S,∀b,lkb st.hp id=some b→Real b (m id):=fun id a4 b hb=>by
  obtain⟨b',l,a5,am,_⟩:=s2 id a4;rw[hb] at a5;cases a5;exact Box.elder_real (AP am) _
 have b3:∀k,B k→B' k:=fun k hk=>⟨h.heap.low k hk,fun id a4 e=>by
  obtain⟨b,l,hb,_⟩:=s2 id a4;exact(h.heap.sepR id b hb (ap id a4 b hb)).1 (e▸hk)⟩
 have bw:∀id∈S,A6 (st.env m) (Q3 (lkb (JC (lkb st.hp) S)) m) id:=fun id a4=>by
  have e:lkb (JC (lkb st.hp) S) id=lkb st.hp id:=by rw[ao,if_pos a4]
  refine⟨fun ver ⟨b,hb,hv⟩=>⟨b,by rw[e];exact hb,hv⟩,fun ver l hl=> ?_,fun l hl=> ?_⟩
  ·simp only[Q3,e] at hl ⊢;exact hl
  ·simp only[Q3,e] at hl ⊢;exact hl
 have bl:∀(j:Nat) (x:AV) (v:Value),args[j]? =some x→vs[j]? =some v→RV H (Q3 (lkb (JC (lkb st.hp) S)) m) x v:=fun j x v hx hv=>by
  obtain⟨q,hq,hs⟩:=Mg c1 x (List.mem_of_getElem? hx);exact(hr j x v hx hv).agree 12 hq fun id a4=>bw id (s3 id (hs id a4))
 have h0:RelH m H B' H gl (lkb (JC (lkb st.hp) S)) st.nx w:=
  {sat:=h.heap.sat,old:=fun _ _ _=>rfl,low:=fun _ hk=>hk.1,
   fresh:=fun id a4=>by rw[ao,h.heap.fresh id a4];split<;>rfl,
   box:=fun id b hb=>by
    rw[ao] at hb;split at hb
    ·rename_i a4;obtain⟨b',l,a5,am,bm⟩:=s2 id a4;rw[hb] at a5;cases a5;exact(h.heap.box id b hb).agree am fun j hj=>bw j (bm j hj)
    ·cases hb
   sepR:=fun id b hb a6=>by
    rw[ao] at hb;split at hb
    ·rename_i a4;obtain⟨q1,q2,q3⟩:=h.heap.sepR id b hb a6;exact⟨fun hk=>hk.2 id a4 rfl,q2,q3⟩
    ·cases hb
   injR:=fun id a8 b b' hb a5 h1 h2 e=>by
    rw[ao] at hb a5;split at hb
    ·split at a5;·exact h.heap.injR id a8 b b' hb a5 h1 h2 e
     ·cases a5
    ·cases hb
   gv:=fun g sz cs hg=>let⟨q1,q2⟩:=h.heap.gv g sz cs hg;⟨b3 g q1,q2⟩
   gl:=h.heap.gl
   ty:=fun id ver cs hb=>by
    rw[ao] at hb;split at hb;·exact h.heap.ty id ver cs hb
    ·cases hb}
 refine(ce _ _ _ _ _ _ _ hc m H B' H (S.map (MF (lkb st.hp) m)) w vs h0 hl bl fun p hp=> ?_).mono fun e w1 bo=> ?_
 ·obtain⟨id,a4,rfl⟩:=List.mem_map.1 hp;have e:MF (lkb st.hp) m id=MF (lkb (JC (lkb st.hp) S)) m id:=by
   unfold MF;rw[ao,if_pos a4]
  rw[e];exact pin_ok id
 ·obtain⟨v,m1,H1,rfl,ak,hH,co,bp⟩:=bo
  let m2:Nat→Lc:=fun id=>if id∈N then m1 id else m id
  have aa:∀id∈N,m2 id=m1 id:=fun id a4=>if_pos a4
  have ac:∀id,id∉N→m2 id=m id:=fun id a4=>if_neg a4
  have ah:∀k,lkb (ZS st.hp (pick (lkb hp') N)) k=if k∈N then lkb hp' k else lkb st.hp k:=fun k=>by
   rw[Ji];by_cases hk:k∈N
   ·obtain⟨b,l,hb,_⟩:=ai k hk;simp[hk,hb]
   ·simp[hk]
  have b8:∀id∈N,A6 (Q3 (lkb hp') m1) (Q3 (lkb (ZS st.hp (pick (lkb hp') N))) m2) id:=fun id a4=>by
   have e:lkb (ZS st.hp (pick (lkb hp') N)) id=lkb hp' id:=by rw[ah,if_pos a4]
   have em:=aa id a4;exact⟨fun ver ⟨b,hb,hv⟩=>⟨b,by rw[e];exact hb,hv⟩,fun ver l hl=>by simp only[Q3,e,em] at hl ⊢;exact hl,fun l hl=>by simp only[Q3,e,em] at hl ⊢;exact hl⟩
  have bk:Env.le (st.env m) (Q3 (lkb (ZS st.hp (pick (lkb hp') N))) m2):=by
   have bg:∀id∈S,(∀ver,(st.env m).al id ver→(Q3 (lkb hp') m1).al id ver)∧(∀ver l,(st.env m).al id ver→(Q3 (lkb hp') m1).loc id ver=some l→(st.env m).loc id ver=some l)∧(∀l,(st.env m).lp id=some l→(Q3 (lkb hp') m1).lp id=some l):=fun id a4=>by
    obtain⟨b,l,hb,am,_⟩:=s2 id a4;obtain⟨b1,l1,af,ci,_⟩:=ai id (ar id a4);have aw:=bp _ (List.mem_map.2 ⟨id,a4,rfl⟩);unfold MF at aw;rw[hb] at aw;cases b with
    |cells ver cs=>
     simp only at aw;obtain⟨ad,e1,aj,e2⟩:=aw.ptr_inv;cases e1;obtain⟨b2,c0,c3⟩:=aj;rw[af] at c0;cases c0;have be:∀v0,(st.env m).al id v0→v0≤ver:=fun v0 ⟨b,a5,hv⟩=>by rw[hb] at a5;cases a5;exact hv ver rfl
     refine⟨fun v0 h0=>⟨b1,af,fun v hv=>Nat.le_trans (be v0 h0) (c3 v hv)⟩,fun v0 l h0 hl=> ?_,fun l hl=>by simp[Q3,hb] at hl⟩
     have h1:=be v0 h0;simp only[Q3,af] at hl;split at hl
     ·rename_i v hv;split at hl
      ·rename_i cr;subst cr;cases hl;have h2:=c3 v hv;obtain rfl:v=ver:=by omega
       have e3:=e2 (m1 id) (by simp only[Q3,af,hv,if_true])
       simp only[Addr.mk.injEq,Nat.add_zero,and_true] at e3;cases b1 with
       |cells v' cs1=>
        obtain⟨C,te,q1,q2,_,_⟩:=h.heap.box id _ hb;obtain⟨C1,dc,p1,p2,_,_⟩:=hH.box id _ af;obtain⟨C2,d5,p3,p4⟩:=ak.rows _ _ _ _ q1;rw[← e3.1] at p1;rw[p1] at p3;cases p3;have hz:(m1 id).size=(m id).size:=by omega
        have:m1 id=m id:=by
         cases hm1:m1 id with | mk g1 b1 z1=>
         cases hm:m id with | mk g0 b0 z0=>
         rw[hm1,hm] at e3 hz;simp at e3 hz;rw[e3.1,e3.2,hz]
        rw[this,Yd hb]
       |map es=>cases hv
       |_=>cases ci
      ·cases hl
     ·cases hl
    |map es=>
     simp only at aw;obtain⟨l0,e1,e2⟩:=aw.mp_inv;cases e1;refine⟨fun v0 _=>⟨b1,af,fun v hv=> ?_⟩,fun v0 l h0 hl=> ?_,fun l hl=> ?_⟩
     ·simp only[Q3,af] at e2;cases b1<;>first | (cases e2;done) | (cases hv;done)
     ·simp only[Q3,af] at e2 hl;cases b1<;>first | (cases e2;done) | (cases hl;done)
     ·simp only[Q3,hb,Option.some.injEq] at hl;subst hl;exact e2
    |_=>cases am
   have old:∀id b,lkb st.hp id=some b→id∉S→lkb (ZS st.hp (pick (lkb hp') N)) id=some b∧m2 id=m id:=fun id b hb hs=>by
    have hn:id∉N:=fun hn=>by
     rcases c9 id hn with cg | cp
     ·rw[h.heap.fresh id cg] at hb;cases hb
     ·exact hs cp
    exact⟨by rw[ah,if_neg hn];exact hb,ac id hn⟩
   refine⟨fun id ver aj=> ?_,fun id ver l aj hl=> ?_,fun id l hl=> ?_⟩
   ·by_cases hs:id∈S;·exact(b8 id (ar id hs)).al ver ((bg id hs).1 ver aj)
    ·obtain⟨b,hb,hv⟩:=aj;exact⟨b,(old id b hb hs).1,hv⟩
   ·by_cases hs:id∈S
    ·refine(bg id hs).2.1 ver l aj ?_;have e:lkb (ZS st.hp (pick (lkb hp') N)) id=lkb hp' id:=by rw[ah,if_pos (ar id hs)]
     have em:=aa id (ar id hs);simp only[Q3,e,em] at hl ⊢;exact hl
    ·obtain⟨b,hb,hv⟩:=aj;obtain⟨e1,e2⟩:=old id b hb hs;simp only[Q3,e1,e2] at hl;simp only[Q3,hb];exact hl
   ·by_cases hs:id∈S;·exact(b8 id (ar id hs)).lp l ((bg id hs).2.2 l hl)
    ·cases hb:lkb st.hp id with
     |none=>simp[Q3,hb] at hl
     |some b=>
      obtain⟨e1,e2⟩:=old id b hb hs;simp only[Q3,hb] at hl;simp only[Q3,e1,e2];exact hl
  have ba:HV.le H H1:=fun b o u hu=>by
   have cj:=KP h.heap.sat hu;have:B' b:=⟨cj,fun id a4 e=>by
    obtain⟨bx,l,hb,_⟩:=s2 id a4;have:=(h.heap.sepR id bx hb (ap id a4 bx hb)).2.2 o;rw[e,hu] at this;cases this⟩
   rw[hH.old b o this];exact hu
  have aq:∀id b,lkb st.hp id=some b→Real b (m id)→id∉S→B' (m id).g:=fun id b hb a6 ck=>by
   refine⟨(h.heap.sepR id b hb a6).2.1,fun a8 b5 e=> ?_⟩
   obtain⟨b',l,a5,_⟩:=s2 a8 b5;have:=h.heap.injR a8 id b' b a5 hb (ap a8 b5 b' a5) a6 e;subst this;exact ck b5
  have b9:∀id,id∉N→id∉S:=fun id hn hs=>hn (ar id hs)
  have bn:RelH m2 H1 B H0 gl (lkb (ZS st.hp (pick (lkb hp') N))) nx' w1:=
   {sat:=hH.sat
    old:=fun b o hb=>by rw[hH.old b o (b3 b hb)];exact h.heap.old b o hb
    low:=fun b hb=>Nat.lt_of_lt_of_le (h.heap.low b hb) ak.size
    fresh:=fun id a4=>by
     rw[ah];split;·exact hH.fresh id a4
     ·exact h.heap.fresh id (Nat.le_trans cl a4)
    box:=fun id b hb=>by
     rw[ah] at hb;split at hb
     ·rename_i hn;obtain⟨b',l,a5,am,bm⟩:=ai id hn;rw[hb] at a5;cases a5;rw[aa id hn];exact(hH.box id b hb).agree am fun j hj=>b8 j (bm j hj)
     ·rename_i hn;rw[ac id hn];exact(h.heap.box id b hb).mono' ba bk fun a6=>ak.block _ (aq id b hb a6 (b9 id hn))
    sepR:=fun id b hb a6=>by
     rw[ah] at hb;split at hb
     ·rename_i hn;rw[aa id hn] at a6 ⊢;obtain⟨q1,q2,q3⟩:=hH.sepR id b hb a6;exact⟨fun hk=>q1 (b3 _ hk),q2,q3⟩
     ·rename_i hn;rw[ac id hn] at a6 ⊢;obtain⟨q1,q2,q3⟩:=h.heap.sepR id b hb a6;refine⟨q1,Nat.lt_of_lt_of_le q2 ak.size,fun o=> ?_⟩
      rw[hH.old _ o (aq id b hb a6 (b9 id hn))];exact q3 o
    injR:=fun id a8 b b' hb a5 a6 ab e=>by
     have ay:∀i j bi bj,lkb hp' i=some bi→j∉N→lkb st.hp j=some bj→Real bi (m1 i)→Real bj (m j)→(m1 i).g≠(m j).g:=fun i j bi bj ca hj cd cm cn e=>
      (hH.sepR i bi ca cm).1 (e▸aq j bj cd cn (b9 j hj))
     rw[ah] at hb a5;split at hb
     ·rename_i hn;rw[aa id hn] at a6 e;split at a5
      ·rename_i ag;rw[aa a8 ag] at ab e;exact hH.injR id a8 b b' hb a5 a6 ab e
      ·rename_i ag;rw[ac a8 ag] at ab e;exact absurd e (ay id a8 b b' hb ag a5 a6 ab)
     ·rename_i hn;rw[ac id hn] at a6 e;split at a5
      ·rename_i ag;rw[aa a8 ag] at ab e;exact absurd e.symm (ay a8 id b' b a5 hn hb ab a6)
      ·rename_i ag;rw[ac a8 ag] at ab e;exact h.heap.injR id a8 b b' hb a5 a6 ab e
    gv:=(fun g sz cs hg=>let⟨q1,C,te,fr,q2,q3⟩:=h.heap.gv g sz cs hg;⟨q1,C,te,fr,by rw[ak.block g (b3 g q1)];exact q2,q3⟩)
    gl:=fun g=>(h.heap.gl g).mono ba
    ty:=fun id ver cs hb=>by
     rw[ah] at hb;split at hb
     ·rename_i hn;rw[aa id hn];exact hH.ty id ver cs hb
     ·rename_i hn;rw[ac id hn];exact(h.heap.ty id ver cs hb).mono (ak.block _ (aq id _ hb trivial (b9 id hn)))}
  refine⟨v,m2,H1,rfl,ak.mono b3,⟨bn,h.size,fun k=>(h.slot k).mono ba bk,fun p hp=>(h.rest p hp).mono ba bk⟩,?_⟩
  exact co.agree 12 c2 fun id a4=>b8 id (n3 id (List.mem_append_right _ a4))
end
end HY
end
section
namespace HY
open Go Go.RowKit
def DF(gl:Nat→AV)(ch:Qm)(a3:Nat)(o:Oper)(st:St):Option (St×Bool):=
 match o.guard with
 |none=>match QU o.dst st.n&&Nat.ble a3 st.nx with
  |true=>match XM (st.ev gl) o.op with
   |some (f,args)=>match C7 ch (lkb st.hp) st.nx f args with
    |some (r,nb,nx',chg)=>some ((⟨st.n,st.sl,ZS st.hp nb,nx'⟩:St).putO o.dst r,chg)
    |none=>none
   |none=>none
  |false=>none
 |some _=>none
def Ug(gl:Nat→AV)(ch:Qm)(a3:Nat)(al:Bool)(o:Oper)(st:St):Option St:=match DF gl ch a3 o st with
 |some (s,chg)=>match chg&& !al with
  |true=>none
  |false=>some s
 |none=>none
def stpH(P:Program)(gl:Nat→AV)(ch:Qm)(all:List Oper)(base:Nat)(hv hc:List Nat)(i:Nat)(o:Oper)(st:St):Option St:=
 match hv.any (Nat.beq i) with
 |true=>Ug gl ch (base+all.length) (hc.any (Nat.beq i)) o st
 |false=>Xg P gl (fun _=>ch) false (fun _=>none) all (base+i) o st
def hvOk(all:List Oper)(hv:List Nat):Prop:=∀j i,j<i→j∈hv→i∈hv→((Xx all []).getD i 0).testBit j=true
def L9(all:List Oper)(i:Nat):Bool:=(List.range all.length).all fun j=>Nat.beq j i || match all[j]? with
 |some o=>Nat.beq (hk o.op) 0 || (match Nat.blt j i with
  |true=>((Xx all []).getD i 0).testBit j
  |false=>((Xx all []).getD j 0).testBit i)
 |none=>true
def refsO(gl:Nat→AV)(o:Oper)(st:St):Bool:=match XM (st.ev gl) o.op with
 |some (_,args)=>match optJ (Xv 12) args with
  |some (_::_)=>true
  |_=>false
 |none=>false
def runH(P:Program)(gl:Nat→AV)(ch:Qm)(all:List Oper)(base:Nat):List Nat→List Nat→List Nat→St→Option (St×List Nat×List Nat)
 | [],hv,hc,st=>some (st,hv,hc)
 |i::l,hv,hc,st=>match all[i]? with
  |some o=>match(match refsO gl o st with | true=>DF gl ch (base+all.length) o st | false=>none) with
   |some (s,chg)=>match hv.all (fun j=>((Xx all []).getD i 0).testBit j) with
    |true=>match chg with
     |true=>match L9 all i with
      |true=>runH P gl ch all base l (i::hv) (i::hc) s
      |false=>none
     |false=>runH P gl ch all base l (i::hv) hc s
    |false=>none
   |none=>match Xg P gl (fun _=>ch) false (fun _=>none) all (base+i) o st with
    |some s=>runH P gl ch all base l hv hc s
    |none=>none
  |none=>none
section
variable {P : Program} {m : Nat → Lc} {H : HV} {B : Nat → Prop} {H0 : HV} {gl : Nat → AV} {rest : List (AV × Value)} {st : St} {a : Act} {w : World} {ch : Qm} {all : List Oper}
theorem C8{a4:Nat}{o:Oper}{st':St}{a3:Bool}(h:DF gl ch a4 o st=some (st',a3)):
  ∃f args r hp' N nx',o.guard=none∧QU o.dst st.n=true∧a4≤st.nx∧XM (st.ev gl) o.op=some (f,args)∧C7 ch (lkb st.hp) st.nx f args=some (r,pick hp' N,nx',a3)∧(∀id∈N,st.nx≤id∨∃b,lkb st.hp id=some b∧(a3=false→hp' id=some b))∧st.nx≤nx'∧
   st'=(⟨st.n,st.sl,ZS st.hp (pick hp' N),nx'⟩:St).putO o.dst r:=by
 unfold DF at h;split at h
 ·rename_i hg;split at h
  ·rename_i hd;rw[Bool.and_eq_true] at hd;split at h
   ·rename_i f args hc;split at h
    ·rename_i r nb nx' a6 hx;cases h;obtain⟨hp',N,rfl,q2,q1⟩:=T3 hx;exact⟨f,args,r,hp',N,nx',hg,hd.1,Nat.le_of_ble_eq_true hd.2,hc,hx,q1,q2,rfl⟩
    ·cases h
   ·cases h
  ·cases h
 ·cases h
theorem Dc{a4:Nat}{al:Bool}{o:Oper}{st':St}(h:Ug gl ch a4 al o st=some st'):∃a3,DF gl ch a4 o st=some (st',a3)∧(a3=true→al=true):=by
 unfold Ug at h;split at h
 ·rename_i s a3 hr;split at h;·cases h
  ·rename_i hc;cases h;refine⟨a3,hr,fun e=> ?_⟩
   subst e;simpa using hc
 ·cases h
theorem Wm{a4:Nat}{al a3:Bool}{o:Oper}{st':St}(h:DF gl ch a4 o st=some (st',a3))(a5:a3=true→al=true):Ug gl ch a4 al o st=some st':=by
 unfold Ug;rw[h];cases a3 with
 |false=>rfl
 |true=>rw[a5 rfl];rfl
theorem I7{a3:Nat}{o:Oper}{f:Nat}{args:List AV}{r:AV}{nb:List (Nat×Box)}{nx':Nat}{a4:Bool}(hg:o.guard=none)(hd:QU o.dst st.n=true)(ht:a3≤st.nx)(hc:XM (st.ev gl) o.op=some (f,args))(hx:C7 ch (lkb st.hp) st.nx f args=some (r,nb,nx',a4)):
  DF gl ch a3 o st=some ((⟨st.n,st.sl,ZS st.hp nb,nx'⟩:St).putO o.dst r,a4):=by
 unfold DF;rw[hg];have:(QU o.dst st.n&&Nat.ble a3 st.nx)=true:=by rw[Bool.and_eq_true];exact⟨hd,Nat.ble_eq_true_of_le ht⟩
 simp only[this,hc,hx]
theorem BB(a4:ch.Ok P gl)(h:RelS m H B H0 gl rest st a.tmps w){a6:Nat}{al:Bool}{o:Oper}{st':St}(hk:Ug gl ch a6 al o st=some st')(ro:Option Nat)(n:Nat):Uu P ro n B H0 gl rest a w o st':=by
 obtain⟨a7,hk,_⟩:=Dc hk;obtain⟨f,args,r,hp',N,nx',hg,hd,ht,hc,hx,hN,ab,rfl⟩:=C8 hk;refine Nx h hc ro n fun vs hl hr=> ?_
 refine(Q0z a4 h hl hr hx).mono fun e w' ⟨v,m',H',he,hb,a3,a5⟩=>⟨v,m',H',he,hb,?_⟩
 exact a3.putO (dst:=o.dst) hd a5
theorem Ec(h:RelS m H B H0 gl rest st a.tmps w){op:Op}{f:Nat}{args:List AV}(hc:XM (st.ev gl) op=some (f,args)):∀x∈args,∃v,RV H (st.env m) x v:=fun y hy=>by
 obtain⟨c,x,a7,ho,hx,hf,rfl⟩:=Uw hc;rw[List.mem_append,List.mem_map] at hy;rcases hy with⟨z,_,rfl⟩ | hy
 ·exact⟨_,h.ev z⟩
 ·have a3:=h.ev x;rw[hf] at a3;obtain⟨us,_,a5,a6⟩:=a3.fn_inv;obtain⟨j,hj⟩:=List.getElem?_of_mem hy;exact⟨_,a6 j y _ hj (Array.getElem?_eq_getElem (by rw[← a5];exact(List.getElem?_eq_some_iff.1 hj).1))⟩
theorem TP{op:Op}{f:Nat}{args:List AV}{ev:Operand→AV}(hc:XM ev op=some (f,args)):hk op=1:=by
 obtain⟨c,x,a3,rfl,hx,_⟩:=Uw hc;simp[hk,hx]
theorem lkb_new{hp hp':Hp}{N:List Nat}{t:Tr Box}{nx k:Nat}{C:Nat→Box→Prop}(hN:∀id∈N,nx≤id∨∃b,hp id=some b∧C id b)(hk:k<nx)(h0:hp k=none):lkb (ZS t (pick hp' N)) k=lkb t k:=by
 rw[Ji,if_neg];rintro⟨h1,_⟩;rcases hN k h1 with h | ⟨b,h,_⟩
 ·omega
 ·rw[h0] at h;cases h
theorem Oi{hp:Hp}{N:List Nat}{nx k:Nat}{C:Nat→Box→Prop}(hN:∀id∈N,nx≤id∨∃b,hp id=some b∧C id b)(hk:k<nx)(h0:hp k=none):k∉N:=fun h1=>by
 rcases hN k h1 with h | ⟨b,h,_⟩
 ·omega
 ·rw[h0] at h;cases h
theorem O6{hp':Hp}{N:List Nat}{nx:Nat}(hN:∀id∈N,nx≤id∨∃b,lkb st.hp id=some b∧(false=false→hp' id=some b))(hf:∀id,nx≤id→lkb st.hp id=none):Ext (lkb st.hp) (lkb (ZS st.hp (pick hp' N))):=fun id b hb=>by
 rw[Ji];split
 ·rename_i hc;rcases hN id hc.1 with h | ⟨b',h,h2⟩
  ·rw[hf id h] at hb;cases hb
  ·rw[hb] at h;cases h;exact h2 rfl
 ·exact hb
theorem Bx{x y:St}{a3:Nat}{al:Bool}{o:Oper}{s:St}(h:StEq x y)(hk:Ug gl ch a3 al o x=some s):∃s',Ug gl ch a3 al o y=some s'∧StEq s s':=by
 obtain⟨a6,hk,a4⟩:=Dc hk;obtain⟨f,args,r,hp',N,nx',hg,hd,ht,hc,hx,hN,ab,rfl⟩:=C8 hk;refine⟨(⟨y.n,y.sl,ZS y.hp (pick hp' N),nx'⟩:St).putO o.dst r,?_,?_⟩;·refine Wm (I7 hg (by rw[← h.n];exact hd) (by rw[← h.nx];exact ht) (by rw[← h.ev];exact hc) (by rw[← h.hp,← h.nx];exact hx)) a4
 ·refine⟨by rw[Wg,Wg];exact h.n,by rw[Dw,Dw],fun k=> ?_,?_⟩
  ·have:=KZ (⟨x.n,x.sl,ZS x.hp (pick hp' N),nx'⟩:St) o.dst (r,none) k;have h2:=KZ (⟨y.n,y.sl,ZS y.hp (pick hp' N),nx'⟩:St) o.dst (r,none) k;show St.get (St.eff _ o.dst (r,none)) k=St.get (St.eff _ o.dst (r,none)) k;rw[this,h2];split;·rfl
   ·exact h.get k
  ·rw[Vt,Vt];funext k;rw[Ji,Ji,h.hp]
theorem swapSH(h:RelS m H B H0 gl rest st a.tmps w){oj oi:Oper}{bj ap:Nat}{al:Bool}(hc:L5 all oj oi=false)(af:hkCl (hk oj.op) (hk oi.op)=false)(au:al=true→hk oj.op=0){s1 s2:St}(h1:Xg P gl (fun _=>ch) false (fun _=>none) all bj oj st=some s1)(h2:Ug gl ch ap al oi s1=some s2):
  ∃t1 t2,Ug gl ch ap al oi st=some t1∧Xg P gl (fun _=>ch) false (fun _=>none) all bj oj t1=some t2∧StEq t2 s2:=by
 obtain⟨c1,c2,c3⟩:=Mb hc;rw[Kw] at h1;split at h1
 ·rename_i k1;simp only[Bool.and_eq_true,Option.isNone_iff_eq_none] at k1;obtain⟨⟨aw,a7⟩,b2⟩:=k1;have a6:bj<st.nx:=Nat.le_of_ble_eq_true b2;split at h1
  ·rename_i rj ak;cases h1;obtain⟨aq,h2,aa⟩:=Dc h2;obtain⟨f,args,r,hp',N,nx',hg,hd,ht,a8,hx,hN,ah,rfl⟩:=C8 h2;rw[W7] at hd;rw[D4] at ht hx hN ah;obtain⟨e1,e2⟩:=CE (st:=st) (gl:=gl) (all:=all) (o:=oi) rj c1;rw[W6 e1] at a8;have b1:=TP a8;have a9:∀id b,rj.2=some (id,b)→id=bj:=fun id b hb=>by
    have am:UD P (fun _=>ch) false (fun _=>none) all bj oj (gval all oj st) (st.ev gl) (lkb st.hp)=some (rj.1,some (id,b)):=by rw[ak,← hb]
    rcases Nm (fun _=>rfl) am with h | ⟨b0,_⟩
    ·exact h
    ·rw[b0,b1] at af;cases af
   have ag:Ext (lkb st.hp) (lkb (st.eff oj.dst rj).hp):=by
    rw[Jr];split
    ·rename_i id b hb;obtain rfl:=a9 id b hb;exact Ht a7
    ·exact fun _ _ h=>h
   rw[T1 h ag (Ec h a8)] at hx;obtain⟨a4,N2,ai,b4,ab⟩:=T3 hx;have aj:∀t,ZS t (pick hp' N)=ZS t (pick a4 N2):=fun t=>by rw[ai]
   simp only[ai] at hx;have ay:∀id,st.nx≤id→lkb st.hp id=none:=fun id a9=>h.heap.fresh id a9
   let st':St:=⟨st.n,st.sl,ZS st.hp (pick a4 N2),nx'⟩
   have ax:st'.ev gl=st.ev gl:=by funext x;cases x<;>rfl
   have az:gval all oj st'=gval all oj st:=by unfold gval;split<;>first | rfl | (split<;>rfl)
   obtain⟨f1,f2⟩:=CE (st:=st') (gl:=gl) (all:=all) (o:=oj) (r,none) c3;have ac:UD P (fun _=>ch) false (fun _=>none) all bj oj (gval all oj (st'.putO oi.dst r)) ((st'.putO oi.dst r).ev gl) (lkb (st'.putO oi.dst r).hp)=some rj:=by
    rw[← ak];refine N1 (f2.trans az) (fun x hx=>(f1 x hx).trans (congrFun ax x)) ?_
    rw[Vt];cases aq with
    |false=>exact HL h (O6 ab ay)
    |true=>exact HM (au (aa rfl))
   rw[aj];refine⟨st'.putO oi.dst r,(st'.putO oi.dst r).eff oj.dst rj,Wm (I7 hg hd ht a8 hx) aa,?_,?_⟩
   ·rw[Kw,if_pos,ac];simp only[Bool.and_eq_true,Option.isNone_iff_eq_none,Wg,Vt,Dw];exact⟨⟨aw,by show lkb (ZS st.hp (pick a4 N2)) bj=none;rw[lkb_new ab a6 a7];exact a7⟩,Nat.ble_eq_true_of_le (Nat.lt_of_lt_of_le a6 ah)⟩
   ·refine⟨by rw[W7,Wg,Wg,W7],by rw[D4,Dw,Dw],fun k=> ?_,?_⟩
    ·rw[KZ];have q1:=KZ st' oi.dst (r,none) k;have q2:=KZ (⟨(st.eff oj.dst rj).n,(st.eff oj.dst rj).sl,ZS (st.eff oj.dst rj).hp (pick a4 N2),nx'⟩:St) oi.dst (r,none) k;have q3:=KZ st oj.dst rj k;rw[show(st'.putO oi.dst r).get k=_ from q1];refine Eq.trans ?_ (Eq.symm q2);have q4:St.get (⟨(st.eff oj.dst rj).n,(st.eff oj.dst rj).sl,ZS (st.eff oj.dst rj).hp (pick a4 N2),nx'⟩:St) k=(st.eff oj.dst rj).get k:=rfl
     rw[q4,q3];by_cases k1:oj.dst=some k<;>by_cases k2:oi.dst=some k<;>simp only[k1,k2,if_true,if_false]
     ·exact absurd k1 (DZ c2 (by simp[k2]))
     all_goals rfl
    ·rw[Jr,Vt,Vt];funext k;show(match rj.2 with | some (id,b)=>updF (lkb (ZS st.hp (pick a4 N2))) id (some b) | none=>lkb (ZS st.hp (pick a4 N2))) k=lkb (ZS (st.eff oj.dst rj).hp (pick a4 N2)) k
     rw[Ji (hp:=a4) N2 (st.eff oj.dst rj).hp,Jr];cases hb:rj.2 with
     |some x=>
      obtain⟨id,b⟩:=x;obtain rfl:=a9 id b hb;by_cases e:k=id
      ·subst e;simp only[Qj];rw[if_neg fun hh=>Oi ab a6 a7 hh.1]
      ·simp only[Qn _ _ e,Ji]
     |none=>simp only[Ji]
  ·cases h1
 ·cases h1
theorem swapHS(h:RelS m H B H0 gl rest st a.tmps w){oj oi:Oper}{bi ab:Nat}{al:Bool}(am:bi<ab)(hc:L5 all oj oi=false)(ad:hkCl (hk oj.op) (hk oi.op)=false)(ak:al=true→hk oi.op=0){s1 s2:St}(h1:Ug gl ch ab al oj st=some s1)(h2:Xg P gl (fun _=>ch) false (fun _=>none) all bi oi s1=some s2):
  ∃t1 t2,Xg P gl (fun _=>ch) false (fun _=>none) all bi oi st=some t1∧Ug gl ch ab al oj t1=some t2∧StEq t2 s2:=by
 obtain⟨c1,c2,c3⟩:=Mb hc;obtain⟨ai,h1,a9⟩:=Dc h1;obtain⟨f,args,r,hp',N,nx',hg,hd,ht,aa,hx,hN,bf,rfl⟩:=C8 h1;have aw:=TP aa;rw[Kw] at h2;split at h2
 ·rename_i k1;simp only[Bool.and_eq_true,Option.isNone_iff_eq_none,Wg,Vt,Dw] at k1;obtain⟨⟨ao,a4⟩,be⟩:=k1;have a8:bi<st.nx:=Nat.lt_of_lt_of_le am ht;have a4:lkb st.hp bi=none:=by
   rw[Ji] at a4;split at a4
   ·rename_i hh;rw[a4] at hh;simp at hh
   ·exact a4
  split at h2
  ·rename_i ri ax;cases h2;have aq:∀id,st.nx≤id→lkb st.hp id=none:=fun id a7=>h.heap.fresh id a7
   let st':St:=⟨st.n,st.sl,ZS st.hp (pick hp' N),nx'⟩
   have ap:st'.ev gl=st.ev gl:=by funext x;cases x<;>rfl
   have ar:gval all oi st'=gval all oi st:=by unfold gval;split<;>first | rfl | (split<;>rfl)
   obtain⟨f1,f2⟩:=CE (st:=st') (gl:=gl) (all:=all) (o:=oi) (r,none) c1;have a5:UD P (fun _=>ch) false (fun _=>none) all bi oi (gval all oi st) (st.ev gl) (lkb st.hp)=some ri:=by
    rw[← ax];refine(N1 (f2.trans ar) (fun x hx=>(f1 x hx).trans (congrFun ap x)) ?_).symm
    rw[Vt];cases ai with
    |false=>exact HL h (O6 hN aq)
    |true=>exact HM (ak (a9 rfl))
   have a7:∀id b,ri.2=some (id,b)→id=bi:=fun id b hb=>by
    have af:UD P (fun _=>ch) false (fun _=>none) all bi oi (gval all oi st) (st.ev gl) (lkb st.hp)=some (ri.1,some (id,b)):=by rw[a5,← hb]
    rcases Nm (fun _=>rfl) af with h | ⟨au,_⟩
    ·exact h
    ·rw[au,aw] at ad;cases ad
   obtain⟨g1,g2⟩:=CE (st:=st) (gl:=gl) (all:=all) (o:=oj) ri c3;have ae:Ext (lkb st.hp) (lkb (st.eff oi.dst ri).hp):=by
    rw[Jr];split
    ·rename_i id b hb;obtain rfl:=a7 id b hb;exact Ht a4
    ·exact fun _ _ h=>h
   refine⟨st.eff oi.dst ri,(⟨(st.eff oi.dst ri).n,(st.eff oi.dst ri).sl,ZS (st.eff oi.dst ri).hp (pick hp' N),nx'⟩:St).putO oj.dst r,?_,?_,?_⟩
   ·rw[Kw,if_pos,a5];simp only[Bool.and_eq_true,Option.isNone_iff_eq_none];exact⟨⟨ao,a4⟩,Nat.ble_eq_true_of_le a8⟩
   ·exact Wm (I7 hg (by rw[W7];exact hd) (by rw[D4];exact ht) (by rw[W6 g1];exact aa) (by rw[T1 h ae (Ec h aa),D4];exact hx)) a9
   ·refine⟨by simp only[W7,Wg],by simp only[D4,Dw],fun k=> ?_,?_⟩
    ·rw[KZ];have q1:=KZ st' oj.dst (r,none) k;have q2:=KZ (⟨(st.eff oi.dst ri).n,(st.eff oi.dst ri).sl,ZS (st.eff oi.dst ri).hp (pick hp' N),nx'⟩:St) oj.dst (r,none) k;have q3:=KZ st oi.dst ri k;rw[show(st'.putO oj.dst r).get k=_ from q1];refine Eq.trans q2 ?_;have q4:St.get (⟨(st.eff oi.dst ri).n,(st.eff oi.dst ri).sl,ZS (st.eff oi.dst ri).hp (pick hp' N),nx'⟩:St) k=(st.eff oi.dst ri).get k:=rfl;rw[q4,q3]
     by_cases k1:oj.dst=some k<;>by_cases k2:oi.dst=some k<;>simp only[k1,k2,if_true,if_false]
     ·exact absurd k1 (DZ c2 (by simp[k2]))
     all_goals rfl
    ·rw[Jr,Vt,Vt];funext k;show lkb (ZS (st.eff oi.dst ri).hp (pick hp' N)) k=(match ri.2 with | some (id,b)=>updF (lkb (ZS st.hp (pick hp' N))) id (some b) | none=>lkb (ZS st.hp (pick hp' N))) k
     rw[Ji (hp:=hp') N (st.eff oi.dst ri).hp,Jr];cases hb:ri.2 with
     |some x=>
      obtain⟨id,b⟩:=x;obtain rfl:=a7 id b hb;by_cases e:k=id
      ·subst e;simp only[Qj];rw[if_neg fun hh=>Oi hN a8 a4 hh.1]
      ·simp only[Qn _ _ e,Ji]
     |none=>simp only[Ji]
  ·cases h2
 ·cases h2
theorem Nb{hv:List Nat}{i:Nat}:hv.any (Nat.beq i)=true↔i∈hv:=by
 rw[List.any_eq_true];constructor
 ·rintro⟨x,hx,h⟩;rw[Nat.eq_of_beq_eq_true h];exact hx
 ·intro h;exact⟨i,h,Nat.beq_refl i⟩
theorem Eh{i j:Nat}{oj:Oper}(h:L9 all i=true)(hj:all[j]? =some oj)(a4:j≠i):hk oj.op=0∨(j<i∧((Xx all []).getD i 0).testBit j=true)∨(i<j∧((Xx all []).getD j 0).testBit i=true):=by
 have:=List.all_eq_true.1 h j (List.mem_range.2 (List.getElem?_eq_some_iff.1 hj).1);rw[beq_ne a4,hj] at this;simp only[Bool.false_or,Bool.or_eq_true] at this;rcases this with h | h
 ·exact .inl (Nat.eq_of_beq_eq_true h)
 ·right;split at h;·rename_i a3;exact .inl ⟨Nat.le_of_ble_eq_true a3,h⟩
  ·rename_i a3;refine .inr ⟨?_,h⟩;have:¬j<i:=fun hh=>by
    have:Nat.blt j i=true:=Nat.ble_eq_true_of_le hh;rw[a3] at this;cases this
   omega
theorem OB(a6:ch.Ok P gl)(ac:G3 all=true)(ab:mdR all=false){base:Nat}{hv hc:List Nat}(a9:hvOk all hv)(a7:∀i∈hc,L9 all i=true):My P B H0 gl rest all (stpH P gl ch all base hv hc) where
 sound:=fun {i o st s a w m H} h hk ro n next Q hn=>by
  unfold stpH at hk;split at hk
  ·obtain⟨_,aa,_⟩:=Dc hk;obtain⟨_,_,_,_,_,_,hg,_⟩:=C8 aa;rw[if_pos (by simp[Region.wanted,hg])]
   exact BB a6 h hk ro n next Q hn
  ·exact Hl (Nc a6) h hk ro n next Q hn
 eq:=fun {i o x y s} h hk=>by
  unfold stpH at hk ⊢;split at hk
  ·rename_i hi;exact Bx h hk
  ·rename_i hi;exact h.stepO hk
 swap:=fun {j i oj oi st s1 s2 a w m H} hji hoj hoi hbit h h1 h2=>by
  have a3:Mz (mdR all) all oj oi=false:=by
   cases a3:Mz (mdR all) all oj oi with
   |false=>rfl
   |true=>have:=(KC ac i oi hoi).pair j oj hji hoj a3;rw[hbit] at this;cases this
  rw[ab] at a3;simp only[Mz,Bool.or_eq_false_iff,Bool.not_false,Bool.true_and] at a3;have af:i<all.length:=(List.getElem?_eq_some_iff.1 hoi).1;unfold stpH at h1 h2 ⊢;cases hj:hv.any (Nat.beq j) with
  |true=>
   simp only[hj] at h1 ⊢;cases hi:hv.any (Nat.beq i) with
   |true=>
    have:=a9 j i hji (Nb.1 hj) (Nb.1 hi);rw[hbit] at this;cases this
   |false=>
    simp only[hi] at h2;refine swapHS h (by omega) a3.1 a3.2 (fun a4=> ?_) h1 h2
    rcases Eh (a7 j (Nb.1 a4)) hoi (by omega) with h | h | h
    ·exact h
    ·omega
    ·rw[hbit] at h;cases h.2
  |false=>
   simp only[hj] at h1 ⊢;cases hi:hv.any (Nat.beq i) with
   |true=>
    simp only[hi] at h2;refine swapSH h a3.1 a3.2 (fun a4=> ?_) h1 h2
    rcases Eh (a7 i (Nb.1 a4)) hoj (by omega) with h | h | h
    ·exact h
    ·rw[hbit] at h;cases h.2
    ·omega
   |false=>
    simp only[hi] at h2;exact swap h (by omega) ⟨a3.1,.inl a3.2⟩ h1 h2
theorem HH{base:Nat}:∀(n k:Nat) (hv hc a4 a5:List Nat) (st s:St),runH P gl ch all base (List.range' k n) hv hc st=some (s,a4,a5)→(∀j∈hv,j<k)→(∀j∈hc,j<k)→hvOk all hv→(∀i∈hc,L9 all i=true)→
  hvOk all a4∧(∀i∈a5,L9 all i=true)∧(∀j,j<k→(j∈a4↔j∈hv))∧(∀j,j<k→(j∈a5↔j∈hc))∧runG (stpH P gl ch all base a4 a5) all (List.range' k n) st=some s
 |0,k,hv,hc,a4,a5,st,s,h,h1,h1c,h2,h3=>by
  simp only[List.range'_zero,runH,Option.some.injEq,Prod.mk.injEq] at h;obtain⟨rfl,rfl,rfl⟩:=h;exact⟨h2,h3,fun j _=>Iff.rfl,fun j _=>Iff.rfl,rfl⟩
 |n+1,k,hv,hc,a4,a5,st,s,h,h1,h1c,h2,h3=>by
  simp only[List.range'_succ,runH] at h;split at h
  ·rename_i o ho;split at h
   ·rename_i s1 ak a6;have a6:DF gl ch (base+all.length) o st=some (s1,ak):=by
     split at a6;·exact a6
     ·cases a6
    split at h
    ·rename_i ag;have af:hvOk all (k::hv):=fun j i am hj hi=>by
      rcases List.mem_cons.1 hi with e | hi
      ·subst e;rcases List.mem_cons.1 hj with e | hj
       ·omega
       ·exact List.all_eq_true.1 ag j hj
      ·rcases List.mem_cons.1 hj with e | hj
       ·have:=h1 i hi;omega
       ·exact h2 j i am hj hi
     have ae:∀j∈k::hv,j<k+1:=fun j hj=>by
      rcases List.mem_cons.1 hj with e | hj
      ·omega
      ·have:=h1 j hj;omega
     have a8:∀l:List Nat,∀j,j<k→(j∈k::l↔j∈l):=fun l j hj=>⟨fun h=>by
      rcases List.mem_cons.1 h with e | h
      ·omega
      ·exact h,fun h=>by simp[h]⟩
     split at h
     ·split at h
      ·rename_i ac;obtain⟨q1,q2,q3,q4,q5⟩:=HH n (k+1) (k::hv) (k::hc) a4 a5 s1 s h ae (fun j hj=>by
        rcases List.mem_cons.1 hj with e | hj
        ·omega
        ·have:=h1c j hj;omega) af (fun i hi=>by
        rcases List.mem_cons.1 hi with e | hi
        ·rw[e];exact ac
        ·exact h3 i hi)
       refine⟨q1,q2,fun j hj=>(q3 j (by omega)).trans (a8 hv j hj),fun j hj=>(q4 j (by omega)).trans (a8 hc j hj),?_⟩
       have hk:a4.any (Nat.beq k)=true:=Nb.2 ((q3 k (by omega)).2 (by simp))
       have ao:a5.any (Nat.beq k)=true:=Nb.2 ((q4 k (by omega)).2 (by simp))
       simp only[List.range'_succ,runG,ho,stpH,hk,ao,Wm a6 (fun _=>rfl)]
       exact q5
      ·cases h
     ·obtain⟨q1,q2,q3,q4,q5⟩:=HH n (k+1) (k::hv) hc a4 a5 s1 s h ae (fun j hj=>by have:=h1c j hj;omega) af h3
      refine⟨q1,q2,fun j hj=>(q3 j (by omega)).trans (a8 hv j hj),fun j hj=>q4 j (by omega),?_⟩
      have hk:a4.any (Nat.beq k)=true:=Nb.2 ((q3 k (by omega)).2 (by simp))
      simp only[List.range'_succ,runG,ho,stpH,hk,Wm a6 (al:=a5.any (Nat.beq k)) (fun e=>by cases e)]
      exact q5
    ·cases h
   ·split at h
    ·rename_i s1 a6;obtain⟨q1,q2,q3,q4,q5⟩:=HH n (k+1) hv hc a4 a5 s1 s h (fun j hj=>by have:=h1 j hj;omega) (fun j hj=>by have:=h1c j hj;omega) h2 h3
     refine⟨q1,q2,fun j hj=>q3 j (by omega),fun j hj=>q4 j (by omega),?_⟩
     have hk:a4.any (Nat.beq k)=false:=by
      cases hb:a4.any (Nat.beq k) with
      |false=>rfl
      |true=>have:=h1 k ((q3 k (by omega)).1 (Nb.1 hb));omega
     simp only[List.range'_succ,runG,ho,stpH,hk,a6];exact q5
    ·cases h
  ·cases h
end
end HY
end
section
namespace HY
open Go Go.RowKit
abbrev XI:=Nat→List AV→Tr Box→Nat→Option (AV×Tr Box×Nat)
def RoundOk(P:Program)(gl:Nat→AV)(id:Nat)(args:List AV)(hp:Tr Box)(nx:Nat)(r:AV)(hp':Tr Box)(nx':Nat):Prop:=
 ∀(m:Nat→Lc) (H:HV) (B:Nat→Prop) (H0:HV) (rest:List (AV×Value)) (w:World) (vs:Array Value) (l:Nat),RelH m H B H0 gl (lkb hp) nx w→(Q3 (lkb hp) m).lp id=some l→args.length=vs.size→
  (∀(j:Nat) (x:AV) (v:Value),args[j]? =some x→vs[j]? =some v→RV H (Q3 (lkb hp) m) x v)→(∀p∈rest,RV H (Q3 (lkb hp) m) p.1 p.2)→
  ∃fn tmps a3 bd,(Instr.yield l vs).run P w= .ok (.round l fn tmps a3 bd) w∧∀ro n,RoundIn (FW ro) n P l fn tmps a3 bd w fun e w'=>
   ∃v m' H',e= .returned v∧Qa B w w'∧RelH m' H' B H0 gl (lkb hp') nx' w'∧RV H' (Q3 (lkb hp') m') r v∧∀p∈rest,RV H' (Q3 (lkb hp') m') p.1 p.2
def XI.Ok(P:Program)(gl:Nat→AV)(rd:XI):Prop:=∀id args hp nx r hp' nx',rd id args hp nx=some (r,hp',nx')→RoundOk P gl id args hp nx r hp' nx'
def Pm(ev:Operand→AV)(op:Op):Option (Nat×List AV):=
 match op with
 | .call c=>match c.callee with
  | .value x=>match ev x with
   | .yld id=>some (id,c.args.toList.map ev)
   |_=>none
  |_=>none
 |_=>none
def xinl(ch:Qm)(rd:XI)(ev:Operand→AV)(op:Op)(dst:Option Nat)(st:St):Option St:=
 match XM ev op with
 |some (f,args)=>match ch f args st.hp st.nx with
  |some (r,hp',nx')=>some ((st.setHp hp' nx').putO dst r)
  |none=>none
 |none=>match Pm ev op with
  |some (id,args)=>match rd id args st.hp st.nx with
   |some (r,hp',nx')=>some ((st.setHp hp' nx').putO dst r)
   |none=>none
  |none=>none
def MK(P:Program)(gl:Nat→AV)(ch:Qm)(rd:XI)(o:Oper)(st:St):Option St:=
 if Vd o.op then xinl ch rd (st.ev gl) o.op o.dst st
 else match xop P st.nx o.dst o.op (st.ev gl) (lkb st.hp) with
  |some r=>match r.2 with
   |some _=>some ((st.bump 1).eff o.dst r)
   |none=>some (st.putO o.dst r.1)
  |none=>match xopM P st.nx o.dst o.op (st.ev gl) (lkb st.hp) with
   |some r=>some ((st.bump 1).eff o.dst r)
   |none=>none
def xseq(P:Program)(gl:Nat→AV)(ch:Qm)(rd:XI)(all:List Oper):List Oper→St→Option St
 | [],st=>some st
 |o::l,st=>if QU o.dst st.n then(match o.guard with
  |none=>match MK P gl ch rd o st with
   |some s=>xseq P gl ch rd all l s
   |none=>none
  |some (j,want)=>match Wb all j with
   |some g=>match NL (st.get g) want with
    |some true=>match MK P gl ch rd o st with
     |some s=>xseq P gl ch rd all l s
     |none=>none
    |some false=>xseq P gl ch rd all l (st.putO o.dst (.tup []))
    |none=>none
   |none=>none) else none
def L4(l:List Oper):Option Oper:=
 match l[l.length - 1]? with
 |some o=>match o.op with
  | .mapUpdate .. =>match o.guard with
   |none=>some o
   |_=>none
  | .call c=>match c.callee with
   | .value (.tmp _)=>match o.guard with
    |none=>some o
    |_=>none
   | .builtin .copy=>match o.guard with
    |none=>some o
    |_=>none
   |_=>none
  |_=>none
 |none=>none
def Qx:Code→Bool
 | .region _ ops draw=> !draw || (G3 ops.toList&& (match L4 ops.toList with | some _=>Lx ops.toList | none=>true))
 | .seq a b=>Qx a&&Qx b
 | .cond _ a b=>Qx a&&Qx b
 | .block _ c=>Qx c
 | .loop c=>Qx c
 | .scope c=>Qx c
 | .rangeFunc _ _ a b=>Qx a&&Qx b
 |_=>true
def Ag(P:Program)(gl:Nat→AV)(ch:Qm)(l:List Oper)(base:Nat)(n:Nat)(st:St):Option St:=match mdR l with
 |true=>runF P gl (fun _=>ch) l base (List.range n) (fun _=>none) st
 |false=>match runH P gl ch l base (List.range n) [] [] st with
  |some (s,_,_)=>some s
  |none=>none
theorem FP{P:Program}{gl:Nat→AV}{ch:Qm}{l:List Oper}{base n:Nat}{st s:St}(h:Ag P gl ch l base n st=some s):
  (∃F,runI P gl (fun _=>ch) (mdR l) F l base (List.range n) st=some s∧(mdR l=true→Lv F l base n))∨(mdR l=false∧∃hv hc,hvOk l hv∧(∀i∈hc,L9 l i=true)∧runG (stpH P gl ch l base hv hc) l (List.range n) st=some s):=by
 unfold Ag at h;cases hm:mdR l with
 |true=>rw[hm] at h;obtain⟨F,h1,h2⟩:=Q01 h;exact .inl ⟨F,h1,fun _=>h2⟩
 |false=>
  rw[hm] at h;simp only at h;split at h
  ·rename_i hv hc hs;cases h;rw[List.range_eq_range'] at hs;obtain⟨q2,q3,_,_,q4⟩:=HH n 0 [] [] hv hc st s hs (fun j hj=>by cases hj) (fun j hj=>by cases hj) (fun j i _ hj=>by cases hj) (fun i hi=>by cases hi)
   rw[← List.range_eq_range'] at q4;exact .inr ⟨rfl,hv,hc,q2,q3,q4⟩
  ·cases h
def xregD(P:Program)(gl:Nat→AV)(ch:Qm)(rd:XI)(l:List Oper)(st:St):Option St:=
 match L4 l with
 |some o=>match Ag P gl ch l st.nx (l.length - 1) (st.bump l.length) with
  |some s=>if QU o.dst s.n then(match xopM P s.nx o.dst o.op (s.ev gl) (lkb s.hp) with
   |some r=>some ((s.bump 1).eff o.dst r)
   |none=>xinl ch rd (s.ev gl) o.op o.dst s) else none
  |none=>none
 |none=>Ag P gl ch l st.nx l.length (st.bump l.length)
def lift(o:Option St):Option (Exit×St×List Nat):=match o with | some s=>some (.normal,s,[]) | none=>none
def IE(P:Program)(f:Nat):Bool:=match P.funcs[f]? with
 |some fn=>(fn.name != "runtime.NumGoroutine")&&fn.body.isSome
 |none=>false
theorem Gt{P:Program}{f:Nat}(h:IE P f=true):M0 P f:=by
 unfold IE at h;split at h
 ·rename_i fn hf;simp only[Bool.and_eq_true,bne_iff_ne] at h;exact D5 hf (by simpa using h.1) h.2
 ·cases h
def Ph(P:Program)(gl:Nat→AV)(ch:Qm)(g:Operand)(ps:Array Tmp)(a3 bd:Code)(st:St):Option (Exit×St×List Nat):=
 match st.ev gl g with
 | .fn f caps=>bif IE P f then match ch f (.yld (st.nx+1)::caps) (pt (pt st.hp st.nx (.defb true)) (st.nx+1) (.loop .ready none st.n st.sl ps a3 bd st.nx)) (st.nx+2) with
  |some (_,hp',nx')=>match lkb hp' (st.nx+1) with
   |some (.loop s3 pend n3 sl3 ps3 as3 bd3 d3)=>if s3= .busy then none else match pend with
    |none=>some (.normal,st.setHp (pt hp' (st.nx+1) (.loop .exhausted pend n3 sl3 ps3 as3 bd3 d3)) nx',[st.nx])
    |some .ret=>some (.ret,st.setHp (pt hp' (st.nx+1) (.loop .exhausted pend n3 sl3 ps3 as3 bd3 d3)) nx',[st.nx])
    |some (.exit i)=>some (.exit i,st.setHp (pt hp' (st.nx+1) (.loop .exhausted pend n3 sl3 ps3 as3 bd3 d3)) nx',[st.nx])
    |_=>none
   |_=>none
  |none=>none
  else none
 |_=>none
def KQ(P:Program)(gl:Nat→AV)(ch:Qm)(rd:XI)(a3:Bool):Nat→Code→St→Option (Exit×St×List Nat)
 |0,_,_=>none
 |k+1,c,st=>match c with
  | .skip=>some (.normal,st,[])
  | .label _=>some (.normal,st,[])
  | .exit id=>some (.exit id,st,[])
  | .ret=>some (.ret,st,[])
  | .region _ ops draw=>bif draw then lift (xregD P gl ch rd ops.toList st) else lift (xseq P gl ch rd ops.toList ops.toList st)
  | .seq a b=>match KQ P gl ch rd a3 k a st with
   |some (.normal,s,d)=>match KQ P gl ch rd a3 k b s with
    |some (e,s',d')=>some (e,s',d'++d)
    |none=>none
   |r=>r
  | .cond c a b=>match st.ev gl c with
   | .bool t=>bif t then KQ P gl ch rd a3 k a st else KQ P gl ch rd a3 k b st
   |_=>none
  | .block id c=>match KQ P gl ch rd a3 k c st with
   |some (.exit i,s,d)=>if i=id then some (.normal,s,d) else some (.exit i,s,d)
   |r=>r
  | .loop c=>match KQ P gl ch rd a3 k c st with
   |some (.normal,s,d)=>match KQ P gl ch rd a3 k (.loop c) s with
    |some (e,s',d')=>some (e,s',d'++d)
    |none=>none
   |r=>r
  | .rangeFunc g ps azz bd=>bif a3 then Ph P gl ch g ps azz bd st else none
  | .scope c=>match KQ P gl ch rd a3 k c st with
   |some (.goto _,_,_)=>none
   |r=>r
  |_=>none
def MC(D:List (Nat×Nat)):List Deferred:=D.map fun p=> {target:=.collected p.2,args:= #[]}
def Jc(gl:Nat→AV)(B:Nat→Prop)(H0:HV)(rest:List (AV×Value))(a:Act)(w:World)(st':St)(ds:List Nat)(a':Act)(w':World):Prop:=
 ∃m' H' D,D.map (·.1)=ds∧a'.defers=MC D++a.defers∧(∀p∈D,(st'.env m').lp p.1=some p.2)∧Qa B w w'∧RelS m' H' B H0 gl rest st' a'.tmps w'
def Ao(P:Program)(gl:Nat→AV)(ro:Option Nat)(n:Nat)(c:Code)(st:St)(ex:Exit)(st':St)(ds:List Nat):Prop:=
 ∀(B:Nat→Prop) (H0:HV) (rest:List (AV×Value)) (m:Nat→Lc) (H:HV) (a:Act) (w:World),RelS m H B H0 gl rest st a.tmps w→c.wpIn (FW ro) n P (fun e a' w'=>e=ex∧Jc gl B H0 rest a w st' ds a' w') a w
section
variable {P : Program} {m : Nat → Lc} {H : HV} {B : Nat → Prop} {H0 : HV} {gl : Nat → AV} {rest : List (AV × Value)} {st : St} {a : Act} {w : World} {ch : Qm} {rd : XI}
theorem Sk{H':HV}{E E':Env}{x:AV}(h:RV H E x Go.undef):RV H' E' x Go.undef:=by
 unfold Go.undef at h ⊢;cases h with
 |imm _ _ h=>
  cases h with
  |undef=>exact .imm _ _ (.undef _)
  |val=>exact .imm _ _ (.val _)
  |tup cs _ hl _=>
   have:cs=[]:=List.eq_nil_of_length_eq_zero (by simpa using hl)
   subst this;exact .tup [] #[] rfl (fun j c v hj=>by simp at hj)
 |tup cs _ hl _=>
  have:cs=[]:=List.eq_nil_of_length_eq_zero (by simpa using hl)
  subst this;exact .tup [] #[] rfl (fun j c v hj=>by simp at hj)
theorem RelS.taken(h:RelS m H B H0 gl rest st a.tmps w){dst:Option Nat}(hd:QU dst st.n=true){hp':Tr Box}{nx':Nat}{r:AV}{v:Value}{m':Nat→Lc}{H':HV}{w':World}(hh:RelH m' H' B H0 gl (lkb hp') nx' w')(a6:RV H' (Q3 (lkb hp') m') r v)
  (a3:∀p∈ (List.range st.n).map (fun k=>(st.get k,a.tmps.getD k Go.undef))++rest,RV H' (Q3 (lkb hp') m') p.1 p.2):RelS m' H' B H0 gl rest ((st.setHp hp' nx').putO dst r) (a.put dst v).tmps w':=by
 have h1:RelS m' H' B H0 gl rest (st.setHp hp' nx') a.tmps w':=by
  refine⟨hh,h.size,fun k=> ?_,fun p hp=>a3 p (List.mem_append_right _ hp)⟩
  rcases Nat.lt_or_ge k st.n with a5 | a4
  ·exact a3 (st.get k,a.tmps.getD k Go.undef) (List.mem_append_left _ (List.mem_map.2 ⟨k,List.mem_range.2 a5,rfl⟩))
  ·have hu:a.tmps.getD k Go.undef=Go.undef:=by rw[Array.getD_eq_getD_getElem?,Array.getElem?_eq_none (by rw[h.size];exact a4)];rfl
   have:=h.slot k;rw[hu] at this ⊢;exact Sk this
 exact h1.putO hd a6
theorem RelS.hold(h:RelS m H B H0 gl rest st a.tmps w):∀p∈ (List.range st.n).map (fun k=>(st.get k,a.tmps.getD k Go.undef))++rest,RV H (st.env m) p.1 p.2:=fun p hp=>by
 rw[List.mem_append,List.mem_map] at hp;rcases hp with⟨q,_,rfl⟩ | hp
 ·exact h.slot _
 ·exact h.rest p hp
theorem Q0m{ev:Operand→AV}{op:Op}{id:Nat}{args:List AV}(h:Pm ev op=some (id,args)):∃c x,op= .call c∧c.callee= .value x∧ev x= .yld id∧args=c.args.toList.map ev:=by
 unfold Pm at h;split at h
 ·rename_i c;split at h
  ·rename_i x hx;split at h
   ·rename_i a5 hf;cases h;exact⟨c,x,rfl,hx,hf,rfl⟩
   ·cases h
  ·cases h
 ·cases h
theorem Fh(ae:ch.Ok P gl)(aj:rd.Ok P gl)(h:RelS m H B H0 gl rest st a.tmps w){o:Oper}(hd:QU o.dst st.n=true){st':St}(hk:xinl ch rd (st.ev gl) o.op o.dst st=some st')(ro:Option Nat)(n:Nat):Uu P ro n B H0 gl rest a w o st':=by
 unfold xinl at hk;split at hk
 ·rename_i f args hc;split at hk
  ·rename_i r hp' nx' hr;cases hk;have a7:=ae _ _ _ _ _ _ _ hr;refine Nx h hc ro n fun vs hl hv=> ?_
   refine(a7 m H B H0 _ w vs h.heap hl hv h.hold).mono fun e w' a3=> ?_
   obtain⟨v,m',H',rfl,hb,hh,a9,a4⟩:=a3;exact⟨v,m',H',rfl,hb,h.taken hd hh a9 a4⟩
  ·cases hk
 ·split at hk
  ·rename_i id args hy;split at hk
   ·rename_i r hp' nx' hr;cases hk;obtain⟨c,x,ho,hx,af,rfl⟩:=Q0m hy;have ac:=h.ev x;rw[af] at ac;obtain⟨l,hl,ah⟩:=ac.yld_inv;have a6:=WC h c.args.toList;obtain⟨fn,tmps,ad,bd,ab,a5⟩:=aj _ _ _ _ _ _ _ hr m H B H0 _ w (c.args.map a.eval) l h.heap ah (by simp) (fun j y v hy hv=>a6.2 j y v hy (by simpa using hv)) h.hold
    intro next Q hn;refine⟨fun _ _=>trivial,?_⟩
    have a8:(execOp a.eval o).run P w= .ok (.round l fn tmps ad bd) w:=by
     unfold execOp;simp only[ho,resolve,hx,Sem.run_bind,hl,Deferred.ofValue,Sem.run_pure,Result.andThen_ok,invoke,Array.empty_append];exact ab
    rw[Oper.semAt_eq _ _ _ (fun c e=>by rw[ho] at e;cases e),a8]
    refine⟨(fun hh=>by simp[FW] at hh),(a5 ro (n - 1)).mono fun e w' a3=> ?_⟩
    obtain⟨v,m',H',rfl,hb,hh,a9,a4⟩:=a3;exact hn _ _ _ _ (ZL _ _ _) hb (h.taken hd hh a9 a4)
   ·cases hk
  ·cases hk
theorem RelS.bump(h:RelS m H B H0 gl rest st a.tmps w)(k:Nat):RelS m H B H0 gl rest (st.bump k) a.tmps w:=
 ⟨{h.heap with fresh:=fun id a3=>h.heap.fresh id (Nat.le_trans (Nat.le_add_right _ _) a3)},h.size,h.slot,h.rest⟩
theorem xop_ok0(h:RelS m H B H0 gl rest st a.tmps w){o:Oper}(hd:QU o.dst st.n=true){r:AV×Option (Nat×Box)}(hk:xop P st.nx o.dst o.op (st.ev gl) (lkb st.hp)=some r)(hn:r.2=none):
  OpOk P B H0 gl rest a w o.dst (st.putO o.dst r.1) (execOp a.eval o):=by
 have h1:=Pg (P:=P) (st:=st.bump 1) (h.bump 1) hd (h.heap.fresh _ (Nat.le_refl _)) (Nat.lt_succ_self _) hk;obtain⟨v,b⟩:=r;cases hn;obtain⟨nx,u,w',m',H',h2,h3,h4,h5⟩:=h1;refine⟨nx,u,w',m',H',h2,h3,h4,?_⟩;have a3:((st.bump 1).eff o.dst (v,none)).hp=st.hp:=by show((st.bump 1).putO o.dst v).hp=st.hp;rw[Vt];rfl
 have a4:∀k,((st.bump 1).eff o.dst (v,none)).get k=(st.putO o.dst v).get k:=fun k=>by cases o.dst<;>rfl
 refine⟨?_,?_,fun k=> ?_,fun p hp=> ?_⟩
 ·have hh:=h5.heap;rw[a3] at hh;rw[Vt,Dw];exact {hh with fresh:=h.heap.fresh}
 ·rw[Wg];have:=h5.size;rw[W7] at this;exact this
 ·have:=h5.slot k;rw[a4] at this;show RV H' (Q3 (lkb (st.putO o.dst v).hp) m') _ _;rw[Vt];unfold St.env at this;rw[a3] at this;exact this
 ·have:=h5.rest p hp;show RV H' (Q3 (lkb (st.putO o.dst v).hp) m') _ _;rw[Vt];unfold St.env at this;rw[a3] at this;exact this
theorem I8(a5:ch.Ok P gl)(a6:rd.Ok P gl)(h:RelS m H B H0 gl rest st a.tmps w){o:Oper}(hd:QU o.dst st.n=true){st':St}(hk:MK P gl ch rd o st=some st')(ro:Option Nat)(n:Nat):Uu P ro n B H0 gl rest a w o st':=by
 unfold MK at hk;split at hk;·exact Fh a5 a6 h hd hk ro n
 ·split at hk
  ·rename_i r hr;have h1:=(Pg (st:=st.bump 1) (h.bump 1) hd (h.heap.fresh _ (Nat.le_refl _)) (Nat.lt_succ_self _) hr).step (ro:=ro) (n:=n) (MV hr);split at hk;·cases hk;exact h1
   ·rename_i hn;cases hk;have h2:=(xop_ok0 h hd hr hn).step (ro:=ro) (n:=n) (MV hr);exact h2
  ·split at hk
   ·rename_i r hr;cases hk;exact(OX (st:=st.bump 1) (h.bump 1) hd (h.heap.fresh _ (Nat.le_refl _)) (Nat.lt_succ_self _) hr).step (ro:=ro) (n:=n) (Hj hr)
   ·cases hk
theorem OY(a5:ch.Ok P gl)(a7:rd.Ok P gl){all:List Oper}{ro:Option Nat}{n:Nat}{d0:List Deferred}{w0:World}{sF:St}{Q:Exit→Act→World→Prop}
  (hQ:∀(a:Act) (w:World) (m:Nat→Lc) (H:HV),a.defers=d0→Qa B w0 w→RelS m H B H0 gl rest sF a.tmps w→Q .normal a w):
  ∀(a3 l:List Oper) (st:St) (a:Act) (w:World) (m:Nat→Lc) (H:HV),all=a3++l→xseq P gl ch rd all l st=some sF→a.defers=d0→Qa B w0 w→RelS m H B H0 gl rest st a.tmps w→wpOpsIn (FW ro) n P all.toArray Q (List.range' a3.length l.length) a w
 |a3,[],st,a,w,m,H,_,hk,hd,hb,hr=>by
  simp only[xseq,Option.some.injEq] at hk;subst hk;exact hQ a w m H hd hb hr
 |a3,o::l,st,a,w,m,H,he,hk,hd,hb,hr=>by
  simp only[List.length_cons,List.range'_succ,wpOpsIn];have ho:all.toArray[a3.length]? =some o:=by rw[List.getElem?_toArray,he,List.getElem?_append_right (Nat.le_refl _)];simp
  simp only[ho];have ih:=OY a5 a7 (all:=all) (ro:=ro) (n:=n) hQ (a3++[o]) l;simp only[List.length_append,List.length_cons,List.length_nil,Nat.zero_add,List.append_assoc,List.singleton_append] at ih;simp only[xseq] at hk;split at hk
  ·rename_i a4;have go:∀s,MK P gl ch rd o st=some s→xseq P gl ch rd all l s=some sF→o.wpIn (FW ro) n P a w (wpOpsIn (FW ro) n P all.toArray Q (List.range' (a3.length+1) l.length)) Q:=fun s hs hk=>
    I8 a5 a7 hr a4 hs ro n _ _ fun a' w' m' H' aa a9 ab=>ih s a' w' m' H' he hk (aa.trans hd) (hb.trans a9) ab
   split at hk
   ·rename_i hg;rw[if_pos (by simp[Region.wanted,hg])]
    split at hk;·rename_i s hs;exact go s hs hk
    ·cases hk
   ·rename_i j af hg;split at hk
    ·rename_i g a6;split at hk
     ·rename_i ht;rw[if_pos (Nl hg a6 ht (hr.slot g))];split at hk;·rename_i s hs;exact go s hs hk
      ·cases hk
     ·rename_i ht;rw[if_neg (by rw[Nl hg a6 ht (hr.slot g)];simp)]
      exact⟨fun _ _=>trivial,ih _ _ w m H he hk ((ZL _ _ _).trans hd) hb (hr.putO a4 (.tup [] #[] rfl (fun j c v hj=>by simp at hj)))⟩
     ·cases hk
    ·cases hk
  ·cases hk
theorem Eo{F:Fence}{n:Nat}{Q:Exit→Act→World→Prop}{c:Code}(I:Nat→Act→World→Prop)
  (round:∀j a w,I j a w→c.wpIn F n P (Exit.then (fun a' w'=>∃i,i<j∧I i a' w') Q) a w) {j:Nat} {a:Act} {w:World} (h₀:I j a w):(Code.loop c).wpIn F n P Q a w:=by
 intro b k cs ad hb hr;have key:∀j a w,I j a w→∃e a' w',Q e a' w'∧ArrivesIn (Machine.fenced P F) P (lone (b.atR a (.code c:: .inLoop c::k)) cs w) b k cs e a' w':=by
  intro j
  induction j using Nat.strongRecOn with
  |_ j ih=>
   intro a w hI;obtain⟨e,a₁,w₁,hq,a3⟩:=round j a w hI b (.inLoop c::k) cs ad hb hr;cases e with
   |normal=>
    obtain⟨i,aa,a9⟩:=hq;obtain⟨e₂,a₂,w₂,ab,a5⟩:=ih i aa a₁ w₁ a9;exact⟨e₂,a₂,w₂,ab,.of_steps (StepsIn.trans a3 (.one (fenced_calm hb hr rfl) stepR_inLoop)) a5⟩
   |exit id=>exact⟨_,a₁,w₁,hq,.pass (x:=.inLoop c) rfl (fun _ _=>.inl (by simp)) a3⟩
   |goto l=>exact⟨_,a₁,w₁,hq,.pass (x:=.inLoop c) rfl (fun _ _=>.inl (by simp)) a3⟩
   |ret=>exact⟨_,a₁,w₁,hq,.pass (x:=.inLoop c) rfl (fun _ _=>.inl (by simp)) a3⟩
   |panic ch=>exact⟨_,a₁,w₁,hq,.pass (x:=.inLoop c) rfl (fun _ _=>.inl (by simp)) a3⟩
   |outgrown=>exact⟨_,a₁,w₁,hq,.pass (x:=.inLoop c) rfl (fun _ _=>.inl (by simp)) a3⟩
 obtain⟨e,a',w',hq,a3⟩:=key j a w h₀;exact⟨e,a',w',hq,.of_steps (.one (fenced_calm hb hr rfl) stepR_loop) a3⟩
theorem Jc.nil{B:Nat→Prop}{st':St}{a':Act}{w':World}{m':Nat→Lc}{H':HV}(hd:a'.defers=a.defers)(hb:Qa B w w')(hr:RelS m' H' B H0 gl rest st' a'.tmps w'):Jc gl B H0 rest a w st' [] a' w':=
 ⟨m',H',[],rfl,by simpa[MC] using hd,(fun p hp=>by simp at hp),hb,hr⟩
def WI(D:List (Nat×Nat)):List (AV×Value):=D.map fun p=>(.yld p.1,.func (.yield p.2) #[] #[])
theorem RelS.more(h:RelS m H B H0 gl rest st a.tmps w){D:List (Nat×Nat)}(hD:∀p∈D,(st.env m).lp p.1=some p.2):RelS m H B H0 gl (WI D++rest) st a.tmps w:=
 ⟨h.heap,h.size,h.slot,fun p hp=>by
  rw[List.mem_append] at hp;rcases hp with hp | hp
  ·unfold WI at hp;rw[List.mem_map] at hp;obtain⟨q,hq,rfl⟩:=hp;exact .yld _ _ (hD q hq)
  ·exact h.rest p hp⟩
theorem Jc.then{B:Nat→Prop}{s1 st':St}{d1 d2:List Nat}{a1 a2:Act}{w1 w2:World}{D:List (Nat×Nat)}(hD:D.map (·.1)=d1)(a4:a1.defers=MC D++a.defers)(hb:Qa B w w1)(h2:Jc gl B H0 (WI D++rest) a1 w1 st' d2 a2 w2):Jc gl B H0 rest a w st' (d2++d1) a2 w2:=by
 obtain⟨m2,H2,D2,e1,e2,e3,e4,e5⟩:=h2;refine⟨m2,H2,D2++D,by simp[e1,hD],by rw[e2,a4,← List.append_assoc];simp[MC],fun p hp=> ?_,hb.trans e4,⟨e5.heap,e5.size,e5.slot,fun p hp=>e5.rest p (List.mem_append_right _ hp)⟩⟩
 rw[List.mem_append] at hp;rcases hp with hp | hp
 ·exact e3 p hp
 ·have:=e5.rest (.yld p.1,.func (.yield p.2) #[] #[]) (List.mem_append_left _ (List.mem_map.2 ⟨p,hp,rfl⟩));obtain⟨l,k1,k2⟩:=this.yld_inv;cases k1;exact k2
theorem Fk{o:Option St}{ex:Exit}{st':St}{ds:List Nat}(h:lift o=some (ex,st',ds)):o=some st'∧ex= .normal∧ds=[]:=by
 cases o with
 |none=>cases h
 |some s=>cases h;exact⟨rfl,rfl,rfl⟩
theorem Pw{l:List Oper}{o:Oper}(h:L4 l=some o):l[l.length - 1]? =some o∧o.guard=none:=by
 unfold L4 at h;split at h
 ·rename_i o' ho;split at h
  ·split at h;·rename_i hg;cases h;exact⟨ho,hg⟩
   ·cases h
  ·split at h
   ·split at h;·rename_i hg;cases h;exact⟨ho,hg⟩
    ·cases h
   ·split at h;·rename_i hg;cases h;exact⟨ho,hg⟩
    ·cases h
   ·cases h
  ·cases h
 ·cases h
theorem Q28(a6:ch.Ok P gl)(am:rd.Ok P gl)(a4:P.follows .mixedOrders=true){l:List Oper}(a3:(G3 l&& (match L4 l with | some _=>Lx l | none=>true))=true)(ro:Option Nat)(n id:Nat)(h:RelS m H B H0 gl rest st a.tmps w){st':St}(hk:xregD P gl ch rd l st=some st'):
  (Code.region id l.toArray true).wpIn (FW ro) n P (fun e a' w'=>e= .normal∧Jc gl B H0 rest a w st' [] a' w') a w:=by
 rw[Bool.and_eq_true] at a3;unfold xregD at hk;split at hk
 ·rename_i o ho;obtain⟨hol,hg⟩:=Pw ho;have a7:Lx l=true:=by have:=a3.2;rw[ho] at this;exact this
  split at hk
  ·rename_i s hs;split at hk
   ·rename_i a8;have ah:∀(a':Act) (w':World) (m':Nat→Lc) (H':HV) (K:Act→World→Prop),a'.defers=a.defers→Qa B w w'→RelS m' H' B H0 gl rest s a'.tmps w'→
      (∀a2 w2,(fun e a' w'=>e=Exit.normal∧Jc gl B H0 rest a w st' [] a' w') .normal a2 w2→K a2 w2)→o.wpIn (FW ro) n P a' w' K (fun e a' w'=>e= .normal∧Jc gl B H0 rest a w st' [] a' w'):=fun a' w' m' H' K hd hb hr hK=>by
     split at hk
     ·rename_i r ai;cases hk;exact((OX (st:=s.bump 1) (hr.bump 1) a8 (hr.heap.fresh _ (Nat.le_refl _)) (Nat.lt_succ_self _) ai).step (ro:=ro) (n:=n) (Hj ai)) K _ fun a2 w2 m2 H2 aa a9 af=>hK _ _ ⟨rfl,Jc.nil (aa.trans hd) (hb.trans a9) af⟩
     ·exact Fh a6 am hr a8 hk ro n K _ fun a2 w2 m2 H2 aa a9 af=>hK _ _ ⟨rfl,Jc.nil (aa.trans hd) (hb.trans a9) af⟩
    rcases FP hs with⟨F,hs,hF⟩ | ⟨ad,hv,hc,ac,ab,hs⟩
    ·exact RH (Nc a6) a4 a3.1 a7 hol hg h hs hF ah
    ·exact ES (OB a6 a3.1 ad ac ab) a4 a3.1 a7 hol hg h hs ah
   ·cases hk
  ·cases hk
 ·rcases FP hk with⟨F,hk,hF⟩ | ⟨ad,hv,hc,ac,ab,hk⟩
  ·exact PN (Nc a6) a4 a3.1 h hk hF fun a' w' m' H' hd hb hr=>⟨rfl,Jc.nil hd hb hr⟩
  ·exact FL (OB a6 a3.1 ad ac ab) a4 a3.1 h hk fun a' w' m' H' hd hb hr=>⟨rfl,Jc.nil hd hb hr⟩
end
end HY
end
section
namespace HY
open Go Go.RowKit
section
variable {P : Program} {m : Nat → Lc} {H : HV} {B : Nat → Prop} {H0 : HV} {gl : Nat → AV} {rest : List (AV × Value)} {st : St} {a : Act} {w : World} {ch : Qm} {rd : XI}
theorem Hz{hp:Hp}{id:Nat}{s:LoopState}{pend:Option Code}{n:Nat}{sl:Tr AV}{ps:Array Tmp}{a3 bd:Code}{d:Nat}(h:hp id=some (.loop s pend n sl ps a3 bd d)):(Q3 hp m).lp id=some (m id).g:=by simp[Q3,h]
set_option maxHeartbeats 1000000 in
theorem Q0f(bg:ch.Ok P gl){g:Operand}{ps:Array Tmp}{a3 bd:Code}{ex:Exit}{st':St}{ds:List Nat}(hk:Ph P gl ch g ps a3 bd st=some (ex,st',ds))(n:Nat):Ao P gl none n (.rangeFunc g ps a3 bd) st ex st' ds:=by
 intro B H0 rest m H a w hr;unfold Ph at hk;split at hk
 ·rename_i f bo hg;cases hbd:IE P f with
  |false=>rw[hbd] at hk;cases hk
  |true=>
  rw[hbd] at hk;simp only[cond_true] at hk;have ai:=Gt hbd;split at hk
  ·rename_i rv hp' nx' hc;have ap:=bg _ _ _ _ _ _ _ hc;have b0:=hr.ev g;rw[hg] at b0;obtain⟨us,hu,c1,bk⟩:=b0.fn_inv;refine wpIn_rangeFunc fun fn _=> ?_
   have bb:Y4 H (Q3 (updF (lkb st.hp) st.nx (some (.defb true))) (updF m st.nx ⟨w.heap.size,0,0⟩)) (.defb true) ⟨w.heap.size,0,0⟩ (w.alloc (.deferred (some []))):=ZV w _;obtain⟨r1,E1⟩:=hr.heap.newObj (nx':=st.nx+2) (hr.heap.fresh _ (Nat.le_refl _)) (by omega) (by omega) _ _ rfl bb
   have bc:Y4 H (Q3 (updF (updF (lkb st.hp) st.nx (some (.defb true))) (st.nx+1) (some (.loop .ready none st.n st.sl ps a3 bd st.nx))) (updF (updF m st.nx ⟨w.heap.size,0,0⟩) (st.nx+1) ⟨(w.alloc (.deferred (some []))).heap.size,0,0⟩)) (.loop .ready none st.n st.sl ps a3 bd st.nx) ⟨(w.alloc (.deferred (some []))).heap.size,0,0⟩
     ((w.alloc (.deferred (some []))).alloc (.loop {state:=.ready,pending:=none,fn:=fn,tmps:=a.tmps,params:=ps,assign:=a3,body:=bd,defers:=w.heap.size})):=by
    refine⟨fn,a.tmps,w.heap.size,ZV _ _,hr.size,fun k=> ?_,?_⟩
    ·have ba:=Wy (m:=updF m st.nx ⟨w.heap.size,0,0⟩) (hp:=updF (lkb st.hp) st.nx (some (.defb true))) (id:=st.nx+1) (b:=.loop .ready none st.n st.sl ps a3 bd st.nx) (l:=⟨(w.alloc (.deferred (some []))).heap.size,0,0⟩) (by rw[Qn _ _ (by omega)];exact hr.heap.fresh _ (by omega))
     exact((hr.slot k).mono (.refl _) E1).mono (.refl _) ba
    ·simp[Q3,Qn (lkb st.hp |>fun f=>updF f st.nx (some (.defb true))) _ (show st.nx≠st.nx+1 by omega),Qj,Qn (updF m st.nx ⟨w.heap.size,0,0⟩) _ (show st.nx≠st.nx+1 by omega)]
   obtain⟨r2,E2⟩:=r1.newObj (id:=st.nx+1) (nx':=st.nx+2) (by rw[Qn _ _ (by omega)];exact hr.heap.fresh _ (by omega)) (by omega) (by omega) _ _ rfl bc
   have c2:(w.alloc (.deferred (some []))).heap.size=w.heap.size+1:=by simp
   have a7:(Q3 (updF (updF (lkb st.hp) st.nx (some (.defb true))) (st.nx+1) (some (.loop .ready none st.n st.sl ps a3 bd st.nx))) (updF (updF m st.nx ⟨w.heap.size,0,0⟩) (st.nx+1) ⟨(w.alloc (.deferred (some []))).heap.size,0,0⟩)).lp (st.nx+1)=some (w.heap.size+1):=by
    simp[Q3,Qj]
   have aa:(Q3 (updF (updF (lkb st.hp) st.nx (some (.defb true))) (st.nx+1) (some (.loop .ready none st.n st.sl ps a3 bd st.nx))) (updF (updF m st.nx ⟨w.heap.size,0,0⟩) (st.nx+1) ⟨(w.alloc (.deferred (some []))).heap.size,0,0⟩)).lp st.nx=some w.heap.size:=by
    have e1:updF (updF (lkb st.hp) st.nx (some (.defb true))) (st.nx+1) (some (.loop .ready none st.n st.sl ps a3 bd st.nx)) st.nx=some (.defb true):=by rw[Qn _ _ (by omega),Qj]
    have e2:updF (updF m st.nx ⟨w.heap.size,0,0⟩) (st.nx+1) ⟨(w.alloc (.deferred (some []))).heap.size,0,0⟩ st.nx=⟨w.heap.size,0,0⟩:=by rw[Qn _ _ (by omega),Qj]
    simp only[Q3,e1,e2]
   have a5:=E1.trans E2;rw[← Z0,← Z0] at r2 a7 aa a5;have ah:Qa B w ((w.alloc (.deferred (some []))).alloc (.loop {state:=.ready,pending:=none,fn:=fn,tmps:=a.tmps,params:=ps,assign:=a3,body:=bd,defers:=w.heap.size})):=
    ((Qa.refl B w).alloc hr.heap.low _).alloc (fun k hk=>by have:=hr.heap.low k hk;simp;omega) _
   have a6:(Instr.enterLoop fn a.tmps ps a3 bd (FW none).round).run P w= .ok (w.heap.size+1,[{target:=.collected w.heap.size,args:= #[]}]) ((w.alloc (.deferred (some []))).alloc (.loop {state:=.ready,pending:=none,fn:=fn,tmps:=a.tmps,params:=ps,assign:=a3,body:=bd,defers:=w.heap.size})):=run_enterLoop_outer fn a.tmps ps a3 bd;generalize ((w.alloc (.deferred (some []))).alloc (.loop {state:=.ready,pending:=none,fn:=fn,tmps:=a.tmps,params:=ps,assign:=a3,body:=bd,defers:=w.heap.size}))=W2 at r2 ah a6
   generalize (updF (updF m st.nx ⟨w.heap.size,0,0⟩) (st.nx+1) ⟨(w.alloc (.deferred (some []))).heap.size,0,0⟩)=m2 at r2 a7 aa a5;have b3:(resolve a.eval (rangeCall g (w.heap.size+1)) 0).run P W2= .ok {target:=.fn (.func f) us,args:= #[.func (.yield (w.heap.size+1)) #[] #[]]} W2:=by
    have:a.eval g= .func (.func f) #[] us:=hu;show(Deferred.ofValue (a.eval g) (#[Operand.const (.func (.yield (w.heap.size+1)) #[] #[])].map a.eval)).run P W2=_;rw[this];simp[Deferred.ofValue,Act.eval]
   have b1:(invoke (.fn (.func f) us) #[.func (.yield (w.heap.size+1)) #[] #[]]).run P W2= .ok (.enter f (#[.func (.yield (w.heap.size+1)) #[] #[]]++us)) W2:=by
    simp only[invoke];exact ai _ _
   have ae:=Ans.calls (he:=ai)<| ap m2 H B H0 ((List.range st.n).map (fun k=>(st.get k,a.tmps.getD k Go.undef))++(WI [(st.nx,w.heap.size),(st.nx+1,w.heap.size+1)]++rest)) _ (#[.func (.yield (w.heap.size+1)) #[] #[]]++us) r2 (by simp;omega) (fun j x v hx hv=>by
     cases j with
     |zero=>
      simp only[List.getElem?_cons_zero,Option.some.injEq] at hx;subst hx;have:v= .func (.yield (w.heap.size+1)) #[] #[]:=by rw[Array.getElem?_append_left (by simp)] at hv;simpa using hv.symm
      subst this;exact .yld _ _ a7
     |succ j=>
      rw[List.getElem?_cons_succ] at hx;refine(bk j x v hx ?_).mono (.refl _) a5;rw[Array.getElem?_append_right (by simp)] at hv
      simpa using hv) (fun p hp=>by
     rw[List.mem_append,List.mem_map,List.mem_append] at hp;rcases hp with⟨q,_,rfl⟩ | hp | hp
     ·exact(hr.slot _).mono (.refl _) a5
     ·simp only[WI,List.map_cons,List.map_nil,List.mem_cons,List.not_mem_nil,or_false] at hp;rcases hp with rfl | rfl
      ·exact .yld _ _ aa
      ·exact .yld _ _ a7
     ·exact(hr.rest p hp).mono (.refl _) a5)
   refine⟨_,_,_,_,_,_,_,_,a6,b3,fun _ _=>trivial,b1,(fun hh=>by simp[FW] at hh),Dp (ae.mono fun e w3 aw=> ?_)⟩
   ·obtain⟨v,m',H',rfl,be,aq,_,a4⟩:=aw;split at hk
    ·rename_i s3 pend n3 b6 ag ac ad d3 af;split at hk;·cases hk
     ·rename_i ao;have bm:=a4 (.yld (st.nx+1),.func (.yield (w.heap.size+1)) #[] #[]) (by simp[WI])
      obtain⟨l1,q1,q2⟩:=bm.yld_inv;cases q1;have au:(m' (st.nx+1)).g=w.heap.size+1:=by
       rw[Hz af] at q2;simpa using q2
      have bf:=aq.box _ _ af;obtain⟨ak,t3,aj,ab,b5,b4,bh⟩:=bf;rw[au] at ab;have az:=run_endLoop (P:=P) ab ao;have b2:=aq.putObj af rfl (b':=.loop .exhausted pend n3 b6 ag ac ad d3) rfl (.loop {state:=.exhausted,pending:=pend,fn:=ak,tmps:=t3,params:=ag,assign:=ac,body:=ad,defers:=aj}) (fun C e fr q=>by rw[au,ab] at q;cases q) (fun E' ax=>⟨ak,t3,aj,by rw[World.putObj_heap_same (aq.sep _ _ af).2.1],b5,fun k=>(b4 k).mono (.refl _) ax,ax.lp _ _ bh⟩)
      obtain⟨ar,am,ay⟩:=b2;rw[← Z0] at ar am;rw[au] at ar ay;have a9:Jc gl B H0 rest a w (st.setHp (pt hp' (st.nx+1) (.loop .exhausted pend n3 b6 ag ac ad d3)) nx') [st.nx] {a with defers:=[{target:=.collected w.heap.size,args:= #[]}]++a.defers} (w3.putObj (w.heap.size+1) (.loop {state:=.exhausted,pending:=pend,fn:=ak,tmps:=t3,params:=ag,assign:=ac,body:=ad,defers:=aj})):=by
       refine⟨m',H',[(st.nx,w.heap.size)],rfl,rfl,fun p hp=> ?_,(ah.trans be).trans ay,?_⟩
       ·simp only[List.mem_singleton] at hp;subst hp;have bl:=(a4 (.yld st.nx,.func (.yield w.heap.size) #[] #[]) (by simp[WI])).mono (.refl _) am
        obtain⟨l0,q3,q4⟩:=bl.yld_inv;cases q3;exact q4
       ·have:=RelS.taken (dst:=none) hr rfl (r:=.undef) (v:=Go.undef) ar (.imm _ _ (.undef _)) (fun p hp=>by
         refine(a4 p ?_).mono (.refl _) am;rw[List.mem_append] at hp ⊢;rcases hp with hp | hp
         ·exact .inl hp
         ·exact .inr (List.mem_append_right _ hp))
        exact this
      refine⟨pend,_,az,?_⟩;split at hk;·cases hk;exact⟨rfl,a9⟩
      ·cases hk;exact wpIn_ret ⟨rfl,a9⟩
      ·cases hk;exact wpIn_exit ⟨rfl,a9⟩
      ·cases hk
    ·cases hk
  ·cases hk
 ·cases hk
end
end HY
end
section
namespace HY
open Go Go.RowKit
section
variable {F : Fence} {n : Nat} {P : Program} {b : Frame} {a : Act} {k : List Item} {cs : List Frame} {w : World} {Q : Exit → Act → World → Prop}
theorem GB{c:Code}:step P (lone (b.atR a (.code (.scope c)::k)) cs w)= .next (lone (b.atR a (.code c:: .inScope c::k)) cs w):=
 step_lone_go (by simp[stepG,stepG.exec,Frame.atR])
theorem A2{c:Code}:step P (lone (b.atR a (.inScope c::k)) cs w)= .next (lone (b.atR a k) cs w):=
 step_lone_go (by simp[stepG,stepG.exec,Frame.atR])
theorem By{c:Code}(h:c.wpIn F n P (Exit.noGoto Q) a w):(Code.scope c).wpIn F n P Q a w:=by
 intro b k cs aa hb hr;have h0:(lone (b.atR a (.code (.scope c)::k)) cs w).fenced P F:=fenced_calm hb hr rfl;obtain⟨e,a₁,w₁,hq,a3⟩:=h b (.inScope c::k) cs aa hb hr;cases e with
 |normal=>exact⟨.normal,a₁,w₁,hq,.head h0 GB (StepsIn.trans a3 (.one (fenced_calm hb hr rfl) A2))⟩
 |exit id=>
  have hx:exitTo id (.inScope c::k)=exitTo id k:=by simp[exitTo]
  exact⟨.exit id,a₁,w₁,hq,fun k' hk=>.head h0 GB (a3.1 k' (by rw[hx];exact hk)),
   fun a9 hk=>let⟨k₁,h1,h2⟩:=a3.2 a9 (by rw[hx];exact hk);⟨k₁,h1,.head h0 GB h2⟩⟩
 |goto l=>exact hq.elim
 |ret=>exact⟨_,a₁,w₁,hq,.of_steps (.one h0 GB) a3⟩
 |panic ch=>exact⟨_,a₁,w₁,hq,.of_steps (.one h0 GB) a3⟩
 |outgrown=>exact⟨_,a₁,w₁,hq,.of_steps (.one h0 GB) a3⟩
end
section
variable {P : Program} {gl : Nat → AV} {ch : Qm} {rd : XI}
theorem Sq(a9:ch.Ok P gl)(af:rd.Ok P gl)(ab:P.follows .mixedOrders=true)(a7:Bool)(ro:Option Nat)(ac:a7=true→ro=none)(n:Nat):∀(K k:Nat),k≤K→∀(c:Code) (st:St) (ex:Exit) (st':St) (ds:List Nat),Qx c=true→KQ P gl ch rd a7 k c st=some (ex,st',ds)→Ao P gl ro n c st ex st' ds
 |_,0,_,_,_,_,_,_,_,h=>by cases h
 |0,k+1,hK,_,_,_,_,_,_,_=>by omega
 |K+1,k+1,hK,c,st,ex,st',ds,hok,h=>by
  have ah:=Sq a9 af ab a7 ro ac n K;have ih:=ah k (by omega)
  intro B H0 rest m H a w hr;cases c with
  |skip=>cases h;exact wpIn_skip ⟨rfl,.nil rfl (Qa.refl _ _) hr⟩
  |label l=>cases h;exact wpIn_label ⟨rfl,.nil rfl (Qa.refl _ _) hr⟩
  |exit id=>cases h;exact wpIn_exit ⟨rfl,.nil rfl (Qa.refl _ _) hr⟩
  |ret=>cases h;exact wpIn_ret ⟨rfl,.nil rfl (Qa.refl _ _) hr⟩
  |region id ops draw=>
   simp only[KQ] at h;cases draw with
   |true=>
    simp only[cond_true] at h;obtain⟨hs,rfl,rfl⟩:=Fk h;simp only[Qx,Bool.not_true,Bool.false_or] at hok;have:=Q28 a9 af ab hok ro n id hr hs;simpa using this
   |false=>
    simp only[cond_false] at h;obtain⟨hs,rfl,rfl⟩:=Fk h;refine wpIn_region ?_;have:=OY a9 af (all:=ops.toList) (ro:=ro) (n:=n) (d0:=a.defers) (w0:=w) (Q:=fun e a' w'=>e= .normal∧Jc gl B H0 rest a w st' [] a' w') (fun a' w' m' H' hd hb ae=>⟨rfl,.nil hd hb ae⟩) [] ops.toList st a w m H rfl hs rfl (Qa.refl _ _) hr
    simpa[List.range_eq_range'] using this
  |seq x y=>
   simp only[KQ] at h;simp only[Qx,Bool.and_eq_true] at hok;split at h
   ·rename_i s d hs;split at h
    ·rename_i e2 s2 d2 ag;cases h;refine wpIn_seq (wpIn_mono (ih x st .normal s d hok.1 hs B H0 rest m H a w hr) fun e a' w' hq=> ?_)
     obtain⟨rfl,m',H',D,hD,hd,aa,hb,ae⟩:=hq;refine wpIn_mono (ih y s ex st' d2 hok.2 ag B H0 _ m' H' a' w' (ae.more aa)) fun e a2 w2 hq=> ?_
     obtain⟨rfl,hq⟩:=hq;exact⟨rfl,Jc.then (s1:=s) hD hd hb hq⟩
    ·cases h
   ·rename_i a5;refine wpIn_seq (wpIn_mono (ih x st ex st' ds hok.1 h B H0 rest m H a w hr) fun e a' w' hq=> ?_)
    obtain⟨rfl,hq⟩:=hq;cases e with
    |normal=>exact absurd h (a5 _ _)
    |_=>exact⟨rfl,hq⟩
  |cond c x y=>
   simp only[KQ] at h;simp only[Qx,Bool.and_eq_true] at hok;split at h
   ·rename_i t ht;have hv:=hr.ev c;rw[ht] at hv;cases t with
    |true=>exact wpIn_cond hv.bool_inv (ih x st ex st' ds hok.1 h B H0 rest m H a w hr)
    |false=>exact wpIn_cond hv.bool_inv (ih y st ex st' ds hok.2 h B H0 rest m H a w hr)
   ·cases h
  |block id c=>
   simp only[KQ] at h;simp only[Qx] at hok;split at h
   ·rename_i i s d hs;refine wpIn_block (wpIn_mono (ih c st (.exit i) s d hok hs B H0 rest m H a w hr) fun e a' w' hq=> ?_)
    obtain⟨rfl,hq⟩:=hq;split at h
    ·rename_i hi;cases h;simp only[Exit.inBlock,hi,if_true];exact⟨trivial,hq⟩
    ·rename_i hi;cases h;simp only[Exit.inBlock,hi,if_false];exact⟨trivial,hq⟩
   ·rename_i a5;refine wpIn_block (wpIn_mono (ih c st ex st' ds hok h B H0 rest m H a w hr) fun e a' w' hq=> ?_)
    obtain⟨rfl,hq⟩:=hq;cases e with
    |exit i=>exact absurd h (a5 _ _ _)
    |_=>exact⟨rfl,hq⟩
  |loop c=>
   have ay:=hok;simp only[Qx] at hok;refine Eo (j:=k+1) (fun j a' w'=>j≤k+1∧∃st1 m1 H1 D a8,KQ P gl ch rd a7 j (.loop c) st1=some (ex,st',a8)∧a8++D.map (·.1)=ds∧a'.defers=MC D++a.defers∧(∀p∈D,(st1.env m1).lp p.1=some p.2)∧Qa B w w'∧RelS m1 H1 B H0 gl rest st1 a'.tmps w') (fun j a1 w1 hI=> ?_) ⟨Nat.le_refl _,st,m,H,[],ds,h,by simp,by simp[MC],by simp,Qa.refl _ _,hr⟩
   obtain⟨hj,st1,m1,H1,D,a8,hx,hD,aj,aa,ai,am⟩:=hI;cases j with
   |zero=>cases hx
   |succ j=>
    simp only[KQ] at hx;split at hx
    ·rename_i s d hs;split at hx
     ·rename_i e2 s2 d2 ag;cases hx;refine wpIn_mono (ah j (by omega) c st1 .normal s d hok hs B H0 _ m1 H1 a1 w1 (am.more aa)) fun e a2 w2 hq=> ?_
      obtain⟨rfl,hq⟩:=hq;obtain⟨m2,H2,D2,e1,e2,e3,e4,e5⟩:=Jc.then (a:=a) (s1:=st1) rfl aj ai hq;exact⟨j,Nat.lt_succ_self _,by omega,s,m2,H2,D2,d2,ag,by rw[e1,← List.append_assoc];exact hD,e2,e3,e4,e5⟩
     ·cases hx
    ·rename_i a5;refine wpIn_mono (ah j (by omega) c st1 ex st' a8 hok hx B H0 _ m1 H1 a1 w1 (am.more aa)) fun e a2 w2 hq=> ?_
     obtain⟨rfl,hq⟩:=hq;have ak:=Jc.then (a:=a) (s1:=st1) rfl aj ai hq;rw[hD] at ak;cases e with
     |normal=>exact absurd hx (a5 _ _)
     |_=>exact⟨rfl,ak⟩
  |rangeFunc g ps azz bd=>
   cases a7 with
   |true=>
    have:=ac rfl;subst this;exact Q0f a9 h n B H0 rest m H a w hr
   |false=>cases h
  |scope c=>
   simp only[KQ] at h;simp only[Qx] at hok;split at h;·cases h
   ·rename_i a5;refine By (wpIn_mono (ih c st ex st' ds hok h B H0 rest m H a w hr) fun e a' w' hq=> ?_)
    obtain⟨rfl,hq⟩:=hq;cases e with
    |goto l=>exact absurd h (a5 _ _ _)
    |_=>exact⟨rfl,hq⟩
  |_=>cases h
theorem WN(a6:ch.Ok P gl)(a8:rd.Ok P gl)(a4:P.follows .mixedOrders=true)(a3:Bool)(ro:Option Nat)(a5:a3=true→ro=none)(n k:Nat)(c:Code)(st:St)(ex:Exit)(st':St)(ds:List Nat)(a7:Qx c=true)(h:KQ P gl ch rd a3 k c st=some (ex,st',ds)):Ao P gl ro n c st ex st' ds:=
 Sq a6 a8 a4 a3 ro a5 n k k (Nat.le_refl _) c st ex st' ds a7 h
end
end HY
end
section
namespace HY
open Go Go.RowKit
def HE:List Nat→List AV→St→Option St
 | [],[],st=>some st
 |p::ps,x::xs,st=>if QU (some p) st.n then HE ps xs (st.putO (some p) x) else none
 |_,_,_=>none
def LU(ex:Exit):Option (Option Code):=match ex with
 | .normal=>some none
 | .ret=>some (some .ret)
 | .exit i=>some (some (.exit i))
 |_=>none
def Pi(P:Program)(gl:Nat→AV)(fl:Nat)(ch:Qm)(rd:XI):XI:=fun id args hp nx=>
 match lkb hp id with
 |some (.loop _ _ n sl ps azz bd _)=>bif Qx azz&&Qx bd then(match HE ps.toList args ⟨n,sl,hp,nx⟩ with
  |some s0=>match KQ P gl ch rd false fl azz s0 with
   |some (.normal,s1,[])=>match lkb s1.hp id with
    |some (.loop .ready pend1 n1 sl1 ps1 as1 bd1 d1)=>match KQ P gl ch rd false fl bd (s1.setHp (pt s1.hp id (.loop .busy pend1 n1 sl1 ps1 as1 bd1 d1)) s1.nx) with
     |some (ex,s2,[])=>match lkb s2.hp id with
      |some (.loop _ _ n2 sl2 ps2 as2 bd2 d2)=>match LU ex with
       |some j=>some (.bool j.isNone,pt s2.hp id (.loop (if j.isNone then .ready else .done) j n2 sl2 ps2 as2 bd2 d2),s2.nx)
       |none=>none
      |_=>none
     |_=>none
    |_=>none
   |_=>none
  |none=>none) else none
 |_=>none
section
variable {P : Program} {m : Nat → Lc} {H : HV} {B : Nat → Prop} {H0 : HV} {gl : Nat → AV} {rest : List (AV × Value)} {st : St} {a : Act} {w : World} {ch : Qm} {rd : XI}
theorem ER:∀(ps:List Nat) (xs:List AV) (vs:List Value) (st:St) (tmps:Array Value) (s0:St),RelS m H B H0 gl rest st tmps w→HE ps xs st=some s0→xs.length=vs.length→(∀(j:Nat) (x:AV) (v:Value),xs[j]? =some x→vs[j]? =some v→RV H (st.env m) x v)→
  ps.length=vs.length∧RelS m H B H0 gl rest s0 ((ps.zip vs).foldl (fun tmps (q:Nat×Value)=>tmps.setIfInBounds q.1 q.2) tmps) w∧s0.hp=st.hp∧s0.nx=st.nx
 | [],[],vs,st,tmps,s0,h,hk,hl,_=>by
  have:vs=[]:=List.eq_nil_of_length_eq_zero (by simpa using hl.symm)
  subst this;cases hk;exact⟨rfl,h,rfl,rfl⟩
 |p::ps,x::xs,vs,st,tmps,s0,h,hk,hl,hv=>by
  cases vs with
  |nil=>simp at hl
  |cons v vs=>
   simp only[HE] at hk;split at hk
   ·rename_i hd;have h1:=RelS.putO (a:= {tmps:=tmps,defers:=[]}) (dst:=some p) h hd (hv 0 x v rfl rfl);obtain⟨e1,e2,e3,e4⟩:=ER ps xs vs (st.putO (some p) x) _ s0 h1 hk (by simpa using hl) (fun j y u hy hu=>hv (j+1) y u (by simpa using hy) (by simpa using hu))
    exact⟨by simp[e1],e2,by rw[e3];rfl,by rw[e4];rfl⟩
   ·cases hk
 | [],_::_,_,_,_,_,_,hk,_,_=>by cases hk
 |_::_,[],_,_,_,_,_,hk,_,_=>by cases hk
theorem Of{E:Env}{id l:Nat}{v:AV×Value}(hv:v=(.yld id,.func (.yield l) #[] #[]))(h:RV H E v.1 v.2):E.lp id=some l:=by
 subst hv;obtain⟨l',q1,q2⟩:=h.yld_inv;cases q1;exact q2
set_option maxHeartbeats 1000000 in
theorem Q0g(bb:ch.Ok P gl)(bl:rd.Ok P gl)(ar:P.follows .mixedOrders=true)(fl:Nat):XI.Ok P gl (Pi P gl fl ch rd):=by
 intro id args hp nx r hp' nx' hk m H B H0 rest w vs l hh b4 hl b0 b6;unfold Pi at hk;split at hk
 ·rename_i s pend n sl ps aw bd d bc;cases hok:(Qx aw&&Qx bd) with
  |false=>rw[hok] at hk;cases hk
  |true=>
   rw[hok] at hk;simp only[cond_true] at hk;rw[Bool.and_eq_true] at hok;split at hk
   ·rename_i s0 c7;split at hk
    ·rename_i s1 c8;split at hk
     ·rename_i a6 n1 br ap aj ak d1 ae;split at hk
      ·rename_i ex s2 c9;split at hk
       ·rename_i st2 ce n2 aq ac a8 a9 d2 af;split at hk
        ·rename_i j hj;cases hk;have c3:(m id).g=l:=by rw[Hz bc] at b4;simpa using b4
         obtain⟨fn,tmps,dg,au,cd,ca,hd⟩:=hh.box _ _ bc;rw[c3] at au;have c6:RelS m H B H0 gl ((.yld id,.func (.yield l) #[] #[])::rest) ⟨n,sl,hp,nx⟩ tmps w:=
          ⟨hh,cd,ca,fun p hp=>by
           rw[List.mem_cons] at hp;rcases hp with rfl | hp
           ·exact .yld _ _ b4
           ·exact b6 p hp⟩
         obtain⟨c4,bk,e1,e2⟩:=ER ps.toList args vs.toList _ tmps s0 c6 c7 (by simpa using hl) (fun j x v hx hv=>b0 j x v hx (by simpa using hv))
         have b1:(ps.zip vs).foldl (fun tmps (q:Nat×Value)=>tmps.setIfInBounds q.1 q.2) tmps=(ps.toList.zip vs.toList).foldl (fun tmps (q:Nat×Value)=>tmps.setIfInBounds q.1 q.2) tmps:=by
          rw[← Array.foldl_toList,Array.toList_zip]
         rw[← b1] at bk;refine⟨fn,_,aw,bd,run_yield au (by simpa using c4.symm),fun ro k=> ?_⟩
         refine roundIn_of_wpIn trivial ?_;have hA:=WN bb bl ar false (some l) (by simp) k fl aw s0 .normal s1 [] hok.1 c8 B H0 _ m H {tmps:=(ps.zip vs).foldl (fun tmps (q:Nat×Value)=>tmps.setIfInBounds q.1 q.2) tmps,defers:=[]} w bk
         refine wpIn_mono hA fun e a1 w1 hq=> ?_
         obtain⟨rfl,m1,H1,D1,cm, -, -,bz,a4⟩:=hq;have bg:=Of rfl (a4.rest (.yld id,.func (.yield l) #[] #[]) (by simp))
         have be:(m1 id).g=l:=by
          have:=Hz (m:=m1) ae;rw[show(Q3 (lkb s1.hp) m1).lp id=some l from bg] at this;simpa using this.symm
         obtain⟨ay,ad,ax,aa,bo,bm,c1⟩:=a4.heap.box _ _ ae;obtain⟨b2,az,b9⟩:=a4.heap.putObj ae rfl (b':=.loop .busy a6 n1 br ap aj ak d1) rfl (.loop {state:=.busy,pending:=a6,fn:=ay,tmps:=ad,params:=ap,assign:=aj,body:=ak,defers:=ax}) (fun C e fr q=>by rw[aa] at q;cases q) (fun E' ag=>⟨ay,ad,ax,by rw[World.putObj_heap_same (a4.heap.sep _ _ ae).2.1],bo,fun k=>(bm k).mono (.refl _) ag,ag.lp _ _ c1⟩)
         rw[be] at aa b2 b9;rw[← Z0] at b2 az;refine⟨_,run_beginRound aa rfl,?_⟩;have b5:RelS m1 H1 B H0 gl ((.yld id,.func (.yield l) #[] #[])::rest) (s1.setHp (pt s1.hp id (.loop .busy a6 n1 br ap aj ak d1)) s1.nx) a1.tmps (w1.putObj l (.loop {state:=.busy,pending:=a6,fn:=ay,tmps:=ad,params:=ap,assign:=aj,body:=ak,defers:=ax})):=
          ⟨b2,a4.size,fun k=>(a4.slot k).mono (.refl _) az,fun p hp=>(a4.rest p hp).mono (.refl _) az⟩
         have hB:=WN bb bl ar false (some l) (by simp) k fl bd _ ex s2 [] hok.2 c9 B H0 _ m1 H1 a1 _ b5
         refine wpIn_mono hB fun e a3 w3 hq=> ?_
         obtain⟨rfl,m3,H3,D3,cn, -, -,c0,a5⟩:=hq;have bh:=Of rfl (a5.rest (.yld id,.func (.yield l) #[] #[]) (by simp))
         have bf:(m3 id).g=l:=by
          have:=Hz (m:=m3) af;rw[show(Q3 (lkb s2.hp) m3).lp id=some l from bh] at this;simpa using this.symm
         obtain⟨ao,a7,am,ab,bp,bn,c2⟩:=a5.heap.box _ _ af;obtain⟨b3,b8,ba⟩:=a5.heap.putObj af rfl (b':=.loop (if j.isNone then .ready else .done) j n2 aq ac a8 a9 d2) rfl (.loop {state:=if j.isNone then .ready else .done,pending:=j,fn:=ao,tmps:=a7,params:=ac,assign:=a8,body:=a9,defers:=am}) (fun C e fr q=>by rw[ab] at q;cases q) (fun E' ag=>⟨ao,a7,am,by rw[World.putObj_heap_same (a5.heap.sep _ _ af).2.1],bp,fun k=>(bn k).mono (.refl _) ag,ag.lp _ _ c2⟩)
         rw[bf] at ab b3 ba;rw[← Z0] at b3 b8;have ah:=run_endRound (P:=P) j ab;have ai:∃v m' H',Ending.returned (.bool j.isNone)= .returned v∧Qa B w (w3.putObj l (.loop {state:=if j.isNone then .ready else .done,pending:=j,fn:=ao,tmps:=a7,params:=ac,assign:=a8,body:=a9,defers:=am}))∧RelH m' H' B H0 gl (lkb (pt s2.hp id (.loop (if j.isNone then .ready else .done) j n2 aq ac a8 a9 d2))) s2.nx (w3.putObj l (.loop {state:=if j.isNone then .ready else .done,pending:=j,fn:=ao,tmps:=a7,params:=ac,assign:=a8,body:=a9,defers:=am}))∧RV H' (Q3 (lkb (pt s2.hp id (.loop (if j.isNone then .ready else .done) j n2 aq ac a8 a9 d2))) m') (.bool j.isNone) v∧∀p∈rest,RV H' (Q3 (lkb (pt s2.hp id (.loop (if j.isNone then .ready else .done) j n2 aq ac a8 a9 d2))) m') p.1 p.2:=
          ⟨.bool j.isNone,m3,H3,rfl,((bz.trans b9).trans c0).trans ba,b3,.imm _ _ (.bool _),fun p hp=>(a5.rest p (List.mem_cons_of_mem _ hp)).mono (.refl _) b8⟩
         cases e with
         |normal=>cases hj;exact⟨_,_,ah,ai⟩
         |ret=>cases hj;exact⟨_,_,ah,ai⟩
         |exit i=>cases hj;exact⟨_,_,ah,ai⟩
         |_=>cases hj
        ·cases hk
       ·cases hk
      ·cases hk
     ·cases hk
    ·cases hk
   ·cases hk
 ·cases hk
end
end HY
end
section
namespace HY
open Go Go.RowKit
def YP:Nat→List AV→Tr AV
 |_,[]=>.nil
 |k,x::xs=>pt (YP (k+1) xs) k x
theorem D8:∀(xs:List AV) (k j:Nat),lk .undef (YP k xs) j=if k≤j then(xs[j - k]?).getD .undef else .undef
 | [],k,j=>by
  have:lk .undef (YP k []) j= .undef:=by unfold lk YP;cases path j<;>rfl
  rw[this];simp
 |x::xs,k,j=>by
  simp only[YP];rw[UP];by_cases h:k=j;·subst h;simp
  ·rw[if_neg h,D8 xs (k+1) j];by_cases h':k≤j
   ·rw[if_pos h',if_pos (by omega)]
    have:j - k=(j - (k+1))+1:=by omega
    rw[this,List.getElem?_cons_succ]
   ·rw[if_neg h',if_neg (by omega)]
def resAV(P:Program)(st:St):ResultVar→Option AV
 | .tmp t=>some (st.get t)
 | .cell a t=>DG P t (st.get a) (lkb st.hp)
def Ml(P:Program)(st:St):List ResultVar→Option (List AV)
 | []=>some []
 |x::r=>match resAV P st x with
  |some v=>match Ml P st r with
   |some vs=>some (v::vs)
   |none=>none
  |none=>none
def MH(P:Program)(st:St)(l:List ResultVar):Option AV:=
 match Ml P st l with
 |some [v]=>some v
 |some vs=>some (.tup vs)
 |none=>none
section
variable {P : Program} {m : Nat → Lc} {H : HV} {B : Nat → Prop} {H0 : HV} {gl : Nat → AV} {rest : List (AV × Value)} {st : St} {tmps : Array Value} {w : World}
theorem res_one(h:RelS m H B H0 gl rest st tmps w){x:ResultVar}{r:AV}(hr:resAV P st x=some r):
  ∃v,(match x with | .tmp t=>pure (tmps.getD t Go.undef) | .cell a t=>do loadVar t (← asAddr (tmps.getD a Go.undef)):Sem Value).run P w= .ok v w∧RV H (st.env m) r v:=by
 cases x with
 |tmp t=>cases hr;exact⟨_,rfl,h.slot t⟩
 |cell a t=>
  simp only[resAV] at hr;obtain⟨v,h1,h2⟩:=Pe (P:=P) h.heap (h.slot a) hr;refine⟨v,?_,h2⟩;show(do loadVar t (← asAddr (tmps.getD a Go.undef)):Sem Value).run P w=_
  generalize tmps.getD a Go.undef=u at h1 ⊢;simp only[Instr.loadAt,Instr.sureAddr,asAddr] at h1 ⊢;cases u<;>simp at h1 ⊢
  rename_i ad;cases ad<;>simp at h1 ⊢
  exact h1
theorem FN(h:RelS m H B H0 gl rest st tmps w):∀(l:List ResultVar) (a3:List AV),Ml P st l=some a3→
  ∃vs:List Value,(l.mapM (fun x:ResultVar=>(match x with | .tmp t=>pure (tmps.getD t Go.undef) | .cell a t=>do loadVar t (← asAddr (tmps.getD a Go.undef)):Sem Value))).run P w= .ok vs w∧a3.length=vs.length∧∀(j:Nat) (c:AV) (v:Value),a3[j]? =some c→vs[j]? =some v→RV H (st.env m) c v
 | [],a3,hk=>by
  simp only[Ml,Option.some.injEq] at hk;subst hk;exact⟨[],by simp,rfl,fun j c v hj=>by simp at hj⟩
 |x::l,a3,hk=>by
  simp only[Ml] at hk;split at hk
  ·rename_i v hv;split at hk
   ·rename_i us a6;cases hk;obtain⟨u,h1,h2⟩:=res_one h hv;obtain⟨vs,h3,h4,h5⟩:=FN h l us a6;refine⟨u::vs,?_,by simp[h4],fun j c v hj hv=> ?_⟩
    ·simp only[List.mapM_cons,Sem.run_bind];rw[h1];simp only[Result.andThen_ok,h3,Sem.run_pure]
    ·cases j with
     |zero=>simp only[List.getElem?_cons_zero,Option.some.injEq] at hj hv;subst hj;subst hv;exact h2
     |succ j=>exact h5 j c v (by simpa using hj) (by simpa using hv)
   ·cases hk
  ·cases hk
theorem NX(h:RelS m H B H0 gl rest st tmps w){fn:Func}{r:AV}(hr:MH P st fn.results.toList=some r):∃v,(results fn tmps).run P w= .ok v w∧RV H (st.env m) r v:=by
 unfold MH at hr;obtain⟨a4,ha⟩:∃a4,Ml P st fn.results.toList=some a4:=by
  cases hx:Ml P st fn.results.toList with
  |none=>rw[hx] at hr;cases hr
  |some a4=>exact⟨a4,rfl⟩
 rw[ha] at hr;obtain⟨vs,a9,hl,a3⟩:=FN h _ _ ha;have a8:(results fn tmps).run P w= .ok (if h:vs.toArray.size=1 then vs.toArray[0] else .tuple vs.toArray) w:=by
  unfold results;have a7:(fn.results.mapM (fun x:ResultVar=>(match x with | .tmp t=>pure (tmps.getD t Go.undef) | .cell a t=>do loadVar t (← asAddr (tmps.getD a Go.undef)):Sem Value))).run P w= .ok vs.toArray w:=by
   rw[← Array.toArray_toList (xs:=fn.results),List.mapM_toArray,Sem.run_map,a9];rfl
  rw[Sem.run_bind];refine Eq.trans (congrArg (fun x=>Result.andThen x _) a7) ?_
  rfl
 refine⟨_,a8,?_⟩
 match a4,vs,hl,hr,a3 with
 | [],vs,hl,hr,a3=>
  have:vs=[]:=List.eq_nil_of_length_eq_zero (by simpa using hl.symm)
  subst this;cases hr;simp only[List.size_toArray,List.length_nil];exact .tup [] #[] rfl (fun j c v hj=>by simp at hj)
 | [x],[v],hl,hr,a3=>
  cases hr;simpa using a3 0 _ _ rfl rfl
 |x::y::l,vs,hl,hr,a3=>
  cases hr;rw[dif_neg (by simp at hl ⊢;omega)]
  exact .tup _ _ (by simpa using hl) fun j c v hj hv=>a3 j c v hj (by simpa using hv)
end
def shut:List Nat→Tr Box→Option (Tr Box)
 | [],hp=>some hp
 |id::ds,hp=>match lkb hp id with
  |some (.defb true)=>shut ds (pt hp id (.defb false))
  |_=>none
section
variable {P : Program} {m : Nat → Lc} {H : HV} {B : Nat → Prop} {H0 : HV} {gl : Nat → AV}
theorem Oe{hp:Hp}{id:Nat}{o:Bool}(h:hp id=some (.defb o)):(Q3 hp m).lp id=some (m id).g:=by simp[Q3,h]
theorem Ow{F:Fence}{n:Nat}{fn:Func}{tmps:Array Value}{R:Ending→World→Prop}{nx:Nat}{hp':Tr Box}:∀(D:List (Nat×Nat)) (hp:Tr Box) (w:World),RelH m H B H0 gl (lkb hp) nx w→(∀p∈D,(Q3 (lkb hp) m).lp p.1=some p.2)→shut (D.map (·.1)) hp=some hp'→
  (∀w',RelH m H B H0 gl (lkb hp') nx w'→Env.le (Q3 (lkb hp) m) (Q3 (lkb hp') m)→Qa B w w'→∃v,(results fn tmps).run P w'= .ok v w'∧R (.returned v) w')→LeavesInM F n P fn tmps R (MC D) .returning w
 | [],hp,w,h,_,hk,hQ=>by
  cases hk;exact hQ w h (.refl _) (Qa.refl _ _)
 | (id,l)::D,hp,w,h,hD,hk,hQ=>by
  simp only[List.map_cons,shut] at hk;split at hk
  ·rename_i a4;have hl:(m id).g=l:=by
    have:=hD (id,l) (by simp)
    rw[Oe a4] at this;simpa using this
   have a3:w.heap[(m id).g]? =some (.deferred (some [])):=h.box _ _ a4;obtain⟨a6,a5,a7⟩:=h.putObj a4 rfl (b':=.defb false) rfl (.deferred none) (fun C e fr q=>by rw[a3] at q;cases q) (fun E' ab=>World.putObj_heap_same (h.sep _ _ a4).2.1)
   rw[← Z0] at a6 a5;rw[hl] at a3 a6 a7;refine⟨by simp,.inl ⟨l,_,rfl,run_takeDeferred a3,?_⟩⟩
   exact Ow D _ _ a6 (fun p hp=>a5.lp _ _ (hD p (List.mem_cons_of_mem _ hp))) hk (fun w' h3 a8 a9=>hQ w' h3 (a5.trans a8) (a7.trans a9))
  ·cases hk
end
def W9(ex:Exit):Bool:=match ex with
 | .normal | .ret=>true
 |_=>false
def xfun(P:Program)(gl:Nat→AV)(gd:Nat→Bool)(fl:Nat)(ch:Qm)(rd:XI):Qm:=fun f args hp nx=>
 bif gd f then(match P.funcs[f]? with
  |some fn=>match fn.body with
   |some c=>bif Nat.ble args.length fn.ntmps then(match KQ P gl ch rd true fl c ⟨fn.ntmps,YP 0 args,hp,nx⟩ with
    |some (ex,s,ds)=>bif W9 ex then(match shut ds s.hp with
     |some hp'=>match MH P (s.setHp hp' s.nx) fn.results.toList with
      |some r=>some (r,hp',s.nx)
      |none=>none
     |none=>none) else none
    |none=>none) else none
   |none=>none
  |none=>none) else none
def okFn(P:Program)(f:Nat):Bool:=
 match P.funcs[f]? with
 |some fn=>(fn.name != "runtime.NumGoroutine")&&match fn.body with
  |some c=>Qx c
  |none=>false
 |none=>false
structure Gs (P:Program) (gd:Nat→Bool):Prop where
 mix:P.follows .mixedOrders=true
 fn:∀f,gd f=true→okFn P f=true
theorem xfun_ok{P:Program}{gl:Nat→AV}{gd:Nat→Bool}{fl:Nat}{ch:Qm}{rd:XI}(hp:Gs P gd)(ai:ch.Ok P gl)(aq:rd.Ok P gl):Qm.Ok P gl (xfun P gl gd fl ch rd):=by
 intro f args ao nx r hp' nx' hk;unfold xfun at hk;cases hg:gd f with
 |false=>rw[hg] at hk;cases hk
 |true=>
  rw[hg] at hk;simp only[cond_true] at hk;have a3:=hp.fn f hg;unfold okFn at a3;split at hk
  ·rename_i fn hf;rw[hf] at a3;simp only[Bool.and_eq_true,bne_iff_ne] at a3;obtain⟨a8,a3⟩:=a3;split at hk
   ·rename_i c hb;rw[hb] at a3;simp only at a3;cases a4:Nat.ble args.length fn.ntmps with
    |false=>rw[a4] at hk;cases hk
    |true=>
     rw[a4] at hk;simp only[cond_true] at hk;have a4:=Nat.le_of_ble_eq_true a4;split at hk
     ·rename_i ex s ds hx;cases hex:W9 ex with
      |false=>rw[hex] at hk;cases hk
      |true=>
      rw[hex] at hk;simp only[cond_true] at hk;split at hk
      ·rename_i b1 aa;split at hk
       ·rename_i r' ap;cases hk;intro m H B H0 rest w vs hh hl a6 a9;refine .inl ⟨D5 hf (by simpa using a8) (by rw[hb];rfl),?_⟩
        have h0:RelS m H B H0 gl rest ⟨fn.ntmps,YP 0 args,ao,nx⟩ (vs++Array.replicate (fn.ntmps - vs.size) Go.undef) w:=by
         refine⟨hh,by simp;omega,fun k=> ?_,a9⟩
         show RV H _ (lk .undef (YP 0 args) k) _;rw[D8,if_pos (Nat.zero_le _),Nat.sub_zero];cases hx:args[k]? with
         |none=>exact .imm _ _ (.undef _)
         |some x=>
          have hk:k<vs.size:=by rw[← hl];exact(List.getElem?_eq_some_iff.1 hx).1
          have hv:(vs++Array.replicate (fn.ntmps - vs.size) Go.undef).getD k Go.undef=vs[k]:=by
           rw[Array.getD_eq_getD_getElem?,Array.getElem?_append_left hk,Array.getElem?_eq_getElem hk];rfl
          rw[hv];exact a6 k x _ hx (Array.getElem?_eq_getElem hk)
        have a7:=WN ai aq hp.mix true none (fun _=>rfl) 0 fl c _ ex s ds a3 hx B H0 rest m H {tmps:=vs++Array.replicate (fn.ntmps - vs.size) Go.undef,defers:=[]} w h0
        refine CallsIn.calls (F:=FW none) (callsIn_of_wp_marks hf hb trivial (wpIn_mono a7 fun e a' w' hq=> ?_)) (fun k d hd=>by simp[FW] at hd)
        obtain⟨rfl,m',H',D,hD,hd,am,ah,a5⟩:=hq;subst hD;have ac:LeavesInM (FW none) 0 P fn a'.tmps (fun e w'=>∃v m' H',e= .returned v∧Qa B w w'∧RelH m' H' B H0 gl (lkb hp') s.nx w'∧RV H' (Q3 (lkb hp') m') r v∧∀p∈rest,RV H' (Q3 (lkb hp') m') p.1 p.2) a'.defers .returning w':=by
         rw[hd,List.append_nil];refine Ow D _ w' a5.heap am aa fun w3 h3 ab ag=> ?_
         have ad:RelS m' H' B H0 gl rest (s.setHp hp' s.nx) a'.tmps w3:=⟨h3,a5.size,fun k=>(a5.slot k).mono (.refl _) ab,fun p hp=>(a5.rest p hp).mono (.refl _) ab⟩
         obtain⟨v,hv,ar⟩:=NX ad ap;exact⟨v,hv,v,m',H',rfl,ah.trans ag,h3,ar,ad.rest⟩
        cases e with
        |normal=>exact ac
        |ret=>exact ac
        |_=>cases hex
       ·cases hk
      ·cases hk
     ·cases hk
   ·cases hk
  ·cases hk
end HY
end
section
namespace HY
open Go Go.RowKit
def HV.full(w:World):HV:=fun b o=>w.cell? ⟨b,o,none⟩
theorem Q0x(w:World):HV.sat (HV.full w) w:=fun _ _ _ h=>h
def RelL(H:HV)(a3:List AV)(cs:List Value):Prop:=a3.length=cs.length∧∀(j:Nat) (a:AV) (v:Value),a3[j]? =some a→cs[j]? =some v→a.one=true∧RelI H a v
theorem RelL.nil{H:HV}:RelL H [] []:=⟨rfl,fun j a v h=>by simp at h⟩
theorem RelL.one{H:HV}{a:AV}{v:Value}(h1:a.one=true)(h:RelI H a v):RelL H [a] [v]:=⟨rfl,fun j x u hx hu=>by
 cases j with
 |zero=>simp at hx hu;subst hx;subst hu;exact⟨h1,h⟩
 |succ j=>simp at hx⟩
theorem RelL.append{H:HV}{a b:List AV}{c d:List Value}(h:RelL H a c)(k:RelL H b d):RelL H (a++b) (c++d):=by
 refine⟨by simp[h.1,k.1],fun j x u hx hu=> ?_⟩
 rw[List.getElem?_append] at hx hu;split at hx;·rename_i hj;rw[if_pos (by rw[← h.1];exact hj)] at hu;exact h.2 j x u hx hu
 ·rename_i hj;rw[if_neg (by rw[← h.1];exact hj),← h.1] at hu;exact k.2 _ x u hx hu
section
variable {H : Type} {enc : TypeId × Value → H} {P : Program} {w : World} {base : Nat} {spare : Nat → Bool} {held : Bool}
def Xu(enc:TypeId×Value→H)(P:Program)(w:World)(base:Nat)(spare:Nat→Bool)(held:Bool)(n:Nat)(t:TypeId){α:Type}(E:α→List AV)(I:α→DataW H→Prop):Prop:=
 ∀a3 cs d ps,a3≤n→DataW.trod enc P w base spare held a3 t cs=some (d,ps)→∃a,I a d∧RelL (HV.full w) (E a) cs
theorem Se(n:Nat){t:TypeId}{k:IntKind}(ht:P.underlying t=some (.int k)):
  Xu enc P w base spare held n t (fun a:Int=>[.int k a]) (fun a d=>(Lit.int k a).wf=true∧d= .lit (.int k a)):=fun a3 cs d ps _ h=>by
 obtain⟨m,rfl,he,hw⟩:=DataW.trod_int ht h;cases he;exact⟨m,⟨hw,rfl⟩,.one rfl (.int k m)⟩
theorem FJ(n:Nat){t:TypeId}(ht:P.underlying t=some .string):
  Xu enc P w base spare held n t (fun a:List UInt8=>[.str a]) (fun a d=>a.length≤maxLen∧d= .lit (.string a)):=fun a3 cs d ps _ h=>by
 obtain⟨m,rfl,he,hl⟩:=DataW.trod_string ht h;cases he;refine⟨m.data.toList,⟨by rw[Array.length_toList];exact hl,rfl⟩,.one rfl ?_⟩
 have:=RelI.str (H:=HV.full w) m.data.toList;simpa using this
def SliceI{α:Type}(I:α→DataW H→Prop)(l:List α)(d:DataW H):Prop:=
 l.length≤maxLen∧((l=[]∧d= .nil)∨∃a3 spare,d= .slice a3 spare∧a3.length=l.length∧∀(i:Nat) (a:α) (e:DataW H),l[i]? =some a→a3[i]? =some e→I a e)
theorem Ee{α β:Type}(R:Nat→α→β→Prop):∀(l:List β) (k:Nat),(∀i b,l[i]? =some b→∃a,R (k+i) a b)→∃a3:List α,a3.length=l.length∧∀i a b,a3[i]? =some a→l[i]? =some b→R (k+i) a b
 | [],k,_=>⟨[],rfl,fun i a b h=>by simp at h⟩
 |b::l,k,h=>by
  obtain⟨a,ha⟩:=h 0 b rfl;obtain⟨a3,hl,a4⟩:=Ee R l (k+1) (fun i b' hb=>by
   have:=h (i+1) b' hb;rw[show k+1+i=k+(i+1) by omega];exact this)
  refine⟨a::a3,by simp[hl],fun i x y hx hy=> ?_⟩
  cases i with
  |zero=>simp at hx hy;subst hx;subst hy;exact ha
  |succ i=>
   have:=a4 i x y hx hy;rw[show k+1+i=k+(i+1) by omega] at this;exact this
theorem PM{n:Nat}{t e:TypeId}{sz:Nat}{α:Type}{E:α→List AV}{I:α→DataW H→Prop}(F:α→AV)(ht:P.underlying t=some (.slice e))(hc:P.cellsOf e=sz)(ac:0<sz)(hF:∀a,(F a).cells=E a)(he:Xu enc P w base spare held n e E I):
  Xu enc P w base spare held (n+1) t (fun l:List α=>[.sl sz (l.map F)]) (SliceI I):=fun b6 cs d ps bf h=>by
 rcases DataW.trod_slice ht h with⟨rfl,hx⟩ | ⟨a,len,cap,a4,rest,m,rfl,rfl,hx,hb,hl,hm,a6,b4,_,_⟩
 ·cases hx;exact⟨[],⟨Nat.zero_le _,.inl ⟨rfl,rfl⟩⟩,.one rfl (.sl0 _ _ _ (Nat.zero_le _))⟩
 ·cases hx;subst hc;have ap:∀i b,a4[i]? =some b→∃x:α,I x b.1∧∃cs',w.cells? base (a.add ((0+i)*P.cellsOf e)) (P.cellsOf e)=some cs'∧RelL (HV.full w) (E x) cs':=fun i b hb=>by
   have hi:i<len:=by rw[← a6];exact(List.getElem?_eq_some_iff.1 hb).1
   have:=b4 i hi;rw[hb] at this;obtain⟨cs',h1,h2⟩:=Option.bind_eq_some_iff.1 this;obtain⟨x,hx,hr⟩:=he m cs' b.1 b.2 (by omega) h2
   exact⟨x,hx,cs',by rw[Nat.zero_add];exact h1,hr⟩
  obtain⟨a3,ad,ae⟩:=Ee (fun i (x:α) (b:DataW H×List MemPlace)=>I x b.1∧∃cs',w.cells? base (a.add (i*P.cellsOf e)) (P.cellsOf e)=some cs'∧RelL (HV.full w) (E x) cs') a4 0 ap
  have aa:∀i x,a3[i]? =some x→∃b,a4[i]? =some b:=fun i x hx=>by
   have:i<a3.length:=(List.getElem?_eq_some_iff.1 hx).1;exact⟨_,List.getElem?_eq_getElem (by omega)⟩
  refine⟨a3,⟨by omega,.inr ⟨_,_,rfl,by simp[ad],fun i x e' hx am=> ?_⟩⟩,.one rfl ?_⟩
  ·rw[List.getElem?_map,Option.map_eq_some_iff] at am;obtain⟨b,af,rfl⟩:=am;exact(ae i x b hx af).1
  ·by_cases h0:a3=[]
   ·subst h0;have:len=0:=by rw[← a6,← ad];rfl
    subst this;exact .sl0 _ _ _ hm
   ·have ah:(a3.map F).length=len:=by simp[ad,a6]
    have ai:0<a3.length:=List.length_pos_iff.2 h0;obtain⟨b0,b1⟩:=aa 0 a3[0] (List.getElem?_eq_getElem ai);obtain⟨_,bb,b3,_⟩:=ae 0 _ _ (List.getElem?_eq_getElem ai) b1;obtain⟨_,be,ag⟩:=World.cells?_some b3;have a7:a.spot=none:=by
     have:=ag 0 ac;rw[List.getElem?_eq_getElem (by omega)] at this
     have:=World.cell?_spot this;simpa[Addr.add] using this
    obtain⟨ab,ao,ba⟩:=a;simp only at a7;subst a7;rw[← ah];refine .sl (P.cellsOf e) (a3.map F) ab ao cap (fun i j=>(w.cell? ⟨ab,ao+i*P.cellsOf e+j,none⟩).getD Go.undef) ac (by omega) hm (fun i x hx=> ?_) (fun i x j c hx hj=> ?_) (fun i x j c hx hj=> ?_)
    all_goals
     rw[List.getElem?_map,Option.map_eq_some_iff] at hx;obtain⟨y,hy,rfl⟩:=hx;obtain⟨b,af⟩:=aa i y hy;obtain⟨_,cs',b2,hr⟩:=ae i y b hy af;obtain⟨_,a9,a8⟩:=World.cells?_some b2
    ·rw[hF,hr.1,a9]
    all_goals
     rw[hF] at hj;have b5:j<P.cellsOf e:=by
      have:=(List.getElem?_eq_some_iff.1 hj).1;rw[hr.1,a9] at this;exact this
     have ak:cs'[j]? =some (cs'[j]'(by omega)):=List.getElem?_eq_getElem (by omega)
     have hw:=a8 j b5;rw[ak] at hw;have aj:((⟨ab,ao,none⟩:Addr).add ((0+i)*P.cellsOf e)).add j=⟨ab,ao+i*P.cellsOf e+j,none⟩:=by
      rw[Nat.zero_add];unfold Addr.add;split<;>split<;>simp_all
     rw[aj] at hw;obtain⟨h1,h2⟩:=hr.2 j c _ hj ak
    ·simp only[HV.full,hw,Option.getD_some,true_and];exact h2.oneCell h1
    ·simp only[hw,Option.getD_some];exact h2
def NU(P:Program):Nat→List Field→Nat→Bool
 |o,[],o'=>o==o'
 |o,f::fs,o'=>f.offset==o&&NU P (o+P.cellsOf f.type) fs o'
def N7(enc:TypeId×Value→H)(P:Program)(w:World)(base:Nat)(spare:Nat→Bool)(held:Bool)(n:Nat)(fs:List Field){α:Type}(E:α→List AV)(I:α→List (DataW H)→Prop):Prop:=
 ∀(a3 o o':Nat) (cs:List Value) (xs:List (DataW H×List MemPlace)),a3≤n→xs.length=fs.length→NU P o fs o'=true→cs.length=o'→
  (∀(i:Nat) (f:Field),fs[i]? =some f→DataW.trod enc P w base spare held a3 f.type ((cs.drop f.offset).take (P.cellsOf f.type))=xs[i]?)→∃a,I a (xs.map (·.1))∧RelL (HV.full w) (E a) (cs.drop o)
theorem B9(n:Nat):N7 enc P w base spare held n [] (fun _:Unit=>[]) (fun _ ds=>ds=[]):=fun a3 o o' cs xs _ hl hf hc _=>by
 simp only[NU,beq_iff_eq] at hf;have:xs=[]:=List.length_eq_zero_iff.1 hl;subst this;refine⟨(),rfl,?_⟩;rw[List.drop_of_length_le (by omega)]
 exact .nil
theorem PB{n:Nat}{f:Field}{fs:List Field}{α β:Type}{E1:α→List AV}{I1:α→DataW H→Prop}{E2:β→List AV}{I2:β→List (DataW H)→Prop}
  (h1:Xu enc P w base spare held n f.type E1 I1) (h2:N7 enc P w base spare held n fs E2 I2):
  N7 enc P w base spare held n (f::fs) (fun x:α×β=>E1 x.1++E2 x.2) (fun x ds=>∃d a4,ds=d::a4∧I1 x.1 d∧I2 x.2 a4):=fun a3 o o' cs xs a5 hl hf hc hx=>by
 simp only[NU,Bool.and_eq_true,beq_iff_eq] at hf;obtain⟨ho,hf⟩:=hf;cases xs with
 |nil=>simp at hl
 |cons x xs=>
  have h0:=hx 0 f rfl;simp only[List.getElem?_cons_zero] at h0;obtain⟨a,ha,a7⟩:=h1 a3 _ x.1 x.2 a5 h0;obtain⟨b,hb,a8⟩:=h2 a3 (o+P.cellsOf f.type) o' cs xs a5 (by simpa using hl) hf hc (fun i g hg=>hx (i+1) g hg)
  refine⟨(a,b),⟨x.1,xs.map (·.1),rfl,ha,hb⟩,?_⟩;have:=a7.append a8;rw[ho,← List.drop_drop,List.take_append_drop] at this;exact this
theorem FK{n:Nat}{t:TypeId}{fs:Array Field}{α:Type}{E:α→List AV}{I:α→List (DataW H)→Prop}(ht:P.underlying t=some (.struct fs))(hf:NU P 0 fs.toList (P.cellsOf t)=true)
  (h:N7 enc P w base spare held n fs.toList E I):Xu enc P w base spare held (n+1) t E (fun a d=>∃ds,d= .agg ds∧I a ds):=fun a6 cs d ps aa hh=>by
 obtain⟨xs,m,rfl,hx,hc,hl,a4⟩:=DataW.trod_struct ht hh;cases hx;obtain⟨a,ha,hr⟩:=h m 0 _ cs xs (by omega) (by simpa using hl) hf hc (fun i f a5=>a4 i f (by rw[← Array.getElem?_toList];exact a5))
 exact⟨a,⟨_,rfl,ha⟩,by simpa using hr⟩
theorem Xu.to{n:Nat}{t:TypeId}{α β:Type}{E:α→List AV}{I:α→DataW H→Prop}(h:Xu enc P w base spare held n t E I)(g:α→β){E':β→List AV}{I':β→DataW H→Prop}(hE:∀a,E' (g a)=E a)(hI:∀a d,I a d→I' (g a) d):
  Xu enc P w base spare held n t E' I':=fun a3 cs d ps a4 hh=>by
 obtain⟨a,ha,hr⟩:=h a3 cs d ps a4 hh;exact⟨g a,hI a d ha,by rw[hE];exact hr⟩
theorem Xu.le{n m:Nat}{t:TypeId}{α:Type}{E:α→List AV}{I:α→DataW H→Prop}(h:Xu enc P w base spare held n t E I)(hm:m≤n):Xu enc P w base spare held m t E I:=
 fun a3 cs d ps a4 hh=>h a3 cs d ps (Nat.le_trans a4 hm) hh
theorem Xu.arg{t:TypeId}{α:Type}{E:α→List AV}{I:α→DataW H→Prop}(h:∀n,Xu enc P w base spare held n t E I){v:Value}{d:DataW H}{ps:List MemPlace}(hd:DataW.Trod enc P w base spare held t v d ps):
  ∃a,I a d∧RelL (HV.full w) (E a) v.cells.toList:=by
 obtain⟨a3,hf⟩:=hd;exact h a3 a3 _ _ _ (Nat.le_refl _) hf
end
end HY
end
section
namespace HY
open Go Go.RowKit Go.ChangeShapes Go.WideShapes
section
variable {H : Type} {enc : TypeId × Value → H} {P : Program} {w : World} {base : Nat} {spare : Nat → Bool} {held : Bool}
def Sz(P:Program)(t:TypeId)(d:DataW H):Prop:=∀k∈DataW.weights P t d,k≤reachBytes
def SzE(P:Program)(ts:List TypeId)(ds:List (DataW H)):Prop:=∀k∈DataW.weightsEach P ts ds,k≤reachBytes
theorem SzE.cons{t:TypeId}{ts:List TypeId}{d:DataW H}{ds:List (DataW H)}(h:SzE P (t::ts) (d::ds)):Sz P t d∧SzE P ts ds:=by
 unfold SzE at h;rw[DataW.weightsEach] at h;exact⟨fun k hk=>h k (List.mem_append_left _ hk),fun k hk=>h k (List.mem_append_right _ hk)⟩
theorem Ll{e:TypeId}:∀(ds:List (DataW H)) (i:Nat) (d:DataW H) (k:Nat),ds[i]? =some d→k∈DataW.weights P e d→k∈DataW.weightsAll P e ds
 | [],i,d,k,h,_=>by simp at h
 |x::r,0,d,k,h,hk=>by simp at h;subst h;rw[DataW.weightsAll];exact List.mem_append_left _ hk
 |x::r,i+1,d,k,h,hk=>by rw[DataW.weightsAll];exact List.mem_append_right _ (Ll r i d k (by simpa using h) hk)
theorem rzZero{α:Type}(t:TypeId)(E:α→List AV){I:α→DataW H→Prop}:Xu enc P w base spare held 0 t E I:=fun a3 cs d ps hf h=>by
 obtain rfl:a3=0:=by omega
 simp[DataW.trod] at h
theorem Cp(n:Nat){t:TypeId}{k:IntKind}(ht:P.underlying t=some (.int k)):Xu enc P w base spare held n t (fun a:Int=>[.int k a]) (fun _ d=>Sz P t d→True):=
 (Se n ht).to id (fun _=>rfl) fun _ _ _ _=>trivial
theorem RK(n:Nat){t:TypeId}(ht:P.underlying t=some .string):Xu enc P w base spare held n t (fun a:List UInt8=>[.str a]) (fun a d=>Sz P t d→True):=
 (FJ n ht).to id (fun _=>rfl) fun _ _ _ _=>trivial
theorem DA{n:Nat}{t e:TypeId}{sz:Nat}{α:Type}{E:α→List AV}{f:α→Prop}(F:α→AV)(ht:P.underlying t=some (.slice e))(hc:P.cellsOf e=sz)(a6:0<sz)(hF:∀a,(F a).cells=E a)(he:Xu enc P w base spare held n e E (fun a d=>Sz P e d→f a)):
  Xu enc P w base spare held (n+1) t (fun l:List α=>[.sl sz (l.map F)]) (fun l d=>Sz P t d→l.length*P.bytesOf e≤reachBytes∧∀a∈l,f a):=
 (PM F ht hc a6 hF he).to id (fun _=>rfl) fun l d h hz=>by
  obtain⟨_,⟨rfl,rfl⟩ | ⟨a3,sp,rfl,hl,hi⟩⟩:=h
  ·simp
  ·unfold Sz at hz;rw[DataW.weights] at hz;simp only[ht] at hz;refine⟨?_,fun a ha=> ?_⟩
   ·have:=hz _ (List.mem_cons_self ..);have h2:l.length*P.bytesOf e≤(a3.length+sp.length)*P.bytesOf e:=Nat.mul_le_mul_right _ (by omega)
    simp only[id];omega
   ·obtain⟨i,a4⟩:=List.getElem?_of_mem ha;have a5:i<a3.length:=by have:=(List.getElem?_eq_some_iff.1 a4).1;simp only[id] at this;omega
    exact hi i a _ a4 (List.getElem?_eq_getElem a5) fun k hk=>hz k (List.mem_cons_of_mem _ (List.mem_append_left _ (Ll a3 i _ k (List.getElem?_eq_getElem a5) hk)))
theorem NK(n:Nat):N7 enc P w base spare held n [] (fun _:Unit=>[]) (fun _ ds=>SzE P [] ds→True):=fun a3 o o' cs xs hf hl hb hc hx=>by
 obtain⟨a,_,h⟩:=B9 n a3 o o' cs xs hf hl hb hc hx;exact⟨a,fun _=>trivial,h⟩
theorem Zv{n:Nat}{f:Field}{fs:List Field}{α β:Type}{E1:α→List AV}{w1:α→Prop}{E2:β→List AV}{w2:β→Prop}
  (h1:Xu enc P w base spare held n f.type E1 (fun a d=>Sz P f.type d→w1 a)) (h2:N7 enc P w base spare held n fs E2 (fun a ds=>SzE P (fs.map (·.type)) ds→w2 a)):
  N7 enc P w base spare held n (f::fs) (fun x:α×β=>E1 x.1++E2 x.2) (fun x ds=>SzE P ((f::fs).map (·.type)) ds→w1 x.1∧w2 x.2):=fun a3 o o' cs xs hf hl hb hc hx=>by
 obtain⟨a,⟨d,ds,e,i1,i2⟩,h⟩:=PB h1 h2 a3 o o' cs xs hf hl hb hc hx;refine⟨a,fun hz=> ?_,h⟩
 rw[e,List.map_cons] at hz;exact⟨i1 hz.cons.1,i2 hz.cons.2⟩
theorem Gl{n:Nat}{t:TypeId}{fs:Array Field}{α:Type}{E:α→List AV}{f:α→Prop}(ht:P.underlying t=some (.struct fs))(hf:NU P 0 fs.toList (P.cellsOf t)=true)
  (h:N7 enc P w base spare held n fs.toList E (fun a ds=>SzE P (fs.toList.map (·.type)) ds→f a)):Xu enc P w base spare held (n+1) t E (fun a d=>Sz P t d→f a):=
 (FK ht hf h).to id (fun _=>rfl) fun a d hd hz=>by
  obtain⟨ds,rfl,h⟩:=hd;refine h fun k hk=>hz k ?_
  rw[DataW.weights];simp only[ht];exact hk
end
end HY
end
section
namespace HY
open Go Go.RowKit
def HB:XI:=fun _ _ _ _=>none
theorem LK{P:Program}{gl:Nat→AV}:XI.Ok P gl HB:=fun _ _ _ _ _ _ _ h=>by cases h
end HY
end
section
namespace HY
open Go Go.RowKit
structure Pu (P:Program) (gl:Nat→AV) (f:Nat) (args:List AV) (r:AV):Prop where
 ok:Jd P gl f args r .nil 0
structure KB where
 slot:Nat
 path:List Nat:=[]
 own:Nat:=0
 cut:Bool:=false
 fz:Bool:=false
structure Alt where
 {α:Type}
 φ:α→Prop
 ex:Exit
 vs:α→List AV
 bs:α→List Box
inductive Hint:Type 1 where
 |v (x:AV)
 |b (t:Bool)
 |split
 |e {α:Type} (sh:α→AV)
 |u
 |s
 |a
 |us (s:List UInt8)
 |o
 |nn
 |z (kb:List KB) (h:Option Hint)
 |n {α:Type} (sh:α→AV) (s:Nat) (h:Option Hint)
 |fl {α:Type} (sh:α→AV) (s:Nat) (h:Option Hint)
 |cc (r:AV)
 |c {α:Type} (sh:α→AV)
 |cb
 |h (kb:List KB) {α:Type} (r:α→AV) (bs:α→List Box)
 |hb (kb:List KB) {α:Type} (bs:α→List Box)
 |i (sub:List (Nat×Hint))
 |l {υ ω:Type} (gs:List KB) (ks:List Nat) (kb:List KB) (kx:List Nat) (kbx:List KB) (alts:υ→ω→List Alt)
abbrev QF:=List (Nat×Hint)
def lkH:QF→Nat→Option Hint
 | [],_=>none
 | (k,h)::r,n=>match Nat.beq k n with
  |true=>some h
  |false=>lkH r n
def Ae(dst:Option Nat)(op:Op):Nat:=
 match dst with
 |some d=>d
 |none=>match op with
  | .store _ (.tmp k) _=>1000000+k
  |_=>1000000
abbrev Res:=AV×Option (Nat×Box)
def oblV(P:Program)(bid:Nat)(dst:Option Nat)(op:Op)(ev:Operand→AV)(hp:Hp)(r:AV):Prop:=
 match op with
 | .indexAddr t x i=>Yu P t (ev x) (ev i)=some r
 | .index t x i=>Ln P t (ev x) (ev i)=some r
 | .slice t x lo hi mx=>Js P t (ev x) (lo.map ev) (hi.map ev) (mx.map ev)=some r
 | .load t x=>DG P t (ev x) hp=some r
 | .binOp o t x y _=>xbin P o t (ev x) (ev y)=some r
 | .convert src to x=>T0 P src to (ev x)=some r
 |op=>xop P bid dst op ev hp=some (r,none)
theorem oblV_ok{P:Program}{bid:Nat}{dst:Option Nat}{op:Op}{ev:Operand→AV}{hp:Hp}{r:AV}(h:oblV P bid dst op ev hp r):xop P bid dst op ev hp=some (r,none):=by
 unfold oblV at h;split at h;·refine Zt ?_;show xv _=_;rw[h];rfl
 ·refine Zt ?_;show xv _=_;rw[h];rfl
 ·refine Zt ?_;show xv _=_;rw[h];rfl
 ·refine Zt ?_;show xv _=_;rw[h];rfl
 ·refine Zt ?_;show xv _=_;rw[h];rfl
 ·refine Zt ?_;show xv _=_;rw[h];rfl
 ·exact h
def bI(d:Int):Option AV→Option Int
 |none=>some d
 |some (.int _ n)=>some n
 |some _=>none
def ieq(P:Program)(t:TypeId)(sz:Nat):Bool:=match elI P t with
 |some k=>Nat.beq k sz
 |none=>false
theorem Md{P:Program}{t:TypeId}{sz:Nat}(h:ieq P t sz=true):elI P t=some sz:=by
 unfold ieq at h;split at h;·rename_i k hk;rw[hk,Nat.eq_of_beq_eq_true h]
 ·cases h
def keq(a b:IntKind):Bool:=if a=b then true else false
theorem keq_ok{a b:IntKind}(h:keq a b=true):a=b:=by
 unfold keq at h;split at h
 ·assumption
 ·cases h
def wopS(P:Program)(op:Op)(ev:Operand→AV)(K:Res→Prop):Prop:=
 match op with
 | .binOp o _ x y _=>match ev x,ev y with
  | .str a,.str b=>match o with
   | .add=>a.length+b.length≤9223372036854775807∧K (.str (a++b),none)
   |_=>False
  | .int k a,.int k' b=>match o with
   | .shl=>0≤b∧K (.int k (k.wrap (a*2^ (min b.toNat k.bits))),none)
   | .shr=>0≤b∧K (.int k (a.fdiv (2^ (min b.toNat k.bits))),none)
   |o=>match keq k k' with
    |true=>match o with
     | .quo=>b≠0∧K (.int k (k.wrap (a.tdiv b)),none)
     | .rem=>b≠0∧K (.int k (a.tmod b),none)
     |_=>False
    |false=>False
  |_,_=>False
 | .indexAddr t x i=>match ev i with
  | .int _ k=>match ev x with
   | .bs id ver sz off len=>match ieq P t sz with
    |true=>(0≤k∧k<len)∧K (.ptr id ver (off+k.toNat*sz),none)
    |false=>False
   | .ow id ver sz len=>match ieq P t sz with
    |true=>(0≤k∧k<len)∧K (.oe id ver sz k.toNat 0,none)
    |false=>False
   | .ptr id ver off=>match arI P t with
    |some (n,z,_)=>(0≤k∧k<n)∧K (.ptr id ver (off+k.toNat*z),none)
    |none=>False
   | .ip sz xs j off=>match arI P t with
    |some (n,z,_)=>(0≤k∧k<n)∧K (.ip sz xs j (off+k.toNat*z),none)
    |none=>False
   |_=>False
  |_=>False
 | .slice t x lo hi mx=>match mx with
  |some _=>False
  |none=>match bI 0 (lo.map ev) with
   |some l=>match ev x with
    | .str s=>match Ve P t with
     |true=>match hi with
      |none=>(0≤l∧l≤s.length)∧K (.str (s.drop l.toNat),none)
      |some hi=>match bI 0 (some (ev hi)) with
       |some h=>(0≤l∧l≤h∧h≤s.length)∧K (.str ((s.take h.toNat).drop l.toNat),none)
       |none=>False
     |false=>False
    | .sl sz xs=>match ieq P t sz with
     |true=>match hi with
      |none=>(0≤l∧l≤xs.length)∧K (.sl sz (xs.drop l.toNat),none)
      |some hi=>match bI 0 (some (ev hi)) with
       |some h=>(0≤l∧l≤h∧h≤xs.length)∧K (.sl sz ((xs.take h.toNat).drop l.toNat),none)
       |none=>False
     |false=>False
    | .bs id ver sz off len=>match bI len (hi.map ev) with
     |some h=>match ieq P t sz with
      |true=>(0≤l∧l<h∧h≤len)∧K (.bs id ver sz (off+l.toNat*sz) (h.toNat - l.toNat),none)
      |false=>False
     |none=>False
    | .ow id ver sz len=>match bI len (hi.map ev) with
     |some h=>match ieq P t sz with
      |true=>(l=0∧0≤h∧h≤len)∧K (.ow id ver sz h.toNat,none)
      |false=>False
     |none=>False
    |_=>False
   |none=>False
 |_=>False
theorem bI_ok{d:Nat}{o:Option AV}{n:Int}(h:bI d o=some n)(h0:0≤n):bndN d o=some n.toNat:=by
 unfold bI at h;split at h;·cases h;rfl
 ·cases h;simp only[bndN];rw[if_pos h0]
 ·cases h
theorem bI_okS{d d':Nat}{x:AV}{n:Int}(h:bI d (some x)=some n)(h0:0≤n):bndN d' (some x)=some n.toNat:=by
 unfold bI at h;split at h;·rename_i e;cases e
 ·rename_i k e;cases e;cases h;simp only[bndN];rw[if_pos h0]
 ·cases h
theorem ON{P:Program}{bid:Nat}{dst:Option Nat}{op:Op}{ev:Operand→AV}{hp:Hp}{K:Res→Prop}(h:wopS P op ev K):∃r,xop P bid dst op ev hp=some r∧K r:=by
 unfold wopS at h;split at h
 ·rename_i o t x y p;split at h
  ·rename_i a b hx hy;split at h
   ·refine⟨_,Zt ?_,h.2⟩;show xv (xbin P .add t (ev x) (ev y))=_;rw[hx,hy];show xv (RY .add a b)=_;simp only[RY,if_pos h.1];rfl
   ·cases h
  ·rename_i k a k' b hx hy;split at h
   ·refine⟨_,Zt ?_,h.2⟩;show xv (xbin P .shl t (ev x) (ev y))=_;rw[hx,hy];simp only[xbin,if_pos h.1];rfl
   ·refine⟨_,Zt ?_,h.2⟩;show xv (xbin P .shr t (ev x) (ev y))=_;rw[hx,hy];simp only[xbin,if_pos h.1];rfl
   ·split at h
    ·rename_i hk;obtain rfl:=keq_ok hk;split at h
     ·refine⟨_,Zt ?_,h.2⟩;show xv (xbin P .quo t (ev x) (ev y))=_;rw[hx,hy];simp only[xbin,if_true,RX,if_neg h.1];rfl
     ·refine⟨_,Zt ?_,h.2⟩;show xv (xbin P .rem t (ev x) (ev y))=_;rw[hx,hy];simp only[xbin,if_true,RX,if_neg h.1];rfl
     ·cases h
    ·cases h
  ·cases h
 ·rename_i t x i;split at h
  ·rename_i k0 k hi;split at h
   ·rename_i id ver sz off len hx;split at h
    ·rename_i ht;refine⟨_,Zt ?_,h.2⟩;show xv (Yu P t (ev x) (ev i))=_;rw[hx,hi];simp only[Yu];rw[if_pos ⟨Md ht,h.1.1,h.1.2⟩];rfl
    ·cases h
   ·rename_i id ver sz len hx;split at h
    ·rename_i ht;refine⟨_,Zt ?_,h.2⟩;show xv (Yu P t (ev x) (ev i))=_;rw[hx,hi];simp only[Yu];rw[if_pos ⟨Md ht,h.1.1,h.1.2⟩];rfl
    ·cases h
   ·rename_i id ver off hx;split at h
    ·rename_i n z g ht;refine⟨_,Zt ?_,h.2⟩;show xv (Yu P t (ev x) (ev i))=_;rw[hx,hi];simp only[Yu,ht];rw[if_pos h.1];rfl
    ·cases h
   ·rename_i sz xs j off hx;split at h
    ·rename_i n z g ht;refine⟨_,Zt ?_,h.2⟩;show xv (Yu P t (ev x) (ev i))=_;rw[hx,hi];simp only[Yu,ht];rw[if_pos h.1];rfl
    ·cases h
   ·cases h
  ·cases h
 ·rename_i t x lo hi mx;split at h;·cases h
  ·split at h
   ·rename_i l hl;have a6:∀d:Int,0≤l→bndN 0 (lo.map ev)=some l.toNat:=fun _ h0=>bI_ok hl h0
    split at h
    ·rename_i s hx;split at h
     ·rename_i ht;split at h
      ·obtain⟨⟨h0,h1⟩,hK⟩:=h;refine⟨_,Zt ?_,hK⟩;show xv (Js P t (ev x) (lo.map ev) none none)=_;rw[hx];simp only[Js,a6 0 h0,show bndN s.length none=some s.length from rfl];rw[if_pos ⟨ht,rfl,by omega,Nat.le_refl _⟩,List.take_length];rfl
      ·rename_i hi;split at h
       ·rename_i hh a5;obtain⟨⟨h0,h1,h2⟩,hK⟩:=h;refine⟨_,Zt ?_,hK⟩;show xv (Js P t (ev x) (lo.map ev) (some (ev hi)) none)=_;rw[hx];simp only[Js,a6 0 h0,bI_okS a5 (by omega)]
        rw[if_pos ⟨ht,rfl,by omega,by omega⟩];rfl
       ·cases h
     ·cases h
    ·rename_i sz xs hx;split at h
     ·rename_i ht;split at h
      ·obtain⟨⟨h0,h1⟩,hK⟩:=h;refine⟨_,Zt ?_,hK⟩;show xv (Js P t (ev x) (lo.map ev) none none)=_;rw[hx];simp only[Js,a6 0 h0,show bndN xs.length none=some xs.length from rfl];rw[if_pos ⟨Md ht,by omega,Nat.le_refl _⟩,List.take_length];rfl
      ·rename_i hi;split at h
       ·rename_i hh a5;obtain⟨⟨h0,h1,h2⟩,hK⟩:=h;refine⟨_,Zt ?_,hK⟩;show xv (Js P t (ev x) (lo.map ev) (some (ev hi)) none)=_;rw[hx];simp only[Js,a6 0 h0,bI_okS a5 (by omega)]
        rw[if_pos ⟨Md ht,by omega,by omega⟩];rfl
       ·cases h
     ·cases h
    ·rename_i id ver sz off len hx;split at h
     ·rename_i hh a5;split at h
      ·rename_i ht;obtain⟨⟨h0,h1,h2⟩,hK⟩:=h;refine⟨_,Zt ?_,hK⟩;show xv (Js P t (ev x) (lo.map ev) (hi.map ev) none)=_;rw[hx];simp only[Js,a6 0 h0,bI_ok a5 (by omega)]
       rw[if_pos ⟨Md ht,by omega,by omega⟩,if_neg (by omega)];rfl
      ·cases h
     ·cases h
    ·rename_i id ver sz len hx;split at h
     ·rename_i hh a5;split at h
      ·rename_i ht;obtain⟨⟨h0,h1,h2⟩,hK⟩:=h;refine⟨_,Zt ?_,hK⟩;show xv (Js P t (ev x) (lo.map ev) (hi.map ev) none)=_;rw[hx];simp only[Js,a6 0 (by omega),bI_ok a5 (by omega)]
       rw[if_pos ⟨Md ht,by omega,by omega⟩];rfl
      ·cases h
     ·cases h
    ·cases h
   ·cases h
 ·cases h
def wsrc(P:Program)(t t':TypeId)(sz:Nat)(x:AV)(hp:Hp):Option (Nat×List AV):=
 match x with
 | .str b=>match Ve P t'&&Nat.beq sz 1 with
  |true=>some (b.length,b.map Uv)
  |false=>none
 |x=>match Nat.beq t' t with
  |true=>xsrc sz x hp
  |false=>none
def wappT(bid e tg sz a3 n:Nat)(ds:List AV)(s:AV)(hp:Hp)(K:Res→Prop):Prop:=
 match s with
 | .nil=>(n≠0∧n*a3≤140737488355328∧n≤9223372036854775807)∧K (.bs bid tg sz 0 n,some (bid,.cells tg ds))
 | .emp=>(n≠0∧n*a3≤140737488355328∧n≤9223372036854775807)∧K (.bs bid tg sz 0 n,some (bid,.cells tg ds))
 | .bs id ver z off len=>match hp id with
  |some (.cells v cs)=>match Nat.beq z sz&&Nat.beq v ver with
   |true=>(n≠0∧off+len*sz≤cs.length∧(len+n)*a3≤140737488355328∧len+n≤9223372036854775807)∧K (.bs id (GJ e off ver) sz 0 (len+n),some (id,.cells (GJ e off ver) ((cs.drop off).take (len*sz)++ds)))
   |false=>False
  |_=>False
 |_=>False
theorem Q1l{bid e tg sz a3 n:Nat}{ds:List AV}{s:AV}{hp:Hp}{K:Res→Prop}(h:wappT bid e tg sz a3 n ds s hp K):n≠0∧∃r,UR bid e tg sz a3 n ds s hp=some r∧K r:=by
 unfold wappT at h;unfold UR;split at h
 ·obtain⟨⟨h0,h1,h2⟩,hK⟩:=h;exact⟨h0,_,by simp only[if_pos (And.intro h1 h2)],hK⟩
 ·obtain⟨⟨h0,h1,h2⟩,hK⟩:=h;exact⟨h0,_,by simp only[if_pos (And.intro h1 h2)],hK⟩
 ·split at h
  ·rename_i v cs a9;split at h
   ·rename_i hc;rw[Bool.and_eq_true] at hc;obtain rfl:=Nat.eq_of_beq_eq_true hc.1;obtain rfl:=Nat.eq_of_beq_eq_true hc.2;obtain⟨⟨h0,h1,h2,h3⟩,hK⟩:=h;exact⟨h0,_,by simp only[a9];rw[if_pos ⟨trivial,trivial,h1,h2,h3⟩],hK⟩
   ·cases h
  ·cases h
 ·cases h
def wels(sz:Nat)(x:AV)(hp:Hp)(K:List AV→Prop):Prop:=
 match x with
 | .ow id ver z len=>match hp id with
  |some (.own v z' xs)=>match Nat.beq z sz&& (Nat.beq z' sz&&Nat.beq v ver) with
   |true=>len=xs.length∧K xs
   |false=>False
  |_=>False
 |x=>match xels sz x hp with
  |some ys=>K ys
  |none=>False
theorem OJ{sz:Nat}{x:AV}{hp:Hp}{K:List AV→Prop}(h:wels sz x hp K):∃ys,xels sz x hp=some ys∧K ys:=by
 unfold wels at h;split at h
 ·rename_i id ver z len;split at h
  ·rename_i v z' xs a4;split at h
   ·rename_i hc;simp only[Bool.and_eq_true] at hc;obtain⟨hl,hK⟩:=h;refine⟨xs,?_,hK⟩;simp only[xels,a4];rw[hc.1,hc.2.1,hc.2.2,hl,Nat.ble_eq_true_of_le (Nat.le_refl _)];simp
   ·cases h
  ·cases h
 ·split at h;·rename_i ys a5;exact⟨ys,a5,h⟩
  ·cases h
def wapp(P:Program)(bid:Nat)(op:Op)(ev:Operand→AV)(hp:Hp)(K:Res→Prop):Prop:=
 match op with
 | .call c=>match c.callee with
  | .builtin .append=>match c.argTypes.toList,c.args.toList.map ev with
   | [t,t'],[s,x]=>match elG P t with
    |some (sz,by_,_)=>match s with
     | .ow id ver z len=>match Nat.beq sz z&&Nat.beq t' t with
      |true=>match hp id with
       |some (.own v z' xs)=>match Nat.beq z' z&&Nat.beq v ver with
        |true=>wels z x hp (fun ys=>(len=xs.length∧(len+ys.length)*by_≤140737488355328∧len+ys.length≤9223372036854775807)∧K (.ow id (ver+4096) z (len+ys.length),some (id,.own (ver+4096) z (xs++ys))))
        |false=>False
       |_=>False
      |false=>False
     |s=>match wsrc P t t' sz x hp with
      |some (n,ds)=>wappT bid (elT P t) (tagE P (elT P t)) sz by_ n ds s hp K
      |none=>False
    |none=>False
   |_,_=>False
  |_=>False
 |_=>False
theorem wapp_ok{P:Program}{bid:Nat}{dst:Option Nat}{op:Op}{ev:Operand→AV}{hp:Hp}{K:Res→Prop}(h:wapp P bid op ev hp K):∃r,xop P bid dst op ev hp=some r∧K r:=by
 unfold wapp at h;split at h
 ·rename_i c;split at h
  ·rename_i hc;split at h
   ·rename_i t t' s x ht hx;split at h
    ·rename_i sz aa zs a5;split at h
     ·rename_i id ver z len;split at h
      ·rename_i a4;rw[Bool.and_eq_true] at a4;obtain rfl:=Nat.eq_of_beq_eq_true a4.1;obtain rfl:=Nat.eq_of_beq_eq_true a4.2;split at h
       ·rename_i v z' xs ac;split at h
        ·rename_i a6;rw[Bool.and_eq_true] at a6;obtain⟨ys,ad,⟨h1,h2,h3⟩,hK⟩:=OJ h;subst h1;refine⟨_,xop_ofO ?_ ?_ ?_,hK⟩
         ·have:∀n ds,(if n=0 then(if Ab (.ow id ver sz xs.length) then some ((.ow id ver sz xs.length:AV),(none:Option (Nat×Box))) else none) else UR bid (elT P t') (tagE P (elT P t')) sz aa n ds (.ow id ver sz xs.length) hp)=none:=fun n ds=>by
           split<;>rfl
          simp only[xop0,hc,Vv,ht,hx,Uf,a5,if_true];split;·exact this _ _
          ·rfl
         ·simp only[xopX,hc,ht,hx,NQ,a5];split
          ·split
           ·split;·rfl
            ·rfl
           ·rfl
          ·rfl
         ·simp only[xopO,hc,ht,hx,Cr,a5,ac,ad];rw[Nat.beq_refl,Nat.beq_refl,a6.1,a6.2,Nat.ble_eq_true_of_le (Nat.le_refl _)];simp[h2,h3]
        ·cases h
       ·cases h
      ·cases h
     ·split at h
      ·rename_i n ds a3;obtain⟨h0,r,hr,hK⟩:=Q1l h;refine⟨r,?_,hK⟩;unfold wsrc at a3;split at a3
       ·rename_i b;split at a3
        ·rename_i a4;cases a3;have e0:xop0 P bid dst (.call c) ev hp=none:=by
          simp only[xop0,hc,Vv,ht,hx,Uf,a5,xsrc];split<;>rfl
         refine NZ e0 ?_;simp only[xopX,hc,ht,hx,NQ,a5];rw[a4];cases b with
         |nil=>exact absurd rfl h0
         |cons c0 b0=>exact hr
        ·cases a3
       ·split at a3
        ·rename_i a4;obtain rfl:=Nat.eq_of_beq_eq_true a4;refine Zt ?_;simp only[xop0,hc,Vv,ht,hx,Uf,a5,if_true,a3];rw[if_neg h0];exact hr
        ·cases a3
      ·cases h
    ·cases h
   ·cases h
  ·cases h
 ·cases h
theorem Lz:∀(s:List UInt8),Ma (s.map Uv)=some s
 | []=>rfl
 |c::s=>by
  have hc:=c.toNat_lt;have h:(decide ((0:Int)≤(c.toNat:Int))&&decide ((c.toNat:Int)<256))=true:=by simp;omega
  simp only[List.map_cons,Uv,Ma,h];rw[Lz s];simp
def wus(P:Program)(op:Op)(ev:Operand→AV)(hp:Hp)(s:List UInt8)(K:Res→Prop):Prop:=
 match op with
 | .convert src to x=>match ev x with
  | .bs id ver sz off len=>match hp id with
   |some (.cells v cs)=>match Nat.beq v ver&& (Nat.beq sz 1&& (WB P src&&Ve P to)) with
    |true=>(off+len≤cs.length∧(cs.drop off).take len=s.map Uv)∧K (.str s,none)
    |false=>False
   |_=>False
  |_=>False
 | .call c=>match c.callee with
  | .builtin b=>match b with
   | .unsafeSliceData=>match c.args.toList.map ev with
    | [x]=>match x with
     | .bs id ver _ off len=>0<len∧K (.ptr id ver off,none)
     | .nil=>K (.nilp,none)
     |_=>False
    |_=>False
   | .unsafeString=>match c.argTypes.toList,c.args.toList.map ev with
    | [pt,_],[p,n]=>match p with
     | .ptr id ver off=>match n with
      | .int .i64 n=>match hp id with
       |some (.cells v cs)=>match ptTo P pt with
        |some e=>match Nat.beq v ver&& (Nat.beq off 0&& (Nat.beq (ver%4096) (e+1)&&Nat.beq (P.cellsOf e) 1)) with
         |true=>(0<n∧n≤9223372036854775807∧n.toNat≤cs.length∧cs.take n.toNat=s.map Uv)∧K (.str s,some (id,.dead))
         |false=>False
        |none=>False
       |_=>False
      |_=>False
     | .nilp=>match n with
      | .int .i64 0=>K (.str [],none)
      |_=>False
     |_=>False
    |_,_=>False
   |_=>False
  |_=>False
 |_=>False
theorem wus_ok{P:Program}{bid:Nat}{dst:Option Nat}{op:Op}{ev:Operand→AV}{hp:Hp}{s:List UInt8}{K:Res→Prop}(h:wus P op ev hp s K):∃r,xop P bid dst op ev hp=some r∧K r:=by
 unfold wus at h;split at h
 ·rename_i ag to x;split at h
  ·rename_i id ver sz off len hx;split at h
   ·rename_i v cs a8;split at h
    ·rename_i hc;simp only[Bool.and_eq_true] at hc;obtain⟨h1,h2,h3,h4⟩:=hc;obtain⟨⟨af,hs⟩,hK⟩:=h;refine⟨_,?_,hK⟩;have e0:xop0 P bid dst (.convert ag to x) ev hp=none:=by simp only[xop0,hx,T0];rfl
     refine NZ e0 ?_;simp only[xopX,hx,Wl,a8,hs,Lz];rw[h1,h2,h3,h4,Nat.ble_eq_true_of_le af];rfl
    ·cases h
   ·cases h
  ·cases h
 ·rename_i c;split at h
  ·rename_i b hc;split at h
   ·split at h
    ·rename_i x hx;split at h
     ·rename_i id ver z off len;refine⟨_,?_,h.2⟩;have e0:xop0 P bid dst (.call c) ev hp=none:=by simp only[xop0,hc,Vv]
      refine NZ e0 ?_;simp only[xopX,hc,hx,Hk];rw[Nat.ble_eq_true_of_le (show 0+1≤len from h.1) |>(fun e=>(show Nat.blt 0 len=true from e))]
      rfl
     ·refine⟨_,?_,h⟩;have e0:xop0 P bid dst (.call c) ev hp=none:=by simp only[xop0,hc,Vv]
      refine NZ e0 ?_;simp only[xopX,hc,hx,Hk];rfl
     ·cases h
    ·cases h
   ·split at h
    ·rename_i pt it p n ht hx;split at h
     ·rename_i id ver off;split at h
      ·rename_i n;split at h
       ·rename_i v cs a8;split at h
        ·rename_i e he;split at h
         ·rename_i a9;simp only[Bool.and_eq_true] at a9;obtain⟨h1,h2,h3,h4⟩:=a9;obtain⟨⟨a1,a2,a3,a4⟩,hK⟩:=h;refine⟨_,?_,hK⟩;have e0:xop0 P bid dst (.call c) ev hp=none:=by simp only[xop0,hc,Vv]
          refine NZ e0 ?_;simp only[xopX,hc,ht,hx,NS,a8,he,a4,Lz];rw[h1,h2,h3,h4,Nat.ble_eq_true_of_le a3];simp[a1,a2]
         ·cases h
        ·cases h
       ·cases h
      ·cases h
     ·split at h
      ·refine⟨_,?_,h⟩;have e0:xop0 P bid dst (.call c) ev hp=none:=by simp only[xop0,hc,Vv]
       refine NZ e0 ?_;simp only[xopX,hc,ht,hx,NS]
      ·cases h
     ·cases h
    ·cases h
   ·cases h
  ·cases h
 ·cases h
def wdef(P:Program)(bid:Nat)(dst:Option Nat)(op:Op)(ev:Operand→AV)(hp:Hp)(K:Res→Prop):Prop:=
 match xop P bid dst op ev hp with
 |some r=>K r
 |none=>False
def wst(P:Program)(dst:Option Nat)(op:Op)(ev:Operand→AV)(hp:Hp)(K:Res→Prop):Prop:=
 match op with
 | .store t x y=>match dst with
  |some _=>False
  |none=>match ev x with
   | .oe id ver sz i off=>match tyI P t with
    |some (n,_)=>match hp id with
     |some (.own v z xs)=>match ev y with
      |yv=>match Nat.beq v ver&& (Nat.beq z sz&& (Nat.ble (off+n) sz&& (yv.okc&& (Nat.beq yv.cells.length n&&yv.cells.all immA)))) with
       |true=>i<xs.length∧K (.undef,some (id,.own v z (xs.set i (putE off n z ((xs[i]?).getD .undef) yv))))
       |false=>match Nat.beq v ver&& (Nat.beq z sz&& (Nat.ble (off+n) sz&& (yv.okc&& (Nat.beq yv.cells.length n&&Nat.beq n 1)))) with
        |true=>i<xs.length∧K (.undef,some (id,.hol v z xs i off ((yv.cells[0]?).getD .undef)))
        |false=>False
     |_=>False
    |none=>False
   |_=>False
 | .load t x=>match ev x with
  | .oe id ver sz i off=>match tyI P t with
   |some (n,g)=>match hp id with
    |some (.hol v z _ j c r)=>match Nat.beq v ver&& (Nat.beq z sz&& (Nat.beq off c&&Nat.beq (wd g n) 1)) with
     |true=>i=j∧K (Dv g n 0 [r],none)
     |false=>False
    |_=>False
   |none=>False
  |_=>False
 |op=>wopS P op ev K
theorem wst_ok{P:Program}{bid:Nat}{dst:Option Nat}{op:Op}{ev:Operand→AV}{hp:Hp}{K:Res→Prop}(h:wst P dst op ev hp K):∃r,xop P bid dst op ev hp=some r∧K r:=by
 unfold wst at h;split at h
 ·rename_i t x y;split at h;·cases h
  ·split at h
   ·rename_i id ver sz i off hx;split at h
    ·rename_i n g ht;split at h
     ·rename_i v z xs a4;simp only at h;split at h
      ·rename_i hc;obtain⟨hi,hK⟩:=h;simp only[Bool.and_eq_true] at hc;refine⟨_,Zt ?_,hK⟩;have hb:Nat.blt i xs.length=true:=Nat.ble_eq_true_of_le hi;simp only[xop0,Option.isNone_none,if_true,Gx,ht,hx,a4];rw[hc.1,hc.2.1,hb,hc.2.2.1,hc.2.2.2.1,hc.2.2.2.2.1,hc.2.2.2.2.2];rfl
      ·rename_i hn;split at h
       ·rename_i hc;obtain⟨hi,hK⟩:=h;simp only[Bool.and_eq_true] at hc;refine⟨_,Zt ?_,hK⟩;have hb:Nat.blt i xs.length=true:=Nat.ble_eq_true_of_le hi;simp only[xop0,Option.isNone_none,if_true,Gx,ht,hx,a4];rw[hc.1,hc.2.1,hc.2.2.1,hc.2.2.2.1,hc.2.2.2.2.1] at hn;rw[hc.1,hc.2.1,hb,hc.2.2.1,hc.2.2.2.1,hc.2.2.2.2.1,hc.2.2.2.2.2];simp only[Bool.true_and] at hn ⊢;rw[if_neg (by rw[hn];simp),if_pos trivial]
       ·cases h
     ·cases h
    ·cases h
   ·cases h
 ·rename_i t x;split at h
  ·rename_i id ver sz i off hx;split at h
   ·rename_i n g ht;split at h
    ·rename_i v z xs j c r a4;split at h
     ·rename_i hc;obtain⟨rfl,hK⟩:=h;simp only[Bool.and_eq_true] at hc;refine⟨_,Zt ?_,hK⟩;show xv (DG P t (ev x) hp)=_;rw[hx];simp only[DG,ht,a4];rw[hc.1,hc.2.1,hc.2.2.1,hc.2.2.2,show Nat.beq i i=true from Nat.beq_refl i];rfl
     ·cases h
    ·cases h
   ·cases h
  ·cases h
 ·exact ON h
def wask(P:Program)(bid:Nat)(dst:Option Nat)(op:Op)(ev:Operand→AV)(hp:Hp)(h:Option Hint)(K:Res→Prop):Prop:=
 match h with
 |none=>wdef P bid dst op ev hp K
 |some h=>match h with
  | .v x=>oblV P bid dst op ev hp x∧K (x,none)
  | .b t=>match xop P bid dst op ev hp with
   |some (.bool u,none)=>u=t∧K (.bool t,none)
   |_=>False
  | .split=>match xop P bid dst op ev hp with
   |some (.bool u,none)=>(u=true→K (.bool true,none))∧(u=false→K (.bool false,none))
   |_=>False
  | .e sh=>match op with
   | .indexAddr t a i=>match ev a with
    | .sl sz xs=>match ev i with
     | .int _ k=>match ieq P t sz with
      |true=>∃x,(0≤k∧xs[k.toNat]? =some (sh x))∧K (.ip sz [sh x] 0 0,none)
      |false=>False
     |_=>False
    |_=>wopS P op ev K
   | .load t a=>match ev a with
    | .oe id ver sz i off=>match tyI P t with
     |some (n,g)=>match hp id with
      |some (.own v z xs)=>match Nat.beq v ver&& (Nat.beq z sz&&Nat.ble (off+wd g n) sz) with
       |true=>∃x,xs[i]? =some (sh x)∧K (Dv g n off (sh x).cells,none)
       |false=>False
      |_=>False
     |none=>False
    |_=>wdef P bid dst op ev hp K
   | .store t x y=>match dst with
    |some _=>False
    |none=>match ev x with
     | .oe id ver sz i off=>match tyI P t with
      |some (n,_)=>match hp id with
       |some (.own v z xs)=>match ev y with
        |yv=>match Nat.beq v ver&& (Nat.beq z sz&& (Nat.ble (off+n) sz&& (yv.okc&& (Nat.beq yv.cells.length n&&yv.cells.all immA)))) with
         |true=>∃x,xs[i]? =some (sh x)∧K (.undef,some (id,.own v z (xs.set i (putE off n z (sh x) yv))))
         |false=>False
       |_=>False
      |none=>False
     |_=>False
   |_=>False
  | .u=>match op with
   | .index t a i=>match ev a with
    | .str s=>match ev i with
     | .int _ k=>match Ve P t with
      |true=>∃x:UInt8,(0≤k∧s[k.toNat]? =some x)∧K (.int .u8 x.toNat,none)
      |false=>False
     |_=>False
    |_=>False
   |_=>False
  | .s=>wst P dst op ev hp K
  | .a=>wapp P bid op ev hp K
  | .us s=>wus P op ev hp s K
  |_=>False
theorem OI{P:Program}{bid:Nat}{dst:Option Nat}{op:Op}{ev:Operand→AV}{hp:Hp}{K:Res→Prop}(hw:wdef P bid dst op ev hp K):∃r,xop P bid dst op ev hp=some r∧K r:=by
 unfold wdef at hw;split at hw;·rename_i r hr;exact⟨r,hr,hw⟩
 ·cases hw
theorem OH{P:Program}{bid:Nat}{dst:Option Nat}{op:Op}{ev:Operand→AV}{hp:Hp}{h:Option Hint}{K:Res→Prop}(hw:wask P bid dst op ev hp h K):∃r,xop P bid dst op ev hp=some r∧K r:=by
 unfold wask at hw;split at hw;·exact OI hw
 ·rename_i h;split at hw;·exact⟨_,oblV_ok hw.1,hw.2⟩
  ·split at hw
   ·rename_i t u hx;obtain⟨rfl,hK⟩:=hw;exact⟨_,hx,hK⟩
   ·cases hw
  ·split at hw
   ·rename_i u hx;refine⟨_,hx,?_⟩;cases u with
    |true=>exact hw.1 rfl
    |false=>exact hw.2 rfl
   ·cases hw
  ·rename_i sh;split at hw
   ·rename_i t a i;split at hw
    ·rename_i sz xs hx;split at hw
     ·rename_i k0 k hi;split at hw
      ·rename_i ht;obtain⟨x,⟨h0,h1⟩,hK⟩:=hw;refine⟨_,Zt ?_,hK⟩;show xv (Yu P t (ev a) (ev i))=_;rw[hx,hi];have a6:k<xs.length:=by
        have:=(List.getElem?_eq_some_iff.1 h1).1;omega
       simp only[Yu];rw[if_pos ⟨Md ht,h0,a6⟩,h1];rfl
      ·cases hw
     ·cases hw
    ·exact ON hw
   ·rename_i t a;split at hw
    ·rename_i id ver sz i off hx;split at hw
     ·rename_i n g ht;split at hw
      ·rename_i v z xs a9;split at hw
       ·rename_i hc;simp only[Bool.and_eq_true] at hc;obtain⟨x,h1,hK⟩:=hw;refine⟨_,Zt ?_,hK⟩;show xv (DG P t (ev a) hp)=_;rw[hx];have a6:i<xs.length:=(List.getElem?_eq_some_iff.1 h1).1;simp only[DG,ht,a9];rw[hc.1,hc.2.1,hc.2.2,show Nat.blt i xs.length=true from Nat.ble_eq_true_of_le a6,h1];rfl
       ·cases hw
      ·cases hw
     ·cases hw
    ·exact OI hw
   ·rename_i t x y;split at hw;·cases hw
    ·split at hw
     ·rename_i id ver sz i off hx;split at hw
      ·rename_i n g ht;split at hw
       ·rename_i v z xs a9;simp only at hw;split at hw
        ·rename_i hc;obtain⟨e,h1,hK⟩:=hw;simp only[Bool.and_eq_true] at hc;refine⟨_,Zt ?_,hK⟩;have hb:Nat.blt i xs.length=true:=Nat.ble_eq_true_of_le (List.getElem?_eq_some_iff.1 h1).1;simp only[xop0,Option.isNone_none,if_true,Gx,ht,hx,a9];rw[hc.1,hc.2.1,hb,hc.2.2.1,hc.2.2.2.1,hc.2.2.2.2.1,hc.2.2.2.2.2,h1];rfl
        ·cases hw
       ·cases hw
      ·cases hw
     ·cases hw
   ·cases hw
  ·split at hw
   ·rename_i t a i;split at hw
    ·rename_i s hx;split at hw
     ·rename_i k0 k hi;split at hw
      ·rename_i ht;obtain⟨x,⟨h0,h1⟩,hK⟩:=hw;refine⟨_,Zt ?_,hK⟩;show xv (Ln P t (ev a) (ev i))=_;rw[hx,hi];have a6:k<s.length:=by
        have:=(List.getElem?_eq_some_iff.1 h1).1;omega
       simp only[Ln];rw[if_pos (by simp[ht,h0,a6]),h1];rfl
      ·cases hw
     ·cases hw
    ·cases hw
   ·cases hw
  ·exact wst_ok hw
  ·exact wapp_ok hw
  ·exact wus_ok hw
  ·cases hw
end HY
end
section
namespace HY
open Go Go.RowKit
def refId:AV→Option Nat
 | .ptr id _ _=>some id
 | .bs id _ _ _ _=>some id
 | .ow id _ _ _=>some id
 | .oe id _ _ _ _=>some id
 |_=>none
def NV(hp:Hp):AV→List Nat→Option (Nat×Nat)
 |_,[]=>none
 |v,i::p=>match v with
  | .agg cs=>match cs[i]? with
   |some c=>NV hp c p
   |none=>none
  | .tup cs=>match cs[i]? with
   |some c=>NV hp c p
   |none=>none
  | .fn _ cs=>match cs[i]? with
   |some c=>NV hp c p
   |none=>none
  |v=>match refId v with
   |some id=>match p with
    | []=>some (id,i)
    |_::_=>match hp id with
     |some (.cells _ cs)=>match cs[i]? with
      |some c=>NV hp c p
      |none=>none
     |some (.hol _ _ _ _ _ r)=>match i with
      |0=>NV hp r p
      |_=>none
     |_=>none
   |none=>none
def bsOk(sz off z v ver len:Nat)(cs:List AV):Bool:=Nat.beq z sz&& (Nat.beq off 0&& (Nat.beq v ver&& (Nat.ble (len*sz) cs.length&& (cs.take (len*sz)).all immA)))
def cut1(st:St)(c:Bool)(id ver len:Nat):Option St:=
 match c with
 |false=>some st
 |true=>match lkb st.hp id with
  |some (.own v z xs)=>match Nat.beq v ver with
   |true=>some ⟨st.n,st.sl,pt st.hp id (.own v z (xs.take len)),st.nx⟩
   |false=>none
  |_=>none
def fz1(st:St)(k:Nat)(p:List Nat)(id ver sz len:Nat)(K:St→Prop):Prop:=
 match lkb st.hp id with
 |some (.own v z xs)=>match Nat.beq v ver&&Nat.beq z sz with
  |true=>len=xs.length∧K ⟨st.n,pt st.sl k (UQ p (st.get k) (.sl z xs)),pt st.hp id (.own (v+4096) z []),st.nx⟩
  |false=>K st
 |_=>K st
def ghS(st:St)(k:Nat)(p:List Nat)(x:AV)(sz:Nat)(c:Bool):Option St:=
 match x with
 | .nil=>some ⟨st.n,pt st.sl k (UQ p (st.get k) (.ow st.nx 0 sz 0)),pt st.hp st.nx (.own 0 sz []),st.nx+1⟩
 | .emp=>some ⟨st.n,pt st.sl k (UQ p (st.get k) (.ow st.nx 0 sz 0)),pt st.hp st.nx (.own 0 sz []),st.nx+1⟩
 | .bs id ver z off len=>match lkb st.hp id with
  |some (.cells v cs)=>match bsOk sz off z v ver len cs with
   |true=>some ⟨st.n,pt st.sl k (UQ p (st.get k) (.ow id ver sz len)),pt st.hp id (.own ver sz (K9 sz len (cs.take (len*sz)))),st.nx⟩
   |false=>none
  |_=>none
 | .ow id ver _ len=>cut1 st c id ver len
 | .undef=>some st
 | .sl _ _=>some st
 |_=>none
def ghC(st:St)(bx i sz:Nat)(c:Bool):Option St:=
 match lkb st.hp bx with
 |some (.cells vb cb)=>match cb[i]? with
  |some x=>match x with
   | .nil=>some ⟨st.n,st.sl,pt (pt st.hp st.nx (.own 0 sz [])) bx (.cells vb (cb.set i (.ow st.nx 0 sz 0))),st.nx+1⟩
   | .emp=>some ⟨st.n,st.sl,pt (pt st.hp st.nx (.own 0 sz [])) bx (.cells vb (cb.set i (.ow st.nx 0 sz 0))),st.nx+1⟩
   | .bs id ver z off len=>match lkb st.hp id with
    |some (.cells v cs)=>match bsOk sz off z v ver len cs&& !Nat.beq bx id with
     |true=>some ⟨st.n,st.sl,pt (pt st.hp id (.own ver sz (K9 sz len (cs.take (len*sz))))) bx (.cells vb (cb.set i (.ow id ver sz len))),st.nx⟩
     |false=>none
    |_=>none
   | .ow id ver _ len=>cut1 st c id ver len
   |_=>none
  |none=>none
 |_=>none
def gh1(st:St)(k:KB):Option St:=
 match k.own with
 |0=>some st
 |sz+1=>match Cn k.path (st.get k.slot) with
  |some x=>ghS st k.slot k.path x (sz+1) k.cut
  |none=>match NV (lkb st.hp) (st.get k.slot) k.path with
   |some (bx,j)=>ghC st bx j (sz+1) k.cut
   |none=>none
def fzS(st:St)(k:KB)(K:St→Prop):Prop:=
 match Cn k.path (st.get k.slot) with
 |some x=>match x with
  | .ow id ver sz len=>fz1 st k.slot k.path id ver sz len K
  | .ptr id ver off=>match lkb st.hp id with
   |some (.cells v cs)=>match Nat.beq v ver&& (Nat.blt 0 cs.length&&cs.all immA) with
    |true=>K ⟨st.n,pt st.sl k.slot (UQ k.path (st.get k.slot) (.ip cs.length [.agg cs] 0 off)),pt st.hp id (.own (v+4096) 1 []),st.nx⟩
    |false=>False
   |_=>K st
  |_=>K st
 |none=>False
def YQ:List KB→St→(St→Prop)→Prop
 | [],st,K=>K st
 |k::ks,st,K=>match k.fz with
  |true=>fzS st k (fun s=>YQ ks s K)
  |false=>match gh1 st k with
   |some st'=>YQ ks st' K
   |none=>False
theorem AQ{sz off z v ver len:Nat}{cs:List AV}(h:bsOk sz off z v ver len cs=true):z=sz∧off=0∧v=ver∧len*sz≤cs.length∧(cs.take (len*sz)).all immA=true:=by
 simp only[bsOk,Bool.and_eq_true] at h;exact⟨Nat.eq_of_beq_eq_true h.1,Nat.eq_of_beq_eq_true h.2.1,Nat.eq_of_beq_eq_true h.2.2.1,Nat.le_of_ble_eq_true h.2.2.2.1,h.2.2.2.2⟩
theorem O5{gl:Nat→AV}{st st':St}{c:Bool}{id ver len:Nat}(h:cut1 st c id ver len=some st'):Conv gl st st':=by
 unfold cut1 at h;split at h;·cases h;exact .refl
 ·split at h
  ·rename_i v z xs a3;split at h;·cases h;exact Q0s id v z len xs a3
   ·cases h
  ·cases h
theorem ghS_ok{gl:Nat→AV}{st st':St}{k:Nat}{p:List Nat}{x:AV}{sz:Nat}{c:Bool}(a3:0<sz)(hi:Cn p (st.get k)=some x)(h:ghS st k p x sz c=some st'):Conv gl st st':=by
 unfold ghS at h;split at h;·cases h;exact TT k p sz _ a3 hi rfl
 ·cases h;exact TT k p sz _ a3 hi rfl
 ·rename_i id ver z off len;split at h
  ·rename_i v cs a5;split at h
   ·rename_i hc;cases h;obtain⟨rfl,rfl,rfl,h1,h2⟩:=AQ hc;exact II k p id _ _ len cs a3 hi a5 h1 h2
   ·cases h
  ·cases h
 ·exact O5 h
 ·cases h;exact .refl
 ·cases h;exact .refl
 ·cases h
theorem ghC_ok{gl:Nat→AV}{st st':St}{bx i sz:Nat}{c:Bool}(a3:0<sz)(h:ghC st bx i sz c=some st'):Conv gl st st':=by
 unfold ghC at h;split at h
 ·rename_i vb cb hb;split at h
  ·rename_i x hx;split at h;·cases h;exact TS bx i sz vb cb _ a3 hb hx rfl
   ·cases h;exact TS bx i sz vb cb _ a3 hb hx rfl
   ·rename_i id ver z off len;split at h
    ·rename_i v cs a6;split at h
     ·rename_i hc;cases h;rw[Bool.and_eq_true] at hc;obtain⟨rfl,rfl,rfl,h1,h2⟩:=AQ hc.1;exact AX bx i id _ vb _ len cb cs a3 (fun e=>by subst e;simp at hc) hb hx a6 h1 h2
     ·cases h
    ·cases h
   ·exact O5 h
   ·cases h
  ·cases h
 ·cases h
theorem gh1_ok{gl:Nat→AV}{st st':St}{k:KB}(h:gh1 st k=some st'):Conv gl st st':=by
 unfold gh1 at h;split at h;·cases h;exact .refl
 ·split at h;·rename_i x hx;exact ghS_ok (Nat.succ_pos _) hx h
  ·split at h;·exact ghC_ok (Nat.succ_pos _) h
   ·cases h
theorem fzS_ok{gl:Nat→AV}{st:St}{k:KB}{K:St→Prop}(h:fzS st k K):∃st',Conv gl st st'∧K st':=by
 unfold fzS at h;split at h
 ·rename_i x hx;split at h
  ·rename_i id ver z len;unfold fz1 at h;split at h
   ·rename_i v z' xs a4;split at h
    ·rename_i hv;rw[Bool.and_eq_true] at hv;obtain rfl:=Nat.eq_of_beq_eq_true hv.1;obtain rfl:=Nat.eq_of_beq_eq_true hv.2;obtain⟨hl,hK⟩:=h;exact⟨_,Pz k.slot k.path id v _ len xs hx a4 hl,hK⟩
    ·exact⟨st,.refl,h⟩
   ·exact⟨st,.refl,h⟩
  ·rename_i id ver off;split at h
   ·rename_i v cs a4;split at h
    ·rename_i hv;simp only[Bool.and_eq_true] at hv;obtain rfl:=Nat.eq_of_beq_eq_true hv.1;exact⟨_,AY k.slot k.path id v off cs hx a4 (Nat.le_of_ble_eq_true hv.2.1) hv.2.2,h⟩
    ·cases h
   ·exact⟨st,.refl,h⟩
  ·exact⟨st,.refl,h⟩
 ·cases h
theorem Xj{gl:Nat→AV}:∀ {ks:List KB} {st:St} {K:St→Prop},YQ ks st K→∃st',Conv gl st st'∧K st'
 | [],st,K,h=>⟨st,.refl,h⟩
 |k::ks,st,K,h=>by
  simp only[YQ] at h;split at h
  ·obtain⟨s1,h1,h2⟩:=fzS_ok (gl:=gl) h;obtain⟨s2,h3,h4⟩:=Xj h2;exact⟨s2,h1.trans h3,h4⟩
  ·split at h
   ·rename_i s1 h1;obtain⟨s2,h3,h4⟩:=Xj h;exact⟨s2,(gh1_ok h1).trans h3,h4⟩
   ·cases h
def L6(hp:Hp):AV→List Nat→Option Nat
 |v,[]=>refId v
 |v,i::p=>match v with
  | .agg cs=>match cs[i]? with
   |some c=>L6 hp c p
   |none=>none
  | .tup cs=>match cs[i]? with
   |some c=>L6 hp c p
   |none=>none
  | .fn _ cs=>match cs[i]? with
   |some c=>L6 hp c p
   |none=>none
  |v=>match refId v with
   |some id=>match hp id with
    |some (.cells _ cs)=>match cs[i]? with
     |some c=>L6 hp c p
     |none=>none
    |some (.hol _ _ _ _ _ r)=>match i with
     |0=>L6 hp r p
     |_=>none
    |_=>none
   |none=>none
def UO(st:St):List KB→List Nat
 | []=>[]
 |k::r=>match k.fz with
  |true=>UO st r
  |false=>match L6 (lkb st.hp) (st.get k.slot) k.path with
   |some id=>id::UO st r
   |none=>UO st r
def idxN:List Nat→Nat→Option Nat
 | [],_=>none
 |k::r,id=>match Nat.beq k id with
  |true=>some 0
  |false=>match idxN r id with
   |some j=>some (j+1)
   |none=>none
def nodN:List Nat→Bool
 | []=>true
 |k::r=>match idxN r k with
  |some _=>false
  |none=>nodN r
def curV(hp:Hp)(id ver:Nat):Option Nat:=match hp id with
 |some (.cells v _)=>match Nat.beq v ver with
  |true=>some (v%4096)
  |false=>none
 |some (.own v _ _)=>match Nat.beq v ver with
  |true=>some 0
  |false=>none
 |some (.hol v _ _ _ _ _)=>match Nat.beq v ver with
  |true=>some 0
  |false=>none
 |_=>none
def mapR(g:Nat→Nat→Option (Nat×Nat)):Nat→AV→AV
 |0,_=>.undef
 |k+1,v=>match v with
  | .ptr id ver off=>match g id ver with
   |some (j,t)=>.ptr j t off
   |none=>.undef
  | .bs id ver sz off len=>match g id ver with
   |some (j,t)=>.bs j t sz off len
   |none=>.undef
  | .ow id ver sz len=>match g id ver with
   |some (j,t)=>.ow j t sz len
   |none=>.undef
  | .oe id ver sz i off=>match g id ver with
   |some (j,t)=>.oe j t sz i off
   |none=>.undef
  | .yld _=>.undef
  | .mp _=>.undef
  | .agg cs=>.agg (cs.map (mapR g k))
  | .tup cs=>.tup (cs.map (mapR g k))
  | .fn f cs=>.fn f (cs.map (mapR g k))
  |v=>v
def gR(hp:Hp)(ids:List Nat)(id ver:Nat):Option (Nat×Nat):=
 match idxN ids id with
 |some j=>match curV hp id ver with
  |some t=>some (j,t)
  |none=>none
 |none=>none
abbrev ren(hp:Hp)(ids:List Nat):Nat→AV→AV:=mapR (gR hp ids)
def renB(hp:Hp)(ids:List Nat):Box→Option Box
 | .cells ver cs=>some (.cells (ver%4096) (cs.map (ren hp ids 12)))
 | .own _ sz xs=>some (.own 0 sz xs)
 | .hol _ sz xs i c r=>some (.hol 0 sz xs i c (ren hp ids 12 r))
 |_=>none
def HG(hp:Hp)(all:List Nat):List Nat→Option (List Box)
 | []=>some []
 |id::r=>match hp id with
  |some b=>match renB hp all b with
   |some b'=>match HG hp all r with
    |some l=>some (b'::l)
    |none=>none
   |none=>none
  |none=>none
def pinOk(hp:Hp)(ids:List Nat):AV→Bool
 | .ptr id ver _=>match idxN ids id with
  |some j=>match curV hp id ver with
   |some t=>Nat.beq j id&&Nat.beq t ver
   |none=>false
  |none=>false
 | .undef=>true
 | .agg cs=>cs.all immA
 |v=>immA v
def Jj(a3:List AV)(ks:List Nat)(kb:List KB)(st:St)(K:List AV→List Box→Prop):Prop:=
 match nodN (UO st kb)&&a3.all (pinOk (lkb st.hp) (UO st kb)) with
 |true=>match HG (lkb st.hp) (UO st kb) (UO st kb) with
  |some bs=>K (ks.map fun k=>ren (lkb st.hp) (UO st kb) 12 (st.get k)) bs
  |none=>False
 |false=>False
def slOf:List Nat→List AV→Tr AV
 |k::ks,v::vs=>pt (slOf ks vs) k v
 |_,_=>.nil
def hpOf:Nat→List Box→Tr Box
 |_,[]=>.nil
 |j,b::r=>pt (hpOf (j+1) r) j b
def Z5(n:Nat)(ks:List Nat)(vs:List AV)(bs:List Box):St:=⟨n,slOf ks vs,hpOf 0 bs,bs.length⟩
theorem IQ{α:Type}(d:α)(k:Nat):lk d .nil k=d:=by unfold lk;cases path k<;>rfl
theorem UI:∀(bs:List Box) (j k:Nat),lkb (hpOf j bs) k=if j≤k then bs[k - j]? else none
 | [],j,k=>by simp[hpOf,QX]
 |b::r,j,k=>by
  simp only[hpOf,Z0];by_cases h:k=j;·subst h;rw[Qj];simp
  ·rw[Qn _ _ h,UI r (j+1) k];by_cases h':j≤k;·rw[if_pos (by omega),if_pos h',show k - j=k - (j+1)+1 by omega,List.getElem?_cons_succ]
   ·rw[if_neg (by omega),if_neg h']
theorem TZ:∀ {ids:List Nat} {id j:Nat},idxN ids id=some j→ids[j]? =some id
 |k::r,id,j,h=>by
  simp only[idxN] at h;split at h;·rename_i hk;cases h;rw[Nat.eq_of_beq_eq_true hk];rfl
  ·split at h;·rename_i j' hj;cases h;simpa using TZ hj
   ·cases h
theorem IL:∀ {ids:List Nat} {id:Nat},idxN ids id=none→∀(j:Nat),ids[j]? ≠some id
 | [],id,_,j=>by simp
 |k::r,id,h,j=>by
  simp only[idxN] at h;split at h;·cases h
  ·rename_i hk;split at h;·cases h
   ·rename_i hn;cases j with
    |zero=>intro e;simp at e;subst e;simp at hk
    |succ j=>rw[List.getElem?_cons_succ];exact IL hn j
theorem LL:∀ {ids:List Nat},nodN ids=true→∀ {i j id:Nat},ids[i]? =some id→ids[j]? =some id→i=j
 | [],_,i,j,id,hi,_=>by simp at hi
 |k::r,h,i,j,id,hi,hj=>by
  simp only[nodN] at h;split at h;·cases h
  ·rename_i hn;cases i with
   |zero=>
    simp only[List.getElem?_cons_zero,Option.some.injEq] at hi;cases j with
    |zero=>rfl
    |succ j=>rw[List.getElem?_cons_succ,← hi] at hj;exact absurd hj (IL hn j)
   |succ i=>
    cases j with
    |zero=>
     simp only[List.getElem?_cons_zero,Option.some.injEq] at hj;rw[List.getElem?_cons_succ,← hj] at hi;exact absurd hi (IL hn i)
    |succ j=>
     rw[List.getElem?_cons_succ] at hi hj;rw[LL h hi hj]
def Box.mark:Box→Nat
 | .cells v _=>v%4096
 |_=>0
theorem curV_ok{hp:Hp}{id ver t:Nat}(h:curV hp id ver=some t):∃b,hp id=some b∧b.ver? =some ver∧b.mark=t:=by
 unfold curV at h;split at h
 ·rename_i v cs hh;split at h;·rename_i hv;cases h;obtain rfl:=Nat.eq_of_beq_eq_true hv;exact⟨_,hh,rfl,rfl⟩
  ·cases h
 ·rename_i v sz xs hh;split at h;·rename_i hv;cases h;obtain rfl:=Nat.eq_of_beq_eq_true hv;exact⟨_,hh,rfl,rfl⟩
  ·cases h
 ·rename_i v sz xs i c r hh;split at h;·rename_i hv;cases h;obtain rfl:=Nat.eq_of_beq_eq_true hv;exact⟨_,hh,rfl,rfl⟩
  ·cases h
 ·cases h
theorem Tz{H:HV}{E E':Env}{g:Nat→Nat→Option (Nat×Nat)}(hg:∀id ver j t,g id ver=some (j,t)→E'.al j t∧∀l,E'.loc j t=some l→E.loc id ver=some l):∀(k:Nat) (v:AV) (u:Value),RV H E v u→RV H E' (mapR g k v) u
 |0,_,_,_=>.imm _ _ (.undef _)
 |k+1,v,u,h=>by
  have ih:=Tz (H:=H) hg k;cases v with
  |ptr id ver off=>
   simp only[mapR];split
   ·rename_i j t hj;obtain⟨a,rfl,_,a3⟩:=h.ptr_inv;obtain⟨h1,h2⟩:=hg id ver j t hj;exact .ptr _ _ _ _ h1 fun l hl=>a3 l (h2 l hl)
   ·exact .imm _ _ (.undef _)
  |bs id ver sz off len=>
   simp only[mapR];split
   ·rename_i j t hj;obtain⟨a,cap,rfl,_,hl,hm,a3⟩:=h.bs_inv;obtain⟨h1,h2⟩:=hg id ver j t hj;exact .bs _ _ _ _ _ _ _ h1 hl hm fun l hl=>a3 l (h2 l hl)
   ·exact .imm _ _ (.undef _)
  |ow id ver sz len=>
   simp only[mapR];split
   ·rename_i j t hj;obtain⟨a,cap,rfl,_,hl,hm,ae,a3⟩:=h.ow_inv;obtain⟨h1,h2⟩:=hg id ver j t hj;exact .ow _ _ _ _ _ _ h1 hl hm ae fun l hl=>a3 l (h2 l hl)
   ·exact .imm _ _ (.undef _)
  |oe id ver sz i off=>
   simp only[mapR];split
   ·rename_i j t hj;obtain⟨a,rfl,_,a3⟩:=h.oe_inv;obtain⟨h1,h2⟩:=hg id ver j t hj;exact .oe _ _ _ _ _ _ h1 fun l hl=>a3 l (h2 l hl)
   ·exact .imm _ _ (.undef _)
  |yld id=>exact .imm _ _ (.undef _)
  |mp id=>exact .imm _ _ (.undef _)
  |agg cs=>
   obtain⟨vs,rfl,hl,h1,hc⟩:=h.agg_inv;refine .agg _ vs (by simpa using hl) h1 fun j c v hj hv=> ?_
   rw[List.getElem?_map,Option.map_eq_some_iff] at hj;obtain⟨c0,a6,rfl⟩:=hj;exact ih c0 v (hc j c0 v a6 hv)
  |tup cs=>
   obtain⟨vs,rfl,hl,hc⟩:=h.tup_inv;refine .tup _ vs (by simpa using hl) fun j c v hj hv=> ?_
   rw[List.getElem?_map,Option.map_eq_some_iff] at hj;obtain⟨c0,a6,rfl⟩:=hj;exact ih c0 v (hc j c0 v a6 hv)
  |fn f cs=>
   obtain⟨vs,rfl,hl,hc⟩:=h.fn_inv;refine .fn f _ vs (by simpa using hl) fun j c v hj hv=> ?_
   rw[List.getElem?_map,Option.map_eq_some_iff] at hj;obtain⟨c0,a6,rfl⟩:=hj;exact ih c0 v (hc j c0 v a6 hv)
  |_=>cases h with | imm _ _ h=>exact .imm _ _ h
section
variable {hp : Hp} {ids : List Nat} {m m' : Nat → Lc} {H : HV} {hp' : Hp}
theorem gR_inv{id ver j t:Nat}(h:gR hp ids id ver=some (j,t)):idxN ids id=some j∧curV hp id ver=some t:=by
 unfold gR at h;split at h
 ·rename_i j' hj;split at h;·rename_i t' ht;cases h;exact⟨hj,ht⟩
  ·cases h
 ·cases h
theorem ren_ok(a5:∀(j id:Nat) (b:Box) (ver:Nat),ids[j]? =some id→hp id=some b→b.ver? =some ver→m' j=m id∧∃b',hp' j=some b'∧b'.ver? =some b.mark)(k:Nat)(v:AV)(u:Value)(h:RV H (Q3 hp m) v u):RV H (Q3 hp' m') (ren hp ids k v) u:=
 Tz (fun id ver j t hg=>by
  obtain⟨hj,hc⟩:=gR_inv hg;obtain⟨b,hb,hv,ht⟩:=curV_ok hc;obtain⟨hm,b',a4,a3⟩:=a5 j id b ver (TZ hj) hb hv;rw[ht] at a3;refine⟨A8 a4 a3,fun l hl=> ?_⟩
  rw[Uy a4 a3] at hl;rw[Uy hb hv,← hm];exact hl) k v u h
theorem ET{all:List Nat}:∀ {ids:List Nat} {bs:List Box},HG hp all ids=some bs→bs.length=ids.length∧∀(j id:Nat),ids[j]? =some id→∃b b',hp id=some b∧renB hp all b=some b'∧bs[j]? =some b'
 | [],bs,h=>by cases h;exact⟨rfl,fun j id hj=>by simp at hj⟩
 |id0::r,bs,h=>by
  simp only[HG] at h;split at h
  ·rename_i b hb;split at h
   ·rename_i b' a4;split at h
    ·rename_i l hl;cases h;obtain⟨h1,h2⟩:=ET hl;refine⟨by simp[h1],fun j id hj=> ?_⟩
     cases j with
     |zero=>simp at hj;subst hj;exact⟨b,b',hb,a4,rfl⟩
     |succ j=>simpa using h2 j id (by simpa using hj)
    ·cases h
   ·cases h
  ·cases h
theorem LR{b b':Box}(h:renB hp ids b=some b'):(∃ver cs,b= .cells ver cs∧b'= .cells (ver%4096) (cs.map (ren hp ids 12)))∨(∃ver sz xs,b= .own ver sz xs∧b'= .own 0 sz xs)∨∃ver sz xs i c r,b= .hol ver sz xs i c r∧b'= .hol 0 sz xs i c (ren hp ids 12 r):=by
 cases b<;>simp only[renB,Option.some.injEq,reduceCtorEq] at h
 ·exact .inl ⟨_,_,rfl,h.symm⟩
 ·exact .inr (.inl ⟨_,_,_,rfl,h.symm⟩)
 ·exact .inr (.inr ⟨_,_,_,_,_,_,rfl,h.symm⟩)
theorem LS{b b':Box}(h:renB hp ids b=some b'):(∃v,b.ver? =some v)∧b'.ver? =some b.mark∧∀l,Real b' l↔Real b l:=by
 rcases LR h with⟨v,cs,rfl,rfl⟩ | ⟨v,sz,xs,rfl,rfl⟩ | ⟨v,sz,xs,i,c,r,rfl,rfl⟩
 ·exact⟨⟨v,rfl⟩,rfl,fun l=>Iff.rfl⟩
 ·exact⟨⟨v,rfl⟩,rfl,fun l=>Iff.rfl⟩
 ·exact⟨⟨v,rfl⟩,rfl,fun l=>Iff.rfl⟩
end
section
variable {m : Nat → Lc} {H : HV} {B : Nat → Prop} {H0 : HV} {gl : Nat → AV} {rest : List (AV × Value)} {st : St} {tmps : Array Value} {w : World}
theorem RelH.sub{hp:Hp}{nx:Nat}{B':Nat→Prop}{H1:HV}(h:RelH m H B H0 gl hp nx w){ids:List Nat}{bs:List Box}(hn:nodN ids=true)(b7:HG hp ids ids=some bs)
  (hold:∀b o,B' b→H b o=H1 b o) (ai:∀b,B' b→b<w.heap.size) (ak:∀(j id:Nat) (b:Box),ids[j]? =some id→hp id=some b→Real b (m id)→¬B' (m id).g) (b9:GvOk gl B' w):
  RelH (fun j=>m ((ids[j]?).getD 0)) H B' H1 gl (lkb (hpOf 0 bs)) bs.length w∧∀(k:Nat) (v:AV) (u:Value),RV H (Q3 hp m) v u→RV H (Q3 (lkb (hpOf 0 bs)) fun j=>m ((ids[j]?).getD 0)) (ren hp ids k v) u:=by
 obtain⟨ah,a8⟩:=ET b7;have aa:∀j,lkb (hpOf 0 bs) j=bs[j]? :=fun j=>by rw[UI];simp
 have a4:∀j b',lkb (hpOf 0 bs) j=some b'→∃id b,ids[j]? =some id∧hp id=some b∧renB hp ids b=some b':=fun j b' hj=>by
  rw[aa] at hj;have ag:j<ids.length:=by rw[← ah];exact(List.getElem?_eq_some_iff.1 hj).1
  obtain⟨b,b2,h1,h2,h3⟩:=a8 j _ (List.getElem?_eq_getElem ag);rw[hj] at h3;cases h3;exact⟨_,b,List.getElem?_eq_getElem ag,h1,h2⟩
 have hm:∀(j id:Nat),ids[j]? =some id→m ((ids[j]?).getD 0)=m id:=fun j id hj=>by rw[hj];rfl
 have a7:∀(k:Nat) (v:AV) (u:Value),RV H (Q3 hp m) v u→RV H (Q3 (lkb (hpOf 0 bs)) fun j=>m ((ids[j]?).getD 0)) (ren hp ids k v) u:=ren_ok fun j id b ver hj hb hv=>by
  obtain⟨b0,b',h1,h2,h3⟩:=a8 j id hj;rw[hb] at h1;cases h1;exact⟨hm j id hj,b',by rw[aa];exact h3,(LS h2).2.1⟩
 refine⟨{sat:=h.sat,old:=hold,low:=ai,fresh:=fun j hj=> ?_,box:=fun j b' hj=> ?_,sepR:=fun j b' hj hr=> ?_,injR:=fun i j b1 b2 h1 h2 r1 r2 he=> ?_,gv:=b9,gl:=h.gl,ty:=fun j v cs hj=> ?_},a7⟩
 ·rw[aa,List.getElem?_eq_none hj]
 ·obtain⟨id,b,a5,hb,a6⟩:=a4 j b' hj;rw[hm j id a5];have a9:=h.box id b hb;rcases LR a6 with⟨v,cs,rfl,rfl⟩ | ⟨v,sz,xs,rfl,rfl⟩ | ⟨v,sz,xs,i0,c0,r0,rfl,rfl⟩
  ·obtain⟨C,e,c1,c2,c3,c4⟩:=a9;refine⟨C,e,c1,c2,by simpa using c3,fun i c hc=> ?_⟩
   rw[List.getElem?_map,Option.map_eq_some_iff] at hc;obtain⟨c0,b8,rfl⟩:=hc;obtain⟨u,b1,b2,b3⟩:=c4 i c0 b8;exact⟨u,b1,b2,a7 12 c0 u b3⟩
  ·exact a9
  ·obtain⟨d1,d2,d3,d4,d5,C,e,c1,c2,c3,c4,u,b1,b2,b3⟩:=a9;exact⟨d1,d2,d3,d4,d5,C,e,c1,c2,c3,c4,u,b1,b2,a7 12 _ u b3⟩
 ·obtain⟨id,b,a5,hb,a6⟩:=a4 j b' hj;rw[hm j id a5] at hr ⊢;have aj:=((LS a6).2.2 _).1 hr;obtain⟨_,y,z⟩:=h.sepR id b hb aj;exact⟨ak j id b a5 hb aj,y,z⟩
 ·obtain⟨am,ar,hi,b5,ba⟩:=a4 i b1 h1;obtain⟨ao,au,hj,b6,bb⟩:=a4 j b2 h2;rw[hm i am hi] at r1 he;rw[hm j ao hj] at r2 he;have:=h.injR am ao ar au b5 b6 (((LS ba).2.2 _).1 r1) (((LS bb).2.2 _).1 r2) he;subst this;exact LL hn hi hj
 ·obtain⟨id,b,a5,hb,a6⟩:=a4 j _ hj;rw[hm j id a5];rcases LR a6 with⟨v0,bl,rfl,he⟩ | ⟨v0,sz,xs,rfl,he⟩ | ⟨v0,sz,xs,i0,c0,r0,rfl,he⟩
  ·cases he;have:=h.ty id _ _ hb;unfold TyOk at this ⊢;rw[Nat.mod_mod];exact this
  ·cases he
  ·cases he
theorem FU:∀(ks:List Nat) (f:Nat→AV) (k:Nat),lk .undef (slOf ks (ks.map f)) k= .undef∨lk .undef (slOf ks (ks.map f)) k=f k
 | [],f,k=>.inl (IQ _ _)
 |a::ks,f,k=>by
  simp only[List.map_cons,slOf];rw[UP];by_cases h:a=k;·subst h;simp
  ·rw[if_neg h];exact FU ks f k
theorem Fm{g:Nat→Nat→Option (Nat×Nat)}{k:Nat}{v:AV}(h:immA v=true):mapR g (k+1) v=v:=by
 cases v<;>first | rfl | (cases h;done) | skip
 rename_i f cs;have:cs=[]:=by simpa[immA] using h
 subst this;rfl
theorem pin_ren{hp:Hp}{ids:List Nat}{p:AV}(h:pinOk hp ids p=true):ren hp ids 12 p=p:=by
 unfold pinOk at h;split at h
 ·rename_i id ver off;split at h
  ·rename_i j hj;split at h
   ·rename_i t ht;rw[Bool.and_eq_true] at h;obtain rfl:=Nat.eq_of_beq_eq_true h.1;obtain rfl:=Nat.eq_of_beq_eq_true h.2;simp only[ren,mapR,gR,hj,ht]
   ·cases h
  ·cases h
 ·rfl
 ·rename_i cs;show AV.agg (cs.map (mapR (gR hp ids) 11))=_;congr 1;have:∀x∈cs,mapR (gR hp ids) 11 x=x:=fun x hx=>Fm (List.all_eq_true.1 h x hx)
  exact(List.map_congr_left this).trans (List.map_id _)
 ·exact Fm h
theorem Vu{a4:List AV}{ks:List Nat}{kb:List KB}{K:List AV→List Box→Prop}(h:RelS m H B H0 gl rest st tmps w)(hp:rest.map (·.1)=a4)(hw:Jj a4 ks kb st K):∃vs bs m',K vs bs∧RelS m' H B H0 gl rest (Z5 st.n ks vs bs) tmps w:=by
 unfold Jj at hw;split at hw
 ·rename_i hc;rw[Bool.and_eq_true] at hc;split at hw
  ·rename_i bs a7;obtain⟨h1,a3⟩:=h.heap.sub hc.1 a7 h.heap.old h.heap.low (fun j id b _ hb hr=>(h.heap.sepR id b hb hr).1) h.heap.gv
   refine⟨_,bs,_,hw,h1,h.size,fun k=> ?_,fun p hp'=> ?_⟩
   ·show RV H _ (lk .undef (slOf ks (ks.map fun k=>ren (lkb st.hp) (UO st kb) 12 (st.get k))) k) _
    rcases FU ks (fun k=>ren (lkb st.hp) (UO st kb) 12 (st.get k)) k with e | e
    ·rw[e];exact .imm _ _ (.undef _)
    ·rw[e];exact a3 12 _ _ (h.slot k)
   ·have a6:=List.all_eq_true.1 hc.2 p.1 (by rw[← hp];exact List.mem_map_of_mem hp')
    have:=a3 12 p.1 p.2 (h.rest p hp');rw[pin_ren a6] at this;exact this
  ·cases hw
 ·cases hw
end
end HY
end
section
namespace HY
open Go Go.RowKit
def NI(hp:Hp):List Nat→List Box→Nat→Option (List (Nat×Nat))
 | [],[],_=>some []
 | [],b::bs,nx=>match b.ver? with
  |some v=>match NI hp [] bs (nx+1) with
   |some l=>some ((nx,v)::l)
   |none=>none
  |none=>none
 |_::_,[],_=>none
 |id::ids,b::bs,nx=>match hp id with
  |some (.cells v _)=>match b with
   | .cells t _=>match Nat.beq (v%4096) t with
    |true=>match NI hp ids bs nx with
     |some l=>some ((id,v)::l)
     |none=>none
    |false=>none
   |_=>none
  |some (.own v _ _)=>match b with
   | .own _ _ _=>match NI hp ids bs nx with
    |some l=>some ((id,v+4096)::l)
    |none=>none
   |_=>none
  |_=>none
def gB(ps:List (Nat×Nat))(bs:List Box)(j t:Nat):Option (Nat×Nat):=
 match ps[j]? with
 |some p=>match bs[j]? with
  |some b=>match b.ver? with
   |some v=>match Nat.beq v t with
    |true=>some p
    |false=>none
   |none=>none
  |none=>none
 |none=>none
def unB(g:Nat→Nat→Option (Nat×Nat))(ver:Nat):Box→Box
 | .cells _ cs=>.cells ver (cs.map (mapR g 12))
 | .own _ sz xs=>.own ver sz xs
 | .hol _ sz xs i c r=>.hol ver sz xs i c (mapR g 12 r)
 |b=>b
def Gv(g:Nat→Nat→Option (Nat×Nat))(t:Tr Box):List (Nat×Nat)→List Box→Tr Box
 | (id,ver)::ps,b::bs=>pt (Gv g t ps bs) id (unB g ver b)
 |_,_=>t
structure Hn (hp:Hp) (ids:List Nat) (bs:List Box) (nx:Nat) (ps:List (Nat×Nat)) (j id ver:Nat) (b:Box):Prop where
 here:(∃v cs t cs',ids[j]? =some id∧hp id=some (.cells v cs)∧b= .cells t cs'∧ver=v∧v%4096=t)∨(∃v sz xs v' sz' xs',ids[j]? =some id∧hp id=some (.own v sz xs)∧b= .own v' sz' xs'∧ver=v+4096)∨(ids.length≤j∧id=nx+(j - ids.length)∧b.ver? =some ver)
theorem NJ{hp:Hp}:∀ {ids:List Nat} {bs:List Box} {nx:Nat} {ps:List (Nat×Nat)},NI hp ids bs nx=some ps→ps.length=bs.length∧ids.length≤bs.length∧∀(j id ver:Nat) (b:Box),ps[j]? =some (id,ver)→bs[j]? =some b→Hn hp ids bs nx ps j id ver b
 | [],[],nx,ps,h=>by cases h;exact⟨rfl,Nat.le_refl _,fun j id ver b hj=>by simp at hj⟩
 | [],b0::bs,nx,ps,h=>by
  simp only[NI] at h;split at h
  ·rename_i v hv;split at h
   ·rename_i l hl;cases h;obtain⟨h1,h2,h3⟩:=NJ hl;refine⟨by simp[h1],by simp,fun j id ver b hj hb=> ?_⟩
    cases j with
    |zero=>simp at hj hb;obtain⟨rfl,rfl⟩:=hj;subst hb;exact⟨.inr (.inr ⟨by simp,by simp,hv⟩)⟩
    |succ j=>
     rw[List.getElem?_cons_succ] at hj hb;rcases(h3 j id ver b hj hb).here with⟨_,_,_,_,e,_⟩ | ⟨_,_,_,_,_,_,e,_⟩ | ⟨a1,a2,a3⟩
     ·simp at e
     ·simp at e
     ·exact⟨.inr (.inr ⟨by simp,by simp at a2 ⊢;omega,a3⟩)⟩
   ·cases h
  ·cases h
 |_::_,[],nx,ps,h=>by cases h
 |a8::ids,b0::bs,nx,ps,h=>by
  have go:∀(p:Nat×Nat) (l:List (Nat×Nat)),NI hp ids bs nx=some l→Hn hp (a8::ids) (b0::bs) nx (p::l) 0 p.1 p.2 b0→
    (p::l).length=(b0::bs).length∧(a8::ids).length≤(b0::bs).length∧∀(j id ver:Nat) (b:Box),(p::l)[j]? =some (id,ver)→(b0::bs)[j]? =some b→Hn hp (a8::ids) (b0::bs) nx (p::l) j id ver b:=by
   intro p l hl h0;obtain⟨h1,h2,h3⟩:=NJ hl;refine⟨by simp[h1],by simp;omega,fun j id ver b hj hb=> ?_⟩
   cases j with
   |zero=>simp at hj hb;subst hj;subst hb;exact h0
   |succ j=>
    rw[List.getElem?_cons_succ] at hj hb;rcases(h3 j id ver b hj hb).here with⟨v,cs,t,cs',e1,e2,e3,e4,e5⟩ | ⟨v,sz,xs,v',a9,aa,e1,e2,e3,e4⟩ | ⟨a1,a2,a3⟩
    ·exact⟨.inl ⟨v,cs,t,cs',by simpa using e1,e2,e3,e4,e5⟩⟩
    ·exact⟨.inr (.inl ⟨v,sz,xs,v',a9,aa,by simpa using e1,e2,e3,e4⟩)⟩
    ·exact⟨.inr (.inr ⟨by simp;omega,by simp at a2 ⊢;omega,a3⟩)⟩
  simp only[NI] at h;split at h
  ·rename_i v cs a6;split at h
   ·rename_i t cs';split at h
    ·rename_i hv;split at h
     ·rename_i l hl;cases h;exact go _ _ hl ⟨.inl ⟨v,cs,t,cs',rfl,a6,rfl,rfl,Nat.eq_of_beq_eq_true hv⟩⟩
     ·cases h
    ·cases h
   ·cases h
  ·rename_i v sz xs a6;split at h
   ·rename_i v' a9 aa;split at h
    ·rename_i l hl;cases h;exact go _ _ hl ⟨.inr (.inl ⟨v,sz,xs,v',a9,aa,rfl,a6,rfl,rfl⟩)⟩
    ·cases h
   ·cases h
  ·cases h
theorem Sf{g:Nat→Nat→Option (Nat×Nat)}{t:Tr Box}:∀ {ps:List (Nat×Nat)} {bs:List Box},(∀(i j id v v':Nat),ps[i]? =some (id,v)→ps[j]? =some (id,v')→i=j)→∀(j id ver:Nat) (b:Box),ps[j]? =some (id,ver)→bs[j]? =some b→lkb (Gv g t ps bs) id=some (unB g ver b)
 | [],_,_,j,id,ver,b,hj,_=>by simp at hj
 |_::_,[],_,j,id,ver,b,_,hb=>by simp at hb
 | (id0,v0)::ps,b0::bs,hinj,j,id,ver,b,hj,hb=>by
  simp only[Gv];rw[Z0];cases j with
  |zero=>simp at hj hb;obtain⟨rfl,rfl⟩:=hj;subst hb;rw[Qj]
  |succ j=>
   have a3:id≠id0:=fun e=>by
    subst e;have:=hinj 0 (j+1) id v0 ver rfl hj;omega
   rw[Qn _ _ a3];exact Sf (fun i j id v v' h1 h2=>by have:=hinj (i+1) (j+1) id v v' (by simpa using h1) (by simpa using h2);omega) j id ver b (by simpa using hj) (by simpa using hb)
theorem RL{g:Nat→Nat→Option (Nat×Nat)}{t:Tr Box}:∀ {ps:List (Nat×Nat)} {bs:List Box} {id:Nat},(∀(j v:Nat),ps[j]? ≠some (id,v))→lkb (Gv g t ps bs) id=lkb t id
 | [],_,_,_=>by simp[Gv]
 |_::_,[],_,_=>by simp[Gv]
 | (id0,v0)::ps,b0::bs,id,h=>by
  simp only[Gv];have a3:id≠id0:=fun e=>h 0 v0 (by simp[e])
  rw[Z0,Qn _ _ a3];exact RL fun j v hj=>h (j+1) v (by simpa using hj)
theorem Hn.ver{hp:Hp}{ids:List Nat}{bs:List Box}{nx:Nat}{ps:List (Nat×Nat)}{j id ver:Nat}{b:Box}(h:Hn hp ids bs nx ps j id ver b):∃v,b.ver? =some v:=by
 rcases h.here with⟨v,cs,t,cs',e1,e2,rfl,e4,e5⟩ | ⟨v,sz,xs,v',a8,a9,e1,e2,rfl,e4⟩ | ⟨a1,a2,a3⟩
 ·exact⟨_,rfl⟩
 ·exact⟨_,rfl⟩
 ·exact⟨_,a3⟩
theorem DE{g:Nat→Nat→Option (Nat×Nat)}{ver v:Nat}{b:Box}(h:b.ver? =some v):(unB g ver b).ver? =some ver∧∀l,Real (unB g ver b) l↔Real b l:=by
 cases b<;>first | exact⟨rfl,fun _=>Iff.rfl⟩ | cases h
def OffB(hp:Hp)(m:Nat→Lc)(ids:List Nat)(w:World)(k:Nat):Prop:=k<w.heap.size∧∀(j id:Nat) (b:Box),ids[j]? =some id→hp id=some b→Real b (m id)→(m id).g≠k
section
variable {m : Nat → Lc} {H : HV} {B : Nat → Prop} {H0 : HV} {gl : Nat → AV} {t : Tr Box} {nx : Nat} {w : World}
theorem RelH.offB(h:RelH m H B H0 gl (lkb t) nx w)(ids:List Nat):∀k,B k→OffB (lkb t) m ids w k:=fun k hk=>⟨h.low k hk,fun _ id b _ hb hr e=>(h.sepR id b hb hr).1 (e▸hk)⟩
theorem back_ok(h:RelH m H B H0 gl (lkb t) nx w){ids:List Nat}{a6:List Box}{ps:List (Nat×Nat)}(hn:nodN ids=true)(ct:NI (lkb t) ids a6 nx=some ps){m':Nat→Lc}{H':HV}{w':World}
  (hH:RelH m' H' (OffB (lkb t) m ids w) H gl (lkb (hpOf 0 a6)) a6.length w') (hb:Qa (OffB (lkb t) m ids w) w w') (ca:∀(j id v:Nat) (cs:List AV),ids[j]? =some id→lkb t id=some (.cells v cs)→m' j=m id):
  ∃M,RelH M H' B H0 gl (lkb (Gv (gB ps a6) t ps a6)) (nx+(a6.length - ids.length)) w'∧Env.le (Q3 (lkb t) m) (Q3 (lkb (Gv (gB ps a6) t ps a6)) M)∧HV.le H H'∧
   (∀v u,RV H' (Q3 (lkb (hpOf 0 a6)) m') v u→RV H' (Q3 (lkb (Gv (gB ps a6) t ps a6)) M) (mapR (gB ps a6) 12 v) u)∧Qa B w w':=by
 classical
 obtain⟨bp,de,c7⟩:=NJ ct;have ak:∀j,lkb (hpOf 0 a6) j=a6[j]? :=fun j=>by rw[UI];simp
 have a8:∀(j id ver:Nat),ps[j]? =some (id,ver)→∃b,a6[j]? =some b∧Hn (lkb t) ids a6 nx ps j id ver b:=fun j id ver hj=>by
  have bg:j<a6.length:=by rw[← bp];exact(List.getElem?_eq_some_iff.1 hj).1
  exact⟨_,List.getElem?_eq_getElem bg,c7 j id ver _ hj (List.getElem?_eq_getElem bg)⟩
 have aw:∀id b,lkb t id=some b→id<nx:=fun id b hb=>by
  rcases Nat.lt_or_ge id nx with aw | cp
  ·exact aw
  ·have:=h.fresh id cp;rw[this] at hb;cases hb
 have ai:∀(j id ver:Nat),ps[j]? =some (id,ver)→(ids[j]? =some id∧id<nx)∨(ids.length≤j∧id=nx+(j - ids.length)):=fun j id ver hj=>by
  obtain⟨b,_,hs⟩:=a8 j id ver hj;rcases hs.here with⟨v,cs,t,cs',e1,e2,_⟩ | ⟨v,sz,xs,v',bl,bm,e1,e2,_⟩ | ⟨a1,a2,_⟩
  ·exact .inl ⟨e1,aw _ _ e2⟩
  ·exact .inl ⟨e1,aw _ _ e2⟩
  ·exact .inr ⟨a1,a2⟩
 have bo:∀(i j id v v':Nat),ps[i]? =some (id,v)→ps[j]? =some (id,v')→i=j:=fun i j id v v' hi hj=>by
  rcases ai i id v hi with⟨a1,a2⟩ | ⟨a1,a2⟩<;>rcases ai j id v' hj with⟨b1,b2⟩ | ⟨b1,b2⟩
  ·exact LL hn a1 b1
  ·omega
  ·omega
  ·omega
 have hM:∃M:Nat→Lc,(∀(j id ver:Nat),ps[j]? =some (id,ver)→M id=m' j)∧∀(id:Nat),(∀(j v:Nat),ps[j]? ≠some (id,v))→M id=m id:=by
  refine⟨fun id=>if hx:∃(j v:Nat),ps[j]? =some (id,v) then m' hx.choose else m id,fun j id ver hj=> ?_,fun id a4=> ?_⟩
  ·have hx:∃(j v:Nat),ps[j]? =some (id,v):=⟨j,ver,hj⟩;obtain⟨v,hv⟩:=hx.choose_spec;show(if hx:∃(j v:Nat),ps[j]? =some (id,v) then m' hx.choose else m id)=m' j
   rw[dif_pos hx,bo _ j id v ver hv hj]
  ·show(if hx:∃(j v:Nat),ps[j]? =some (id,v) then m' hx.choose else m id)=m id
   rw[dif_neg];rintro⟨j,v,hj⟩;exact a4 j v hj
 obtain⟨M,ag,ah⟩:=hM;have cq:∀(j id:Nat),ids[j]? =some id→∃ver,ps[j]? =some (id,ver):=fun j id hj=>by
  have bg:=(List.getElem?_eq_some_iff.1 hj).1;have cr:j<ps.length:=by omega
  have hp:=List.getElem?_eq_getElem cr;rcases ai j ps[j].1 ps[j].2 hp with⟨a1,_⟩ | ⟨a1,_⟩
  ·rw[hj] at a1;cases a1;exact⟨_,hp⟩
  ·omega
 generalize hT:Gv (gB ps a6) t ps a6=T;have af:∀(j id ver:Nat) (b:Box),ps[j]? =some (id,ver)→a6[j]? =some b→lkb T id=some (unB (gB ps a6) ver b):=fun j id ver b hj hb=>by subst hT;exact Sf bo j id ver b hj hb
 have a9:∀(id:Nat),(∀(j v:Nat),ps[j]? ≠some (id,v))→lkb T id=lkb t id:=fun id a4=>by subst hT;exact RL a4
 have bf:=h.offB ids;have ac:∀id b,lkb t id=some b→Real b (m id)→(∀(j v:Nat),ps[j]? ≠some (id,v))→OffB (lkb t) m ids w (m id).g:=fun id b hb hr a4=>⟨(h.sepR id b hb hr).2.1,fun j ce b2 hj cm cu e=>by
  have:=h.injR ce id b2 b cm hb cu hr e;subst this;obtain⟨ver,hv⟩:=cq j ce hj;exact a4 j ver hv⟩
 have bn:HV.le H H':=fun b o v hv=>by
  rw[hH.old b o ⟨KP h.sat hv,fun j id bx _ hb hr e=>by
   have:=(h.sepR id bx hb hr).2.2 o;rw[e,hv] at this;cases this⟩]
  exact hv
 have hE:Env.le (Q3 (lkb t) m) (Q3 (lkb T) M):=by
  refine⟨fun id ver ⟨b,h1,h2⟩=> ?_,fun id ver l ⟨b,h1,h2⟩ hl=> ?_,fun id l hl=> ?_⟩
  ·by_cases hx:∃(j v:Nat),ps[j]? =some (id,v)
   ·obtain⟨j,v,hj⟩:=hx;obtain⟨b',ab,hs⟩:=a8 j id v hj;obtain⟨v0,ad⟩:=hs.ver;refine⟨_,af j id v b' hj ab,fun v1 cd=> ?_⟩
    rw[(DE ad).1] at cd;cases cd;rcases hs.here with⟨v2,cs,t2,cs',e1,e2,_,e4,_⟩ | ⟨v2,sz,xs,v',bl,bm,e1,e2,_,e4⟩ | ⟨a1,a2,_⟩
    ·rw[h1] at e2;cases e2;rw[e4];exact h2 _ rfl
    ·rw[h1] at e2;cases e2;rw[e4];exact Nat.le_trans (h2 _ rfl) (Nat.le_add_right _ _)
    ·have:=aw _ _ h1;omega
   ·have a4:∀(j v:Nat),ps[j]? ≠some (id,v):=fun j v hj=>hx ⟨j,v,hj⟩
    exact⟨b,by rw[a9 id a4];exact h1,h2⟩
  ·by_cases hx:∃(j v:Nat),ps[j]? =some (id,v)
   ·obtain⟨j,v,hj⟩:=hx;obtain⟨b',ab,hs⟩:=a8 j id v hj;obtain⟨v0,ad⟩:=hs.ver;have au:=af j id v b' hj ab;simp only[Q3,au,(DE ad).1] at hl;split at hl
    ·rename_i hv;subst hv;rcases hs.here with⟨v2,cs,t2,cs',e1,e2,_,e4,_⟩ | ⟨v2,sz,xs,v',bl,bm,e1,e2,_,e4⟩ | ⟨a1,a2,_⟩
     ·cases hl;rw[ag j id _ hj,ca j id v2 cs e1 e2,e4];exact Uy e2 rfl
     ·rw[h1] at e2;cases e2;have:=h2 _ rfl;omega
     ·have:=aw _ _ h1;omega
    ·cases hl
   ·have a4:∀(j v:Nat),ps[j]? ≠some (id,v):=fun j v hj=>hx ⟨j,v,hj⟩
    simp only[Q3,a9 id a4,ah id a4] at hl ⊢;exact hl
  ·by_cases hx:∃(j v:Nat),ps[j]? =some (id,v)
   ·obtain⟨j,v,hj⟩:=hx;obtain⟨b',ab,hs⟩:=a8 j id v hj;rcases hs.here with⟨v2,cs,t2,cs',e1,e2,_,e4,_⟩ | ⟨v2,sz,xs,v',bl,bm,e1,e2,_,e4⟩ | ⟨a1,a2,_⟩
    ·simp only[Q3,e2] at hl;cases hl
    ·simp only[Q3,e2] at hl;cases hl
    ·have:=h.fresh id (by omega)
     simp only[Q3,this] at hl;cases hl
   ·have a4:∀(j v:Nat),ps[j]? ≠some (id,v):=fun j v hj=>hx ⟨j,v,hj⟩
    simp only[Q3,a9 id a4,ah id a4] at hl ⊢;exact hl
 have b7:∀(v:AV) (u:Value),RV H' (Q3 (lkb (hpOf 0 a6)) m') v u→RV H' (Q3 (lkb T) M) (mapR (gB ps a6) 12 v) u:=fun v u hv=>by
  refine Tz (fun j tv id ver hg=> ?_) 12 v u hv
  unfold gB at hg;split at hg
  ·rename_i p hp;split at hg
   ·rename_i b hb;split at hg
    ·rename_i v0 ad;split at hg
     ·rename_i cn;cases hg;obtain rfl:=Nat.eq_of_beq_eq_true cn;have au:=af j id ver b hp hb;refine⟨A8 au (DE ad).1,fun l hl=> ?_⟩
      rw[Uy au (DE ad).1,ag j id ver hp] at hl;rw[Uy (by rw[ak];exact hb) ad];exact hl
     ·cases hg
    ·cases hg
   ·cases hg
  ·cases hg
 refine⟨M,{sat:=hH.sat,old:=fun b o hB=> ?_,low:=fun b hB=>Nat.lt_of_lt_of_le (h.low b hB) hb.size,fresh:=fun id a7=> ?_,box:=fun id b a7=> ?_,sepR:=fun id b a7 hr=> ?_,injR:=fun i j b1 b2 h1 h2 r1 r2 he=> ?_,gv:=h.gv.mono fun k hk=>hb.block k (bf k hk),gl:=hH.gl,ty:=fun id v cs a7=> ?_},hE,bn,b7,hb.mono bf⟩
 ·rw[hH.old b o (bf b hB)];exact h.old b o hB
 ·rw[a9 id fun j v hj=> ?_]
  ·exact h.fresh id (by omega)
  ·have bg:j<a6.length:=by rw[← bp];exact(List.getElem?_eq_some_iff.1 hj).1
   rcases ai j id v hj with⟨_,a2⟩ | ⟨a1,a2⟩<;>omega
 ·by_cases hx:∃(j v:Nat),ps[j]? =some (id,v)
  ·obtain⟨j,v,hj⟩:=hx;obtain⟨b',ab,hs⟩:=a8 j id v hj;obtain⟨v0,ad⟩:=hs.ver;rw[af j id v b' hj ab] at a7;cases a7;rw[ag j id v hj];have bz:=hH.box j b' (by rw[ak];exact ab)
   cases b' with
   |cells v2 cs=>
    obtain⟨C,e,c1,c2,c3,c4⟩:=bz;refine⟨C,e,c1,c2,by simpa using c3,fun i c hc=> ?_⟩
    rw[List.getElem?_map,Option.map_eq_some_iff] at hc;obtain⟨c0,co,rfl⟩:=hc;obtain⟨u,b1,b2,b3⟩:=c4 i c0 co;exact⟨u,b1,b2,b7 c0 u b3⟩
   |own v2 sz xs=>exact bz
   |hol v2 sz xs i c r=>
    obtain⟨d1,d2,d3,d4,d5,C,e,c1,c2,c3,c4,u,b1,b2,b3⟩:=bz;exact⟨d1,d2,d3,d4,d5,C,e,c1,c2,c3,c4,u,b1,b2,b7 r u b3⟩
   |_=>cases ad
  ·have a4:∀(j v:Nat),ps[j]? ≠some (id,v):=fun j v hj=>hx ⟨j,v,hj⟩
   rw[a9 id a4] at a7;rw[ah id a4];exact(h.box id b a7).mono' bn hE fun hr=>hb.block _ (ac id b a7 hr a4)
 ·by_cases hx:∃(j v:Nat),ps[j]? =some (id,v)
  ·obtain⟨j,v,hj⟩:=hx;obtain⟨b',ab,hs⟩:=a8 j id v hj;obtain⟨v0,ad⟩:=hs.ver;rw[af j id v b' hj ab] at a7;cases a7;rw[ag j id v hj] at hr ⊢;obtain⟨x,y,z⟩:=hH.sepR j b' (by rw[ak];exact ab) (((DE ad).2 _).1 hr)
   exact⟨fun hB=>x (bf _ hB),y,z⟩
  ·have a4:∀(j v:Nat),ps[j]? ≠some (id,v):=fun j v hj=>hx ⟨j,v,hj⟩
   rw[a9 id a4] at a7;rw[ah id a4] at hr ⊢;obtain⟨x,y,z⟩:=h.sepR id b a7 hr;exact⟨x,Nat.lt_of_lt_of_le y hb.size,fun o=>by rw[hH.old _ o (ac id b a7 hr a4)];exact z o⟩
 ·by_cases hx:∃(k v:Nat),ps[k]? =some (i,v)<;>by_cases hy:∃(k v:Nat),ps[k]? =some (j,v)
  ·obtain⟨k1,v1,ap⟩:=hx;obtain⟨k2,v2,aj⟩:=hy;obtain⟨c1,b5,c5⟩:=a8 k1 i v1 ap;obtain⟨c2,b6,c6⟩:=a8 k2 j v2 aj;obtain⟨u1,c8⟩:=c5.ver;obtain⟨u2,c9⟩:=c6.ver;rw[af k1 i v1 c1 ap b5] at h1;rw[af k2 j v2 c2 aj b6] at h2;cases h1;cases h2;rw[ag k1 i v1 ap] at r1 he;rw[ag k2 j v2 aj] at r2 he;have:=hH.injR k1 k2 c1 c2 (by rw[ak];exact b5) (by rw[ak];exact b6) (((DE c8).2 _).1 r1) (((DE c9).2 _).1 r2) he
   subst this;rw[ap] at aj;cases aj;rfl
  ·obtain⟨k1,v1,ap⟩:=hx;obtain⟨c1,b5,c5⟩:=a8 k1 i v1 ap;obtain⟨u1,c8⟩:=c5.ver;have a4:∀(k v:Nat),ps[k]? ≠some (j,v):=fun k v hk=>hy ⟨k,v,hk⟩
   rw[af k1 i v1 c1 ap b5] at h1;rw[a9 j a4] at h2;cases h1;rw[ag k1 i v1 ap] at r1 he;rw[ah j a4] at r2 he;exact absurd (by rw[he];exact ac j b2 h2 r2 a4) (hH.sepR k1 c1 (by rw[ak];exact b5) (((DE c8).2 _).1 r1)).1
  ·obtain⟨k2,v2,aj⟩:=hy;obtain⟨c2,b6,c6⟩:=a8 k2 j v2 aj;obtain⟨u2,c9⟩:=c6.ver;have a4:∀(k v:Nat),ps[k]? ≠some (i,v):=fun k v hk=>hx ⟨k,v,hk⟩
   rw[af k2 j v2 c2 aj b6] at h2;rw[a9 i a4] at h1;cases h2;rw[ag k2 j v2 aj] at r2 he;rw[ah i a4] at r1 he;exact absurd (by rw[← he];exact ac i b1 h1 r1 a4) (hH.sepR k2 c2 (by rw[ak];exact b6) (((DE c9).2 _).1 r2)).1
  ·have bq:∀(k v:Nat),ps[k]? ≠some (i,v):=fun k v hk=>hx ⟨k,v,hk⟩
   have br:∀(k v:Nat),ps[k]? ≠some (j,v):=fun k v hk=>hy ⟨k,v,hk⟩
   rw[a9 i bq] at h1;rw[a9 j br] at h2;rw[ah i bq] at r1 he;rw[ah j br] at r2 he;exact h.injR i j b1 b2 h1 h2 r1 r2 he
 ·by_cases hx:∃(j v:Nat),ps[j]? =some (id,v)
  ·obtain⟨j,v1,hj⟩:=hx;obtain⟨b',ab,hs⟩:=a8 j id v1 hj;rw[af j id v1 b' hj ab] at a7;rw[ag j id v1 hj];rcases hs.here with⟨v2,d6,t2,cs',e1,e2,rfl,e4,e5⟩ | ⟨v2,sz,xs,v',bl,bm,e1,e2,rfl,e4⟩ | ⟨a1,a2,a3⟩
   ·simp only[unB,Option.some.injEq,Box.cells.injEq] at a7;obtain⟨rfl,_⟩:=a7;have:=hH.ty j t2 cs' (by rw[ak];exact ab)
    unfold TyOk at this ⊢;rw[e4,e5];rw[← e5,Nat.mod_mod,e5] at this;exact this
   ·simp only[unB,Option.some.injEq,reduceCtorEq] at a7
   ·cases b' with
    |cells v3 cs3=>
     cases a3;simp only[unB,Option.some.injEq,Box.cells.injEq] at a7;obtain⟨rfl,_⟩:=a7;exact hH.ty j _ cs3 (by rw[ak];exact ab)
    |own=>simp only[unB,Option.some.injEq,reduceCtorEq] at a7
    |hol=>simp only[unB,Option.some.injEq,reduceCtorEq] at a7
    |_=>cases a3
  ·have a4:∀(j v:Nat),ps[j]? ≠some (id,v):=fun j v hj=>hx ⟨j,v,hj⟩
   rw[a9 id a4] at a7;rw[ah id a4];exact(h.ty id v cs a7).mono (hb.block _ (ac id _ a7 trivial a4))
end
end HY
end
section
namespace HY
open Go Go.RowKit
def DY(o:Oper)(gv:Option AV):Option Bool:=
 match o.guard with
 |none=>some true
 |some (_,want)=>match gv with
  |some x=>NL x want
  |none=>none
theorem MU{P:Program}{ch:Ye}{md:Bool}{F:Zh}{all:List Oper}{bid:Nat}{o:Oper}{gv:Option AV}{ev:Operand→AV}{hp:Hp}:UD P ch md F all bid o gv ev hp=match DY o gv with | some true=>xoF P ch md F all bid o ev hp | some false=>some (.tup [],none) | none=>none:=by
 unfold UD DY;cases o.guard with
 |none=>rfl
 |some x=>
  cases gv with
  |none=>rfl
  |some y=>first | (simp only;done) | (simp only;cases NL y x.2 with | none=>rfl | some b=>cases b<;>rfl)
def Nj(f:AV→(AV→Prop)→Prop):List AV→(List AV→Prop)→Prop
 | [],K=>K []
 |x::xs,K=>f x (fun y=>Nj f xs (fun ys=>K (y::ys)))
def NO(hp:Hp):Nat→AV→(AV→Prop)→Prop
 |0,_,_=>False
 |k+1,x,K=>match x with
  | .bs id ver sz off len=>match hp id with
   |some (.cells v cs)=>match Nat.beq v ver&& (Nat.ble (off+len*sz) cs.length&&Nat.blt 0 sz) with
    |true=>Nj (NO hp k) ((cs.drop off).take (len*sz)) (fun ds=>K (.sl sz (U6 sz len ds)))
    |false=>False
   |_=>False
  | .ow id ver sz len=>match hp id with
   |some (.own v z xs)=>match Nat.beq v ver&&Nat.beq z sz with
    |true=>len=xs.length∧K (.sl sz xs)
    |false=>False
   |_=>False
  | .agg cs=>Nj (NO hp k) cs (fun ds=>K (.agg ds))
  | .tup cs=>Nj (NO hp k) cs (fun ds=>K (.tup ds))
  | .fn f cs=>Nj (NO hp k) cs (fun ds=>K (.fn f ds))
  | .ptr id ver off=>match hp id with
   |some (.cells v cs)=>match Nat.beq v ver&&Nat.blt 0 cs.length with
    |true=>Nj (NO hp k) cs (fun ds=>K (.ip cs.length [.agg ds] 0 off))
    |false=>False
   |_=>False
  | .oe .. =>False
  | .yld _=>False
  | .mp _=>False
  |x=>K x
theorem Db{R:AV→Value→Prop}{R':AV→Value→Prop}{f:AV→(AV→Prop)→Prop}(hf:∀x u K,R x u→f x K→∃t,K t∧R' t u):∀(cs:List AV) (us:List Value) (K:List AV→Prop),cs.length≤us.length→(∀(j:Nat) (c:AV) (u:Value),cs[j]? =some c→us[j]? =some u→R c u)→Nj f cs K→
  ∃ds,K ds∧ds.length=cs.length∧∀(j:Nat) (d:AV) (u:Value),ds[j]? =some d→us[j]? =some u→R' d u
 | [],us,K,_,_,h=>⟨[],h,rfl,fun j d u hj=>by simp at hj⟩
 |c::cs,[],K,hl,_,_=>by simp at hl
 |c::cs,u::us,K,hl,hr,h=>by
  obtain⟨t,ht,hR⟩:=hf c u _ (hr 0 c u rfl rfl) h;obtain⟨ds,hK,a5,a6⟩:=Db hf cs us _ (by simpa using hl) (fun j c' u' h1 h2=>hr (j+1) c' u' (by simpa using h1) (by simpa using h2)) ht
  refine⟨t::ds,hK,by simp[a5],fun j d u' h1 h2=> ?_⟩
  cases j with
  |zero=>simp at h1 h2;subst h1;subst h2;exact hR
  |succ j=>exact a6 j d u' (by simpa using h1) (by simpa using h2)
theorem bs_tree{K:HV}{E:Env}{H:HV}{w:World}{id ver sz off len:Nat}{cs ds:List AV}{l:Lc}{v:Value}(hx:RV H E (.bs id ver sz off len) v)(hE:E.loc id ver=some l)(ac:KW H E cs l w)(ay:off+len*sz≤cs.length)(ah:0<sz)(ao:ds.length=len*sz)
  (ae:∀(j:Nat) (d:AV) (u:Value),ds[j]? =some d→w.cell? ⟨l.g,l.base+(off+j),none⟩=some u→RelI K d u) (hK:∀o,K l.g o=w.cell? ⟨l.g,o,none⟩):RelI K (.sl sz (U6 sz len ds)) v:=by
 obtain⟨a,cap,rfl,_,ap,aj,af⟩:=hx.bs_inv;obtain⟨rfl,ar⟩:=af _ hE;obtain⟨C,e,hC,b0,au,am⟩:=ac;have aa:(U6 sz len ds).length=len:=by simp[U6]
 have ad:∀(i:Nat) (x:AV),(U6 sz len ds)[i]? =some x→i<len∧x= .agg ((ds.drop (i*sz)).take sz):=fun i x hx=>by
  have hi:i<len:=by rw[← aa];exact(List.getElem?_eq_some_iff.1 hx).1
  simp[U6,hi] at hx;exact⟨hi,hx.symm⟩
 have ag:∀i,i<len→i*sz+sz≤len*sz:=fun i hi=>by
  have:(i+1)*sz≤len*sz:=Nat.mul_le_mul_right _ hi;rw[Nat.add_mul] at this;omega
 have a5:∀(i:Nat) (x:AV) (j:Nat) (c:AV),(U6 sz len ds)[i]? =some x→x.cells[j]? =some c→i<len∧j<sz∧ds[i*sz+j]? =some c:=fun i x j c hx hj=>by
  obtain⟨hi,rfl⟩:=ad i x hx;simp only[AV.cells] at hj;have a8:j<sz:=by have:=(List.getElem?_eq_some_iff.1 hj).1;simp at this;omega
  rw[List.getElem?_take,if_pos a8,List.getElem?_drop] at hj;exact⟨hi,a8,hj⟩
 have a6:∀(n:Nat) (c:AV),ds[n]? =some c→∃u,C[l.base+off+n]? =some u∧u.oneCell'=true∧RelI K c u:=fun n c hn=>by
  have az:n<len*sz:=by rw[← ao];exact(List.getElem?_eq_some_iff.1 hn).1
  have ak:cs[off+n]? =some (cs[off+n]'(by omega)):=List.getElem?_eq_getElem (by omega)
  obtain⟨u,a1,a2,a3⟩:=am _ _ ak;exact⟨u,by rw[Nat.add_assoc];exact a1,a2,ae n c u hn (by rw[Xb _ _ _ _ _ _ hC];exact a1)⟩
 have:=RelI.sl (H:=K) sz (U6 sz len ds) l.g (l.base+off) cap (fun i j=>(C[l.base+off+(i*sz+j)]?).getD Go.undef) ah (by rw[aa];exact ap) aj
  (fun i x hx=>by
   obtain⟨hi,rfl⟩:=ad i x hx;have:=ag i hi;simp[AV.cells];omega)
  (fun i x j c hx hj=>by
   obtain⟨hi,a8,hn⟩:=a5 i x j c hx hj;obtain⟨u,a1,a2,a3⟩:=a6 _ c hn;rw[a1];refine⟨?_,a2⟩;rw[hK,Xb _ _ _ _ _ _ hC,Nat.add_assoc,a1];rfl)
  (fun i x j c hx hj=>by
   obtain⟨hi,a8,hn⟩:=a5 i x j c hx hj;obtain⟨u,a1,a2,a3⟩:=a6 _ c hn;rw[a1];exact a3)
 rw[aa] at this;exact this
theorem EX{H:HV}{hp:Hp}{m:Nat→Lc}{w:World}(ac:∀id b,hp id=some b→Y4 H (Q3 hp m) b (m id) w)(hd:∀id bx,hp id=some bx→Real bx (m id)→∀o,H (m id).g o=none):∀(k:Nat) (x:AV) (v:Value) (K:AV→Prop),RV H (Q3 hp m) x v→NO hp k x K→∃t,K t∧RelI (snap H hp m w) t v
 |0,x,v,K,_,h=>h.elim
 |k+1,x,v,K,hx,h=>by
  have ih:=EX ac hd k;have ar:HV.le H (snap H hp m w):=Lh hd;have ao:∀id b ver,hp id=some b→b.ver? =some ver→Real b (m id)→∀o,snap H hp m w (m id).g o=w.cell? ⟨(m id).g,o,none⟩:=fun id b ver a4 hv hr o=>by
   unfold snap;rw[if_pos ⟨id,b,ver,a4,hv,hr,rfl⟩]
  unfold NO at h;split at h
  ·rename_i id ver sz off len;split at h
   ·rename_i v' cs a4;split at h
    ·rename_i hc;simp only[Bool.and_eq_true] at hc;obtain rfl:=Nat.eq_of_beq_eq_true hc.1;have au:=Nat.le_of_ble_eq_true hc.2.1;have ag:0<sz:=Nat.le_of_ble_eq_true hc.2.2;have hb:=ac id _ a4;obtain⟨C,e,hC,ax,ak,af⟩:=hb;obtain⟨ds,hK,a7,aa⟩:=Db (R:=RV H (Q3 hp m)) (R':=RelI (snap H hp m w)) ih ((cs.drop off).take (len*sz)) ((List.range (len*sz)).map fun j=>(C[(m id).base+(off+j)]?).getD Go.undef) _ (by simp;omega) (fun j c u hc hu=>by
      have a8:j<len*sz:=by have:=(List.getElem?_eq_some_iff.1 hu).1;simpa using this
      rw[List.getElem?_take,if_pos a8,List.getElem?_drop] at hc;obtain⟨u',a1,_,a3⟩:=af _ c hc;simp[a8,a1] at hu;subst hu;exact a3) h
     have aj:ds.length=len*sz:=by rw[a7];simp;omega
     refine⟨_,hK,bs_tree hx (Uy a4 rfl) ⟨C,e,hC,ax,ak,af⟩ au ag aj (fun j d u hj hu=> ?_) (ao id _ _ a4 rfl trivial)⟩
     have a8:j<len*sz:=by rw[← aj];exact(List.getElem?_eq_some_iff.1 hj).1
     rw[Xb _ _ _ _ _ _ hC] at hu;exact aa j d u hj (by simp[a8,hu])
    ·cases h
   ·cases h
  ·rename_i id ver sz len;split at h
   ·rename_i v' z xs a4;split at h
    ·rename_i hc;rw[Bool.and_eq_true] at hc;obtain rfl:=Nat.eq_of_beq_eq_true hc.1;obtain rfl:=Nat.eq_of_beq_eq_true hc.2;obtain⟨hl,hK⟩:=h;exact⟨_,hK,EO (w:=w) hx (Uy a4 rfl) (ac id _ a4) hl ar fun h0 o=>ao id _ _ a4 rfl h0 o⟩
    ·cases h
   ·cases h
  ·rename_i cs;obtain⟨vs,rfl,h1,h2,h3⟩:=hx.agg_inv;obtain⟨ds,hK,a7,aa⟩:=Db (R:=RV H (Q3 hp m)) (R':=RelI (snap H hp m w)) ih cs vs.toList _ (by simp[h1]) (fun j c u hc hu=>h3 j c u hc (by simpa using hu)) h
   exact⟨_,hK,.agg ds vs (by rw[a7];exact h1) h2 fun j c u hj hu=>aa j c u hj (by simpa using hu)⟩
  ·rename_i cs;obtain⟨vs,rfl,h1,h3⟩:=hx.tup_inv;obtain⟨ds,hK,a7,aa⟩:=Db (R:=RV H (Q3 hp m)) (R':=RelI (snap H hp m w)) ih cs vs.toList _ (by simp[h1]) (fun j c u hc hu=>h3 j c u hc (by simpa using hu)) h
   exact⟨_,hK,.tup ds vs (by rw[a7];exact h1) fun j c u hj hu=>aa j c u hj (by simpa using hu)⟩
  ·rename_i f cs;obtain⟨vs,rfl,h1,h3⟩:=hx.fn_inv;obtain⟨ds,hK,a7,aa⟩:=Db (R:=RV H (Q3 hp m)) (R':=RelI (snap H hp m w)) ih cs vs.toList _ (by simp[h1]) (fun j c u hc hu=>h3 j c u hc (by simpa using hu)) h
   exact⟨_,hK,.fn f ds vs (by rw[a7];exact h1) fun j c u hj hu=>aa j c u hj (by simpa using hu)⟩
  ·rename_i id ver off;split at h
   ·rename_i v' cs a4;split at h
    ·rename_i hc;simp only[Bool.and_eq_true] at hc;obtain rfl:=Nat.eq_of_beq_eq_true hc.1;have ag:0<cs.length:=Nat.le_of_ble_eq_true hc.2;obtain⟨C,e,hC,ax,ak,af⟩:=ac id _ a4;obtain⟨ds,hK,a7,aa⟩:=Db (R:=RV H (Q3 hp m)) (R':=RelI (snap H hp m w)) ih cs ((List.range cs.length).map fun j=>(C[(m id).base+j]?).getD Go.undef) _ (by simp) (fun j c u hc hu=>by
      have a8:j<cs.length:=by have:=(List.getElem?_eq_some_iff.1 hu).1;simpa using this
      obtain⟨u',a1,_,a3⟩:=af _ c hc;simp[a8,a1] at hu;subst hu;exact a3) h
     obtain⟨a,rfl,_,aw⟩:=hx.ptr_inv;obtain rfl:=aw _ (Uy a4 rfl);have am:∀(i:Nat) (x:AV),[AV.agg ds][i]? =some x→i=0∧x= .agg ds:=fun i x hx=>by
      cases i with
      |zero=>simp at hx;exact⟨rfl,hx.symm⟩
      |succ i=>simp at hx
     have ae:∀(i:Nat) (x:AV) (j:Nat) (c:AV),[AV.agg ds][i]? =some x→x.cells[j]? =some c→i=0∧j<cs.length∧ds[j]? =some c:=fun i x j c hx hj=>by
      obtain⟨rfl,rfl⟩:=am i x hx;exact⟨rfl,by rw[← a7];exact(List.getElem?_eq_some_iff.1 hj).1,hj⟩
     have ah:∀(j:Nat) (c:AV),j<cs.length→ds[j]? =some c→∃u,C[(m id).base+j]? =some u∧u.oneCell'=true∧RelI (snap H hp m w) c u:=fun j c hj hc=>by
      obtain⟨u,a1,a2,_⟩:=af j _ (List.getElem?_eq_getElem hj);exact⟨u,a1,a2,aa j c u hc (by simp[hj,a1])⟩
     have:=RelI.ip (H:=snap H hp m w) cs.length [.agg ds] (m id).g (m id).base 0 off (fun _ j=>(C[(m id).base+j]?).getD Go.undef) ag (by simp)
      (fun i x hx=>by obtain⟨_,rfl⟩:=am i x hx;exact a7)
      (fun i x j c hx hj=>by
       obtain⟨rfl,a8,hn⟩:=ae i x j c hx hj;obtain⟨u,a1,a2,a3⟩:=ah j c a8 hn;rw[a1];refine⟨?_,a2⟩;rw[ao id _ _ a4 rfl trivial,Xb _ _ _ _ _ _ hC,Nat.zero_mul,Nat.add_zero,a1];rfl)
      (fun i x j c hx hj=>by
       obtain⟨rfl,a8,hn⟩:=ae i x j c hx hj;obtain⟨u,a1,a2,a3⟩:=ah j c a8 hn;rw[a1];exact a3)
     rw[Nat.zero_mul,Nat.add_zero] at this;exact⟨_,hK,this⟩
    ·cases h
   ·cases h
  ·cases h
  ·cases h
  ·cases h
  ·rename_i x n1 n2 n3 n4 n5 n6 n7 n8 n9;refine⟨_,h,?_⟩;cases hx with
   |imm _ _ hx=>exact hx.mono ar
   |ptr=>exact absurd rfl (n6 _ _ _)
   |bs=>exact absurd rfl (n1 _ _ _ _ _)
   |ow=>exact absurd rfl (n2 _ _ _ _)
   |oe=>exact absurd rfl (n7 _ _ _ _ _)
   |yld=>exact absurd rfl (n8 _)
   |mp=>exact absurd rfl (n9 _)
   |fn=>exact absurd rfl (n5 _ _)
   |agg=>exact absurd rfl (n3 _)
   |tup=>exact absurd rfl (n4 _)
end HY
end
section
namespace HY
open Go Go.RowKit
theorem FQ{H:HV}{m:Nat→Lc}:∀ {x:AV} {v:Value},RV H (Q3 (lkb .nil) m) x v→RelI H x v:=by
 intro x v h
 induction h with
 |imm _ _ h=>exact h
 |ptr id ver off a hal=>obtain⟨b,hb,_⟩:=hal;rw[QX] at hb;cases hb
 |bs id ver sz off len a cap hal=>obtain⟨b,hb,_⟩:=hal;rw[QX] at hb;cases hb
 |ow id ver sz len a cap hal=>obtain⟨b,hb,_⟩:=hal;rw[QX] at hb;cases hb
 |oe id ver sz i off a hal=>obtain⟨b,hb,_⟩:=hal;rw[QX] at hb;cases hb
 |yld id l hl=>simp[Q3,QX] at hl
 |mp id l hl=>simp[Q3,QX] at hl
 |fn f cs vs h _ ih=>exact .fn f cs vs h ih
 |agg cs vs h h1 _ ih=>exact .agg cs vs h h1 ih
 |tup cs vs h _ ih=>exact .tup cs vs h ih
structure LeT (x t:AV):Prop where
 ok:∀(H:HV) (v:Value),RelI H x v→RelI H t v
theorem LeT.refl(x:AV):LeT x x:=⟨fun _ _ h=>h⟩
theorem LeT.nil(sz:Nat):LeT .nil (.sl sz []):=⟨fun H v h=>by cases h;exact .sl0 _ _ _ (Nat.zero_le _)⟩
inductive LeL:List AV→List AV→Prop
 |nil:LeL [] []
 |cons {x t:AV} {xs ts:List AV}:LeT x t→LeL xs ts→LeL (x::xs) (t::ts)
theorem LeL.get:∀ {xs ts:List AV},LeL xs ts→xs.length=ts.length∧∀(j:Nat) (t:AV),ts[j]? =some t→∃x,xs[j]? =some x∧LeT x t
 |_,_,.nil=>⟨rfl,fun j t h=>by simp at h⟩
 |_,_,.cons h r=>⟨by simp[r.get.1],fun j t' hj=>by
  cases j with
  |zero=>simp at hj;subst hj;exact⟨_,rfl,h⟩
  |succ j=>simpa using r.get.2 j t' (by simpa using hj)⟩
theorem LeL.refl:∀(xs:List AV),LeL xs xs
 | []=>.nil
 |x::xs=>.cons (.refl x) (LeL.refl xs)
theorem LeT.agg{xs ts:List AV}(h:LeL xs ts):LeT (.agg xs) (.agg ts):=⟨fun H v hv=>by
 obtain⟨h1,h2⟩:=h.get;cases hv with
 |agg _ vs a b c=>
  exact .agg _ vs (by rw[← h1];exact a) b fun j t u hj hu=>by
   obtain⟨x,hx,a3⟩:=h2 j t hj;exact a3.ok H u (c j x u hx hu)⟩
theorem LeT.tup{xs ts:List AV}(h:LeL xs ts):LeT (.tup xs) (.tup ts):=⟨fun H v hv=>by
 obtain⟨h1,h2⟩:=h.get;cases hv with
 |tup _ vs a c=>
  exact .tup _ vs (by rw[← h1];exact a) fun j t u hj hu=>by
   obtain⟨x,hx,a3⟩:=h2 j t hj;exact a3.ok H u (c j x u hx hu)⟩
theorem Pu.le{P:Program}{gl:Nat→AV}{f:Nat}{args a3:List AV}{r r':AV}(h:Pu P gl f a3 r)(ha:LeL args a3)(hr:LeT r r'):Pu P gl f args r':=⟨fun m H B H0 w vs hh hl hv=>by
 obtain⟨h1,h2⟩:=ha.get;refine(h.ok m H B H0 w vs hh (by rw[← h1];exact hl) fun j x v hx a5=> ?_).mono fun e w' ⟨v,m',H',a,b,c,d⟩=>⟨v,m',H',a,b,c,.imm _ _ (hr.ok _ _ (FQ d))⟩
 obtain⟨y,hy,a4⟩:=h2 j x hx;exact .imm _ _ (a4.ok _ _ (FQ (hv j y v hy a5)))⟩
def G8:Nat→List Box→List AV
 |_,[]=>[]
 |j,b::r=>match b with
  | .cells t _=>.ptr j t 0::G8 (j+1) r
  |_=>G8 (j+1) r
def WY(m:Nat→Lc):Nat→List Box→List (AV×Value)
 |_,[]=>[]
 |j,b::r=>match b with
  | .cells t _=>(.ptr j t 0,.pointer (some ⟨(m j).g,(m j).base,none⟩))::WY m (j+1) r
  |_=>WY m (j+1) r
theorem S9{m:Nat→Lc}:∀(j:Nat) (bs:List Box),(WY m j bs).map (·.1)=G8 j bs
 |_,[]=>rfl
 |j,b::r=>by
  cases b<;>simp only[WY,G8,List.map_cons,S9 (j+1) r]
theorem Sa{m:Nat→Lc}:∀(k:Nat) (bs:List Box) (p:AV×Value),p∈WY m k bs→∃j t cs,bs[j]? =some (.cells t cs)∧p=(.ptr (k+j) t 0,.pointer (some ⟨(m (k+j)).g,(m (k+j)).base,none⟩))
 |_,[],p,h=>by simp[WY] at h
 |k,b::r,p,h=>by
  have tl:p∈WY m (k+1) r→∃j t cs,(b::r)[j]? =some (.cells t cs)∧p=(.ptr (k+j) t 0,.pointer (some ⟨(m (k+j)).g,(m (k+j)).base,none⟩)):=fun h=>by
   obtain⟨j,t,cs,h1,h2⟩:=Sa (k+1) r p h;refine⟨j+1,t,cs,by simpa using h1,?_⟩
   rw[show k+(j+1)=k+1+j by omega];exact h2
  cases b with
  |cells t cs=>
   simp only[WY,List.mem_cons] at h;rcases h with rfl | h
   ·exact⟨0,t,cs,rfl,rfl⟩
   ·exact tl h
  |_=>exact tl h
theorem FF{m:Nat→Lc}:∀(k:Nat) (bs:List Box) (j t:Nat) (cs:List AV),bs[j]? =some (.cells t cs)→((.ptr (k+j) t 0,.pointer (some ⟨(m (k+j)).g,(m (k+j)).base,none⟩)):AV×Value)∈WY m k bs
 |_,[],j,t,cs,h=>by simp at h
 |k,b::r,j,t,cs,h=>by
  cases j with
  |zero=>
   simp at h;subst h;exact List.mem_cons_self
  |succ j=>
   have ih:=FF (m:=m) (k+1) r j t cs (by simpa using h)
   rw[show k+1+j=k+(j+1) by omega] at ih
   cases b with
   |cells t0 cs0=>exact List.mem_cons_of_mem _ ih
   |_=>exact ih
structure PuH (P:Program) (gl:Nat→AV) (f:Nat) (args:List AV) (bs:List Box) (r:AV) (bs':List Box):Prop where
 ok:∀(m:Nat→Lc) (H:HV) (B:Nat→Prop) (H0:HV) (rest:List (AV×Value)) (w:World) (vs:Array Value),RelH m H B H0 gl (lkb (hpOf 0 bs)) bs.length w→args.length=vs.size→
  (∀(j:Nat) (x:AV) (v:Value),args[j]? =some x→vs[j]? =some v→RV H (Q3 (lkb (hpOf 0 bs)) m) x v)→rest.map (·.1)=G8 0 bs→(∀p∈rest,RV H (Q3 (lkb (hpOf 0 bs)) m) p.1 p.2)→
  Ans P f vs w fun e w'=>∃v m' H',e= .returned v∧Qa B w w'∧RelH m' H' B H0 gl (lkb (hpOf 0 bs')) bs'.length w'∧RV H' (Q3 (lkb (hpOf 0 bs')) m') r v∧∀p∈rest,RV H' (Q3 (lkb (hpOf 0 bs')) m') p.1 p.2
theorem PuH.zero{P:Program}{gl:Nat→AV}{f:Nat}{args:List AV}{r:AV}{a3:List Box}(h:PuH P gl f args [] r a3):Jd P gl f args r (hpOf 0 a3) a3.length:=fun m H B H0 w vs hh hl hv=>
 (h.ok m H B H0 [] w vs hh hl hv rfl (fun p hp=>by simp at hp)).mono fun e w' ⟨v,m',H',a,b,c,d,_⟩=>⟨v,m',H',a,b,c,d⟩
def wgive1(kb:List KB)(n:Nat)(Q:List AV→List Box→List Nat→St→Prop)(sc:St):Prop:=
 match nodN (UO sc kb) with
 |true=>match HG (lkb sc.hp) (UO sc kb) (UO sc kb) with
  |some bs=>Q ((List.range n).map fun k=>ren (lkb sc.hp) (UO sc kb) 12 (sc.get k)) bs (UO sc kb) sc
  |none=>False
 |false=>False
def Ai(kb:List KB)(args:List AV)(hp:Tr Box)(nx:Nat)(Q:List AV→List Box→List Nat→St→Prop):Prop:=
 YQ kb ⟨args.length,YP 0 args,hp,nx⟩ (wgive1 kb args.length Q)
def RQ(ids:List Nat)(sc:St)(a3:List Box)(r:AV)(K:AV→Tr Box→Nat→Prop):Prop:=
 match NI (lkb sc.hp) ids a3 sc.nx with
 |some ps=>K (mapR (gB ps a3) 12 r) (Gv (gB ps a3) sc.hp ps a3) (sc.nx+(a3.length - ids.length))
 |none=>False
section
variable {P : Program} {gl : Nat → AV} {m : Nat → Lc} {H : HV} {B : Nat → Prop} {H0 : HV} {rest : List (AV × Value)} {st : St} {a : Act} {w : World}
theorem AS(h:RelS m H B H0 gl rest st a.tmps w){dst:Option Nat}(hd:QU dst st.n=true){f:Nat}{args:List AV}{vs:Array Value}(hl:args.length=vs.size)(hv:∀(j:Nat) (x:AV) (v:Value),args[j]? =some x→vs[j]? =some v→RV H (st.env m) x v)
  {kb:List KB} {K:St→Prop} {Q:List AV→List Box→List Nat→St→Prop}
  (hQ:∀a5 ar ids sc,Q a5 ar ids sc→∃r a4,PuH P gl f a5 ar r a4∧RQ ids sc a4 r (fun rr hp' nx'=>K ((st.setHp hp' nx').putO dst rr)))
  (hw:Ai kb args st.hp st.nx Q):
  Ans P f vs w fun e w'=>∃st' v m' H',K st'∧e= .returned v∧Qa B w w'∧RelS m' H' B H0 gl rest st' (a.put dst v).tmps w':=by
 unfold Ai at hw;obtain⟨sc,ag,hw⟩:=Xj (gl:=gl) hw;have bb:RelS m H B H0 gl ((List.range st.n).map (fun k=>(st.get k,a.tmps.getD k Go.undef))++rest) ⟨args.length,YP 0 args,st.hp,st.nx⟩ vs w:=by
  refine⟨h.heap,hl.symm,fun k=> ?_,h.hold⟩
  show RV H _ (lk .undef (YP 0 args) k) _;rw[D8,if_pos (Nat.zero_le _),Nat.sub_zero];cases hx:args[k]? with
  |none=>exact .imm _ _ (.undef _)
  |some x=>
   have hk:k<vs.size:=by rw[← hl];exact(List.getElem?_eq_some_iff.1 hx).1
   rw[show vs.getD k Go.undef=vs[k] by rw[Array.getD_eq_getD_getElem?,Array.getElem?_eq_getElem hk];rfl]
   exact hv k x _ hx (Array.getElem?_eq_getElem hk)
 obtain⟨m1,H1,hs⟩:=ag.2 m H B H0 _ vs w bb;unfold wgive1 at hw;split at hw
 ·rename_i ab;split at hw
  ·rename_i bs b3;generalize hids:UO sc kb=ids at*;obtain⟨r,a4,bf,a3⟩:=hQ _ _ _ _ hw;unfold RQ at a3;split at a3
   ·rename_i ps ba;have be:=hs.heap.offB ids;obtain⟨ae,ac⟩:=hs.heap.sub (B':=OffB (lkb sc.hp) m1 ids w) (H1:=H1) ab b3 (fun _ _ _=>rfl) (fun _ hk=>hk.1) (fun j id b hj hb hr hB=>hB.2 j id b hj hb hr rfl) (fun g sz cs hg=>let⟨h1,h2⟩:=hs.heap.gv g sz cs hg;⟨be g h1,h2⟩)
    generalize hm0:(fun(j:Nat)=>m1 ((ids[j]?).getD 0))=m0 at ae ac
    have bl:∀j,lkb (hpOf 0 bs) j=bs[j]? :=fun j=>by rw[UI];simp
    have b6:∀j,lkb (hpOf 0 a4) j=a4[j]? :=fun j=>by rw[UI];simp
    refine(bf.ok m0 H1 _ H1 (WY m0 0 bs) w vs ae (by simpa using hl) (fun j x v hx bp=> ?_) (S9 0 bs) (fun p hp=> ?_)).mono fun e w' aj=> ?_
    ·have b5:j<args.length:=by have:=(List.getElem?_eq_some_iff.1 hx).1;simpa using this
     simp[b5] at hx;subst hx;have:=hs.slot j;rw[show vs.getD j Go.undef=v by rw[Array.getD_eq_getD_getElem?,bp];rfl] at this
     exact ac 12 _ _ this
    ·obtain⟨j,t,cs,h1,rfl⟩:=Sa 0 bs p hp;rw[Nat.zero_add];have hb:lkb (hpOf 0 bs) j=some (.cells t cs):=by rw[bl];exact h1
     refine .ptr _ _ _ _ (A8 hb rfl) fun l hl=> ?_
     rw[Uy hb rfl] at hl;cases hl;rfl
    ·obtain⟨v,m',H',rfl,b2,hH,bm,ai⟩:=aj;have b9:∀(j id v:Nat) (cs:List AV),ids[j]? =some id→lkb sc.hp id=some (.cells v cs)→m' j=m1 id:=fun j id v cs hj a7=>by
      obtain⟨bh,af⟩:=ET b3;obtain⟨b0,b1,e1,e2,e3⟩:=af j id hj;rw[a7] at e1;cases e1;rcases LR e2 with⟨v1,c3,e4,rfl⟩ | ⟨_,_,_,e4,_⟩ | ⟨_,_,_,_,_,_,e4,_⟩
      ·cases e4;obtain⟨bw,ck,ak⟩:=NJ ba;have b5:=(List.getElem?_eq_some_iff.1 hj).1;have b4:j<a4.length:=by omega
       have bk:j<ps.length:=by omega
       have bn:=ak j ps[j].1 ps[j].2 a4[j] (List.getElem?_eq_getElem bk) (List.getElem?_eq_getElem b4);rcases bn.here with⟨v2,c4,t2,cs',f1,f2,f3,f4,f5⟩ | ⟨v2,sz,xs,v',cp,ct,f1,f2,f3,f4⟩ | ⟨a1,_,_⟩
       ·rw[hj] at f1;injection f1 with f1
        rw[← f1,a7] at f2;cases f2;have az:lkb (hpOf 0 a4) j=some (.cells t2 cs'):=by rw[b6,List.getElem?_eq_getElem b4,f3]
        have hp:=ai _ (FF (m:=m0) 0 bs j _ _ e3);rw[Nat.zero_add] at hp;obtain⟨ad,aa,_,b7⟩:=hp.ptr_inv;have b8:m0 j=m1 id:=by rw[← hm0];simp[hj]
        have:=b7 (m' j) (by rw[f5];exact Uy az rfl)
        simp only[Value.pointer.injEq,Option.some.injEq] at aa;subst aa;simp only[Addr.mk.injEq] at this;obtain⟨g1,g2,_⟩:=this;rw[b8] at g1 g2;obtain⟨C,e,c1,c2,_,_⟩:=hs.heap.box id _ a7;obtain⟨C1,c6,d1,d2,_,_⟩:=hH.box j _ az;obtain⟨C2,cd,k1,k2⟩:=b2.rows _ C e _ c1;rw[← g1] at d1;rw[d1] at k1;cases k1;have a8:(m' j).size=(m1 id).size:=by rw[← d2,← c2];exact k2
        cases hmj:m' j with
        |mk a b c=>cases hmi:m1 id with
         |mk a' b' c'=>
          rw[hmj] at g1 g2 a8;rw[hmi] at g1 g2 a8;simp only[Nat.add_zero] at g2;simp only at g1 a8;rw[g1,g2,a8]
       ·rw[hj] at f1;injection f1 with f1
        rw[← f1,a7] at f2;cases f2
       ·omega
      ·cases e4
      ·cases e4
     obtain⟨M,hR,hE,ay,bo,bg⟩:=back_ok hs.heap ab ba hH b2 b9;exact⟨_,v,M,H',a3,rfl,bg,h.taken hd hR (bo r v bm) fun p hp=>(hs.rest p hp).mono ay hE⟩
   ·cases a3
  ·cases hw
 ·cases hw
theorem Q0p(h:RelS m H B H0 gl rest st a.tmps w){dst:Option Nat}(hd:QU dst st.n=true){f:Nat}{ts:List AV}{vs:Array Value}(hl:ts.length=vs.size)(hv:∀(j:Nat) (x:AV) (v:Value),ts[j]? =some x→vs[j]? =some v→RelI H x v){r:AV}(hp:Pu P gl f ts r):
  Ans P f vs w fun e w'=>∃v m' H',e= .returned v∧Qa B w w'∧RelS m' H' B H0 gl rest (st.putO dst r) (a.put dst v).tmps w':=by
 have h0:RelH m H (fun k=>k<w.heap.size) H gl (lkb .nil) 0 w:=
  {sat:=h.heap.sat,old:=fun _ _ _=>rfl,low:=fun _ hk=>hk,fresh:=fun _ _=>QX _,box:=(fun _ _ hh=>by rw[QX] at hh;cases hh),sepR:=(fun _ _ hh=>by rw[QX] at hh;cases hh),injR:=(fun _ _ _ _ hh=>by rw[QX] at hh;cases hh),gl:=h.heap.gl,ty:=(fun _ _ _ hh=>by rw[QX] at hh;cases hh),gv:=fun g sz cs hg=>let⟨h1,h2⟩:=h.heap.gv g sz cs hg;⟨h.heap.low _ h1,h2⟩}
 refine(hp.ok m H _ H w vs h0 hl (fun j x v hx a7=>.imm _ _ (hv j x v hx a7))).mono fun e w' a4=> ?_
 obtain⟨v,m',H',rfl,a5,hH,a6⟩:=a4;obtain⟨hA,a9⟩:=h.after a5.toB H' hH.sat;refine⟨v,m,_,rfl,a5.mono h.heap.low,hA.putO hd (.imm _ _ ((FQ a6).mono fun b o u hu=> ?_))⟩
 by_cases hlt:b<w.heap.size;·simp only[if_pos hlt];rw[← hH.old b o hlt];exact hu
 ·simp only[if_neg hlt];exact hu
end
end HY
end
section
namespace HY
open Go Go.RowKit
structure LeV (x t:AV):Prop where
 ok:∀(H:HV) (E:Env) (v:Value),RV H E x v→RV H E t v
structure St.Same (s t:St):Prop where
 n:s.n=t.n
 nx:s.nx=t.nx
 get:∀k,s.get k=t.get k
 hp:lkb s.hp=lkb t.hp
def wnrm{α:Type}(sh:α→AV)(s:Nat)(st:St)(K:St→Prop):Prop:=
 match st.get s with
 | .int k m=>∃n,n=m∧K ⟨st.n,pt st.sl s (.int k n),st.hp,st.nx⟩
 | .str t=>∃u,u=t∧K ⟨st.n,pt st.sl s (.str u),st.hp,st.nx⟩
 | .bool t=>∃u,u=t∧K ⟨st.n,pt st.sl s (.bool u),st.hp,st.nx⟩
 | .ow id ver sz len=>match lkb st.hp id with
  |some (.own v z xs)=>∃l:List α,(List.map sh l=xs∧l.length=len)∧K ⟨st.n,pt st.sl s (.ow id ver sz l.length),pt st.hp id (.own v z (List.map sh l)),st.nx⟩
  |_=>False
 | .oe id _ _ _ _=>match lkb st.hp id with
  |some (.own v z xs)=>∃l:List α,List.map sh l=xs∧K ⟨st.n,st.sl,pt st.hp id (.own v z (List.map sh l)),st.nx⟩
  |_=>False
 | .tup []=>K st
 | .undef=>K st
 |v=>∃x:α,LeV v (sh x)∧K ⟨st.n,pt st.sl s (sh x),st.hp,st.nx⟩
theorem HI{st:St}{s:Nat}{x y:AV}(h:st.get s=x)(e:y=x):St.Same ⟨st.n,pt st.sl s y,st.hp,st.nx⟩ st where
 n:=rfl
 nx:=rfl
 get k:=by
  show lk .undef (pt st.sl s y) k=_;rw[UP];split;·rename_i e2;subst e2;rw[e,h]
  ·rfl
 hp:=rfl
theorem Ov{st:St}{id:Nat}{b b':Box}(h:lkb st.hp id=some b)(e:b'=b):St.Same ⟨st.n,st.sl,pt st.hp id b',st.nx⟩ st where
 n:=rfl
 nx:=rfl
 get k:=rfl
 hp:=by
  show lkb (pt st.hp id b')=_;rw[Z0];funext j;unfold updF;split;·rename_i e2;subst e2;rw[e,h]
  ·rfl
theorem St.Same.trans{a b c:St}(h:St.Same a b)(k:St.Same b c):St.Same a c:=⟨h.n.trans k.n,h.nx.trans k.nx,fun i=>(h.get i).trans (k.get i),h.hp.trans k.hp⟩
structure St.Tell (gl:Nat→AV) (s t:St):Prop where
 n:s.n=t.n
 rel:∀(m:Nat→Lc) (H:HV) (B:Nat→Prop) (H0:HV) (rest:List (AV×Value)) (tmps:Array Value) (w:World),RelS m H B H0 gl rest t tmps w→RelS m H B H0 gl rest s tmps w
theorem St.Tell.refl(gl:Nat→AV)(s:St):St.Tell gl s s:=⟨rfl,fun _ _ _ _ _ _ _ h=>h⟩
theorem St.Tell.trans{gl:Nat→AV}{a b c:St}(h:St.Tell gl a b)(k:St.Tell gl b c):St.Tell gl a c:=⟨h.n.trans k.n,fun _ _ _ _ _ _ _ r=>h.rel _ _ _ _ _ _ _ (k.rel _ _ _ _ _ _ _ r)⟩
theorem RelS.same{m:Nat→Lc}{H:HV}{B:Nat→Prop}{H0:HV}{gl:Nat→AV}{rest:List (AV×Value)}{s t:St}{tmps:Array Value}{w:World}(h:RelS m H B H0 gl rest t tmps w)(e:St.Same s t):RelS m H B H0 gl rest s tmps w:=by
 have he:s.env m=t.env m:=by show Q3 (lkb s.hp) m=Q3 (lkb t.hp) m;rw[e.hp]
 refine⟨?_,?_,fun k=> ?_,fun p hp=> ?_⟩
 ·rw[e.hp,e.nx];exact h.heap
 ·rw[e.n];exact h.size
 ·rw[he,e.get];exact h.slot k
 ·rw[he];exact h.rest p hp
theorem St.Same.tell{gl:Nat→AV}{s t:St}(e:St.Same s t):St.Tell gl s t:=⟨e.n,fun _ _ _ _ _ _ _ h=>h.same e⟩
theorem tell_le{gl:Nat→AV}{st:St}{s:Nat}{x y:AV}(h:st.get s=x)(e:LeV x y):St.Tell gl ⟨st.n,pt st.sl s y,st.hp,st.nx⟩ st where
 n:=rfl
 rel m H B H0 rest tmps w r:=by
  refine⟨r.heap,r.size,fun k=> ?_,r.rest⟩
  show RV H (st.env m) (lk .undef (pt st.sl s y) k) _;rw[UP];split;·rename_i e2;subst e2;exact e.ok _ _ _ (h▸r.slot _)
  ·exact r.slot k
theorem OM{gl:Nat→AV}{α:Type}{sh:α→AV}{s:Nat}{st:St}{K:St→Prop}(h:wnrm sh s st K):∃st',K st'∧St.Tell gl st' st:=by
 unfold wnrm at h;split at h;·rename_i k m hx;obtain⟨n,rfl,h⟩:=h;exact⟨_,h,(HI hx rfl).tell⟩
 ·rename_i t hx;obtain⟨n,rfl,h⟩:=h;exact⟨_,h,(HI hx rfl).tell⟩
 ·rename_i t hx;obtain⟨n,rfl,h⟩:=h;exact⟨_,h,(HI hx rfl).tell⟩
 ·rename_i id ver sz len hx;split at h
  ·rename_i v z xs a4;obtain⟨l,⟨rfl,rfl⟩,h⟩:=h;exact⟨_,h,((Ov (st:=⟨st.n,pt st.sl s _,st.hp,st.nx⟩) a4 rfl).trans (HI hx rfl)).tell⟩
  ·cases h
 ·rename_i id _ _ _ _ hx;split at h
  ·rename_i v z xs a4;obtain⟨l,rfl,h⟩:=h;exact⟨_,h,(Ov a4 rfl).tell⟩
  ·cases h
 ·exact⟨_,h,.refl _ _⟩
 ·exact⟨_,h,.refl _ _⟩
 ·rename_i v _ _ hx;obtain⟨x,a5,h⟩:=h;exact⟨_,h,tell_le rfl a5⟩
def wfill{α:Type}(sh:α→AV)(s:Nat)(st:St)(K:St→Prop):Prop:=
 match st.get s with
 | .ow id _ _ _=>match lkb st.hp id with
  |some (.hol v z xs i c r)=>match r with
   | .ow id2 v2 z2 len=>match lkb st.hp id2 with
    |some (.own v' z' ys)=>match Nat.beq v' v2&&Nat.beq z' z2 with
     |true=>len=ys.length∧∃x:α,xs[i]? =some (sh x)∧∃l:List α,List.map sh l=xs.set i (putE c 1 z (sh x) (.sl z' ys))∧K ⟨st.n,st.sl,pt (pt st.hp id2 (.own (v'+4096) z' [])) id (.own v z (List.map sh l)),st.nx⟩
     |false=>False
    |_=>False
   |_=>False
  |_=>False
 |_=>False
theorem Q1n{gl:Nat→AV}{α:Type}{sh:α→AV}{s:Nat}{st:St}{K:St→Prop}(h:wfill sh s st K):∃st',Conv gl st st'∧K st':=by
 unfold wfill at h;split at h
 ·split at h
  ·rename_i v z xs i c r a5;split at h
   ·rename_i a6 v2 z2 len;split at h
    ·rename_i v' z' ys a3;split at h
     ·rename_i hc;rw[Bool.and_eq_true] at hc;obtain rfl:=Nat.eq_of_beq_eq_true hc.1;obtain rfl:=Nat.eq_of_beq_eq_true hc.2;obtain⟨hl,x,hx,l,he,hK⟩:=h;refine⟨_,?_,hK⟩;rw[he];exact BL _ v z i c a6 _ _ len xs ys (sh x) a5 a3 hl hx
     ·cases h
    ·cases h
   ·cases h
  ·cases h
 ·cases h
def inner:Option Hint→Option Hint
 |some (.n _ _ h)=>h
 |some (.z _ h)=>match h with
  |some (.n _ _ h)=>h
  |h=>h
 |h=>h
def outer:Option Hint→Option Hint
 |some (.z _ h)=>h
 |h=>h
def HJ(hs:QF):List Oper→St→(St→Prop)→Prop
 | [],st,K=>K st
 |o::l,st,K=>match outer (lkH hs (Ae o.dst o.op)) with
  |some (.n sh s _)=>wnrm sh s st (fun st=>HJ hs l st K)
  |_=>HJ hs l st K
theorem I3{gl:Nat→AV}{hs:QF}:∀ {l:List Oper} {st:St} {K:St→Prop},HJ hs l st K→∃st',K st'∧St.Tell gl st' st
 | [],st,K,h=>⟨st,h,.refl _ _⟩
 |o::l,st,K,h=>by
  simp only[HJ] at h;split at h
  ·obtain⟨s1,h1,e1⟩:=OM (gl:=gl) h;obtain⟨s2,h2,e2⟩:=I3 (gl:=gl) h1;exact⟨s2,h2,e2.trans e1⟩
  ·exact I3 h
end HY
end
