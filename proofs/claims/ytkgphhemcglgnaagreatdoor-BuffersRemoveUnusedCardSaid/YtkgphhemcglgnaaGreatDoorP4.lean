/- Proved in the last of these texts: for every input the law returns true and its arguments read afterwards as they read before. This text: a part of the proof. -/
import Derived.Test.YtkgphhemcglgnaaGreatDoorP3
import Derived.Lib.Bytealg
import Derived.Test.YtkgphhemcglgnaaGreatDoorProg
set_option linter.unusedVariables false
set_option linter.unusedSimpArgs false
section
namespace HY
open Go Go.RowKit
theorem Bn{H:HV}{m:Nat→Lc}:∀ {x:AV} {v:Value},RV H (Q8 (lkb .nil) m) x v→RelI H x v:=by
  intro x v h
  induction h with
  |imm _ _ h=>exact h
  |ptr id ver off a hal=>obtain⟨b,hb,_⟩:=hal;rw[Zz] at hb;cases hb
  |bs id ver sz off len a cap hal=>obtain⟨b,hb,_⟩:=hal;rw[Zz] at hb;cases hb
  |ow id ver sz len a cap hal=>obtain⟨b,hb,_⟩:=hal;rw[Zz] at hb;cases hb
  |oe id ver sz i off a hal=>obtain⟨b,hb,_⟩:=hal;rw[Zz] at hb;cases hb
  |yld id l hl=>simp[Q8,Zz] at hl
  |mp id l hl=>simp[Q8,Zz] at hl
  |fn f cs vs h _ ih=>exact .fn f cs vs h ih
  |agg cs vs h h1 _ ih=>exact .agg cs vs h h1 ih
  |tup cs vs h _ ih=>exact .tup cs vs h ih
structure LeT (x t:AV):Prop where
  ok:∀(H:HV) (v:Value),RelI H x v→RelI H t v
theorem LeT.refl(x:AV):LeT x x:=⟨fun _ _ h=>h⟩
theorem LeT.nil(sz:Nat):LeT .nil (.sl sz []):=⟨fun H v h=>by cases h;exact .sl0 _ _ _ (Nat.zero_le _)⟩
inductive LeL:List AV→List AV→Prop
  |nil:LeL [] []
  |cons {x t:AV} {xs ts:List AV}:LeT x t→LeL xs ts→LeL (x::xs) (t::ts)
theorem LeL.get:∀ {xs ts:List AV},LeL xs ts→xs.length=ts.length∧∀(j:Nat) (t:AV),ts[j]? =some t→∃x,xs[j]? =some x∧LeT x t
  |_,_,.nil=>⟨rfl,fun j t h=>by simp at h⟩
  |_,_,.cons h r=>⟨by simp[r.get.1],fun j t' hj=>by
    cases j with
    |zero=>simp at hj;subst hj;exact⟨_,rfl,h⟩
    |succ j=>simpa using r.get.2 j t' (by simpa using hj)⟩
theorem LeL.refl:∀(xs:List AV),LeL xs xs
  | []=>.nil
  |x::xs=>.cons (.refl x) (LeL.refl xs)
theorem LeT.tup{xs ts:List AV}(h:LeL xs ts):LeT (.tup xs) (.tup ts):=⟨fun H v hv=>by
  obtain⟨h1,h2⟩:=h.get;cases hv with
  |tup _ vs a c=>
    exact .tup _ vs (by rw[← h1];exact a) fun j t u hj hu=>by
      obtain⟨x,hx,a3⟩:=h2 j t hj;exact a3.ok H u (c j x u hx hu)⟩
theorem Pu.le{P:Program}{gl:Nat→AV}{f:Nat}{args a3:List AV}{r r':AV}(h:Pu P gl f a3 r)(ha:LeL args a3)(hr:LeT r r'):Pu P gl f args r':=⟨fun m H B H0 w vs hh hl hv=>by
  obtain⟨h1,h2⟩:=ha.get;refine(h.ok m H B H0 w vs hh (by rw[← h1];exact hl) fun j x v hx a5=> ?_).mono fun e w' ⟨v,m',H',a,b,c,d⟩=>⟨v,m',H',a,b,c,.imm _ _ (hr.ok _ _ (Bn d))⟩
  obtain⟨y,hy,a4⟩:=h2 j x hx;exact .imm _ _ (a4.ok _ _ (Bn (hv j y v hy a5)))⟩
def Ws:Nat→List Box→List AV
  |_,[]=>[]
  |j,b::r=>match b with
    | .cells t _=>.ptr j t 0::Ws (j+1) r
    |_=>Ws (j+1) r
def Mi(m:Nat→Lc):Nat→List Box→List (AV×Value)
  |_,[]=>[]
  |j,b::r=>match b with
    | .cells t _=>(.ptr j t 0,.pointer (some ⟨(m j).g,(m j).base,none⟩))::Mi m (j+1) r
    |_=>Mi m (j+1) r
theorem Fk{m:Nat→Lc}:∀(j:Nat) (bs:List Box),(Mi m j bs).map (·.1)=Ws j bs
  |_,[]=>rfl
  |j,b::r=>by
    cases b<;>simp only[Mi,Ws,List.map_cons,Fk (j+1) r]
theorem Fm{m:Nat→Lc}:∀(k:Nat) (bs:List Box) (p:AV×Value),p∈Mi m k bs→∃j t cs,bs[j]? =some (.cells t cs)∧p=(.ptr (k+j) t 0,.pointer (some ⟨(m (k+j)).g,(m (k+j)).base,none⟩))
  |_,[],p,h=>by simp[Mi] at h
  |k,b::r,p,h=>by
    have tl:p∈Mi m (k+1) r→∃j t cs,(b::r)[j]? =some (.cells t cs)∧p=(.ptr (k+j) t 0,.pointer (some ⟨(m (k+j)).g,(m (k+j)).base,none⟩)):=fun h=>by
      obtain⟨j,t,cs,h1,h2⟩:=Fm (k+1) r p h;refine⟨j+1,t,cs,by simpa using h1,?_⟩
      rw[show k+(j+1)=k+1+j by omega];exact h2
    cases b with
    |cells t cs=>
      simp only[Mi,List.mem_cons] at h;rcases h with rfl | h
      · exact⟨0,t,cs,rfl,rfl⟩
      · exact tl h
    |_=>exact tl h
theorem Ba{m:Nat→Lc}:∀(k:Nat) (bs:List Box) (j t:Nat) (cs:List AV),bs[j]? =some (.cells t cs)→((.ptr (k+j) t 0,.pointer (some ⟨(m (k+j)).g,(m (k+j)).base,none⟩)):AV×Value)∈Mi m k bs
  |_,[],j,t,cs,h=>by simp at h
  |k,b::r,j,t,cs,h=>by
    cases j with
    |zero=>
      simp at h;subst h;exact List.mem_cons_self
    |succ j=>
      have ih:=Ba (m:=m) (k+1) r j t cs (by simpa using h)
      rw[show k+1+j=k+(j+1) by omega] at ih
      cases b with
      |cells t0 cs0=>exact List.mem_cons_of_mem _ ih
      |_=>exact ih
structure PuH (P:Program) (gl:Nat→AV) (f:Nat) (args:List AV) (bs:List Box) (r:AV) (bs':List Box):Prop where
  ok:∀(m:Nat→Lc) (H:HV) (B:Nat→Prop) (H0:HV) (rest:List (AV×Value)) (w:World) (vs:Array Value),RelH m H B H0 gl (lkb (hpOf 0 bs)) bs.length w→args.length=vs.size→
    (∀(j:Nat) (x:AV) (v:Value),args[j]? =some x→vs[j]? =some v→RV H (Q8 (lkb (hpOf 0 bs)) m) x v)→rest.map (·.1)=Ws 0 bs→(∀p∈rest,RV H (Q8 (lkb (hpOf 0 bs)) m) p.1 p.2)→
    Ans P f vs w fun e w'=>∃v m' H',e= .returned v∧Qd B w w'∧RelH m' H' B H0 gl (lkb (hpOf 0 bs')) bs'.length w'∧RV H' (Q8 (lkb (hpOf 0 bs')) m') r v∧∀p∈rest,RV H' (Q8 (lkb (hpOf 0 bs')) m') p.1 p.2
theorem PuH.zero{P:Program}{gl:Nat→AV}{f:Nat}{args:List AV}{r:AV}{a3:List Box}(h:PuH P gl f args [] r a3):Jc P gl f args r (hpOf 0 a3) a3.length:=fun m H B H0 w vs hh hl hv=>
  (h.ok m H B H0 [] w vs hh hl hv rfl (fun p hp=>by simp at hp)).mono fun e w' ⟨v,m',H',a,b,c,d,_⟩=>⟨v,m',H',a,b,c,d⟩
def wgive1(kb:List KB)(n:Nat)(Q:List AV→List Box→List Nat→St→Prop)(sc:St):Prop:=
  match nodN (D8 sc kb) with
  |true=>match Rt (lkb sc.hp) (D8 sc kb) (D8 sc kb) with
    |some bs=>Q ((List.range n).map fun k=>ren (lkb sc.hp) (D8 sc kb) 12 (sc.get k)) bs (D8 sc kb) sc
    |none=>False
  |false=>False
def PC(kb:List KB)(args:List AV)(hp:Tr Box)(nx:Nat)(Q:List AV→List Box→List Nat→St→Prop):Prop:=
  Vk kb ⟨args.length,Vn 0 args,hp,nx⟩ (wgive1 kb args.length Q)
def A1(ids:List Nat)(sc:St)(a3:List Box)(r:AV)(K:AV→Tr Box→Nat→Prop):Prop:=
  match L6 (lkb sc.hp) ids a3 sc.nx with
  |some ps=>K (mapR (gB ps a3) 12 r) (DO (gB ps a3) sc.hp ps a3) (sc.nx+(a3.length - ids.length))
  |none=>False
section
variable {P : Program} {gl : Nat → AV} {m : Nat → Lc} {H : HV} {B : Nat → Prop} {H0 : HV} {rest : List (AV × Value)} {st : St} {a : Act} {w : World}
theorem Od(h:RelS m H B H0 gl rest st a.tmps w){dst:Option Nat}(hd:Z4 dst st.n=true){f:Nat}{args:List AV}{vs:Array Value}(hl:args.length=vs.size)(hv:∀(j:Nat) (x:AV) (v:Value),args[j]? =some x→vs[j]? =some v→RV H (st.env m) x v)
    {kb:List KB} {K:St→Prop} {Q:List AV→List Box→List Nat→St→Prop}
    (hQ:∀a5 aq ids sc,Q a5 aq ids sc→∃r a4,PuH P gl f a5 aq r a4∧A1 ids sc a4 r (fun rr hp' nx'=>K ((st.setHp hp' nx').putO dst rr)))
    (hw:PC kb args st.hp st.nx Q):
    Ans P f vs w fun e w'=>∃st' v m' H',K st'∧e= .returned v∧Qd B w w'∧RelS m' H' B H0 gl rest st' (a.put dst v).tmps w':=by
  unfold PC at hw;obtain⟨sc,ag,hw⟩:=YR (gl:=gl) hw;have b8:RelS m H B H0 gl ((List.range st.n).map (fun k=>(st.get k,a.tmps.getD k Go.undef))++rest) ⟨args.length,Vn 0 args,st.hp,st.nx⟩ vs w:=by
    refine⟨h.heap,hl.symm,fun k=> ?_,h.hold⟩
    show RV H _ (lk .undef (Vn 0 args) k) _;rw[WX,if_pos (Nat.zero_le _),Nat.sub_zero];cases hx:args[k]? with
    |none=>exact .imm _ _ (.undef _)
    |some x=>
      have hk:k<vs.size:=by rw[← hl];exact(List.getElem?_eq_some_iff.1 hx).1
      rw[show vs.getD k Go.undef=vs[k] by rw[Array.getD_eq_getD_getElem?,Array.getElem?_eq_getElem hk];rfl]
      exact hv k x _ hx (Array.getElem?_eq_getElem hk)
  obtain⟨m1,H1,hs⟩:=ag.2 m H B H0 _ vs w b8;unfold wgive1 at hw;split at hw
  · rename_i ab
    split at hw
    · rename_i bs ay
      generalize hids:D8 sc kb=ids at*;obtain⟨r,a4,bb,a3⟩:=hQ _ _ _ _ hw;unfold A1 at a3;split at a3
      · rename_i ps b7
        have ba:=hs.heap.offB ids;obtain⟨ae,ac⟩:=hs.heap.sub (B':=OffB (lkb sc.hp) m1 ids w) (H1:=H1) ab ay (fun _ _ _=>rfl) (fun _ hk=>hk.1) (fun j id b hj hb hr hB=>hB.2 j id b hj hb hr rfl) (fun g sz cs hg=>let⟨h1,h2⟩:=hs.heap.gv g sz cs hg;⟨ba g h1,h2⟩)
        generalize hm0:(fun(j:Nat)=>m1 ((ids[j]?).getD 0))=m0 at ae ac
        have bg:∀j,lkb (hpOf 0 bs) j=bs[j]? :=fun j=>by rw[WY];simp
        have b3:∀j,lkb (hpOf 0 a4) j=a4[j]? :=fun j=>by rw[WY];simp
        refine(bb.ok m0 H1 _ H1 (Mi m0 0 bs) w vs ae (by simpa using hl) (fun j x v hx bm=> ?_) (Fk 0 bs) (fun p hp=> ?_)).mono fun e w' aj=> ?_
        · have b2:j<args.length:=by have:=(List.getElem?_eq_some_iff.1 hx).1;simpa using this
          simp[b2] at hx;subst hx;have:=hs.slot j;rw[show vs.getD j Go.undef=v by rw[Array.getD_eq_getD_getElem?,bm];rfl] at this
          exact ac 12 _ _ this
        · obtain⟨j,t,cs,h1,rfl⟩:=Fm 0 bs p hp
          rw[Nat.zero_add];have hb:lkb (hpOf 0 bs) j=some (.cells t cs):=by rw[bg];exact h1
          refine .ptr _ _ _ _ (Po hb rfl) fun l hl=> ?_
          rw[JY hb rfl] at hl;cases hl;rfl
        · obtain⟨v,m',H',rfl,ax,hH,bh,ai⟩:=aj
          have b6:∀(j id v:Nat) (cs:List AV),ids[j]? =some id→lkb sc.hp id=some (.cells v cs)→m' j=m1 id:=fun j id v cs hj a7=>by
            obtain⟨be,af⟩:=TV ay;obtain⟨b0,b1,e1,e2,e3⟩:=af j id hj;rw[a7] at e1;cases e1;rcases HL e2 with⟨v1,bw,e4,rfl⟩ | ⟨_,_,_,e4,_⟩ | ⟨_,_,_,_,_,_,e4,_⟩
            · cases e4
              obtain⟨bq,cd,ak⟩:=L8 b7;have b2:=(List.getElem?_eq_some_iff.1 hj).1;have az:j<a4.length:=by omega
              have bf:j<ps.length:=by omega
              have bk:=ak j ps[j].1 ps[j].2 a4[j] (List.getElem?_eq_getElem bf) (List.getElem?_eq_getElem az);rcases bk.here with⟨v2,bx,t2,cs',f1,f2,f3,f4,f5⟩ | ⟨v2,sz,xs,v',cj,cm,f1,f2,f3,f4⟩ | ⟨a1,_,_⟩
              · rw[hj] at f1;injection f1 with f1
                rw[← f1,a7] at f2;cases f2;have aw:lkb (hpOf 0 a4) j=some (.cells t2 cs'):=by rw[b3,List.getElem?_eq_getElem az,f3]
                have hp:=ai _ (Ba (m:=m0) 0 bs j _ _ e3);rw[Nat.zero_add] at hp;obtain⟨ad,aa,_,b4⟩:=hp.ptr_inv;have b5:m0 j=m1 id:=by rw[← hm0];simp[hj]
                have:=b4 (m' j) (by rw[f5];exact JY aw rfl)
                simp only[Value.pointer.injEq,Option.some.injEq] at aa;subst aa;simp only[Addr.mk.injEq] at this;obtain⟨g1,g2,_⟩:=this;rw[b5] at g1 g2;obtain⟨C,e,c1,c2,_,_⟩:=hs.heap.box id _ a7;obtain⟨C1,c0,d1,d2,_,_⟩:=hH.box j _ aw;obtain⟨C2,c5,k1,k2⟩:=ax.rows _ C e _ c1;rw[← g1] at d1;rw[d1] at k1;cases k1;have a8:(m' j).size=(m1 id).size:=by rw[← d2,← c2];exact k2
                cases hmj:m' j with
                |mk a b c=>cases hmi:m1 id with
                  |mk a' b' c'=>
                    rw[hmj] at g1 g2 a8;rw[hmi] at g1 g2 a8;simp only[Nat.add_zero] at g2;simp only at g1 a8;rw[g1,g2,a8]
              · rw[hj] at f1;injection f1 with f1
                rw[← f1,a7] at f2;cases f2
              · omega
            · cases e4
            · cases e4
          obtain⟨M,hR,hE,au,bl,bc⟩:=back_ok hs.heap ab b7 hH ax b6;exact⟨_,v,M,H',a3,rfl,bc,h.taken hd hR (bl r v bh) fun p hp=>(hs.rest p hp).mono au hE⟩
      · cases a3
    · cases hw
  · cases hw
theorem Q55(h:RelS m H B H0 gl rest st a.tmps w){dst:Option Nat}(hd:Z4 dst st.n=true){f:Nat}{ts:List AV}{vs:Array Value}(hl:ts.length=vs.size)(hv:∀(j:Nat) (x:AV) (v:Value),ts[j]? =some x→vs[j]? =some v→RelI H x v){r:AV}(hp:Pu P gl f ts r):
    Ans P f vs w fun e w'=>∃v m' H',e= .returned v∧Qd B w w'∧RelS m' H' B H0 gl rest (st.putO dst r) (a.put dst v).tmps w':=by
  have h0:RelH m H (fun k=>k<w.heap.size) H gl (lkb .nil) 0 w:=
    {sat:=h.heap.sat,old:=fun _ _ _=>rfl,low:=fun _ hk=>hk,fresh:=fun _ _=>Zz _,box:=(fun _ _ hh=>by rw[Zz] at hh;cases hh),sepR:=(fun _ _ hh=>by rw[Zz] at hh;cases hh),injR:=(fun _ _ _ _ hh=>by rw[Zz] at hh;cases hh),gl:=h.heap.gl,ty:=(fun _ _ _ hh=>by rw[Zz] at hh;cases hh),gv:=fun g sz cs hg=>let⟨h1,h2⟩:=h.heap.gv g sz cs hg;⟨h.heap.low _ h1,h2⟩}
  refine(hp.ok m H _ H w vs h0 hl (fun j x v hx a7=>.imm _ _ (hv j x v hx a7))).mono fun e w' a4=> ?_
  obtain⟨v,m',H',rfl,a5,hH,a6⟩:=a4;obtain⟨hA,a9⟩:=h.after a5.toB H' hH.sat;refine⟨v,m,_,rfl,a5.mono h.heap.low,hA.putO hd (.imm _ _ ((Bn a6).mono fun b o u hu=> ?_))⟩
  by_cases hlt:b<w.heap.size
  · simp only[if_pos hlt];rw[← hH.old b o hlt];exact hu
  · simp only[if_neg hlt];exact hu
end
end HY
end
section
namespace HY
open Go Go.RowKit
structure LeV (x t:AV):Prop where
 ok:∀(H:HV) (E:Env) (v:Value),RV H E x v→RV H E t v
structure St.Same (s t:St):Prop where
 n:s.n=t.n
 nx:s.nx=t.nx
 get:∀k,s.get k=t.get k
 hp:lkb s.hp=lkb t.hp
def wnrm{α:Type}(sh:α→AV)(s:Nat)(st:St)(K:St→Prop):Prop:=
 match st.get s with
 | .int k m=>∃n,n=m∧K ⟨st.n,pt st.sl s (.int k n),st.hp,st.nx⟩
 | .str t=>∃u,u=t∧K ⟨st.n,pt st.sl s (.str u),st.hp,st.nx⟩
 | .bool t=>∃u,u=t∧K ⟨st.n,pt st.sl s (.bool u),st.hp,st.nx⟩
 | .ow id ver sz len=>match lkb st.hp id with
  |some (.own v z xs)=>∃l:List α,(List.map sh l=xs∧l.length=len)∧K ⟨st.n,pt st.sl s (.ow id ver sz l.length),pt st.hp id (.own v z (List.map sh l)),st.nx⟩
  |_=>False
 | .oe id _ _ _ _=>match lkb st.hp id with
  |some (.own v z xs)=>∃l:List α,List.map sh l=xs∧K ⟨st.n,st.sl,pt st.hp id (.own v z (List.map sh l)),st.nx⟩
  |_=>False
 | .tup []=>K st
 | .undef=>K st
 |v=>∃x:α,LeV v (sh x)∧K ⟨st.n,pt st.sl s (sh x),st.hp,st.nx⟩
theorem Rv{st:St}{s:Nat}{x y:AV}(h:st.get s=x)(e:y=x):St.Same ⟨st.n,pt st.sl s y,st.hp,st.nx⟩ st where
 n:=rfl
 nx:=rfl
 get k:=by
  show lk .undef (pt st.sl s y) k=_;rw[D9];split;·rename_i e2;subst e2;rw[e,h]
  ·rfl
 hp:=rfl
theorem Q1q{st:St}{id:Nat}{b b':Box}(h:lkb st.hp id=some b)(e:b'=b):St.Same ⟨st.n,st.sl,pt st.hp id b',st.nx⟩ st where
 n:=rfl
 nx:=rfl
 get k:=rfl
 hp:=by
  show lkb (pt st.hp id b')=_;rw[QI];funext j;unfold updF;split;·rename_i e2;subst e2;rw[e,h]
  ·rfl
theorem St.Same.trans{a b c:St}(h:St.Same a b)(k:St.Same b c):St.Same a c:=⟨h.n.trans k.n,h.nx.trans k.nx,fun i=>(h.get i).trans (k.get i),h.hp.trans k.hp⟩
structure St.Tell (gl:Nat→AV) (s t:St):Prop where
 n:s.n=t.n
 rel:∀(m:Nat→Lc) (H:HV) (B:Nat→Prop) (H0:HV) (rest:List (AV×Value)) (tmps:Array Value) (w:World),RelS m H B H0 gl rest t tmps w→RelS m H B H0 gl rest s tmps w
theorem St.Tell.refl(gl:Nat→AV)(s:St):St.Tell gl s s:=⟨rfl,fun _ _ _ _ _ _ _ h=>h⟩
theorem St.Tell.trans{gl:Nat→AV}{a b c:St}(h:St.Tell gl a b)(k:St.Tell gl b c):St.Tell gl a c:=⟨h.n.trans k.n,fun _ _ _ _ _ _ _ r=>h.rel _ _ _ _ _ _ _ (k.rel _ _ _ _ _ _ _ r)⟩
theorem RelS.same{m:Nat→Lc}{H:HV}{B:Nat→Prop}{H0:HV}{gl:Nat→AV}{rest:List (AV×Value)}{s t:St}{tmps:Array Value}{w:World}(h:RelS m H B H0 gl rest t tmps w)(e:St.Same s t):RelS m H B H0 gl rest s tmps w:=by
 have he:s.env m=t.env m:=by show Q8 (lkb s.hp) m=Q8 (lkb t.hp) m;rw[e.hp]
 refine⟨?_,?_,fun k=> ?_,fun p hp=> ?_⟩
 ·rw[e.hp,e.nx];exact h.heap
 ·rw[e.n];exact h.size
 ·rw[he,e.get];exact h.slot k
 ·rw[he];exact h.rest p hp
theorem St.Same.tell{gl:Nat→AV}{s t:St}(e:St.Same s t):St.Tell gl s t:=⟨e.n,fun _ _ _ _ _ _ _ h=>h.same e⟩
theorem tell_le{gl:Nat→AV}{st:St}{s:Nat}{x y:AV}(h:st.get s=x)(e:LeV x y):St.Tell gl ⟨st.n,pt st.sl s y,st.hp,st.nx⟩ st where
 n:=rfl
 rel m H B H0 rest tmps w r:=by
  refine⟨r.heap,r.size,fun k=> ?_,r.rest⟩
  show RV H (st.env m) (lk .undef (pt st.sl s y) k) _;rw[D9];split;·rename_i e2;subst e2;exact e.ok _ _ _ (h▸r.slot _)
  ·exact r.slot k
theorem Q26{gl:Nat→AV}{α:Type}{sh:α→AV}{s:Nat}{st:St}{K:St→Prop}(h:wnrm sh s st K):∃st',K st'∧St.Tell gl st' st:=by
 unfold wnrm at h;split at h;·rename_i k m hx;obtain⟨n,rfl,h⟩:=h;exact⟨_,h,(Rv hx rfl).tell⟩
 ·rename_i t hx;obtain⟨n,rfl,h⟩:=h;exact⟨_,h,(Rv hx rfl).tell⟩
 ·rename_i t hx;obtain⟨n,rfl,h⟩:=h;exact⟨_,h,(Rv hx rfl).tell⟩
 ·rename_i id ver sz len hx;split at h
  ·rename_i v z xs a4;obtain⟨l,⟨rfl,rfl⟩,h⟩:=h;exact⟨_,h,((Q1q (st:=⟨st.n,pt st.sl s _,st.hp,st.nx⟩) a4 rfl).trans (Rv hx rfl)).tell⟩
  ·cases h
 ·rename_i id _ _ _ _ hx;split at h
  ·rename_i v z xs a4;obtain⟨l,rfl,h⟩:=h;exact⟨_,h,(Q1q a4 rfl).tell⟩
  ·cases h
 ·exact⟨_,h,.refl _ _⟩
 ·exact⟨_,h,.refl _ _⟩
 ·rename_i v _ _ hx;obtain⟨x,a5,h⟩:=h;exact⟨_,h,tell_le rfl a5⟩
def wfill{α:Type}(sh:α→AV)(s:Nat)(st:St)(K:St→Prop):Prop:=
 match st.get s with
 | .ow id _ _ _=>match lkb st.hp id with
  |some (.hol v z xs i c r)=>match r with
   | .ow id2 v2 z2 len=>match lkb st.hp id2 with
    |some (.own v' z' ys)=>match Nat.beq v' v2&&Nat.beq z' z2 with
     |true=>len=ys.length∧∃x:α,xs[i]? =some (sh x)∧∃l:List α,List.map sh l=xs.set i (putE c 1 z (sh x) (.sl z' ys))∧K ⟨st.n,st.sl,pt (pt st.hp id2 (.own (v'+4096) z' [])) id (.own v z (List.map sh l)),st.nx⟩
     |false=>False
    |_=>False
   |_=>False
  |_=>False
 |_=>False
theorem Q6b{gl:Nat→AV}{α:Type}{sh:α→AV}{s:Nat}{st:St}{K:St→Prop}(h:wfill sh s st K):∃st',Conv gl st st'∧K st':=by
 unfold wfill at h;split at h
 ·split at h
  ·rename_i v z xs i c r a5;split at h
   ·rename_i a6 v2 z2 len;split at h
    ·rename_i v' z' ys a3;split at h
     ·rename_i hc;rw[Bool.and_eq_true] at hc;obtain rfl:=Nat.eq_of_beq_eq_true hc.1;obtain rfl:=Nat.eq_of_beq_eq_true hc.2;obtain⟨hl,x,hx,l,he,hK⟩:=h;refine⟨_,?_,hK⟩;rw[he];exact Q3t _ v z i c a6 _ _ len xs ys (sh x) a5 a3 hl hx
     ·cases h
    ·cases h
   ·cases h
  ·cases h
 ·cases h
def inner:Option Hint→Option Hint
 |some (.n _ _ h)=>h
 |some (.z _ h)=>match h with
  |some (.n _ _ h)=>h
  |h=>h
 |h=>h
def outer:Option Hint→Option Hint
 |some (.z _ h)=>h
 |h=>h
def A3(hs:Zg):List Oper→St→(St→Prop)→Prop
 | [],st,K=>K st
 |o::l,st,K=>match outer (lkH hs (Pw o.dst o.op)) with
  |some (.n sh s _)=>wnrm sh s st (fun st=>A3 hs l st K)
  |_=>A3 hs l st K
theorem S4{gl:Nat→AV}{hs:Zg}:∀ {l:List Oper} {st:St} {K:St→Prop},A3 hs l st K→∃st',K st'∧St.Tell gl st' st
 | [],st,K,h=>⟨st,h,.refl _ _⟩
 |o::l,st,K,h=>by
  simp only[A3] at h;split at h
  ·obtain⟨s1,h1,e1⟩:=Q26 (gl:=gl) h;obtain⟨s2,h2,e2⟩:=S4 (gl:=gl) h1;exact⟨s2,h2,e2.trans e1⟩
  ·exact S4 h
end HY
end
section
namespace HY
open Go Go.RowKit
def wopt(x:Option Res)(K:Res→Prop):Prop:=
 match x with
 |some y=>K y
 |none=>False
def wrow(bid:Nat)(K:Res→Prop)(r:AV)(bt:List Box):Prop:=match r with
 | .ow id ver sz len=>match bt with
  | [.own v z xs]=>match Nat.beq id 0&& (Nat.beq v ver&&Nat.beq z sz) with
   |true=>xs.all immE=true∧K (.ow bid 0 sz len,some (bid,.own 0 sz xs))
   |false=>False
  |_=>False
 |_=>wopt (GP true bid (some (r,hpOf 0 bt,bt.length))) K
def EZ(P:Program)(gl:Nat→AV)(bid f:Nat)(h:Hint)(K:Res→Prop)(a3:Bool)(ts:List AV):Prop:=
 match h with
 | .cc r=>Pu P gl f ts r∧wopt (GP a3 bid (some (r,.nil,0))) K
 | .c sh=>∃x,Pu P gl f ts (sh x)∧wopt (GP a3 bid (some (sh x,.nil,0))) K
 | .cb=>∃u,Pu P gl f ts (.bool u)∧(u=true→K (.bool true,none))∧(u=false→K (.bool false,none))
 | .h _ r bt=>∃x,PuH P gl f ts [] (r x) (bt x)∧(match a3 with
  |false=>wopt (GP false bid (some (r x,hpOf 0 (bt x),(bt x).length))) K
  |true=>wrow bid K (r x) (bt x))
 |_=>False
def wans(hp:Hp)(args:List AV)(K:Bool→List AV→Prop):Prop:=
 match optL (tree (fun _=>none) false 12) args with
 |some ts=>K false ts
 |none=>ME (Lf hp 12) args (K true)
def wansD(hp:Hp)(args:List AV)(K:Bool→List AV→Prop):Prop:=
 match optL (tree (fun _=>none) false 12) args with
 |some ts=>K false ts
 |none=>match optL (tree hp false 12) args with
  |some ts=>K true ts
  |none=>False
def wcall(P:Program)(gl:Nat→AV)(ch0:Qo)(hp:Hp)(bid f:Nat)(args:List AV)(h:Option Hint)(K:Res→Prop):Prop:=
 match h with
 |none=>wopt (Ca ch0 hp bid f args) K
 |some h=>wansD hp args (EZ P gl bid f h K)
open Classical in
noncomputable def once(f:Nat)(ts:List AV)(x:AV×Tr Box×Nat):Qo:=fun f' a' h' n'=>if f'=f∧a'=ts∧h'= .nil∧n'=0 then some x else none
def R8(P:Program)(gl:Nat→AV)(ch:Qo):Prop:=∀f ts r hp' nx',ch f ts .nil 0=some (r,hp',nx')→Jc P gl f ts r hp' nx'
section
variable {P : Program} {gl : Nat → AV}
theorem Ro{f:Nat}{ts:List AV}{r:AV}{hp':Tr Box}{nx':Nat}(h:Jc P gl f ts r hp' nx'):R8 P gl (once f ts (r,hp',nx')):=by
 intro f' a' r' h2 n2 hk;unfold once at hk;split at hk
 ·rename_i hc;obtain⟨rfl,rfl,_,_⟩:=hc;cases hk;exact h
 ·cases hk
theorem Rn{f:Nat}{ts:List AV}{x:AV×Tr Box×Nat}:once f ts x f ts .nil 0=some x:=by
 unfold once;rw[if_pos ⟨rfl,rfl,rfl,rfl⟩]
theorem R0{bid f:Nat}{h:Hint}{K:Res→Prop}{a3:Bool}{ts:List AV}(hw:EZ P gl bid f h K a3 ts):∃ch x,R8 P gl ch∧GP a3 bid (ch f ts .nil 0)=some x∧K x:=by
 have a5:∀ {o:Option Res},wopt o K→∃x,o=some x∧K x:=fun {o} ho=>by
  unfold wopt at ho;split at ho;·exact⟨_,rfl,ho⟩
  ·cases ho
 unfold EZ at hw;split at hw
 ·rename_i r;obtain⟨x,hx,hK⟩:=a5 hw.2;exact⟨once f ts (r,.nil,0),x,Ro hw.1.ok,by rw[Rn];exact hx,hK⟩
 ·rename_i sh;obtain⟨y,hp,hw⟩:=hw;obtain⟨x,hx,hK⟩:=a5 hw;exact⟨once f ts (sh y,.nil,0),x,Ro hp.ok,by rw[Rn];exact hx,hK⟩
 ·obtain⟨u,hp,h1,h2⟩:=hw;refine⟨once f ts (.bool u,.nil,0),(.bool u,none),Ro hp.ok,by rw[Rn];rfl,?_⟩
  cases u with
  |true=>exact h1 rfl
  |false=>exact h2 rfl
 ·rename_i kb τ r bt;obtain⟨y,hp,hw⟩:=hw;have go:∃x,GP a3 bid (some (r y,hpOf 0 (bt y),(bt y).length))=some x∧K x:=by
   cases a3 with
   |false=>exact a5 hw
   |true=>
    simp only[wrow] at hw;split at hw
    ·rename_i id ver sz len hr;split at hw
     ·rename_i v z xs hb;split at hw
      ·rename_i hc;rw[Bool.and_eq_true,Bool.and_eq_true] at hc;obtain rfl:=Nat.eq_of_beq_eq_true hc.1;rw[hr,hb];refine⟨_,?_,hw.2⟩;have h0:lkb (hpOf 0 [Box.own v z xs]) 0=some (.own v z xs):=rfl;simp only[GP,h0,hc.2.1,hc.2.2,hw.1];rfl
      ·cases hw
     ·cases hw
    ·exact a5 hw
  obtain⟨x,hx,hK⟩:=go;exact⟨once f ts (r y,hpOf 0 (bt y),(bt y).length),x,Ro hp.zero,by rw[Rn];exact hx,hK⟩
 ·cases hw
theorem Q6a{ch0:Qo}(h0:ch0.Ok P gl){hp:Hp}{bid f:Nat}{args:List AV}{h:Option Hint}{K:Res→Prop}(hw:wcall P gl ch0 hp bid f args h K):∃ch x,R8 P gl ch∧Ca ch hp bid f args=some x∧K x:=by
 unfold wcall at hw;split at hw
 ·unfold wopt at hw;split at hw
  ·rename_i r hr;exact⟨ch0,r,fun _ _ _ _ _ hk=>(h0 _ _ _ _ _ _ _ hk).zero,hr,hw⟩
  ·cases hw
 ·rename_i h;unfold wansD at hw;split at hw
  ·rename_i ts a4;obtain⟨ch,x,h1,h2,h3⟩:=R0 hw;exact⟨ch,x,h1,by unfold Ca;rw[a4];exact h2,h3⟩
  ·rename_i a8;split at hw
   ·rename_i ts a4;obtain⟨ch,x,h1,h2,h3⟩:=R0 hw;exact⟨ch,x,h1,by unfold Ca;rw[a8];simp only[a4];exact h2,h3⟩
   ·cases hw
end
def wo(P:Program)(gl:Nat→AV)(ch0:Qo)(hs:Zg)(bid:Nat)(dst:Option Nat)(op:Op)(ev:Operand→AV)(hp:Hp)(K:Res→Prop):Prop:=
 match JZ op with
 |true=>match YN ev op with
  |some (f,args)=>wcall P gl ch0 hp bid f args (inner (lkH hs (Pw dst op))) K
  |none=>False
 |false=>wask P bid dst op ev hp (inner (lkH hs (Pw dst op))) K
def A8(P:Program)(gl:Nat→AV)(ch0:Qo)(hs:Zg)(sd:Bool)(bid:Nat)(o:Oper)(gv:Option AV)(st:St)(K:St→Prop):Prop:=
 match Z4 o.dst st.n&& (lkb st.hp bid).isNone&&Nat.blt bid st.nx with
 |true=>match NB o gv with
  |some true=>match sd with
    |true=>match RC P bid o.op with
     |some r=>K (st.eff o.dst r)
     |none=>False
    |false=>wo P gl ch0 hs bid o.dst o.op (st.ev gl) (lkb st.hp) (fun r=>K (st.eff o.dst r))
  |some false=>K (st.eff o.dst (.tup [],none))
  |none=>False
 |false=>False
def PG(P:Program)(gl:Nat→AV)(ch0:Qo)(hs:Zg)(all:List Oper)(base:Nat):List Nat→St→(St→Prop)→Prop
 | [],st,K=>K st
 |i::l,st,K=>match all[i]? with
  |some o=>A8 P gl ch0 hs false (base+i) o (gval all o st) st (fun s=>PG P gl ch0 hs all base l s K)
  |none=>False
def PI(P:Program)(gl:Nat→AV)(ch0:Qo)(hs:Zg)(all:List Oper)(base:Nat):List Nat→Zt→St→(St→Prop)→Prop
 | [],_,st,K=>K st
 |i::l,F,st,K=>match all[i]? with
  |some o=>match CN all o (gval all o st) (st.ev gl) with
   |ft=>match okF F all base i (hk o.op) ft with
    |true=>A8 P gl ch0 hs (seed all o) (base+i) o (gval all o st) st (fun s=>PI P gl ch0 hs all base l (updT F (base+i) ft) s K)
    |false=>False
  |none=>False
def wrunR(P:Program)(gl:Nat→AV)(ch0:Qo)(hs:Zg)(all:List Oper)(base:Nat)(n:Nat)(st:St)(K:St→Prop):Prop:=
 match mdR all with
 |true=>PI P gl ch0 hs all base (List.range n) (fun _=>none) st K
 |false=>PG P gl ch0 hs all base (List.range n) st K
section
variable {P : Program} {gl : Nat → AV} {ch0 : Qo} {hs : Zg}
theorem wo_ok(h0:ch0.Ok P gl){bid:Nat}{dst:Option Nat}{op:Op}{ev:Operand→AV}{hp:Hp}{K:Res→Prop}(hw:wo P gl ch0 hs bid dst op ev hp K):
  ∃ch x,R8 P gl ch∧K x∧∀cb:YW,cb bid=ch→xo P cb bid dst op ev hp=some x:=by
 unfold wo at hw;split at hw
 ·rename_i hc;split at hw
  ·rename_i f args hf;obtain⟨ch,x,h1,h2,h3⟩:=Q6a h0 hw;refine⟨ch,x,h1,h3,fun cb he=> ?_⟩
   unfold xo;rw[if_pos hc,hf];simp only[he,h2]
  ·cases hw
 ·rename_i hc;obtain⟨x,h1,h2⟩:=Q21 hw;refine⟨ch0,x,fun _ _ _ _ _ hk=>(h0 _ _ _ _ _ _ _ hk).zero,h2,fun cb he=> ?_⟩
  unfold xo;rw[if_neg (by rw[hc];simp)]
  exact h1
theorem Q09{F:Zt}{all:List Oper}{bid:Nat}{o:Oper}{gv:Option AV}{ev:Operand→AV}(hg:NB o gv=some true)(h:F bid=CN all o gv ev):Wp true F bid o ev=true:=by
 have:CN all o gv ev=foot o.op ev:=by
  unfold NB at hg;unfold CN;cases ho:o.guard with
  |none=>rfl
  |some x=>
   obtain⟨j,a4⟩:=x;rw[ho] at hg;cases gv with
   |none=>cases hg
   |some v=>simp only at hg ⊢;rw[hg]
 unfold Wp;rw[h,this];cases hf:foot o.op ev with
 |none=>rfl
 |some l=>simp
theorem Fy(h0:ch0.Ok P gl){md:Bool}{F:Zt}{all:List Oper}{bid:Nat}{o:Oper}{st:St}{K:St→Prop}{sd:Bool}(a5:sd=(md&&seed all o))(hF:md=true→F bid=CN all o (gval all o st) (st.ev gl))(hw:A8 P gl ch0 hs sd bid o (gval all o st) st K):
  ∃ch s,R8 P gl ch∧K s∧∀cb:YW,cb bid=ch→XN P gl cb md F all bid o st=some s:=by
 unfold A8 at hw;split at hw
 ·rename_i hc;split at hw
  ·rename_i hg;have hf:Wp md F bid o (st.ev gl)=true:=by
    cases md with
    |false=>rfl
    |true=>exact Q09 hg (hF rfl)
   split at hw
   ·split at hw
    ·rename_i r hr;refine⟨ch0,_,fun _ _ _ _ _ hk=>(h0 _ _ _ _ _ _ _ hk).zero,hw,fun cb he=> ?_⟩
     rw[Vl,IA,if_pos hc,hg];simp only[xoF,hf,← a5,hr]
    ·cases hw
   ·obtain⟨ch,x,h1,h2,h3⟩:=wo_ok h0 hw;refine⟨ch,_,h1,h2,fun cb he=> ?_⟩
    rw[Vl,IA,if_pos hc,hg];simp only[xoF,hf,← a5,h3 cb he]
  ·rename_i hg;refine⟨ch0,_,fun _ _ _ _ _ hk=>(h0 _ _ _ _ _ _ _ hk).zero,hw,fun cb he=> ?_⟩
   rw[Vl,IA,if_pos hc,hg]
  ·cases hw
 ·cases hw
theorem Q0z{ch:Qo}{cb:YW}{i base:Nat}(h1:R8 P gl ch)(h4:cb.Ok P gl):YW.Ok P gl (fun b=>if b=base+i then ch else cb b):=fun b f ts r hp' nx' hk=>by
 dsimp only at hk;split at hk;·exact h1 _ _ _ _ _ hk
 ·exact h4 _ _ _ _ _ _ hk
theorem BC(h0:ch0.Ok P gl){F:Zt}{all:List Oper}{base:Nat}{K:St→Prop}:∀(l:List Nat) (st:St),l.Nodup→PG P gl ch0 hs all base l st K→
  ∃(cb:YW) (s:St),cb.Ok P gl∧K s∧∀a3:YW,(∀i∈l,a3 (base+i)=cb (base+i))→runI P gl a3 false F all base l st=some s
 | [],st,_,hw=>⟨fun _=>ch0,st,Mu h0,hw,fun _ _=>rfl⟩
 |i::l,st,hn,hw=>by
  simp only[PG] at hw;split at hw
  ·rename_i o ho;obtain⟨ch,s1,h1,h2,h3⟩:=Fy h0 (F:=F) (md:=false) rfl nofun hw;obtain⟨cb,s,h4,h5,h6⟩:=BC h0 l s1 (List.nodup_cons.1 hn).2 h2;refine⟨fun b=>if b=base+i then ch else cb b,s,Q0z h1 h4,h5,fun a3 he=> ?_⟩
   ·simp only[runI,ho];rw[h3 a3 (by rw[he i List.mem_cons_self];simp)]
    refine h6 a3 fun j hj=> ?_
    rw[he j (List.mem_cons_of_mem _ hj)];have:j≠i:=fun e=>(List.nodup_cons.1 hn).1 (e▸hj)
    show(if base+j=base+i then ch else cb (base+j))=_
    rw[if_neg (by omega)]
  ·cases hw
theorem BD(h0:ch0.Ok P gl){all:List Oper}{base:Nat}{K:St→Prop}:∀(n k:Nat) (F:Zt) (st:St),PI P gl ch0 hs all base (List.range' k n) F st K→
  ∃(cb:YW) (G:Zt) (s:St),cb.Ok P gl∧K s∧(∀j,j<k→G (base+j)=F (base+j))∧(∀a3:YW,(∀i∈List.range' k n,a3 (base+i)=cb (base+i))→runI P gl a3 true G all base (List.range' k n) st=some s)∧
   ∀i j o p,i<j→k≤j→j<k+n→all[i]? =some o→all[j]? =some p→hkCl (hk o.op) (hk p.op)=true→Id (G (base+i)) (G (base+j))=true∨((YD all []).getD j 0).testBit i=true
 |0,k,F,st,hw=>⟨fun _=>ch0,F,st,Mu h0,hw,fun _ _=>rfl,fun _ _=>rfl,fun i j o p h1 h2 h3=>by omega⟩
 |n+1,k,F,st,hw=>by
  simp only[List.range'_succ,PI] at hw;split at hw
  ·rename_i o ho;split at hw
   ·rename_i a8;obtain⟨ch,s1,h1,h2,h3⟩:=Fy h0 (F:=updT F (base+k) (CN all o (gval all o st) (st.ev gl))) (md:=true) (all:=all) (by simp) (fun _=>IY) hw
    obtain⟨cb,G,s,h4,h5,h6,h7,h8⟩:=BD h0 n (k+1) _ s1 h2;have hk:G (base+k)=CN all o (gval all o st) (st.ev gl):=by rw[h6 k (by omega),IY]
    have a4:∀j,j<k→G (base+j)=F (base+j):=fun j hj=>by rw[h6 j (by omega),Q20 (by omega)]
    refine⟨fun b=>if b=base+k then ch else cb b,G,s,Q0z h1 h4,h5,a4,fun a3 he=> ?_,fun i j o' p h9 ah ai a5 hp hc=> ?_⟩
    ·simp only[List.range'_succ,runI,ho];rw[BU (G:=updT F (base+k) (CN all o (gval all o st) (st.ev gl))) (by rw[hk,IY]),h3 a3 (by rw[he k (by simp[List.range'_succ])];simp)]
     refine h7 a3 fun j hj=> ?_
     rw[he j (by rw[List.range'_succ];exact List.mem_cons_of_mem _ hj)]
     have:j≠k:=by have:=(List.mem_range'_1.1 hj).1;omega
     show(if base+j=base+k then ch else cb (base+j))=_
     rw[if_neg (by omega)]
    ·by_cases e:j=k
     ·subst e;rw[ho] at hp;cases hp;exact OT a8 a4 hk i o' h9 a5 hc
     ·exact h8 i j o' p h9 (by omega) (by omega) a5 hp hc
   ·cases hw
  ·cases hw
theorem Q6c(h0:ch0.Ok P gl){all:List Oper}{base n:Nat}{st:St}{K:St→Prop}(hw:wrunR P gl ch0 hs all base n st K):
  ∃(cb:YW) (F:Zt) (s:St),cb.Ok P gl∧K s∧runI P gl cb (mdR all) F all base (List.range n) st=some s∧(mdR all=true→Hn F all base n):=by
 unfold wrunR at hw;split at hw
 ·rename_i hm;rw[List.range_eq_range'] at hw ⊢;obtain⟨cb,G,s,h4,h5,h6,h7,h8⟩:=BD h0 n 0 _ st hw;exact⟨cb,G,s,h4,h5,by rw[hm];exact h7 cb fun _ _=>rfl,fun _ i j o p h1 h2=>h8 i j o p h1 (Nat.zero_le _) (by omega)⟩
 ·rename_i hm;obtain⟨cb,s,h4,h5,h6⟩:=BC h0 (F:=fun _=>none) _ _ List.nodup_range hw
  exact⟨cb,_,s,h4,h5,by rw[hm];exact h6 cb fun _ _=>rfl,fun e=>by rw[hm] at e;cases e⟩
end
abbrev WF:=Nat→Zg→List AV→Tr Box→Nat→(AV→Tr Box→Nat→Prop)→Prop
def CallW(P:Program)(gl:Nat→AV)(f:FuncId)(args:List AV)(hp:Tr Box)(nx:Nat)(K:AV→Tr Box→Nat→Prop):Prop:=
 ∀(m:Nat→Lc) (H:HV) (B:Nat→Prop) (H0:HV) (rest:List (AV×Value)) (w:World) (vs:Array Value),RelH m H B H0 gl (lkb hp) nx w→args.length=vs.size→
  (∀(j:Nat) (x:AV) (v:Value),args[j]? =some x→vs[j]? =some v→RV H (Q8 (lkb hp) m) x v)→(∀p∈rest,RV H (Q8 (lkb hp) m) p.1 p.2)→
  Ans P f vs w fun e w'=>∃v m' H' r hp' nx',K r hp' nx'∧e= .returned v∧Qd B w w'∧RelH m' H' B H0 gl (lkb hp') nx' w'∧RV H' (Q8 (lkb hp') m') r v∧∀p∈rest,RV H' (Q8 (lkb hp') m') p.1 p.2
def WF.Ok(P:Program)(gl:Nat→AV)(wf:WF):Prop:=∀f hs args hp nx K,wf f hs args hp nx K→CallW P gl f args hp nx K
def Bz(P:Program)(gl:Nat→AV)(bid f:Nat)(h:Hint)(K:Res→Prop)(a3:Bool)(ts:List AV):Prop:=
 match a3 with
 |true=>EZ P gl bid f h K true ts
 |false=>match h with
  | .cc r=>Pu P gl f ts r∧K (r,none)
  | .c sh=>∃x,Pu P gl f ts (sh x)∧K (sh x,none)
  | .cb=>∃u,Pu P gl f ts (.bool u)∧(u=true→K (.bool true,none))∧(u=false→K (.bool false,none))
  |_=>False
def wseqC(P:Program)(gl:Nat→AV)(ch0:Qo)(wf:WF)(o:Oper)(st:St)(K:St→Prop)(f:Nat)(args:List AV)(h:Option Hint):Prop:=
 match h with
 |none=>match ch0 f args st.hp st.nx with
  |some (r,hp',nx')=>K ((st.setHp hp' nx').putO o.dst r)
  |none=>False
 |some h=>match h with
  | .i sub=>wf f sub args st.hp st.nx (fun r hp' nx'=>K ((st.setHp hp' nx').putO o.dst r))
  | .h kb r bs=>PC kb args st.hp st.nx (fun a3 a4 ids sc=>∃x,PuH P gl f a3 a4 (r x) (bs x)∧A1 ids sc (bs x) (r x) (fun rr hp' nx'=>K ((st.setHp hp' nx').putO o.dst rr)))
  | .hb kb bs=>PC kb args st.hp st.nx (fun a3 a4 ids sc=>∃x u,PuH P gl f a3 a4 (.bool u) (bs x)∧(u=true→A1 ids sc (bs x) (.bool true) (fun rr hp' nx'=>K ((st.setHp hp' nx').putO o.dst rr)))∧(u=false→A1 ids sc (bs x) (.bool false) (fun rr hp' nx'=>K ((st.setHp hp' nx').putO o.dst rr))))
  |h=>wans (lkb st.hp) args (Bz P gl st.nx f h (fun r=>K ((st.bump 1).eff o.dst r)))
def wown(P:Program)(dst:Option Nat)(op:Op)(ev:Operand→AV)(st:St)(K:St→Prop):Prop:=
 match op with
 | .call c=>match c.callee with
  | .builtin .append=>match c.argTypes.toList,c.args.toList.map ev with
   | [t,t'],[s,x]=>match elG P t with
    |some (sz,by_,_)=>match Ps s&&Nat.beq t' t with
     |true=>wels sz x (lkb st.hp) (fun ys=>(ys.length*by_≤140737488355328∧ys.length≤9223372036854775807)∧K (St.eff ⟨st.n,st.sl,pt st.hp st.nx (.own 0 sz []),st.nx+1⟩ dst (.ow st.nx 4096 sz ys.length,some (st.nx,.own 4096 sz ys))))
     |false=>False
    |none=>False
   |_,_=>False
  |_=>False
 |_=>False
def wnil(P:Program)(dst:Option Nat)(op:Op)(ev:Operand→AV)(st:St)(K:St→Prop):Prop:=
 match op with
 | .binOp o t x y _=>match ev x with
  | .sl _ xs=>match ev y with
   | .nil=>match Rg P t with
    |true=>match o with
     | .eql=>(xs=[]→K (st.putO dst (.bool true)))∧K (st.putO dst (.bool false))
     | .neq=>(xs=[]→K (st.putO dst (.bool false)))∧K (st.putO dst (.bool true))
     |_=>False
    |false=>False
   |_=>False
  |_=>False
 |_=>False
def A7(P:Program)(gl:Nat→AV)(ch0:Qo)(wf:WF)(o:Oper)(st:St)(K:St→Prop)(h:Option Hint):Prop:=
 match JZ o.op with
 |true=>match YN (st.ev gl) o.op with
  |some (f,args)=>wseqC P gl ch0 wf o st K f args h
  |none=>False
 |false=>match h with
  |some .o=>wown P o.dst o.op (st.ev gl) st K
  |some .nn=>wnil P o.dst o.op (st.ev gl) st K
  |h=>wask P st.nx o.dst o.op (st.ev gl) (lkb st.hp) h (fun r=>match r with
   | (v,some b)=>K ((st.bump 1).eff o.dst (v,some b))
   | (v,none)=>K (st.putO o.dst v))
def A6(P:Program)(gl:Nat→AV)(ch0:Qo)(wf:WF)(o:Oper)(st:St)(K:St→Prop)(h:Option Hint):Prop:=
 match h with
 |some (.n sh s h)=>A7 P gl ch0 wf o st (fun st=>wnrm sh s st K) h
 |h=>A7 P gl ch0 wf o st K h
def Ry(P:Program)(gl:Nat→AV)(ch0:Qo)(wf:WF)(hs:Zg)(o:Oper)(st:St)(K:St→Prop):Prop:=
 match lkH hs (Pw o.dst o.op) with
 |some (.z kb h)=>Vk kb st (fun s=>A6 P gl ch0 wf o s K h)
 |some (.fl sh s h)=>wfill sh s st (fun s=>A6 P gl ch0 wf o s K h)
 |h=>A6 P gl ch0 wf o st K h
def wseq(P:Program)(gl:Nat→AV)(ch0:Qo)(wf:WF)(hs:Zg)(all:List Oper):List Oper→St→(St→Prop)→Prop
 | [],st,K=>K st
 |o::l,st,K=>match Z4 o.dst st.n with
  |true=>match NB o (gval all o st) with
   |some true=>Ry P gl ch0 wf hs o st (fun s=>wseq P gl ch0 wf hs all l s K)
   |some false=>wseq P gl ch0 wf hs all l (st.putO o.dst (.tup [])) K
   |none=>False
  |false=>False
def L5(P:Program)(r:Option Nat)(n:Nat)(B:Nat→Prop)(H0:HV)(gl:Nat→AV)(rest:List (AV×Value))(a:Act)(w:World)(o:Oper)(K:St→Prop):Prop:=
 ∀(next:Act→World→Prop) (Q:Exit→Act→World→Prop),
  (∀a' w' m' H' st',K st'→a'.defers=a.defers→Qd B w w'→RelS m' H' B H0 gl rest st' a'.tmps w'→next a' w')→o.wpIn (FW r) n P a w next Q
section
variable {P : Program} {gl : Nat → AV} {ch0 : Qo} {hs : Zg} {wf : WF} {m : Nat → Lc} {H : HV} {B : Nat → Prop} {H0 : HV} {rest : List (AV × Value)} {st : St} {a : Act} {w : World}
theorem GF.toW{ro:Option Nat}{n:Nat}{o:Oper}{st':St}{K:St→Prop}(h:GF P ro n B H0 gl rest a w o st')(hk:K st'):L5 P ro n B H0 gl rest a w o K:=
 fun next Q hn=>h next Q fun a' w' m' H' hd hb hr=>hn a' w' m' H' st' hk hd hb hr
theorem CZ(h:RelS m H B H0 gl rest st a.tmps w){o:Oper}{f:Nat}{args:List AV}(hc:YN (st.ev gl) o.op=some (f,args)){K:St→Prop}(ro:Option Nat)(n:Nat)
  (a4:∀vs:Array Value,args.length=vs.size→(∀(j:Nat) (x:AV) (v:Value),args[j]? =some x→vs[j]? =some v→RV H (st.env m) x v)→
   Ans P f vs w fun e w'=>∃st' v m' H',K st'∧e= .returned v∧Qd B w w'∧RelS m' H' B H0 gl rest st' (a.put o.dst v).tmps w'):L5 P ro n B H0 gl rest a w o K:=by
 intro next Q hn;obtain⟨vs,a6,hl,hr⟩:=TE h hc;obtain⟨c,x,a8,ho,_⟩:=Dz hc;refine⟨fun _ _=>trivial,?_⟩
 rw[Oper.semAt_eq _ _ _ (fun c e=>by rw[ho] at e;cases e),a6]
 rcases a4 vs hl hr with⟨a5,a7⟩ | ⟨v,w',hv,hq⟩
 ·rw[a5 vs w];refine⟨(fun hh=>by simp[FW] at hh),Nx (a7.mono fun e w' hp=> ?_)⟩
  obtain⟨st',v,m',H',hk,rfl,hb,a3⟩:=hp;exact hn _ _ _ _ _ hk (Yd _ _ _) hb a3
 ·rw[hv];obtain⟨st',v',m',H',hk,he,hb,a3⟩:=hq;cases he;exact hn _ _ _ _ _ hk (Yd _ _ _) hb a3
theorem wown_ok(h:RelS m H B H0 gl rest st a.tmps w){o:Oper}(hd:Z4 o.dst st.n=true){K:St→Prop}(hw:wown P o.dst o.op (st.ev gl) st K):∃st',K st'∧OpOk P B H0 gl rest a w o.dst st' (execOp a.eval o)∧∀c,o.op≠ .defer c:=by
 unfold wown at hw;split at hw
 ·rename_i c ho;split at hw
  ·rename_i hb;split at hw
   ·rename_i t t' s x ht hx;split at hw
    ·rename_i sz am zs a8;split at hw
     ·rename_i hc;rw[Bool.and_eq_true] at hc;obtain rfl:=Nat.eq_of_beq_eq_true hc.2;obtain⟨ys,a4,⟨h1,h2⟩,hK⟩:=Q23 hw;refine⟨_,hK,?_,fun c' e=>by rw[ho] at e;cases e⟩
      obtain⟨e,i,z,az,hi,hz,b1,aa,ai,au,ax,rfl⟩:=Dk a8;obtain⟨ac,args,a7⟩:=c;dsimp only at hb;subst hb;obtain⟨y,z,rfl,rfl,rfl⟩:=N1 hx;obtain rfl:=In ht;obtain⟨hN,hE⟩:=h.newOwn sz aa;obtain⟨ad,ae⟩:=ED (h.ev y) hc.1;have hs:RV H (Q8 (lkb (pt st.hp st.nx (.own 0 sz []))) (updF m st.nx ⟨0,0,0⟩)) (.ow st.nx 0 sz 0) (a.eval y):=by rw[ae];exact OV
      have aj:=(h.ev z).mono (.refl _) hE;have a9:=h.heap.fresh st.nx (Nat.le_refl _);have ag:lkb (pt st.hp st.nx (.own 0 sz [])) st.nx=some (.own 0 sz []):=by rw[QI,Qh]
      have ab:xels sz (st.ev gl z) (lkb (pt st.hp st.nx (.own 0 sz [])))=some ys:=by
       revert a4;unfold xels;split;·exact id
       ·rename_i id _ _ _ _ _;intro a4;split at a4
        ·rename_i v cs a3;have a6:id≠st.nx:=fun e=>by subst e;rw[a9] at a3;cases a3
         rw[QI,Qq _ _ a6,a3];exact a4
        ·cases a4
       ·rename_i id _ _ _ _;intro a4;split at a4
        ·rename_i v z' xs a3;have a6:id≠st.nx:=fun e=>by subst e;rw[a9] at a3;cases a3
         rw[QI,Qq _ _ a6,a3];exact a4
        ·cases a4
       ·exact id
       ·exact id
       ·exact id
      have hk:WP P t' t' (.ow st.nx 0 sz 0) (st.ev gl z) (lkb (pt st.hp st.nx (.own 0 sz [])))=some (.ow st.nx 4096 sz ys.length,some (st.nx,.own 4096 sz ys)):=by
       simp only[WP,a8,ag,ab,Nat.beq_refl];simp[h1,h2]
      have ah:=BF (ty:=o.type) (P:=P) (st:=⟨st.n,st.sl,pt st.hp st.nx (.own 0 sz []),st.nx+1⟩) hN hd hs aj hk;unfold execOp;simp only[ho,resolve];simpa only[List.map_toArray,List.map_cons,List.map_nil,invoke,builtin,pure_bind] using ah
     ·cases hw
    ·cases hw
   ·cases hw
  ·cases hw
 ·cases hw
theorem Q5i(d:Nat){t:TypeId}{sz:Nat}{xs:List AV}{u:Value}(hx:RelI H (.sl sz xs) u)(ht:Rg P t=true):∃b,(b=true→xs=[])∧(∃a n c,u= .slice a n c)∧(Op.equalIn (d+1) t u (.slice none 0 0)).run P w= .ok b w:=by
 unfold Rg at ht;split at ht<;>first | cases ht | skip
 rename_i e he;cases hx with
 |sl0 _ a cap _=>exact⟨a.isNone,fun _=>rfl,⟨_,_,_,rfl⟩,by cases a<;>simp[Op.equalIn,run_underlying he]⟩
 |sl=>exact⟨false,(fun e=>by cases e),⟨_,_,_,rfl⟩,by simp[Op.equalIn,run_underlying he]⟩
theorem wnil_ok(h:RelS m H B H0 gl rest st a.tmps w){o:Oper}(hd:Z4 o.dst st.n=true){K:St→Prop}(hw:wnil P o.dst o.op (st.ev gl) st K):∃st',K st'∧OpOk P B H0 gl rest a w o.dst st' (execOp a.eval o)∧∀c,o.op≠ .defer c:=by
 unfold wnil at hw;split at hw
 ·rename_i op t x y p ho;split at hw
  ·rename_i sz xs hx;split at hw
   ·rename_i hy;split at hw
    ·rename_i ht;have a7:=h.ev x;rw[hx] at a7;have a8:=h.ev y;rw[hy] at a8;have a4:=a8.nil_inv;obtain⟨b,hb,⟨ad,n,c,hu⟩,he⟩:=Q5i (P:=P) (w:=w) 9999 a7.sl_inv ht;have hg:∀op,(eqGuard op t x y (a.eval x) (a.eval y)).run P w= .ok () w:=fun op=>by rw[hu,a4];cases op<;>rfl
     have a5:∀c,o.op≠ .defer c:=fun c e=>by rw[ho] at e;cases e
     split at hw
     ·obtain⟨r,h5,h6⟩:=DC (P:=P) (w:=w) (t:=t) (op:=.eql) (u:=.slice ad n c) (v:=.slice none 0 0) (b:=b) (av:=.bool b) rfl (by rw[← hu];exact he) (fun _=>rfl) (fun e=>by cases e)
      refine⟨st.putO o.dst (.bool b),?_,?_,a5⟩
      ·cases b with
       |true=>exact hw.1 (hb rfl)
       |false=>exact hw.2
      ·unfold execOp;simp only[ho];exact OpOk.val h hd (v:=r) (by rw[hu,a4] at hg ⊢;simp[hg,h5]) (.imm _ _ (h6 _))
     ·obtain⟨r,h5,h6⟩:=DC (P:=P) (w:=w) (t:=t) (op:=.neq) (u:=.slice ad n c) (v:=.slice none 0 0) (b:=b) (av:=.bool (!b)) rfl (by rw[← hu];exact he) (fun e=>by cases e) (fun _=>rfl)
      refine⟨st.putO o.dst (.bool (!b)),?_,?_,a5⟩
      ·cases b with
       |true=>exact hw.1 (hb rfl)
       |false=>exact hw.2
      ·unfold execOp;simp only[ho];exact OpOk.val h hd (v:=r) (by rw[hu,a4] at hg ⊢;simp[hg,h5]) (.imm _ _ (h6 _))
     ·cases hw
    ·cases hw
   ·cases hw
  ·cases hw
 ·cases hw
theorem L5.of{ro:Option Nat}{n:Nat}{o:Oper}{K:St→Prop}{st':St}(h:OpOk P B H0 gl rest a w o.dst st' (execOp a.eval o))(a3:∀c,o.op≠ .defer c)(hk:K st'):L5 P ro n B H0 gl rest a w o K:=GF.toW (h.step a3) hk
theorem callees{o:Oper}{f:Nat}{args:List AV}(h:RelS m H B H0 gl rest st a.tmps w)(hd:Z4 o.dst st.n=true){K:St→Prop}{hh:Hint}{vs:Array Value}(hl:args.length=vs.size)(hv:∀(j:Nat) (x:AV) (v:Value),args[j]? =some x→vs[j]? =some v→RV H (st.env m) x v)
  (hw:wans (lkb st.hp) args (Bz P gl st.nx f hh (fun r=>K ((st.bump 1).eff o.dst r)))):Ans P f vs w fun e w'=>∃st' v m' H',K st'∧e= .returned v∧Qd B w w'∧RelS m' H' B H0 gl rest st' (a.put o.dst v).tmps w':=by
 have ah:∀r:AV,(st.bump 1).eff o.dst (r,none)=(st.bump 1).putO o.dst r:=fun _=>rfl
 have a9:∀ts:List AV,ts.length=args.length→(∀(j:Nat) (t:AV) (v:Value),ts[j]? =some t→vs[j]? =some v→RelI (snap H (lkb st.hp) m w) t v)→EZ P gl st.nx f hh (fun r=>K ((st.bump 1).eff o.dst r)) true ts→
   Ans P f vs w fun e w'=>∃st' v m' H',K st'∧e= .returned v∧Qd B w w'∧RelS m' H' B H0 gl rest st' (a.put o.dst v).tmps w':=fun ts a4 a5 ab=>by
  obtain⟨ch,x,h1,h2,h3⟩:=R0 ab;refine(Ai (st:=st.bump 1) h1 (h.bump 1) hd (h.heap.fresh _ (Nat.le_refl _)) (Nat.lt_succ_self _) true (lkb st.hp) ts (fun _ _ hh=>hh) (fun e=>by cases e) (by rw[a4];exact hl) a5 h2).mono fun e w' a3=> ?_
  obtain⟨v,m',H',rfl,hb,hr⟩:=a3;exact⟨_,v,m',H',h3,rfl,hb,hr⟩
 unfold wans at hw;split at hw
 ·rename_i ts a5;obtain⟨aj,ad⟩:=HI (R':=RelI (snap H (fun _=>none) m w)) hl hv a5 fun x t v hx ht=>M5 (H1:=H) false (fun id ver cs hh=>by cases hh) (fun id ver cs hh=>by cases hh) (fun id bx hh=>by cases hh) (fun _=>rfl) 12 x t v hx ht
  have ak:snap H (fun _=>none) m w=H:=by
   funext b o;unfold snap;rw[if_neg];rintro⟨_,_,_,e,_⟩;cases e
  rw[ak] at ad;have a8:∀r,Pu P gl f ts r→K ((st.bump 1).putO o.dst r)→Ans P f vs w fun e w'=>∃st' v m' H',K st'∧e= .returned v∧Qd B w w'∧RelS m' H' B H0 gl rest st' (a.put o.dst v).tmps w':=fun r hp hK=>by
   refine(Q55 (h.bump 1) hd aj ad hp).mono fun e w' a3=> ?_
   obtain⟨v,m',H',rfl,hb,hr⟩:=a3;exact⟨_,v,m',H',hK,rfl,hb,hr⟩
  simp only[Bz] at hw;split at hw;·exact a8 _ hw.1 hw.2
  ·obtain⟨x,hp,hK⟩:=hw;exact a8 _ hp hK
  ·obtain⟨u,hp,h1,h2⟩:=hw;cases u with
   |true=>exact a8 _ hp (h1 rfl)
   |false=>exact a8 _ hp (h2 rfl)
  ·cases hw
 ·obtain⟨ts,ab,a4,a5⟩:=CA (R:=RV H (st.env m)) (R':=RelI (snap H (lkb st.hp) m w)) (fun x u K hx hk=>S1 (fun id b aa=>h.heap.box id b aa) (fun id bx aa hr=>(h.heap.sepR id bx aa hr).2.2) 12 x u K hx hk) args vs.toList _ (by simp[hl]) (fun j c u hc hu=>hv j c u hc (by simpa using hu)) hw
  exact a9 ts a4 (fun j t v ht an=>a5 j t v ht (by simpa using an)) ab
theorem Fx(h0:ch0.Ok P gl)(an:WF.Ok P gl wf)(h:RelS m H B H0 gl rest st a.tmps w){o:Oper}(hd:Z4 o.dst st.n=true){K:St→Prop}{hh:Option Hint}(hw:A7 P gl ch0 wf o st K hh)(ro:Option Nat)(n:Nat):L5 P ro n B H0 gl rest a w o K:=by
 unfold A7 at hw;split at hw
 ·rename_i hc;split at hw
  ·rename_i f args hf;unfold wseqC at hw;split at hw
   ·split at hw
    ·rename_i r hp' nx' hr;refine GF.toW (Ow (ch:=ch0) (rd:=Rm) h0 HF h hd (st':=(st.setHp hp' nx').putO o.dst r) ?_ ro n) hw;unfold xinl;rw[hf];simp only[hr]
    ·cases hw
   ·rename_i hh;split at hw
    ·rename_i sub;refine CZ h hf ro n fun vs hl hv=> ?_
     refine(an _ _ _ _ _ _ hw m H B H0 _ w vs h.heap hl hv h.hold).mono fun e w' aa=> ?_
     obtain⟨v,m',H',r,hp',nx',hk,rfl,hb,hh,am,ab⟩:=aa;exact⟨_,v,m',H',hk,rfl,hb,h.taken hd hh am ab⟩
    ·rename_i kb r bs;refine CZ h hf ro n fun vs hl hv=>Od h hd hl hv (fun a5 ah ids sc hq=> ?_) hw
     obtain⟨x,h1,h2⟩:=hq;exact⟨_,_,h1,h2⟩
    ·rename_i kb bs;refine CZ h hf ro n fun vs hl hv=>Od h hd hl hv (fun a5 ah ids sc hq=> ?_) hw
     obtain⟨x,u,h1,h2,h3⟩:=hq;cases u with
     |true=>exact⟨_,_,h1,h2 rfl⟩
     |false=>exact⟨_,_,h1,h3 rfl⟩
    ·exact CZ h hf ro n fun vs hl hv=>callees h hd hl hv hw
  ·cases hw
 ·rename_i hc;split at hw
  ·obtain⟨st',hK,a9,a8⟩:=wown_ok h hd hw;exact L5.of a9 a8 hK
  ·obtain⟨st',hK,a9,a8⟩:=wnil_ok h hd hw;exact L5.of a9 a8 hK
  ·obtain⟨r,h1,h2⟩:=Q21 hw;obtain⟨v,b⟩:=r;have ae:Qo.Ok P gl (fun _ _ _ _=>none):=fun _ _ _ _ _ _ _ hk=>by cases hk
   cases b with
   |some b=>
    refine GF.toW (HU (ch:=fun _ _ _ _=>none) (rd:=Rm) ae HF h hd (st':=(st.bump 1).eff o.dst (v,some b)) ?_ ro n) h2
    unfold Ip;rw[if_neg (by rw[hc];simp),h1]
   |none=>
    refine GF.toW (HU (ch:=fun _ _ _ _=>none) (rd:=Rm) ae HF h hd (st':=st.putO o.dst v) ?_ ro n) h2
    unfold Ip;rw[if_neg (by rw[hc];simp),h1]
theorem S5(h0:ch0.Ok P gl)(a3:WF.Ok P gl wf)(h:RelS m H B H0 gl rest st a.tmps w){o:Oper}(hd:Z4 o.dst st.n=true){K:St→Prop}{hh:Option Hint}(hw:A6 P gl ch0 wf o st K hh)(ro:Option Nat)(n:Nat):L5 P ro n B H0 gl rest a w o K:=by
 unfold A6 at hw;split at hw
 ·rename_i sh s hh;exact fun next Q hn=>Fx h0 a3 h hd hw ro n next Q fun a' w' m' H' st' hk a5 hb hr=>by
   obtain⟨a6,h2,e2⟩:=Q26 (gl:=gl) hk;exact hn a' w' m' H' a6 h2 a5 hb (e2.rel _ _ _ _ _ _ _ hr)
 ·exact Fx h0 a3 h hd hw ro n
theorem S6(h0:ch0.Ok P gl)(a5:WF.Ok P gl wf)(h:RelS m H B H0 gl rest st a.tmps w){o:Oper}(hd:Z4 o.dst st.n=true){K:St→Prop}(hw:Ry P gl ch0 wf hs o st K)(ro:Option Nat)(n:Nat):L5 P ro n B H0 gl rest a w o K:=by
 unfold Ry at hw;split at hw
 ·rename_i kb hh _;obtain⟨s,a3,hw⟩:=YR (gl:=gl) hw;obtain⟨m1,H1,hr⟩:=a3.2 _ _ _ _ _ _ _ h;exact S5 h0 a5 hr (by rw[a3.1];exact hd) hw ro n
 ·rename_i sh s hh _;obtain⟨s,a3,hw⟩:=Q6b (gl:=gl) hw;obtain⟨m1,H1,hr⟩:=a3.2 _ _ _ _ _ _ _ h;exact S5 h0 a5 hr (by rw[a3.1];exact hd) hw ro n
 ·exact S5 h0 a5 h hd hw ro n
theorem Jk{all:List Oper}{o:Oper}{b:Bool}(h:RelS m H B H0 gl rest st a.tmps w)(hg:NB o (gval all o st)=some b):Region.wanted o (yielded all.toArray a.tmps)=b:=by
 unfold NB gval at hg;cases ho:o.guard with
 |none=>rw[ho] at hg;cases hg;simp[Region.wanted,ho]
 |some x=>
  obtain⟨j,a4⟩:=x;rw[ho] at hg;simp only at hg;cases hgs:NA all j with
  |none=>rw[hgs] at hg;cases hg
  |some g=>
   rw[hgs] at hg;exact MF ho hgs hg (h.slot g)
theorem BE(h0:ch0.Ok P gl)(ak:WF.Ok P gl wf){all:List Oper}(af:DM all=true){nf:Nat}(a8:∀i,nf≤i→i<all.length→∀j,j<i→((YD all []).getD i 0).testBit j=true){ro:Option Nat}{n:Nat}{d0:List Deferred}{w0:World}{K:St→Prop}{Q:Exit→Act→World→Prop}
  (hQ:∀(sF:St) (a:Act) (w:World) (m:Nat→Lc) (H:HV),K sF→a.defers=d0→Qd B w0 w→RelS m H B H0 gl rest sF a.tmps w→Q .normal a w):
  ∀(d k:Nat) (a3:Array Bool) (st:St) (a:Act) (w:World) (m:Nat→Lc) (H:HV),nf≤k→k+d=all.length→a3.size=all.length→(∀j,j<k→a3.getD j false=true)→(∀j,k≤j→a3.getD j false=false)→wseq P gl ch0 wf hs all (all.drop k) st K→a.defers=d0→Qd B w0 w→RelS m H B H0 gl rest st a.tmps w→wpAnyIn (FW ro) n P .any all.toArray Q d a3 a w
 |0,k,a3,st,a,w,m,H,_,hkd,hs',h1,_,hk,hd,hb,hr=>by
  rw[List.drop_eq_nil_of_le (by omega)] at hk
  exact⟨MB hs' fun j hj=>h1 j (by omega),hQ st a w m H hk hd hb hr⟩
 |d+1,k,a3,st,a,w,m,H,hnk,hkd,hs',h1,h2,hk,hd,hb,hr=>by
  have ad:k<all.length:=by omega
  obtain⟨o,ho⟩:∃o,all[k]? =some o:=⟨all[k],List.getElem?_eq_getElem ad⟩;have ab:all.drop k=o::all.drop (k+1):=by
   rw[List.drop_eq_getElem_cons ad];rw[List.getElem?_eq_getElem ad] at ho;cases ho;rfl
  rw[ab] at hk;have ih:=BE h0 ak af a8 (ro:=ro) (n:=n) hQ d (k+1) (a3.setIfInBounds k true);have aa:∀j,j<k+1→(a3.setIfInBounds k true).getD j false=true:=fun j hj=>by
   by_cases e:j=k;·subst e;simp[Array.getD_eq_getD_getElem?,show j<a3.size by omega]
   ·rw[getD_set_ne false (Ne.symm e)];exact h1 j (by omega)
  have a5:∀j,k+1≤j→(a3.setIfInBounds k true).getD j false=false:=fun j hj=>by
   rw[getD_set_ne false (by omega)];exact h2 j (by omega)
  refine⟨fun a7=> ?_,fun i hi=> ?_⟩
  ·exfalso;have:k∈Region.ready .any all.toArray a3:=by
    rw[mem_ready];exact⟨by rw[G8 true (by omega)];exact h2 k (Nat.le_refl _),o,by rw[List.getElem?_toArray];exact ho,fun e he ao=>h1 e.on ((UM af _ o ho).before e he ao)⟩
   rw[a7] at this;cases this
  ·rw[mem_ready] at hi;obtain⟨ac,o',a4,aj⟩:=hi;rw[List.getElem?_toArray] at a4;have aw:i<all.length:=(List.getElem?_eq_some_iff.1 a4).1;rw[G8 true (by omega)] at ac
   have au:i=k:=by
    rcases Nat.lt_trichotomy i k with ax | aq | ar
    ·rw[h1 i ax] at ac;cases ac
    ·exact aq
    ·exfalso;have ah:Lq all fun q=>a3.getD q false || q==i:=fun q o2 ae a6 e he ag=>by
      by_cases hqi:q=i
      ·subst hqi;rw[a4] at ae;cases ae;simp only[aj e he ag,Bool.true_or]
      ·have az:(q==i)=false:=by simpa using hqi
       have b7:q<k:=by
        rcases Nat.lt_or_ge q k with hl | hg
        ·exact hl
        ·have a6:(a3.getD q false || q==i)=true:=a6
         rw[h2 q hg,az] at a6;cases a6
       have:=(UM af q o2 ae).before e he ag;simp only[h1 e.on (by omega),Bool.true_or]
     have:=Cw ah i k (a8 i (by omega) aw k ar) (by simp)
     have ay:(k==i)=false:=by simp;omega
     rw[ay,h2 k (Nat.le_refl _)] at this;cases this
   subst au;rw[ho] at a4;cases a4;simp only[wseq] at hk;split at hk
   ·rename_i a9;unfold wpOpIn;simp only[List.getElem?_toArray,ho];split at hk
    ·rename_i hg;rw[if_pos (Jk hr hg)];exact S6 h0 ak hr a9 hk ro n _ _ fun a' w' m' H' s b1 ap an b0=>ih s a' w' m' H' (by omega) (by omega) (by simp[hs']) aa a5 b1 (ap.trans hd) (hb.trans an) b0
    ·rename_i hg;rw[if_neg (by rw[Jk hr hg];simp)]
     exact⟨fun _ _=>trivial,ih _ _ w m H (by omega) (by omega) (by simp[hs']) aa a5 hk ((Yd _ _ _).trans hd) hb (hr.putO a9 (.tup [] #[] rfl (fun j c v hj=>by simp at hj)))⟩
    ·cases hk
   ·cases hk
theorem Q28(h0:ch0.Ok P gl)(a5:WF.Ok P gl wf){all:List Oper}{ro:Option Nat}{n:Nat}{d0:List Deferred}{w0:World}{K:St→Prop}{Q:Exit→Act→World→Prop}
  (hQ:∀(sF:St) (a:Act) (w:World) (m:Nat→Lc) (H:HV),K sF→a.defers=d0→Qd B w0 w→RelS m H B H0 gl rest sF a.tmps w→Q .normal a w):
  ∀(a3 l:List Oper) (st:St) (a:Act) (w:World) (m:Nat→Lc) (H:HV),all=a3++l→wseq P gl ch0 wf hs all l st K→a.defers=d0→Qd B w0 w→RelS m H B H0 gl rest st a.tmps w→wpOpsIn (FW ro) n P all.toArray Q (List.range' a3.length l.length) a w
 |a3,[],st,a,w,m,H,_,hk,hd,hb,hr=>hQ st a w m H hk hd hb hr
 |a3,o::l,st,a,w,m,H,he,hk,hd,hb,hr=>by
  simp only[List.length_cons,List.range'_succ,wpOpsIn];have ho:all.toArray[a3.length]? =some o:=by rw[List.getElem?_toArray,he,List.getElem?_append_right (Nat.le_refl _)];simp
  simp only[ho];have ih:=Q28 h0 a5 (all:=all) (ro:=ro) (n:=n) hQ (a3++[o]) l;simp only[List.length_append,List.length_cons,List.length_nil,Nat.zero_add,List.append_assoc,List.singleton_append] at ih;simp only[wseq] at hk;split at hk
  ·rename_i a4;split at hk
   ·rename_i hg;rw[if_pos (Jk hr hg)];exact S6 h0 a5 hr a4 hk ro n _ _ fun a' w' m' H' s hs a7 a6 a9=>ih s a' w' m' H' he hs (a7.trans hd) (hb.trans a6) a9
   ·rename_i hg;rw[if_neg (by rw[Jk hr hg];simp)]
    exact⟨fun _ _=>trivial,ih _ _ w m H he hk ((Yd _ _ _).trans hd) hb (hr.putO a4 (.tup [] #[] rfl (fun j c v hj=>by simp at hj)))⟩
   ·cases hk
  ·cases hk
end
end HY
end
section
namespace HY
open Go Go.RowKit
inductive LeVs:List AV→List AV→Prop
 |nil:LeVs [] []
 |cons {x t:AV} {xs ts:List AV}:LeV x t→LeVs xs ts→LeVs (x::xs) (t::ts)
theorem LeV.refl(x:AV):LeV x x:=⟨fun _ _ _ h=>h⟩
theorem LeV.of_eq{x t:AV}(h:x=t):LeV x t:=h▸ .refl x
theorem LeV.undef(x:AV):LeV x .undef:=⟨fun _ _ _ _=>.imm _ _ (.undef _)⟩
theorem LeVs.refl:∀(xs:List AV),LeVs xs xs
 | []=>.nil
 |x::xs=>.cons (.refl x) (LeVs.refl xs)
theorem LeVs.get:∀ {xs ts:List AV},LeVs xs ts→xs.length=ts.length∧∀(j:Nat) (t:AV),ts[j]? =some t→∃x,xs[j]? =some x∧LeV x t
 |_,_,.nil=>⟨rfl,fun j t h=>by simp at h⟩
 |_,_,.cons h r=>⟨by simp[r.get.1],fun j t' hj=>by
  cases j with
  |zero=>simp at hj;subst hj;exact⟨_,rfl,h⟩
  |succ j=>simpa using r.get.2 j t' (by simpa using hj)⟩
theorem LeV.nil(sz:Nat):LeV .nil (.sl sz []):=⟨fun H E v h=>by rw[h.nil_inv];exact .imm _ _ (.sl0 _ _ _ (Nat.zero_le _))⟩
theorem LeV.agg{xs ts:List AV}(h:LeVs xs ts):LeV (.agg xs) (.agg ts):=⟨fun H E v hv=>by
 obtain⟨h1,h2⟩:=h.get;obtain⟨vs,rfl,a,b,c⟩:=hv.agg_inv;exact .agg _ vs (by rw[← h1];exact a) b fun j t u hj hu=>by
  obtain⟨x,hx,a3⟩:=h2 j t hj;exact a3.ok H E u (c j x u hx hu)⟩
inductive LeEs:List AV→List AV→Prop
 |nil:LeEs [] []
 |cons {x t:AV} {xs ts:List AV}:LeL x.cells t.cells→LeEs xs ts→LeEs (x::xs) (t::ts)
theorem LeEs.get:∀ {xs ts:List AV},LeEs xs ts→xs.length=ts.length∧∀(j:Nat) (t:AV),ts[j]? =some t→∃x,xs[j]? =some x∧LeL x.cells t.cells
 |_,_,.nil=>⟨rfl,fun j t h=>by simp at h⟩
 |_,_,.cons h r=>⟨by simp[r.get.1],fun j t' hj=>by
  cases j with
  |zero=>simp at hj;subst hj;exact⟨_,rfl,h⟩
  |succ j=>simpa using r.get.2 j t' (by simpa using hj)⟩
theorem LeT.sl{sz:Nat}{xs ts:List AV}(h:LeEs xs ts):LeT (.sl sz xs) (.sl sz ts):=⟨fun H v hv=>by
 obtain⟨h1,h2⟩:=h.get;cases hv with
 |sl0 _ a cap hc=>
  have:ts=[]:=List.eq_nil_of_length_eq_zero (by rw[← h1];rfl)
  subst this;exact .sl0 _ _ _ hc
 |sl _ _ b o cap val a0 a1 a2 a3 a4 a5=>
  rw[h1] at a1 ⊢;refine .sl sz ts b o cap val a0 a1 a2 (fun i t ht=> ?_) (fun i t j c ht hc=> ?_) (fun i t j c ht hc=> ?_)
  ·obtain⟨x,hx,hl⟩:=h2 i t ht;rw[← hl.get.1];exact a3 i x hx
  ·obtain⟨x,hx,hl⟩:=h2 i t ht;obtain⟨c',a6,_⟩:=hl.get.2 j c hc;exact a4 i x j c' hx a6
  ·obtain⟨x,hx,hl⟩:=h2 i t ht;obtain⟨c',a6,ad⟩:=hl.get.2 j c hc;exact ad.ok _ _ (a5 i x j c' hx a6)⟩
theorem LeEs.flat:∀ {xs ts:List AV},LeEs xs ts→LeL (xs.flatMap AV.cells) (ts.flatMap AV.cells)
 |_,_,.nil=>.nil
 |_,_,.cons (x:=x) (t:=t) h r=>by
  simp only[List.flatMap_cons];have:=r.flat;revert h;generalize x.cells=a;generalize t.cells=b;intro h
  induction h with
  |nil=>exact this
  |cons h _ ih=>exact .cons h ih
inductive LeB:Box→Box→Prop
 |refl (b:Box):LeB b b
 |cells (v:Nat) {cs ts:List AV}:LeVs cs ts→LeB (.cells v cs) (.cells v ts)
 |own (v sz:Nat) {xs ts:List AV}:LeEs xs ts→LeB (.own v sz xs) (.own v sz ts)
 |hol (v sz:Nat) (xs:List AV) (i c:Nat) {r t:AV}:LeV r t→LeB (.hol v sz xs i c r) (.hol v sz xs i c t)
inductive LeBs:List Box→List Box→Prop
 |nil:LeBs [] []
 |cons {x t:Box} {xs ts:List Box}:LeB x t→LeBs xs ts→LeBs (x::xs) (t::ts)
theorem LeBs.refl:∀(xs:List Box),LeBs xs xs
 | []=>.nil
 |x::xs=>.cons (.refl x) (LeBs.refl xs)
theorem LeBs.get:∀ {xs ts:List Box},LeBs xs ts→xs.length=ts.length∧∀(j:Nat) (t:Box),ts[j]? =some t→∃x,xs[j]? =some x∧LeB x t
 |_,_,.nil=>⟨rfl,fun j t h=>by simp at h⟩
 |_,_,.cons h r=>⟨by simp[r.get.1],fun j t' hj=>by
  cases j with
  |zero=>simp at hj;subst hj;exact⟨_,rfl,h⟩
  |succ j=>simpa using r.get.2 j t' (by simpa using hj)⟩
theorem LeB.ver{b t:Box}(h:LeB b t):b.ver? =t.ver? ∧(∀l,Real t l↔Real b l):=by
 cases h with
 |refl=>exact⟨rfl,fun _=>Iff.rfl⟩
 |cells v h=>exact⟨rfl,fun _=>Iff.rfl⟩
 |own v sz h=>exact⟨rfl,fun _=>Iff.rfl⟩
 |hol v sz xs i c h=>exact⟨rfl,fun _=>Iff.rfl⟩
theorem LeB.ok{b t:Box}(h:LeB b t){H:HV}{E:Env}{l:Lc}{w:World}(hb:YK H E b l w):YK H E t l w:=by
 cases h with
 |refl=>exact hb
 |cells v h=>
  obtain⟨h1,h2⟩:=h.get;obtain⟨C,e,c1,c2,c3,c4⟩:=hb;refine⟨C,e,c1,c2,by rw[← h1];exact c3,fun j t ht=> ?_⟩
  obtain⟨x,hx,a4⟩:=h2 j t ht;obtain⟨u,a1,a2,a3⟩:=c4 j x hx;exact⟨u,a1,a2,a4.ok _ _ _ a3⟩
 |own v sz h=>
  obtain⟨h1,h2⟩:=h.get;obtain⟨h3,h4⟩:=h.flat.get;obtain⟨a0,a1,a2⟩:=hb;refine⟨a0,fun t ht=> ?_,?_⟩
  ·obtain⟨j,hj⟩:=List.getElem?_of_mem ht;obtain⟨x,hx,hl⟩:=h2 j t hj;rw[← hl.get.1];exact a1 x (List.mem_of_getElem? hx)
  ·rcases a2 with⟨b0,b1⟩ | ⟨b0,C,e,c1,c2,c3,c4⟩
   ·subst b1;exact .inl ⟨b0,List.eq_nil_of_length_eq_zero (by rw[← h1];rfl)⟩
   ·refine .inr ⟨b0,C,e,c1,c2,by rw[← h3];exact c3,fun j c hj=> ?_⟩
    obtain⟨x,hx,a4⟩:=h4 j c hj;obtain⟨u,d1,d2,d3⟩:=c4 j x hx;exact⟨u,d1,d2,a4.ok _ _ d3⟩
 |hol v sz xs i c h=>
  obtain⟨d1,d2,d3,d4,d5,C,e,c1,c2,c3,c4,u,b1,b2,b3⟩:=hb;exact⟨d1,d2,d3,d4,d5,C,e,c1,c2,c3,c4,u,b1,b2,h.ok _ _ _ b3⟩
def HpLe(hp hp':Hp):Prop:=∀id,(hp id=none∧hp' id=none)∨∃b t,hp id=some b∧hp' id=some t∧LeB b t
theorem HpLe.inv{hp hp':Hp}(h:HpLe hp hp'){id:Nat}{t:Box}(ht:hp' id=some t):∃b,hp id=some b∧LeB b t:=by
 rcases h id with⟨_,h2⟩ | ⟨b,t',h1,h2,h3⟩
 ·rw[ht] at h2;cases h2
 ·rw[ht] at h2;cases h2;exact⟨b,h1,h3⟩
theorem LeB.lp{b t:Box}(h:LeB b t){m:Nat→Lc}{hp hp':Hp}{id:Nat}(h1:hp id=some b)(h2:hp' id=some t):(Q8 hp m).lp id=(Q8 hp' m).lp id:=by
 cases h with
 |refl=>simp only[Q8,h1,h2]
 |cells v h=>simp only[Q8,h1,h2]
 |own v sz h=>simp only[Q8,h1,h2]
 |hol v sz xs i c h=>simp only[Q8,h1,h2]
theorem HpLe.env{hp hp':Hp}(h:HpLe hp hp')(m:Nat→Lc):Env.le (Q8 hp m) (Q8 hp' m):=by
 refine⟨fun id ver ⟨b,h1,h2⟩=> ?_,fun id ver l _ hl=> ?_,fun id l hl=> ?_⟩
 ·rcases h id with⟨h3,_⟩ | ⟨b',t,h3,h4,h5⟩
  ·rw[h1] at h3;cases h3
  ·rw[h1] at h3;cases h3;exact⟨t,h4,fun v hv=>h2 v (by rw[h5.ver.1];exact hv)⟩
 ·rcases h id with⟨_,h4⟩ | ⟨b',t,h3,h4,h5⟩
  ·simp only[Q8,h4] at hl;cases hl
  ·simp only[Q8,h4] at hl;simp only[Q8,h3,h5.ver.1];exact hl
 ·rcases h id with⟨h3,_⟩ | ⟨b',t,h3,h4,h5⟩
  ·simp only[Q8,h3] at hl;cases hl
  ·rw[← h5.lp h3 h4];exact hl
section
variable {m : Nat → Lc} {H : HV} {B : Nat → Prop} {H0 : HV} {gl : Nat → AV} {w : World}
theorem RelH.le{hp hp':Hp}{nx:Nat}(h:RelH m H B H0 gl hp nx w)(a3:HpLe hp hp')(a8:∀id v cs,hp' id=some (.cells v cs)→∃a5,hp id=some (.cells v a5)):RelH m H B H0 gl hp' nx w where
 sat:=h.sat
 old:=h.old
 low:=h.low
 fresh id hid:=by
  rcases a3 id with⟨_,h2⟩ | ⟨b,t,h1,h2,_⟩
  ·exact h2
  ·rw[h.fresh id hid] at h1;cases h1
 box id t ht:=by
  obtain⟨b,hb,a4⟩:=a3.inv ht;exact a4.ok ((h.box id b hb).mono (.refl _) (a3.env m) rfl)
 sepR id t ht hr:=by
  obtain⟨b,hb,a4⟩:=a3.inv ht;exact h.sepR id b hb ((a4.ver.2 _).1 hr)
 injR i j b1 b2 h1 h2 r1 r2 he:=by
  obtain⟨c1,e1,l1⟩:=a3.inv h1;obtain⟨c2,e2,l2⟩:=a3.inv h2;exact h.injR i j c1 c2 e1 e2 ((l1.ver.2 _).1 r1) ((l2.ver.2 _).1 r2) he
 gv:=h.gv
 gl:=h.gl
 ty id v cs hid:=by
  obtain⟨a5,h0⟩:=a8 id v cs hid;exact h.ty id v a5 h0
theorem LeB.cellsInv{b:Box}{v:Nat}{cs:List AV}(h:LeB b (.cells v cs)):∃a3,b= .cells v a3:=by
 cases h with
 |refl=>exact⟨_,rfl⟩
 |cells _ _=>exact⟨_,rfl⟩
theorem LeBs.hp{bs a3:List Box}(h:LeBs bs a3):HpLe (lkb (hpOf 0 bs)) (lkb (hpOf 0 a3)):=fun id=>by
 obtain⟨h1,h2⟩:=h.get;rw[WY,WY];simp only[Nat.zero_le,if_true,Nat.sub_zero];cases ht:a3[id]? with
 |none=>
  rw[List.getElem?_eq_none_iff] at ht;exact .inl ⟨by rw[List.getElem?_eq_none_iff];omega,rfl⟩
 |some t=>
  obtain⟨b,hb,a4⟩:=h2 id t ht;exact .inr ⟨b,t,hb,rfl,a4⟩
theorem RelH.leBs{bs a3:List Box}{nx:Nat}(h:RelH m H B H0 gl (lkb (hpOf 0 bs)) nx w)(a4:LeBs bs a3):RelH m H B H0 gl (lkb (hpOf 0 a3)) nx w:=
 h.le a4.hp fun id v cs a6=>by
  obtain⟨b,hb,hl⟩:=a4.hp.inv a6;obtain⟨a5,rfl⟩:=hl.cellsInv;exact⟨a5,hb⟩
theorem Q1t:∀ {ks:List Nat} {vs a3:List AV},LeVs vs a3→∀k,LeV (lk .undef (slOf ks vs) k) (lk .undef (slOf ks a3) k)
 | [],vs,a3,h,k=>by
  cases vs<;>cases a3<;>exact .refl _
 |a::ks,_,_,.nil,k=>.refl _
 |a::ks,_,_,.cons h r,k=>by
  simp only[slOf];rw[D9,D9];by_cases e:a=k;·rw[if_pos e,if_pos e];exact h
  ·rw[if_neg e,if_neg e];exact Q1t r k
theorem CO{n:Nat}{ks:List Nat}{vs a4:List AV}{bs a3:List Box}(hv:LeVs vs a4)(hb:LeBs bs a3):Conv gl (X8 n ks vs bs) (X8 n ks a4 a3):=⟨rfl,fun m H B H0 rest tmps w h=>by
 have hE:=hb.hp.env m;refine⟨m,H,?_,h.size,fun k=> ?_,fun p hp=>(h.rest p hp).mono (.refl _) hE⟩
 ·have:=h.heap.leBs hb;show RelH m H B H0 gl (lkb (hpOf 0 a3)) a3.length w;rw[← hb.get.1];exact this
 ·exact((Q1t hv k).ok _ _ _ (h.slot k)).mono (.refl _) hE⟩
end
end HY
end
section
namespace HY
open Go Go.RowKit
def BO(O:Nat→Prop)(w:World):Nat→Prop:=fun b=>b<w.heap.size∧¬O b
def HK(O:Nat→Prop)(w w':World):Nat→Prop:=fun b=>O b∨(w.heap.size≤b∧b<w'.heap.size)
def unH(Hc H:HV):HV:=fun b o=>match Hc b o with
 |some v=>some v
 |none=>H b o
def Ri(O:Nat→Prop)(H:HV):Nat→Prop:=fun b=>O b∧∀o,H b o=none
abbrev JT:=Option Nat→(Nat→Prop)→HV→World→Prop
structure JOk (P:Program) (gl:Nat→AV) (l:Nat) (xs:List (List AV)) (J:JT):Prop where
 sat:∀p O Hc w,J p O Hc w→HV.sat Hc w
 low:∀p O Hc w,J p O Hc w→∀b,O b→b<w.heap.size
 dis:∀p O Hc w,J p O Hc w→∀b,O b→∀o,Hc b o=none
 gls:∀p O Hc w,J p O Hc w→∀g,RelI Hc (gl g) (.pointer (some ⟨g,0,none⟩))
 gv:∀p O Hc w,J p O Hc w→GvOk gl (BO O w) w
 own:∀p O Hc w w',J p O Hc w→Qd (BO O w) w w'→J p (HK O w w') Hc w'
 pub:∀p O Hc w H,J p O Hc w→HV.sat H w→(∀b o v,H b o=some v→O b∨Hc b o=some v)→J p (Ri O H) (unH Hc H) w
 round:∀k O Hc w x (vs:Array Value),J (some k) O Hc w→xs[k]? =some x→x.length=vs.size→(∀(j:Nat) (c:AV) (v:Value),x[j]? =some c→vs[j]? =some v→RelI Hc c v)→
  ∃fn tmps azz bd,(Instr.yield l vs).run P w= .ok (.round l fn tmps azz bd) w∧∀ro n,RoundIn (FW ro) n P l fn tmps azz bd w fun e w'=>∃b,e= .returned (.bool b)∧Qd O w w'∧J (if b then some (k+1) else none) O Hc w'
structure ItOk (P:Program) (gl:Nat→AV) (f:Nat) (caps:List AV) (xs:List (List AV)):Prop where
 ok:∀l J,JOk P gl l xs J→∀Hc w (us:Array Value),J (some 0) (fun _=>False) Hc w→caps.length=us.size→(∀(j:Nat) (c:AV) (v:Value),caps[j]? =some c→us[j]? =some v→RelI Hc c v)→
  Calls P f (#[.func (.yield l) #[] #[]]++us) w fun e w'=>∃v p' O' Hc',e= .returned v∧(p'=some xs.length∨p'=none)∧J p' O' Hc' w'
section
variable {m : Nat → Lc} {H : HV} {B : Nat → Prop} {H0 : HV} {gl : Nat → AV} {hp : Nat → Option Box} {nx : Nat} {w : World} {rest : List (AV × Value)} {st : St} {tmps : Array Value}
theorem Rx{Hc H:HV}:HV.le Hc (unH Hc H):=fun b o v h=>by simp[unH,h]
theorem PB{Hc H:HV}{b o:Nat}{v:Value}(h:unH Hc H b o=some v):Hc b o=some v∨(Hc b o=none∧H b o=some v):=by
 unfold unH at h;split at h;·rename_i h1;cases h;exact .inl h1
 ·rename_i h1;exact .inr ⟨h1,h⟩
theorem unH_sat{Hc H:HV}(h1:HV.sat Hc w)(h2:HV.sat H w):HV.sat (unH Hc H) w:=fun b o v h=>by
 rcases PB h with h | ⟨_,h⟩
 ·exact h1 b o v h
 ·exact h2 b o v h
theorem unH_le{Hc H:HV}(h1:HV.sat Hc w)(h2:HV.sat H w):HV.le H (unH Hc H):=fun b o v h=>by
 unfold unH;split
 ·rename_i u hu;have e1:=h1 b o u hu;have e2:=h2 b o v h;rw[e1] at e2;exact e2
 ·exact h
theorem Qd.cell{B:Nat→Prop}{w w':World}(h:Qd B w w'){b o:Nat}(hb:B b):w'.cell? ⟨b,o,none⟩=w.cell? ⟨b,o,none⟩:=by
 unfold World.cell?;rw[h.block b hb]
theorem RelH.base(h:RelH m H B H0 gl hp nx w){B':Nat→Prop}{H0':HV}(old:∀b o,B' b→H b o=H0' b o)(low:∀b,B' b→b<w.heap.size)(sep:∀id b,hp id=some b→Real b (m id)→¬B' (m id).g)(gv:GvOk gl B' w):RelH m H B' H0' gl hp nx w where
 sat:=h.sat
 old:=old
 low:=low
 fresh:=h.fresh
 box:=h.box
 sepR id b hid hr:=⟨sep id b hid hr,(h.sepR id b hid hr).2⟩
 injR:=h.injR
 gv:=gv
 gl:=h.gl
 ty:=h.ty
theorem RelS.base(h:RelS m H B H0 gl rest st tmps w){B':Nat→Prop}{H0':HV}(old:∀b o,B' b→H b o=H0' b o)(low:∀b,B' b→b<w.heap.size)(sep:∀id b,lkb st.hp id=some b→Real b (m id)→¬B' (m id).g)(gv:GvOk gl B' w):RelS m H B' H0' gl rest st tmps w:=
 ⟨h.heap.base old low sep gv,h.size,h.slot,h.rest⟩
theorem RelS.down(h:RelS m H B H0 gl rest st tmps w){B':Nat→Prop}{H0':HV}(hs:∀b,B' b→B b)(ho:∀b o,B' b→H0 b o=H0' b o)(gv:GvOk gl B' w):RelS m H B' H0' gl rest st tmps w:=
 h.base (fun b o hb=>(h.heap.old b o (hs b hb)).trans (ho b o hb)) (fun b hb=>h.heap.low b (hs b hb)) (fun id b a3 hr hb=>(h.heap.sepR id b a3 hr).1 (hs _ hb)) gv
theorem RelS.know(h:RelS m H B H0 gl rest st tmps w){H':HV}{H0':HV}(a4:HV.le H H')(sat:HV.sat H' w)(old:∀b o,B b→H' b o=H0' b o)(sep:∀id b,lkb st.hp id=some b→Real b (m id)→∀o,H' (m id).g o=none):RelS m H' B H0' gl rest st tmps w:=
 ⟨{sat:=sat,old:=old,low:=h.heap.low,fresh:=h.heap.fresh,box:=(fun id b a3=>(h.heap.box id b a3).mono' a4 (.refl _) fun _=>rfl),sepR:=(fun id b a3 hr=>⟨(h.heap.sepR id b a3 hr).1,(h.heap.sepR id b a3 hr).2.1,sep id b a3 hr⟩),injR:=h.heap.injR,gv:=h.heap.gv,gl:=(fun g=>(h.heap.gl g).mono a4),ty:=h.heap.ty},h.size,fun k=>(h.slot k).mono a4 (.refl _),fun p hp=>(h.rest p hp).mono a4 (.refl _)⟩
theorem RelS.obj(h:RelS m H B H0 gl rest st tmps w){g:Nat}{o1 o2:Obj}(hb:B g)(h1:w.heap[g]? =some o1)(hn:∀C e fr,o1≠ .cells C e fr):RelS m H B H0 gl rest st tmps (w.putObj g o2):=by
 have a6:∀o v,H g o≠some v:=fun o v hv=>by
  have:=h.heap.sat g o v hv;unfold World.cell? at this;rw[h1] at this;cases o1 with
  |cells C e fr=>exact hn C e fr rfl
  |_=>cases this
 have oth:∀k,k≠g→(w.putObj g o2).heap[k]? =w.heap[k]? :=fun k hk=>World.putObj_heap_other hk
 refine⟨{sat:=(fun b o v hv=> ?_),old:=h.heap.old,low:=(fun b hb=>by rw[World.putObj_size];exact h.heap.low b hb),fresh:=h.heap.fresh,box:=(fun id b a3=>(h.heap.box id b a3).mono' (.refl _) (.refl _) fun hr=>oth _ fun e=>(h.heap.sepR id b a3 hr).1 (e▸hb)),sepR:=(fun id b a3 hr=>let⟨x,y,z⟩:=h.heap.sepR id b a3 hr;⟨x,by rw[World.putObj_size];exact y,z⟩),injR:=h.heap.injR,gv:=(fun k sz cs hk=> ?_),gl:=h.heap.gl,ty:=(fun id v cs a3=>(h.heap.ty id v cs a3).mono (oth _ fun e=>(h.heap.sepR id _ a3 trivial).1 (e▸hb)))},h.size,h.slot,h.rest⟩
 ·have a5:b≠g:=fun e=>by subst e;exact a6 o v hv
  have:=h.heap.sat b o v hv;unfold World.cell? at this ⊢;simp only at this ⊢;rw[oth b a5];exact this
 ·obtain⟨x,C,e,fr,y,z⟩:=h.heap.gv k sz cs hk;exact⟨x,C,e,fr,by rw[oth k (fun hk=>by subst hk;rw[h1] at y;cases y;exact hn _ _ _ rfl)];exact y,z⟩
theorem Qd.obj{B':Nat→Prop}{w0:World}(h:Qd B' w0 w){g:Nat}{o1 o2:Obj}(hb:¬B' g)(h1:w.heap[g]? =some o1)(hn:∀C e fr,o1≠ .cells C e fr):Qd B' w0 (w.putObj g o2):=
 h.trans ⟨rfl,rfl,rfl,by rw[World.putObj_size];exact Nat.le_refl _,fun k hk=>World.putObj_heap_other fun e=>hb (e▸hk),fun k C e fr hk=>⟨C,fr,by rw[World.putObj_heap_other fun e'=>by subst e';rw[h1] at hk;cases hk;exact hn _ _ _ rfl];exact hk,rfl⟩⟩
theorem GvOk.sup{B B':Nat→Prop}(h:GvOk gl B w)(hs:∀b,B b→B' b):GvOk gl B' w:=fun g sz cs hg=>let⟨a,b⟩:=h g sz cs hg;⟨hs g a,b⟩
theorem GvOk.to{B B':Nat→Prop}{w w':World}{B1:Nat→Prop}(h:GvOk gl B w)(hb:Qd B1 w w')(hs:∀b,b<w.heap.size→B b→B' b):GvOk gl B' w':=fun g sz cs hg=>by
 obtain⟨a,C,e,fr,h1,h2⟩:=h g sz cs hg;obtain⟨C',a3,h3,h4⟩:=hb.rows g C e fr h1;refine⟨hs g ?_ a,C',e,a3,h3,by rw[h4,h2]⟩
 rcases Nat.lt_or_ge g w.heap.size with a6 | a5
 ·exact a6
 ·rw[Array.getElem?_eq_none a5] at h1;cases h1
end
end HY
end
section
namespace HY
open Go Go.RowKit
def Qz:Code→Bool
 | .seq a b=>Qz a || Qz b
 | .cond _ a b=>Qz a || Qz b
 | .block _ c=>Qz c
 | .loop c=>Qz c
 | .rangeFunc .. =>true
 |_=>false
def EG(D:List Nat):List Deferred:=D.map fun g=> {target:=.collected g,args:= #[]}
structure Fin' (B:Nat→Prop) (H0:HV) (a:Act) (w:World) (hr:Bool) (B':Nat→Prop) (H0':HV) (D:List Nat) (a':Act) (w':World):Prop where
 sub:∀b,B b→B' b
 old:∀b o,B b→H0' b o=H0 b o
 dfr:a'.defers=EG D++a.defers
 nod:D.Nodup
 opn:∀g∈D,B' g∧w.heap.size≤g∧w'.heap[g]? =some (.deferred (some []))
 non:hr=false→D=[]
 bel:Qd B w w'
section
variable {B : Nat → Prop} {H0 : HV} {a : Act} {w : World}
theorem Fin'.of{hr:Bool}{a':Act}{w':World}(hd:a'.defers=a.defers)(hb:Qd B w w'):Fin' B H0 a w hr B H0 [] a' w':=⟨fun _ h=>h,fun _ _ _=>rfl,hd,List.nodup_nil,fun g hg=>by simp at hg,fun _=>rfl,hb⟩
theorem Fin'.trans{h1 h2 h3:Bool}{B1 B2:Nat→Prop}{H1 H2:HV}{D1 D2:List Nat}{a1 a2:Act}{w1 w2:World}(k1:Fin' B H0 a w h1 B1 H1 D1 a1 w1)(k2:Fin' B1 H1 a1 w1 h2 B2 H2 D2 a2 w2)(hh:h3=false→h1=false∧h2=false):Fin' B H0 a w h3 B2 H2 (D2++D1) a2 w2 where
 sub b hb:=k2.sub b (k1.sub b hb)
 old b o hb:=(k2.old b o (k1.sub b hb)).trans (k1.old b o hb)
 dfr:=by rw[k2.dfr,k1.dfr,← List.append_assoc];simp[EG]
 nod:=by
  rw[List.nodup_append];refine⟨k2.nod,k1.nod,fun x hx y hy e=> ?_⟩
  subst e;have h:=(k1.opn x hy).2.2;have h2:=(k2.opn x hx).2.1;rw[Array.getElem?_eq_none h2] at h;cases h
 opn g hg:=by
  rcases List.mem_append.1 hg with hg | hg
  ·obtain⟨x,y,z⟩:=k2.opn g hg;exact⟨x,Nat.le_trans k1.bel.size y,z⟩
  ·obtain⟨x,y,z⟩:=k1.opn g hg;exact⟨k2.sub g x,y,by rw[k2.bel.block g x];exact z⟩
 non h:=by obtain⟨e1,e2⟩:=hh h;rw[k1.non e1,k2.non e2];rfl
 bel:=k1.bel.trans (k2.bel.mono k1.sub)
theorem Fin'.up{h1 h3:Bool}{B1:Nat→Prop}{H1:HV}{D1:List Nat}{a1:Act}{w1:World}(k:Fin' B H0 a w h1 B1 H1 D1 a1 w1)(hh:h3=false→h1=false):Fin' B H0 a w h3 B1 H1 D1 a1 w1:= {k with non:=fun h=>k.non (hh h)}
end
def Post(gl:Nat→AV)(B:Nat→Prop)(H0:HV)(rest:List (AV×Value))(hr:Bool)(a:Act)(w:World)(K:Exit→St→Prop):Exit→Act→World→Prop:=fun e a' w'=>
 ∃st' m' H' B' H0' D,K e st'∧Fin' B H0 a w hr B' H0' D a' w'∧RelS m' H' B' H0' gl rest st' a'.tmps w'
theorem Post.of{gl:Nat→AV}{B:Nat→Prop}{H0:HV}{rest:List (AV×Value)}{hr:Bool}{a:Act}{w:World}{K:Exit→St→Prop}{e:Exit}{st':St}{m':Nat→Lc}{H':HV}{a':Act}{w':World}(hk:K e st')(hd:a'.defers=a.defers)(hb:Qd B w w')(h:RelS m' H' B H0 gl rest st' a'.tmps w'):Post gl B H0 rest hr a w K e a' w':=
 ⟨st',m',H',B,H0,[],hk,.of hd hb,h⟩
def Wk(P:Program)(gl:Nat→AV)(a3:Option (List AV))(c:Code)(st:St)(K:Exit→St→Prop):Prop:=
 ∀(ro:Option Nat) (d:Nat),(Qz c=true→ro=none)→∀(B:Nat→Prop) (H0:HV) (rest:List (AV×Value)) (m:Nat→Lc) (H:HV) (a:Act) (w:World),(∀ps,a3=some ps→rest.map (·.1)=ps)→RelS m H B H0 gl rest st a.tmps w→
  c.wpIn (FW ro) d P (Post gl B H0 rest (Qz c) a w K) a w
def wpL(P:Program)(ro:Option Nat)(d:Nat)(c:Code)(Q:Exit→Act→World→Prop)(a:Act)(w:World):Prop:=
 ∀(b:Frame) (k:List Item) (cs:List Frame),b.roundOf=(FW ro).round→(FW ro).fn b.fn→(FW ro).room (cs.length+1+d)→
  ∃e a' w',Q e a' w'∧ArrivesIn (Machine.fenced P (FW ro)) P (lone (b.atR a (.code c:: .inLoop c::k)) cs w) b k cs e a' w'
section
variable {P : Program} {ro : Option Nat} {d : Nat} {c : Code} {Q : Exit → Act → World → Prop} {a : Act} {w : World}
theorem wpL.loop(h:wpL P ro d c Q a w):(Code.loop c).wpIn (FW ro) d P Q a w:=fun b k cs a3 hb hr=>
 let⟨e,a',w',hq,harr⟩:=h b k cs a3 hb hr
 ⟨e,a',w',hq,.of_steps (.one (fenced_calm hb hr rfl) stepR_loop) harr⟩
theorem wpL.round(h:c.wpIn (FW ro) d P (Exit.then (wpL P ro d c Q) Q) a w):wpL P ro d c Q a w:=by
 intro b k cs a7 hb hr;obtain⟨e,a₁,w₁,hq,a3⟩:=h b (.inLoop c::k) cs a7 hb hr;cases e with
 |normal=>
  obtain⟨e₂,a₂,w₂,a9,a4⟩:=hq b k cs a7 hb hr;exact⟨e₂,a₂,w₂,a9,.of_steps (StepsIn.trans a3 (.one (fenced_calm hb hr rfl) stepR_inLoop)) a4⟩
 |exit id=>exact⟨_,a₁,w₁,hq,.pass (x:=.inLoop c) rfl (fun _ _=>.inl (by simp)) a3⟩
 |goto l=>exact⟨_,a₁,w₁,hq,.pass (x:=.inLoop c) rfl (fun _ _=>.inl (by simp)) a3⟩
 |ret=>exact⟨_,a₁,w₁,hq,.pass (x:=.inLoop c) rfl (fun _ _=>.inl (by simp)) a3⟩
 |panic ch=>exact⟨_,a₁,w₁,hq,.pass (x:=.inLoop c) rfl (fun _ _=>.inl (by simp)) a3⟩
 |outgrown=>exact⟨_,a₁,w₁,hq,.pass (x:=.inLoop c) rfl (fun _ _=>.inl (by simp)) a3⟩
theorem wpL.mono{Q':Exit→Act→World→Prop}(h:wpL P ro d c Q a w)(hq:∀e a w,Q e a w→Q' e a w):wpL P ro d c Q' a w:=fun b k cs a3 hb hr=>
 let⟨e,a',w',q,r⟩:=h b k cs a3 hb hr
 ⟨e,a',w',hq _ _ _ q,r⟩
end
structure X7 (P:Program) (gl:Nat→AV) (ps:List AV) (n:Nat) (c:Code) (ks:List Nat) (vs:List AV) (bs:List Box) (kx:List Nat) (alts:List Alt):Prop where
 ok:∀(ro:Option Nat) (d:Nat),(Qz c=true→ro=none)→∀(B:Nat→Prop) (H0:HV) (rest:List (AV×Value)) (m:Nat→Lc) (H:HV) (a:Act) (w:World),rest.map (·.1)=ps→RelS m H B H0 gl rest (X8 n ks vs bs) a.tmps w→
  wpL P ro d c (Post gl B H0 rest (Qz c) a w (fun e st'=>∃alt∈alts,∃x,alt.φ x∧e=alt.ex∧st'=X8 n kx (alt.vs x) (alt.bs x))) a w
structure Out (alts:List Alt) (e:Exit) (vs:List AV) (bs:List Box):Prop where
 ok:∃alt∈alts,∃x,alt.φ x∧e=alt.ex∧LeVs vs (alt.vs x)∧LeBs bs (alt.bs x)
theorem Out.here{α:Type}{φ:α→Prop}{e:Exit}{vs:List AV}{a4:α→List AV}{bs:List Box}{a3:α→List Box}{r:List Alt}(x:α)(h:φ x)(hv:LeVs vs (a4 x))(hb:LeBs bs (a3 x)):Out (⟨φ,e,a4,a3⟩::r) e vs bs:=⟨⟨_,List.mem_cons_self,x,h,rfl,hv,hb⟩⟩
theorem Out.next{a:Alt}{r:List Alt}{e:Exit}{vs:List AV}{bs:List Box}(h:Out r e vs bs):Out (a::r) e vs bs:=by
 obtain⟨a3,h1,h2⟩:=h.ok;exact⟨a3,List.mem_cons_of_mem _ h1,h2⟩
def Lm(ks:List Nat)(vs:List AV):Bool:=nodN ks&&Nat.beq ks.length vs.length
def Turn(gl:Nat→AV)(n:Nat)(ks:List Nat)(vs ps:List AV)(s:St)(a3:List Box):Prop:=
 ∀(m:Nat→Lc) (H:HV) (B:Nat→Prop) (H0:HV) (rest:List (AV×Value)) (tmps:Array Value) (w:World),rest.map (·.1)=ps→RelS m H B H0 gl rest ⟨n,slOf ks vs,s.hp,s.nx⟩ tmps w→∃m' H',RelS m' H' B H0 gl rest (X8 n ks vs a3) tmps w
def L2(P:Program)(gl:Nat→AV)(ps:List AV)(n:Nat)(a6:Array Tmp)(a4 bd:Code)(ks:List Nat)(vs:List AV)(alts:List Alt):List (List AV)→List Box→Prop
 | [],bs=>Lm ks vs=true∧Out alts .normal vs bs
 |x::xs,bs=>Lm ks vs=true∧∃s0,Rr a6.toList x (X8 n ks vs bs)=some s0∧Wk P gl (some (vs++ps)) a4 s0 (fun e s1=>e= .normal∧Wk P gl (some (vs++ps)) bd s1 (fun e2 s2=>
   ∃j a3,HO e2=some j∧Turn gl n ks vs ps s2 a3∧match j with
    |none=>∃a5,LeBs a3 a5∧L2 P gl ps n a6 a4 bd ks vs alts xs a5
    |some _=>Out alts e2 vs a3))
end HY
end
section
namespace HY
open Go Go.RowKit
theorem Q1s:∀ {ks:List Nat} {vs:List AV},nodN ks=true→∀ {j k:Nat} {v:AV},ks[j]? =some k→vs[j]? =some v→lk .undef (slOf ks vs) k=v
 | [],vs,_,j,k,v,h,_=>by simp at h
 |a::ks,[],_,j,k,v,_,h=>by simp at h
 |a::ks,x::vs,hn,j,k,v,hk,hv=>by
  simp only[slOf];rw[D9];cases j with
  |zero=>simp at hk hv;subst hk;subst hv;simp
  |succ j=>
   have a3:a≠k:=fun e=>by
    subst e;have:=HG (ids:=a::ks) hn (i:=0) (j:=j+1) rfl hk;omega
   rw[if_neg a3];refine Q1s (ks:=ks) (vs:=vs) ?_ (by simpa using hk) (by simpa using hv)
   simp only[nodN] at hn;split at hn;·cases hn
   ·exact hn
def kvs:List Nat→List AV→Array Value→List (AV×Value)
 |k::ks,v::vs,t=>(v,t.getD k Go.undef)::kvs ks vs t
 |_,_,_=>[]
theorem Q15:∀ {ks:List Nat} {vs:List AV} {t:Array Value},ks.length=vs.length→(kvs ks vs t).map (·.1)=vs
 | [],[],_,_=>rfl
 | [],_::_,_,h=>by simp at h
 |_::_,[],_,h=>by simp at h
 |k::ks,v::vs,t,h=>by simp only[kvs,List.map_cons];rw[Q15 (by simpa using h)]
theorem Q16:∀ {ks:List Nat} {vs:List AV} {t:Array Value} {p:AV×Value},p∈kvs ks vs t→∃(j k:Nat),ks[j]? =some k∧vs[j]? =some p.1∧p.2=t.getD k Go.undef
 | [],[],_,_,h=>by simp[kvs] at h
 | [],_::_,_,_,h=>by simp[kvs] at h
 |_::_,[],_,_,h=>by simp[kvs] at h
 |k::ks,v::vs,t,p,h=>by
  simp only[kvs,List.mem_cons] at h;rcases h with rfl | h
  ·exact⟨0,k,rfl,rfl,rfl⟩
  ·obtain⟨j,k',h1,h2,h3⟩:=Q16 h;exact⟨j+1,k',by simpa using h1,by simpa using h2,h3⟩
theorem kvs_at:∀ {ks:List Nat} {vs:List AV} {t:Array Value} {j k:Nat} {v:AV},ks[j]? =some k→vs[j]? =some v→(v,t.getD k Go.undef)∈kvs ks vs t
 | [],_,_,j,k,v,h,_=>by simp at h
 |_::_,[],_,j,k,v,_,h=>by simp at h
 |a::ks,x::vs,t,j,k,v,h1,h2=>by
  cases j with
  |zero=>simp at h1 h2;subst h1;subst h2;exact List.mem_cons_self
  |succ j=>exact List.mem_cons_of_mem _ (kvs_at (by simpa using h1) (by simpa using h2))
theorem Q1u:∀(ks:List Nat) (vs:List AV) (k:Nat),lk .undef (slOf ks vs) k= .undef∨∃(j:Nat),ks[j]? =some k∧vs[j]? =some (lk .undef (slOf ks vs) k)
 | [],vs,k=>.inl (OB _ _)
 |a::ks,[],k=>.inl (OB _ _)
 |a::ks,x::vs,k=>by
  simp only[slOf];rw[D9];by_cases h:a=k;·subst h;rw[if_pos rfl];exact .inr ⟨0,rfl,rfl⟩
  ·rw[if_neg h];rcases Q1u ks vs k with e | ⟨j,h1,h2⟩
   ·exact .inl e
   ·exact .inr ⟨j+1,by simpa using h1,by simpa using h2⟩
theorem Q0p{ks:List Nat}{vs:List AV}(h:Lm ks vs=true):nodN ks=true∧ks.length=vs.length:=by
 unfold Lm at h;rw[Bool.and_eq_true] at h;exact⟨h.1,Nat.eq_of_beq_eq_true h.2⟩
section
variable {P : Program} {m : Nat → Lc} {H : HV} {B : Nat → Prop} {H0 : HV} {gl : Nat → AV} {rest : List (AV × Value)} {w : World} {ks : List Nat} {vs : List AV} {bs : List Box} {n : Nat} {tmps : Array Value}
theorem RelS.hold2(h:RelS m H B H0 gl rest (X8 n ks vs bs) tmps w)(hk:nodN ks=true):RelS m H B H0 gl (kvs ks vs tmps++rest) (X8 n ks vs bs) tmps w:=
 ⟨h.heap,h.size,h.slot,fun p hp=>by
  rcases List.mem_append.1 hp with hp | hp
  ·obtain⟨j,k,h1,h2,h3⟩:=Q16 hp;have:=h.slot k;rw[show(X8 n ks vs bs).get k=p.1 from Q1s hk h1 h2,← h3] at this;exact this
  ·exact h.rest p hp⟩
theorem RelS.back2{st:St}{t:Array Value}(h:RelS m H B H0 gl (kvs ks vs tmps++rest) st t w)(a3:tmps.size=n):RelS m H B H0 gl rest ⟨n,slOf ks vs,st.hp,st.nx⟩ tmps w:=
 ⟨h.heap,a3,fun k=>by
  show RV H _ (lk .undef (slOf ks vs) k) _;rcases Q1u ks vs k with e | ⟨j,h1,h2⟩
  ·rw[e];exact .imm _ _ (.undef _)
  ·exact h.rest _ (List.mem_append_left _ (kvs_at h1 h2)),fun p hp=>h.rest p (List.mem_append_right _ hp)⟩
theorem RelS.world{st:St}(h:RelS m H B H0 gl rest st tmps w){w':World}{K:Nat→Prop}(hb:Qd K w w')(hH:∀b o v,H b o=some v→K b)(a4:∀id b,lkb st.hp id=some b→Real b (m id)→K (m id).g){B':Nat→Prop}{H0':HV}(old:∀b o,B' b→H b o=H0' b o)(low:∀b,B' b→b<w'.heap.size)
  (sep:∀id b,lkb st.hp id=some b→Real b (m id)→¬B' (m id).g) (gv:GvOk gl B' w'):RelS m H B' H0' gl rest st tmps w':=
 ⟨{sat:=(fun b o v hv=>by rw[hb.cell (hH b o v hv)];exact h.heap.sat b o v hv),old:=old,low:=low,fresh:=h.heap.fresh,box:=(fun id b a3=>(h.heap.box id b a3).mono' (.refl _) (.refl _) fun hr=>hb.block _ (a4 id b a3 hr)),sepR:=(fun id b a3 hr=>⟨sep id b a3 hr,Nat.lt_of_lt_of_le (h.heap.sepR id b a3 hr).2.1 hb.size,(h.heap.sepR id b a3 hr).2.2⟩),injR:=h.heap.injR,gv:=gv,gl:=h.heap.gl,ty:=(fun id v cs a3=>(h.heap.ty id v cs a3).mono (hb.block _ (a4 id _ a3 trivial)))},h.size,h.slot,h.rest⟩
theorem Ln{w:World}{g:Nat}{o:Obj}(h:w.heap[g]? =some o):g<w.heap.size:=(Array.getElem?_eq_some_iff.1 h).1
end
section
variable {P : Program} {gl : Nat → AV}
structure JJ (P:Program) (gl:Nat→AV) (ps:List AV) (n:Nat) (ks:List Nat) (vs:List AV) (alts:List Alt) (xs:List (List AV)) (B:Nat→Prop) (H:HV) (rest:List (AV×Value)) (tmps:Array Value) (w:World) (l dg:Nat) (r0:Loop) (B1:Nat→Prop) (p:Option Nat) (O:Nat→Prop) (Hc:HV) (w':World):Prop where
 ex:∃(C:Nat→Prop) (m':Nat→Lc) (H' H0':HV) (bs':List Box) (r:Loop),w'.heap[l]? =some (.loop r)∧
  (match p with
   |some k=>r=r0∧L2 P gl ps n r0.params r0.assign r0.body ks vs alts (xs.drop k) bs'
   |none=>∃e c,HO e=some (some c)∧r= {r0 with state:=.done,pending:=some c}∧Out alts e vs bs')∧
  (∀b,O b∨C b→dg+2≤b∧b<w'.heap.size)∧(∀b,O b→∀o,H' b o=none)∧HV.le Hc H'∧(∀b o v,Hc b o=some v→B1 b∨C b)∧(∀b o,B1 b→H0' b o=H b o)∧
  RelS m' H' (fun b=>B1 b∨O b∨C b) H0' gl rest (X8 n ks vs bs') tmps w'
 dgo:w'.heap[dg]? =some (.deferred (some []))
 bel:Qd B w w'
 leH:HV.le H Hc
variable {ps : List AV} {n : Nat} {ks : List Nat} {vs : List AV} {alts : List Alt} {xs : List (List AV)} {B : Nat → Prop} {H : HV} {rest : List (AV × Value)} {tmps : Array Value} {w : World} {l dg : Nat} {r0 : Loop} {B1 : Nat → Prop}
theorem HV.dom{H:HV}{b:Nat}(h:¬ ∃o v,H b o=some v)(o:Nat):H b o=none:=by
 cases hh:H b o with
 |none=>rfl
 |some v=>exact absurd ⟨o,v,hh⟩ h
theorem dropAt{α:Type}{xs:List α}{k:Nat}{x:α}(h:xs[k]? =some x):xs.drop k=x::xs.drop (k+1):=by
 obtain⟨h1,h2⟩:=List.getElem?_eq_some_iff.1 h;rw[List.drop_eq_getElem_cons h1,h2]
theorem JJ.own(hl:l=dg+1)(hB:∀b,B b→B1 b)(ag:∀b,B b→b<w.heap.size)(ac:∀b,B1 b→b<dg+2){p:Option Nat}{O:Nat→Prop}{Hc:HV}{w' aa:World}(h:JJ P gl ps n ks vs alts xs B H rest tmps w l dg r0 B1 p O Hc w')(a3:Qd (BO O w') w' aa):JJ P gl ps n ks vs alts xs B H rest tmps w l dg r0 B1 p (HK O w' aa) Hc aa:=by
 obtain⟨⟨C,m',H',H0',ab,r,h1,h2,h3,h4,h5,h6,h7,h8⟩,hd,ae,ak⟩:=h;have a8:∀b,b<dg+2→¬O b:=fun b hb hO=>by have:=(h3 b (.inl hO)).1;omega
 have aj:BO O w' l:=⟨Ln h1,a8 l (by omega)⟩
 have ai:BO O w' dg:=⟨Ln hd,a8 dg (by omega)⟩
 have aw:dg+2≤w'.heap.size:=by have:=Ln h1;omega
 have ah:∀b o v,H' b o=some v→BO O w' b:=fun b o v hv=>⟨Uu h8.heap.sat hv,fun hO=>by rw[h4 b hO o] at hv;cases hv⟩
 have a7:∀id b,lkb (X8 n ks vs ab).hp id=some b→Real b (m' id)→(m' id).g<w'.heap.size∧¬(B1 (m' id).g∨O (m' id).g∨C (m' id).g):=fun id b a4 hr=>⟨(h8.heap.sepR id b a4 hr).2.1,(h8.heap.sepR id b a4 hr).1⟩
 refine⟨⟨C,m',H',H',ab,r,by rw[a3.block l aj];exact h1,h2,fun b hb=> ?_,fun b hb o=> ?_,h5,h6,fun b o hb=> ?_,?_⟩,by rw[a3.block dg ai];exact hd,ae.trans (a3.mono fun b hb=>⟨Nat.lt_of_lt_of_le (ag b hb) ae.size,a8 b (ac b (hB b hb))⟩),ak⟩
 ·rcases hb with(hb | hb) | hb
  ·exact⟨(h3 b (.inl hb)).1,Nat.lt_of_lt_of_le (h3 b (.inl hb)).2 a3.size⟩
  ·exact⟨by have:=hb.1;omega,hb.2⟩
  ·exact⟨(h3 b (.inr hb)).1,Nat.lt_of_lt_of_le (h3 b (.inr hb)).2 a3.size⟩
 ·rcases hb with hb | hb
  ·exact h4 b hb o
  ·cases hh:H' b o with
   |none=>rfl
   |some v=>have:=Uu h8.heap.sat hh;omega
 ·rw[← h7 b o hb];exact h8.heap.old b o (.inl hb)
 ·refine h8.world a3 ah (fun id b a4 hr=>⟨(a7 id b a4 hr).1,fun hO=>(a7 id b a4 hr).2 (.inr (.inl hO))⟩) (fun _ _ _=>rfl) (fun b hb=> ?_) (fun id b a4 hr hb=> ?_) (h8.heap.gv.to a3 fun b _ hb=> ?_)
  ·rcases hb with hb | (hb | hb) | hb
   ·have:=ac b hb;have:=a3.size;omega
   ·exact Nat.lt_of_lt_of_le (h3 b (.inl hb)).2 a3.size
   ·exact hb.2
   ·exact Nat.lt_of_lt_of_le (h3 b (.inr hb)).2 a3.size
  ·obtain⟨x,y⟩:=a7 id b a4 hr;rcases hb with hb | (hb | hb) | hb
   ·exact y (.inl hb)
   ·exact y (.inr (.inl hb))
   ·have:=hb.1;omega
   ·exact y (.inr (.inr hb))
  ·rcases hb with hb | hb | hb
   ·exact .inl hb
   ·exact .inr (.inl (.inl hb))
   ·exact .inr (.inr hb)
theorem JJ.pub(ad:∀b,B1 b→b<dg+2){p:Option Nat}{O:Nat→Prop}{Hc:HV}{w':World}{H2:HV}(h:JJ P gl ps n ks vs alts xs B H rest tmps w l dg r0 B1 p O Hc w')(hs:HV.sat H2 w')(hk:∀b o v,H2 b o=some v→O b∨Hc b o=some v):JJ P gl ps n ks vs alts xs B H rest tmps w l dg r0 B1 p (Ri O H2) (unH Hc H2) w':=by
 obtain⟨⟨C,m',H',H0',a7,r,h1,h2,h3,h4,h5,h6,h7,h8⟩,hd,ae,ah⟩:=h;have aa:∀b o v,unH H' H2 b o=some v→H' b o=some v∨(O b∧H2 b o=some v):=fun b o v hv=>by
  rcases PB hv with e | ⟨e1,e2⟩
  ·exact .inl e
  ·rcases hk b o v e2 with hO | hc
   ·exact .inr ⟨hO,e2⟩
   ·rw[h5 b o v hc] at e1;cases e1
 have af:∀id b,lkb (X8 n ks vs a7).hp id=some b→Real b (m' id)→∀o,unH H' H2 (m' id).g o=none:=fun id b a5 hr o=>by
  obtain⟨x,y,z⟩:=h8.heap.sepR id b a5 hr;cases hh:unH H' H2 (m' id).g o with
  |none=>rfl
  |some v=>
   rcases aa _ _ _ hh with e | ⟨hO,_⟩
   ·rw[z o] at e;cases e
   ·exact absurd (.inr (.inl hO)) x
 have ag:=h8.know (H':=unH H' H2) (H0':=unH H' H2) Rx (unH_sat h8.heap.sat hs) (fun _ _ _=>rfl) af
 have a8:∀b,b<dg+2→¬O b:=fun b hb hO=>by have:=(h3 b (.inl hO)).1;omega
 have split:∀b,O b→Ri O H2 b∨(O b∧∃o v,H2 b o=some v):=fun b hO=>by
  by_cases hx:∃o v,H2 b o=some v;·exact .inr ⟨hO,hx⟩
  ·exact .inl ⟨hO,HV.dom hx⟩
 refine⟨⟨fun b=>C b∨(O b∧∃o v,H2 b o=some v),m',unH H' H2,unH H' H2,a7,r,h1,h2,fun b hb=> ?_,fun b hb o=> ?_,fun b o v hv=> ?_,fun b o v hv=> ?_,fun b o hb=> ?_,?_⟩,hd,ae,fun b o v hv=>Rx b o v (ah b o v hv)⟩
 ·rcases hb with hb | hb | hb
  ·exact h3 b (.inl hb.1)
  ·exact h3 b (.inr hb)
  ·exact h3 b (.inl hb.1)
 ·simp[unH,h4 b hb.1 o,hb.2 o]
 ·rcases PB hv with e | ⟨_,e2⟩
  ·exact Rx b o v (h5 b o v e)
  ·rcases hk b o v e2 with hO | hc
   ·simp[unH,h4 b hO o,e2]
   ·exact Rx b o v (h5 b o v hc)
 ·rcases PB hv with e | ⟨_,e2⟩
  ·rcases h6 b o v e with hb | hb
   ·exact .inl hb
   ·exact .inr (.inl hb)
  ·rcases hk b o v e2 with hO | hc
   ·exact .inr (.inr ⟨hO,o,v,e2⟩)
   ·rcases h6 b o v hc with hb | hb
    ·exact .inl hb
    ·exact .inr (.inl hb)
 ·have e1:H' b o=H b o:=(h8.heap.old b o (.inl hb)).trans (h7 b o hb);cases hh:unH H' H2 b o with
  |none=>
   cases h9:H' b o with
   |none=>rw[← e1,h9]
   |some v=>rw[Rx b o v h9] at hh;cases hh
  |some v=>
   rcases aa _ _ _ hh with e | ⟨hO,e⟩
   ·rw[← e1,e]
   ·exact absurd hO (a8 b (ad b hb))
 ·refine ag.base (fun _ _ _=>rfl) (fun b hb=> ?_) (fun id b a5 hr hb=> ?_) (h8.heap.gv.sup fun b hb=> ?_)
  ·refine h8.heap.low b ?_;rcases hb with hb | hb | hb | hb
   ·exact .inl hb
   ·exact .inr (.inl hb.1)
   ·exact .inr (.inr hb)
   ·exact .inr (.inl hb.1)
  ·refine(h8.heap.sepR id b a5 hr).1 ?_;rcases hb with hb | hb | hb | hb
   ·exact .inl hb
   ·exact .inr (.inl hb.1)
   ·exact .inr (.inr hb)
   ·exact .inr (.inl hb.1)
  ·rcases hb with hb | hb | hb
   ·exact .inl hb
   ·rcases split b hb with hb | hb
    ·exact .inr (.inl hb)
    ·exact .inr (.inr (.inr hb))
   ·exact .inr (.inr (.inl hb))
theorem JJ.round(hl:l=dg+1)(cp:dg=w.heap.size)(hB:∀b,B b→B1 b)(br:∀b,B b→b<w.heap.size)(ck:∀b,B1 b→b<dg+2)(b4:B1 l)(bq:B1 dg)(ai:rest.map (·.1)=ps)(aw:r0.state= .ready)(bg:r0.pending=none)(c6:r0.tmps=tmps)(c5:tmps.size=n)
  (ha:Qz r0.assign=false) (hb:Qz r0.body=false) {k:Nat} {O:Nat→Prop} {Hc:HV} {w':World} {x:List AV} {us:Array Value} (h:JJ P gl ps n ks vs alts xs B H rest tmps w l dg r0 B1 (some k) O Hc w') (hx:xs[k]? =some x) (c7:x.length=us.size) (c8:∀(j:Nat) (c:AV) (v:Value),x[j]? =some c→us[j]? =some v→RelI Hc c v):
  ∃fn tm b1 bd,(Instr.yield l us).run P w'= .ok (.round l fn tm b1 bd) w'∧∀ro i,RoundIn (FW ro) i P l fn tm b1 bd w' fun e w2=>∃b,e= .returned (.bool b)∧Qd O w' w2∧JJ P gl ps n ks vs alts xs B H rest tmps w l dg r0 B1 (if b then some (k+1) else none) O Hc w2:=by
 obtain⟨⟨C,m',H',H0',bm,r,h1,⟨rfl,hR⟩,h3,h4,h5,h6,h7,h8⟩,hd,bv,bb⟩:=h;rw[dropAt hx] at hR;obtain⟨c4,s0,bh,hW⟩:=hR;obtain⟨bf,be⟩:=Q0p c4;have bp:RelS m' H' (fun b=>B1 b∨O b∨C b) H' gl (kvs ks vs tmps++rest) (X8 n ks vs bm) tmps w':=(h8.base (fun _ _ _=>rfl) h8.heap.low (fun id b ap hr=>(h8.heap.sepR id b ap hr).1) h8.heap.gv).hold2 bf
 obtain⟨c0,bk,e1,e2⟩:=TS r.params.toList x us.toList _ tmps s0 bp bh (by simpa using c7) (fun j c v hc hv=>.imm _ _ ((c8 j c v hc (by simpa using hv)).mono h5))
 have ao:(r.params.zip us).foldl (fun tm (q:Nat×Value)=>tm.setIfInBounds q.1 q.2) r.tmps=(r.params.toList.zip us.toList).foldl (fun tm (q:Nat×Value)=>tm.setIfInBounds q.1 q.2) tmps:=by
  rw[← Array.foldl_toList,Array.toList_zip,c6]
 rw[← ao] at bk;have ae:(kvs ks vs tmps++rest).map (·.1)=vs++ps:=by rw[List.map_append,Q15 be,ai]
 have cq:l<dg+2:=by omega
 refine⟨r.fn,_,r.assign,r.body,run_yield h1 (by simpa using c0.symm),fun ro i=> ?_⟩
 refine roundIn_of_wpIn trivial ?_;have hA:=(hW (some l) i (fun e=>by rw[ha] at e;cases e) _ _ _ m' H' {tmps:=_,defers:=[]} w' (fun c9 e=>by cases e;exact ae) bk)
 refine wpIn_mono hA fun e a1 w1 hq=> ?_
 obtain⟨s1,m1,H1,B1',H01,D1,⟨rfl,bu⟩,a3,ar⟩:=hq;have aq:B1' l:=a3.sub l (.inl b4);have a4:w1.heap[l]? =some (.loop r):=by rw[a3.bel.block l (.inl b4)];exact h1
 refine⟨_,run_beginRound a4 aw,?_⟩;have aj:=ar.obj (o2:=.loop {r with state:=.busy}) aq a4 (fun _ _ _ q=>by cases q)
 have b3:=(bu (some l) i (fun e=>by rw[hb] at e;cases e) _ _ _ m1 H1 a1 _ (fun c9 e=>by cases e;exact ae) aj)
 refine wpIn_mono b3 fun e a2 w2 hq=> ?_
 obtain⟨s2,m2,H2,B2',H02,D2,⟨j,b2,hj,ax,ab⟩,a6,au⟩:=hq;have bw:B2' l:=a6.sub l aq;have a5:w2.heap[l]? =some (.loop {r with state:=.busy}):=by rw[a6.bel.block l aq];exact World.putObj_heap_same (Ln a4)
 have a9:=run_endRound (P:=P) j a5;have an:=au.back2 (n:=n) c5;obtain⟨m3,H3,af⟩:=ax m2 H2 B2' H02 rest tmps w2 ai an;have a7:=af.obj (o2:=.loop {r with state:=if j.isNone then .ready else .done,pending:=j}) bw a5 (fun _ _ _ q=>by cases q)
 have hK:Qd (fun b=>(B1 b∨O b∨C b)∧b≠l) w' (w2.putObj l (.loop {r with state:=if j.isNone then .ready else .done,pending:=j})):=by
  have c1:=(a3.bel.mono (B':=fun b=>(B1 b∨O b∨C b)∧b≠l) fun b hb=>hb.1).obj (g:=l) (o2:=.loop {r with state:=.busy}) (fun hb=>hb.2 rfl) a4 (fun _ _ _ q=>by cases q)
  exact(c1.trans (a6.bel.mono fun b hb=>a3.sub b hb.1)).obj (g:=l) (fun hb=>hb.2 rfl) a5 (fun _ _ _ q=>by cases q)
 have hold:∀b o,(B1 b∨O b∨C b)→H3 b o=H' b o:=fun b o hb=>(af.heap.old b o (a6.sub b (a3.sub b hb))).trans ((a6.old b o (a3.sub b hb)).trans (a3.old b o hb))
 have bx:∀b,O b∨C b→b≠l:=fun b hb e=>by have:=(h3 b hb).1;omega
 have ag:RelS m3 H3 (fun b=>B1 b∨O b∨C b) H3 gl rest (X8 n ks vs b2) tmps (w2.putObj l (.loop {r with state:=if j.isNone then .ready else .done,pending:=j})):=
  a7.base (fun _ _ _=>rfl) (fun b hb=>a7.heap.low b (a6.sub b (a3.sub b hb))) (fun id b ap hr hb=>(a7.heap.sepR id b ap hr).1 (a6.sub _ (a3.sub _ hb))) (h8.heap.gv.to hK fun b _ hb=>hb)
 have aa:∃b,Ending.returned (.bool j.isNone)= .returned (.bool b)∧Qd O w' (w2.putObj l (.loop {r with state:=if j.isNone then .ready else .done,pending:=j}))∧JJ P gl ps n ks vs alts xs B H rest tmps w l dg r B1 (if b then some (k+1) else none) O Hc (w2.putObj l (.loop {r with state:=if j.isNone then .ready else .done,pending:=j})):=by
  refine⟨j.isNone,rfl,hK.mono fun b hb=>⟨.inr (.inl hb),bx b (.inl hb)⟩,?_⟩
  have am:(w2.putObj l (.loop {r with state:=if j.isNone then .ready else .done,pending:=j})).heap[dg]? =some (.deferred (some [])):=by rw[hK.block dg ⟨.inl bq,by omega⟩];exact hd
  have ac:(w2.putObj l (.loop {r with state:=if j.isNone then .ready else .done,pending:=j})).heap[l]? =some (.loop {r with state:=if j.isNone then .ready else .done,pending:=j}):=World.putObj_heap_same (Ln a5)
  have ak:Qd B w (w2.putObj l (.loop {r with state:=if j.isNone then .ready else .done,pending:=j})):=bv.trans (hK.mono fun b hb=>⟨.inl (hB b hb),fun e=>by have:=br b hb;omega⟩)
  have b9:∀b,O b∨C b→dg+2≤b∧b< (w2.putObj l (.loop {r with state:=if j.isNone then .ready else .done,pending:=j})).heap.size:=fun b hb=>⟨(h3 b hb).1,Nat.lt_of_lt_of_le (h3 b hb).2 hK.size⟩
  have b8:∀b,O b→∀o,H3 b o=none:=fun b hb o=>(hold b o (.inr (.inl hb))).trans (h4 b hb o)
  have b6:HV.le Hc H3:=fun b o v hv=>by
   rw[hold b o (by rcases h6 b o v hv with q | q;exact .inl q;exact .inr (.inr q))];exact h5 b o v hv
  have b5:∀b o,B1 b→H3 b o=H b o:=fun b o hb=>(hold b o (.inl hb)).trans ((h8.heap.old b o (.inl hb)).trans (h7 b o hb))
  cases j with
  |none=>
   obtain⟨bn,bc,bz⟩:=ab;obtain⟨m4,H4,ah⟩:=(CO (gl:=gl) (n:=n) (ks:=ks) (.refl vs) bc).2 _ _ _ _ _ _ _ ag;have ad:∀b o,(B1 b∨O b∨C b)→H4 b o=H3 b o:=fun b o hb=>ah.heap.old b o hb
   refine⟨⟨C,m4,H4,H3,bn,r,?_,⟨rfl,bz⟩,b9,fun b hb o=>(ad b o (.inr (.inl hb))).trans (b8 b hb o),fun b o v hv=> ?_,h6,b5,ah⟩,am,ak,bb⟩
   ·rw[ac];have:({r with state:=if(none:Option Code).isNone then .ready else .done,pending:=none}:Loop)=r:=by
     cases r;simp only at aw bg;subst aw;subst bg;rfl
    rw[this]
   ·rw[ad b o (by rcases h6 b o v hv with q | q;exact .inl q;exact .inr (.inr q))];exact b6 b o v hv
  |some c=>
   exact⟨⟨C,m3,H3,H3,b2,_,ac,⟨e,c,hj,rfl,ab⟩,b9,b8,b6,h6,b5,ag⟩,am,ak,bb⟩
 cases e with
 |normal=>cases hj;exact⟨_,_,a9,aa⟩
 |ret=>cases hj;exact⟨_,_,a9,aa⟩
 |exit i=>cases hj;exact⟨_,_,a9,aa⟩
 |_=>cases hj
theorem JJ.ok(hl:l=dg+1)(ah:dg=w.heap.size)(hB:∀b,B b→B1 b)(a9:∀b,B b→b<w.heap.size)(a3:∀b,B1 b→b<dg+2)(ag:B1 l)(af:B1 dg)(aj:∀g,RelI H (gl g) (.pointer (some ⟨g,0,none⟩)))(ai:∀g sz cs,gl g= .ip sz [.agg cs] 0 0→B g)(a5:rest.map (·.1)=ps)(am:r0.state= .ready)(ak:r0.pending=none)(ao:r0.tmps=tmps)(an:tmps.size=n)
  (ha:Qz r0.assign=false) (hb:Qz r0.body=false):JOk P gl l xs (JJ P gl ps n ks vs alts xs B H rest tmps w l dg r0 B1) where
 sat p O Hc w' h:=by
  obtain⟨⟨C,m',H',H0',a4,r,h1,h2,h3,h4,h5,h6,h7,h8⟩,_,_,_⟩:=h;exact fun b o v hv=>h8.heap.sat b o v (h5 b o v hv)
 low p O Hc w' h b hb:=by
  obtain⟨⟨C,m',H',H0',a4,r,h1,h2,h3,h4,h5,h6,h7,h8⟩,_,_,_⟩:=h;exact(h3 b (.inl hb)).2
 dis p O Hc w' h b hb o:=by
  obtain⟨⟨C,m',H',H0',a4,r,h1,h2,h3,h4,h5,h6,h7,h8⟩,_,_,_⟩:=h;cases hh:Hc b o with
  |none=>rfl
  |some v=>rw[← h4 b hb o,h5 b o v hh]
 gls p O Hc w' h g:=(aj g).mono h.leH
 gv p O Hc w' h:=by
  obtain⟨⟨C,m',H',H0',a4,r,h1,h2,h3,h4,h5,h6,h7,h8⟩,hd,_,_⟩:=h;refine fun g sz cs hg=> ?_
  obtain⟨a,D,e,fr,x,y⟩:=h8.heap.gv g sz cs hg;exact⟨⟨Ln x,fun hO=>by have:=(h3 g (.inl hO)).1;have:=a3 g (hB g (ai g sz cs hg));omega⟩,D,e,fr,x,y⟩
 own p O Hc w' w'' h hbl:=h.own hl hB a9 a3 hbl
 pub p O Hc w' H2 h hs hk:=h.pub a3 hs hk
 round k O Hc w' x us h hx hxl hxr:=h.round hl ah hB a9 a3 ag af a5 am ak ao an ha hb hx hxl hxr
set_option maxHeartbeats 1000000 in
theorem Q5y{m:Nat→Lc}{H0:HV}{bs:List Box}{a:Act}{g:Operand}{a4:Array Tmp}{a3 bd:Code}{f:Nat}{ab:List AV}{us:Array Value}(hr:RelS m H B H0 gl rest (X8 n ks vs bs) a.tmps w)(b6:a.eval g= .func (.func f) #[] us)(b3:ab.length=us.size)(b4:∀(j:Nat) (c:AV) (v:Value),ab[j]? =some c→us[j]? =some v→RelI H c v)
  (ao:Nc P f) (b8:ItOk P gl f ab xs) (au:L2 P gl ps n a4 a3 bd ks vs alts xs bs) (ba:rest.map (·.1)=ps) (ha:Qz a3=false) (hb:Qz bd=false) (d:Nat):
  (Code.rangeFunc g a4 a3 bd).wpIn (FW none) d P (Post gl B H0 rest true a w (fun e st'=>∃a5∈alts,∃x,a5.φ x∧e=a5.ex∧st'=X8 n ks (a5.vs x) (a5.bs x))) a w:=by
 refine wpIn_rangeFunc fun fn _=> ?_
 have ae:(Instr.enterLoop fn a.tmps a4 a3 bd (FW none).round).run P w= .ok (w.heap.size+1,[{target:=.collected w.heap.size,args:= #[]}]) ((w.alloc (.deferred (some []))).alloc (.loop {state:=.ready,pending:=none,fn:=fn,tmps:=a.tmps,params:=a4,assign:=a3,body:=bd,defers:=w.heap.size})):=run_enterLoop_outer fn a.tmps a4 a3 bd;have ac:Qd (fun b=>b<w.heap.size) w ((w.alloc (.deferred (some []))).alloc (.loop {state:=.ready,pending:=none,fn:=fn,tmps:=a.tmps,params:=a4,assign:=a3,body:=bd,defers:=w.heap.size})):=
  ((Qd.refl _ w).alloc (fun _ h=>h) _).alloc (fun k hk=>by simp;omega) _
 have aq:((w.alloc (.deferred (some []))).alloc (.loop {state:=.ready,pending:=none,fn:=fn,tmps:=a.tmps,params:=a4,assign:=a3,body:=bd,defers:=w.heap.size})).heap[w.heap.size+1]? =some (.loop {state:=.ready,pending:=none,fn:=fn,tmps:=a.tmps,params:=a4,assign:=a3,body:=bd,defers:=w.heap.size}):=by
  have:=Xl (w.alloc (.deferred (some []))) (.loop {state:=.ready,pending:=none,fn:=fn,tmps:=a.tmps,params:=a4,assign:=a3,body:=bd,defers:=w.heap.size})
  rwa [World.size_alloc] at this
 have an:((w.alloc (.deferred (some []))).alloc (.loop {state:=.ready,pending:=none,fn:=fn,tmps:=a.tmps,params:=a4,assign:=a3,body:=bd,defers:=w.heap.size})).heap[w.heap.size]? =some (.deferred (some [])):=by
  rw[US _ _ _ (by simp)];exact Xl w _
 have aw:((w.alloc (.deferred (some []))).alloc (.loop {state:=.ready,pending:=none,fn:=fn,tmps:=a.tmps,params:=a4,assign:=a3,body:=bd,defers:=w.heap.size})).heap.size=w.heap.size+2:=by simp
 generalize ((w.alloc (.deferred (some []))).alloc (.loop {state:=.ready,pending:=none,fn:=fn,tmps:=a.tmps,params:=a4,assign:=a3,body:=bd,defers:=w.heap.size}))=W2 at*;have ar:(resolve a.eval (rangeCall g (w.heap.size+1)) 0).run P W2= .ok {target:=.fn (.func f) us,args:= #[.func (.yield (w.heap.size+1)) #[] #[]]} W2:=by
  show(Deferred.ofValue (a.eval g) (#[Operand.const (.func (.yield (w.heap.size+1)) #[] #[])].map a.eval)).run P W2=_;rw[b6];simp[Deferred.ofValue,Act.eval]
 have ap:(invoke (.fn (.func f) us) #[.func (.yield (w.heap.size+1)) #[] #[]]).run P W2= .ok (.enter f (#[.func (.yield (w.heap.size+1)) #[] #[]]++us)) W2:=by
  simp only[invoke];exact ao _ _
 generalize hB1:(fun b=>b<w.heap.size+2∧∀id b0,lkb (X8 n ks vs bs).hp id=some b0→Real b0 (m id)→b≠(m id).g)=B1
 have ad:∀b,B b→B1 b:=fun b hb=>by subst hB1;exact⟨by have:=hr.heap.low b hb;omega,fun id b0 a6 a7 e=>(hr.heap.sepR id b0 a6 a7).1 (e▸hb)⟩
 have ag:∀b,B1 b→b<w.heap.size+2:=fun b hb=>by subst hB1;exact hb.1
 have a9:∀b,w.heap.size≤b→b<w.heap.size+2→B1 b:=fun b h1 h2=>by subst hB1;exact⟨h2,fun id b0 a6 a7 e=>by have:=(hr.heap.sepR id b0 a6 a7).2.1;omega⟩
 have ak:∀id b0,lkb (X8 n ks vs bs).hp id=some b0→Real b0 (m id)→¬B1 (m id).g:=fun id b0 a6 a7 hb=>by subst hB1;exact hb.2 id b0 a6 a7 rfl
 have am:∀b o v,H b o=some v→B1 b:=fun b o v hv=>by
  have bp:=Uu hr.heap.sat hv;subst hB1;exact⟨by omega,fun id b0 a6 a7 e=>by have:=(hr.heap.sepR id b0 a6 a7).2.2 o;rw[← e,hv] at this;cases this⟩
 have hj:=JJ.ok (P:=P) (gl:=gl) (ps:=ps) (n:=n) (ks:=ks) (vs:=vs) (alts:=alts) (xs:=xs) (B:=B) (H:=H) (rest:=rest) (tmps:=a.tmps) (w:=w) (l:=w.heap.size+1) (dg:=w.heap.size) (r0:= {state:=.ready,pending:=none,fn:=fn,tmps:=a.tmps,params:=a4,assign:=a3,body:=bd,defers:=w.heap.size}) (B1:=B1)
  rfl rfl ad hr.heap.low ag (a9 _ (by omega) (by omega)) (a9 _ (by omega) (by omega)) hr.heap.gl (fun g sz cs hg=>(hr.heap.gv g sz cs hg).1) ba rfl rfl rfl hr.size ha hb
 have h0:JJ P gl ps n ks vs alts xs B H rest a.tmps w (w.heap.size+1) w.heap.size {state:=.ready,pending:=none,fn:=fn,tmps:=a.tmps,params:=a4,assign:=a3,body:=bd,defers:=w.heap.size} B1 (some 0) (fun _=>False) H W2:=by
  refine⟨⟨fun _=>False,m,H,H,bs,_,aq,⟨rfl,au⟩,fun b hb=>by rcases hb with h | h<;>exact h.elim,fun b hb=>hb.elim,.refl _,fun b o v hv=>.inl (am b o v hv),fun _ _ _=>rfl,?_⟩,an,ac.mono hr.heap.low,.refl _⟩
  refine hr.world ac (fun b o v hv=>Uu hr.heap.sat hv) (fun id b a6 a7=>(hr.heap.sepR id b a6 a7).2.1) (fun _ _ _=>rfl) (fun b hb=> ?_) (fun id b a6 a7 hb=> ?_) (hr.heap.gv.to ac fun b _ hb=>.inl (ad b hb))
  ·rw[aw];rcases hb with h | h | h
   ·exact ag b h
   ·exact h.elim
   ·exact h.elim
  ·rcases hb with h | h | h
   ·exact ak id b a6 a7 h
   ·exact h.elim
   ·exact h.elim
 refine⟨_,_,_,_,_,_,_,_,ae,ar,fun _ _=>trivial,ap,(fun hh=>by simp[FW] at hh),Nx ((b8.ok _ _ hj H W2 us h0 b3 b4).mono fun e w3 ah=> ?_)⟩
 obtain⟨v,p',O',Hc',rfl,hp',⟨⟨C,m',H',H0',ay,r,h1,h2,h3,h4,h5,h6,h7,h8⟩,b5,b1,bo⟩⟩:=ah;have aj:∀(e:Exit) (r:Loop),w3.heap[w.heap.size+1]? =some (.loop r)→Out alts e vs ay→Post gl B H0 rest true a w (fun e st'=>∃a5∈alts,∃x,a5.φ x∧e=a5.ex∧st'=X8 n ks (a5.vs x) (a5.bs x)) e {a with defers:=[{target:=.collected w.heap.size,args:= #[]}]++a.defers} (w3.putObj (w.heap.size+1) (.loop {r with state:=.exhausted})):=fun e r h1 ho=>by
  obtain⟨a5,az,x,hφ,rfl,lv,lb⟩:=ho.ok;have bb:=h8.obj (o2:=.loop {r with state:=.exhausted}) (.inl (a9 _ (by omega) (by omega))) h1 (fun _ _ _ q=>by cases q)
  obtain⟨m4,H4,bc⟩:=(CO (gl:=gl) (n:=n) (ks:=ks) lv lb).2 _ _ _ _ _ _ _ bb;refine⟨_,m4,H4,_,H0',[w.heap.size],⟨a5,az,x,hφ,rfl,rfl⟩,⟨fun b hb=>.inl (ad b hb),fun b o hb=> ?_,rfl,by simp,fun k hk=> ?_,fun hh=>(by cases hh),?_⟩,bc⟩
  ·rw[h7 b o (ad b hb)];exact hr.heap.old b o hb
  ·simp only[List.mem_singleton] at hk;subst hk;exact⟨.inl (a9 _ (by omega) (by omega)),Nat.le_refl _,by rw[World.putObj_heap_other (by omega)];exact b5⟩
  ·exact b1.obj (fun hb=>by have:=hr.heap.low _ hb;omega) h1 (fun _ _ _ q=>by cases q)
 cases p' with
 |some k=>
  obtain⟨rfl,hR⟩:=h2;obtain rfl:k=xs.length:=by rcases hp' with e | e<;>cases e;rfl
  rw[List.drop_length] at hR;exact⟨none,_,run_endLoop (P:=P) h1 (by simp),aj .normal _ h1 hR.2⟩
 |none=>
  obtain⟨e,c,hc,rfl,ho⟩:=h2;refine⟨some c,_,run_endLoop (P:=P) h1 (by simp),?_⟩
  have:=aj e _ h1 ho;cases e with
  |ret=>cases hc;exact wpIn_ret this
  |exit i=>cases hc;exact wpIn_exit this
  |_=>cases hc
end
end HY
end
section
namespace HY
open Go Go.RowKit
def A0:List Alt→(Exit→List AV→List Box→Prop)→Prop
 | [],_=>True
 | [a],K=>∀x,a.φ x→K a.ex (a.vs x) (a.bs x)
 |a::b::r,K=>(∀x,a.φ x→K a.ex (a.vs x) (a.bs x))∧A0 (b::r) K
theorem HQ:∀ {l:List Alt} {K:Exit→List AV→List Box→Prop},A0 l K→∀a∈l,∀x,a.φ x→K a.ex (a.vs x) (a.bs x)
 | [],K,_,a,ha,_,_=>by simp at ha
 | [b],K,h,a,ha,x,hp=>by simp at ha;subst ha;exact h x hp
 |b::c::r,K,h,a,ha,x,hp=>by
  rcases List.mem_cons.1 ha with rfl | ha
  ·exact h.1 x hp
  ·exact HQ (l:=c::r) h.2 a ha x hp
def GL:Code→Nat
 | .region id _ _=>id+1
 | .seq a b=>match GL a with
  |0=>GL b
  |k+1=>k+1
 | .cond _ a b=>match GL a with
  |0=>GL b
  |k+1=>k+1
 | .block _ c=>GL c
 | .loop c=>GL c
 | .rangeFunc _ _ a b=>match GL a with
  |0=>GL b
  |k+1=>k+1
 |_=>0
def Dm(e:Exit):Bool:=match e with | .normal=>true | _=>false
def exIs(e:Exit)(id:Nat):Bool:=match e with | .exit i=>Nat.beq i id | _=>false
def jKey:Code→Nat
 | .region id _ _=>5000000+id
 | .cond _ a b=>6000000+GL (.cond (.tmp 0) a b)
 | .block id _=>7000000+id
 | .seq _ (.cond _ a b)=>6000000+GL (.cond (.tmp 0) a b)
 | .seq _ (.block id _)=>7000000+id
 |_=>8000000
def Jn(a3:Nat)(p:Prop):Prop:=p
def wjoin(ps:List AV)(kx:List Nat)(kbx:List KB)(n:Nat)(alts:List Alt)(e:Exit)(s:St):Prop:=
 match Dm e with
 |true=>match Nat.beq s.n n with
  |true=>Vk kbx s (fun s=>GN ps kx kbx s (Out alts .normal))
  |false=>False
 |false=>False
def wpre(hs:Zg)(id:Nat)(st:St)(K:St→Prop):Prop:=match lkH hs (7500000+id) with
 |some (.z kb _)=>Vk kb st K
 |_=>K st
theorem wpre_ok{gl:Nat→AV}{hs:Zg}{id:Nat}{st:St}{K:St→Prop}(h:wpre hs id st K):∃st',Conv gl st st'∧K st':=by
 unfold wpre at h;split at h;·exact YR h
 ·exact⟨st,.refl,h⟩
def V9(P:Program)(gl:Nat→AV)(ch0:Qo)(wf:WF)(hs:Zg)(a3:Option (List AV)):Nat→Code→St→(Exit→St→Prop)→Prop
 |0,_,_,_=>False
 |k+1,c,st,K=>match c with
  | .skip=>K .normal st
  | .label _=>K .normal st
  | .exit id=>K (.exit id) st
  | .ret=>K .ret st
  | .region id ops draw=>match draw with
   |true=>match Bw ops.toList with
    |nf=>wpre hs id st (fun st=>wrunR P gl ch0 hs ops.toList st.nx nf (st.bump ops.toList.length) (fun s=>A3 hs (ops.toList.take nf) s (fun s=>wseq P gl ch0 wf hs ops.toList (ops.toList.drop nf) s (K .normal))))
   |false=>wseq P gl ch0 wf hs ops.toList ops.toList st (K .normal)
  | .seq a b=>match lkH hs (jKey a) with
   |some (.l _ _ _ kx kbx alts)=>match a3 with
    |some ps=>∃u o,Jn (jKey a) (V9 P gl ch0 wf hs a3 k a st (wjoin ps kx kbx st.n (alts u o)))∧A0 (alts u o) (fun _ vs bs=>V9 P gl ch0 wf hs a3 k b (X8 st.n kx vs bs) K)
    |none=>False
   |_=>V9 P gl ch0 wf hs a3 k a st (fun e s=>match Dm e with
    |true=>V9 P gl ch0 wf hs a3 k b s K
    |false=>K e s)
  | .cond c a b=>match st.ev gl c with
   | .bool t=>match t with
    |true=>V9 P gl ch0 wf hs a3 k a st K
    |false=>V9 P gl ch0 wf hs a3 k b st K
   |_=>False
  | .block id c=>V9 P gl ch0 wf hs a3 k c st (fun e s=>match exIs e id with
   |true=>K .normal s
   |false=>K e s)
  | .loop c=>match lkH hs (3000000+GL c) with
   |some (.l gs ks kb kx _ alts)=>match a3 with
    |some ps=>Vk gs st (fun s=>Vk kb s (fun s=>GN ps ks kb s (fun vs bs=>∃u o,X7 P gl ps st.n c ks vs bs kx (alts u o)∧A0 (alts u o) (fun e a5 a4=>K e (X8 st.n kx a5 a4)))))
    |none=>False
   |_=>V9 P gl ch0 wf hs a3 k c st (fun e s=>match Dm e with
    |true=>V9 P gl ch0 wf hs a3 k (.loop c) s K
    |false=>K e s)
  | .rangeFunc g prm azz bd=>match lkH hs (4000000+GL (.seq azz bd)) with
   |some (.l gs ks kb _ _ alts)=>match a3 with
    |some ps=>match Qz azz || Qz bd with
     |true=>False
     |false=>Vk gs st (fun s=>Vk kb s (fun s=>match s.ev gl g with
      | .fn f caps=>match Ew P f,optL (tree (fun _=>none) false 12) caps with
       |true,some ts=>GN ps ks kb s (fun vs bs=>∃xs u o,ItOk P gl f ts xs∧L2 P gl ps st.n prm azz bd ks vs (alts u o) xs bs∧A0 (alts u o) (fun e a5 a4=>K e (X8 st.n ks a5 a4)))
       |_,_=>False
      |_=>False))
    |none=>False
   |_=>False
  |_=>False
section
variable {P : Program} {gl : Nat → AV} {ch0 : Qo} {wf : WF} {hs : Zg}
theorem Wk.mono{a3:Option (List AV)}{c:Code}{st:St}{K K':Exit→St→Prop}(h:Wk P gl a3 c st K)(hq:∀e s,K e s→K' e s):Wk P gl a3 c st K':=fun ro d a4 B H0 rest m H a w ht hr=>
 wpIn_mono (h ro d a4 B H0 rest m H a w ht hr) fun _ _ _ ⟨s,m',H',B',H0',D,q,f,r⟩=>⟨s,m',H',B',H0',D,hq _ _ q,f,r⟩
theorem WW{e:Exit}(h:Dm e=true):e= .normal:=by cases e<;>first | rfl | cases h
theorem LH{e:Exit}(h:Dm e=false):e≠ .normal:=fun he=>by subst he;cases h
theorem exIs_t{e:Exit}{id:Nat}(h:exIs e id=true):e= .exit id:=by
 cases e with
 |exit i=>rw[Nat.eq_of_beq_eq_true h]
 |_=>cases h
theorem exIs_f{i id:Nat}(h:exIs (.exit i) id=false):i≠id:=fun e=>by
 subst e;have:Nat.beq i i=true:=Nat.beq_refl i;simp only[exIs,this] at h;cases h
theorem BA(h0:ch0.Ok P gl)(b4:WF.Ok P gl wf)(az:P.follows .mixedOrders=true)(ab:Option (List AV)):∀(J k:Nat),k≤J→∀(c:Code) (st:St) (K:Exit→St→Prop),QT c=true→V9 P gl ch0 wf hs ab k c st K→Wk P gl ab c st K
 |_,0,_,_,_,_,_,h=>h.elim
 |0,k+1,hJ,_,_,_,_,_=>by omega
 |J+1,k+1,hJ,c,st,K,hok,h=>by
  have bf:=BA h0 b4 az ab J;have ih:=bf k (by omega)
  intro ro dp aa B H0 rest m H a w a3 hr;cases c with
  |skip=>exact wpIn_skip (.of h rfl (Qd.refl _ _) hr)
  |label l=>exact wpIn_label (.of h rfl (Qd.refl _ _) hr)
  |exit id=>exact wpIn_exit (.of h rfl (Qd.refl _ _) hr)
  |ret=>exact wpIn_ret (.of h rfl (Qd.refl _ _) hr)
  |region id ops draw=>
   simp only[V9] at h;cases draw with
   |true=>
    simp only[QT,Bool.not_true,Bool.false_or,Bool.and_eq_true] at hok;simp only at h;obtain⟨bb,ay⟩:=Th (ms:=YD ops.toList []) ops.toList.length;obtain⟨cu,b0,h⟩:=wpre_ok (gl:=gl) h;obtain⟨m,H,hr⟩:=b0.2 _ _ _ _ _ _ _ hr;obtain⟨cb,F,s,bm,hK,be,hF⟩:=Q6c h0 h;obtain⟨s1,hK,b3⟩:=S4 (gl:=gl) hK;have:=TU bm az hok.1 (id:=id) (nf:=Bw ops.toList) (ro:=ro) (n:=dp) (Q:=Post gl B H0 rest false a w K) bb ay hr be hF fun au a' w' m' H' bw bz c0 hd hb a5=>
     BE h0 b4 hok.1 ay (d0:=a.defers) (w0:=w) (fun sF a2 w2 m2 H2 bu bo bl a4=>.of bu bo bl a4) _ (Bw ops.toList) au s1 a' w' m' H' (Nat.le_refl _) (Nat.add_sub_cancel' bb) bw bz c0 hK hd hb (b3.rel _ _ _ _ _ _ _ a5)
    simpa[Qz] using this
   |false=>
    refine wpIn_region ?_;have:=Q28 h0 b4 (all:=ops.toList) (ro:=ro) (n:=dp) (d0:=a.defers) (w0:=w) (Q:=Post gl B H0 rest false a w K) (fun s a' w' m' H' hk hd hb a5=>.of hk hd hb a5) [] ops.toList st a w m H rfl h rfl (Qd.refl _ _) hr
    simpa[List.range_eq_range',Qz] using this
  |seq x y=>
   simp only[V9] at h;simp only[QT,Bool.and_eq_true] at hok;have aq:Qz x=true→ro=none:=fun e=>aa (by simp[Qz,e])
   have ar:Qz y=true→ro=none:=fun e=>aa (by simp[Qz,e])
   have ae:Qz (.seq x y)=false→Qz x=false∧Qz y=false:=fun e=>by simpa[Qz] using e
   split at h
   ·rename_i kx kbx alts _;split at h
    ·rename_i ps;obtain⟨u,o,h,aj⟩:=h;refine wpIn_seq (wpIn_mono (ih x st _ hok.1 h ro dp aq B H0 rest m H a w a3 hr) fun e a' w' hp=> ?_)
     obtain⟨s,m',H',B',H0',D,hq,hf,a5⟩:=hp;unfold wjoin at hq;split at hq
     ·rename_i he;obtain rfl:=WW he;split at hq
      ·rename_i hn;have hn:=Nat.eq_of_beq_eq_true hn;obtain⟨s2,hc,hq⟩:=YR (gl:=gl) hq;obtain⟨m3,H3,c2⟩:=hc.2 _ _ _ _ _ _ _ a5;obtain⟨cv,ci,m4,ho,bc⟩:=GY c2 (a3 ps rfl) hq;rw[hc.1,hn] at bc;obtain⟨ai,h1,x0,h2,_,lv,lb⟩:=ho.ok;obtain⟨m5,H5,c3⟩:=(CO (gl:=gl) (n:=st.n) (ks:=kx) lv lb).2 _ _ _ _ _ _ _ bc;refine wpIn_mono (ih y _ K hok.2 (HQ aj ai h1 x0 h2) ro dp ar B' H0' rest m5 H5 a' w' a3 c3) fun e a2 w2 b2=> ?_
       obtain⟨s2,m2,H2,B2,H02,D2,ac,a7,a4⟩:=b2;exact⟨s2,m2,H2,B2,H02,_,ac,hf.trans a7 ae,a4⟩
      ·cases hq
     ·cases hq
    ·cases h
   ·refine wpIn_seq (wpIn_mono (ih x st _ hok.1 h ro dp aq B H0 rest m H a w a3 hr) fun e a' w' hp=> ?_)
    obtain⟨s,m',H',B',H0',D,hq,hf,a5⟩:=hp;split at hq
    ·rename_i he;obtain rfl:=WW he;refine wpIn_mono (ih y s K hok.2 hq ro dp ar B' H0' rest m' H' a' w' a3 a5) fun e a2 w2 b2=> ?_
     obtain⟨s2,m2,H2,B2,H02,D2,ac,a7,a4⟩:=b2;exact⟨s2,m2,H2,B2,H02,_,ac,hf.trans a7 ae,a4⟩
    ·rename_i he;have:=LH he;cases e with
     |normal=>exact absurd rfl this
     |_=>exact⟨s,m',H',B',H0',D,hq,hf.up fun e=>(ae e).1,a5⟩
  |cond c x y=>
   simp only[V9] at h;simp only[QT,Bool.and_eq_true] at hok;have aq:Qz x=true→ro=none:=fun e=>aa (by simp[Qz,e])
   have ar:Qz y=true→ro=none:=fun e=>aa (by simp[Qz,e])
   have ae:Qz (.cond c x y)=false→Qz x=false∧Qz y=false:=fun e=>by simpa[Qz] using e
   split at h
   ·rename_i t ht;have hv:=hr.ev c;rw[ht] at hv;cases t with
    |true=>exact wpIn_cond hv.bool_inv (wpIn_mono (ih x st K hok.1 h ro dp aq B H0 rest m H a w a3 hr) fun e a2 w2 ⟨s2,m2,H2,B2,H02,D2,ac,a7,a4⟩=>⟨s2,m2,H2,B2,H02,D2,ac,a7.up fun e=>(ae e).1,a4⟩)
    |false=>exact wpIn_cond hv.bool_inv (wpIn_mono (ih y st K hok.2 h ro dp ar B H0 rest m H a w a3 hr) fun e a2 w2 ⟨s2,m2,H2,B2,H02,D2,ac,a7,a4⟩=>⟨s2,m2,H2,B2,H02,D2,ac,a7.up fun e=>(ae e).2,a4⟩)
   ·cases h
  |block id c=>
   simp only[V9] at h;simp only[QT] at hok;refine wpIn_block (wpIn_mono (ih c st _ hok h ro dp aa B H0 rest m H a w a3 hr) fun e a' w' hp=> ?_)
   obtain⟨s,m',H',B',H0',D,hq,hf,a5⟩:=hp;split at hq
   ·rename_i he;obtain rfl:=exIs_t he;simp only[Exit.inBlock,if_true];exact⟨s,m',H',B',H0',D,hq,hf,a5⟩
   ·rename_i he;cases e with
    |exit i=>
     simp only[Exit.inBlock,if_neg (exIs_f he)];exact⟨s,m',H',B',H0',D,hq,hf,a5⟩
    |_=>exact⟨s,m',H',B',H0',D,hq,hf,a5⟩
  |loop c=>
   have cg:=hok;simp only[QT] at hok;have ax:∀j,j≤k+1→∀(s:St) (m1:Nat→Lc) (H1:HV) (B1:Nat→Prop) (H01:HV) (D1:List Nat) (a1:Act) (w1:World),Fin' B H0 a w (Qz c) B1 H01 D1 a1 w1→RelS m1 H1 B1 H01 gl rest s a1.tmps w1→
     (∃υ ω gs ks kb kx kbx,∃alts:υ→ω→List Alt,lkH hs (3000000+GL c)=some (.l gs ks kb kx kbx alts))∨(V9 P gl ch0 wf hs ab j (.loop c) s K→(Code.loop c).wpIn (FW ro) dp P (Post gl B H0 rest (Qz c) a w K) a1 w1):=by
    intro j hj s m1 H1 B1 H01 D1 a1 w1 ap a9;by_cases hl:∃υ ω gs ks kb kx kbx,∃alts:υ→ω→List Alt,lkH hs (3000000+GL c)=some (.l gs ks kb kx kbx alts);·exact .inl hl
    refine .inr fun h=> ?_
    refine Ti (j:=j) (fun i a' w'=>i≤k+1∧∃aw m1 H1 B1 H01 D1,V9 P gl ch0 wf hs ab i (.loop c) aw K∧Fin' B H0 a w (Qz c) B1 H01 D1 a' w'∧RelS m1 H1 B1 H01 gl rest aw a'.tmps w') (fun i a1 w1 hI=> ?_) ⟨hj,s,m1,H1,B1,H01,D1,h,ap,a9⟩
    obtain⟨hi,aw,m1,H1,B1,H01,D1,hx,ap,a9⟩:=hI;cases i with
    |zero=>exact hx.elim
    |succ i=>
     simp only[V9] at hx;split at hx;·rename_i hh;exact absurd ⟨_,_,_,_,_,_,_,_,hh⟩ hl
     ·refine wpIn_mono (bf i (by omega) c aw _ hok hx ro dp aa B1 H01 rest m1 H1 a1 w1 a3 a9) fun e a2 w2 hp=> ?_
      obtain⟨s2,m2,H2,B2,H02,D2,hq,a7,a4⟩:=hp;split at hq
      ·rename_i he;obtain rfl:=WW he;exact⟨i,Nat.lt_succ_self _,by omega,s2,m2,H2,B2,H02,_,hq,ap.trans a7 fun e=>⟨e,e⟩,a4⟩
      ·rename_i he;have:=LH he;cases e with
       |normal=>exact absurd rfl this
       |_=>exact⟨s2,m2,H2,B2,H02,_,hq,ap.trans a7 fun e=>⟨e,e⟩,a4⟩
   rcases ax (k+1) (Nat.le_refl _) st m H B H0 [] a w (.of rfl (Qd.refl _ _)) hr with⟨υ,ω,gs,ks,kb,kx,kbx,alts,hl⟩ | bq
   ·simp only[V9,hl] at h;split at h
    ·rename_i ps;obtain⟨s1,ak,h⟩:=YR (gl:=gl) h;obtain⟨s2,am,h⟩:=YR (gl:=gl) h;obtain⟨m1,H1,a9⟩:=(ak.trans am).2 _ _ _ _ _ _ _ hr;obtain⟨vs,bs,m',hq,a5⟩:=GY a9 (a3 ps rfl) h;rw[(ak.trans am).1] at a5;obtain⟨u,o,hq⟩:=hq;refine wpIn_mono (hq.1.ok ro dp aa B H0 rest m' H1 a w (a3 ps rfl) a5).loop fun e a' w' hp=> ?_
     obtain⟨s,m2,H2,B2,H02,D2,⟨ai,aj,x,hφ,rfl,rfl⟩,hf,a4⟩:=hp;exact⟨_,m2,H2,B2,H02,D2,HQ hq.2 ai aj x hφ,hf,a4⟩
    ·cases h
   ·exact bq h
  |rangeFunc g prm azz bd=>
   simp only[V9] at h;obtain rfl:=aa rfl;split at h
   ·rename_i gs ks kb kx kbx alts hl;split at h
    ·rename_i ps;split at h;·cases h
     ·rename_i an;rw[Bool.or_eq_false_iff] at an;obtain⟨s1,ak,h⟩:=YR (gl:=gl) h;obtain⟨s2,am,h⟩:=YR (gl:=gl) h;obtain⟨m1,H1,a9⟩:=(ak.trans am).2 _ _ _ _ _ _ _ hr;split at h
      ·rename_i f ce bp;split at h
       ·rename_i ts b8 c7;have b9:=a9.ev g;rw[bp] at b9;obtain⟨us,hu,c8,c9⟩:=b9.fn_inv;obtain⟨vs,bs,m',hq,a5⟩:=GY a9 (a3 ps rfl) h;rw[(ak.trans am).1] at a5;obtain⟨xs,u,o,br,c4,aj⟩:=hq;obtain⟨bv,a4⟩:=HI (R':=RelI (snap H1 (fun _=>none) m1 w)) c8 c9 c7 fun x t v hx ht=>M5 (H1:=H1) false (fun id ver cs hh=>by cases hh) (fun id ver cs hh=>by cases hh) (fun id bx hh=>by cases hh) (fun _=>rfl) 12 x t v hx ht
        have c5:snap H1 (fun _=>none) m1 w=H1:=by
         funext b o;unfold snap;rw[if_neg];rintro⟨_,_,_,e,_⟩;cases e
        rw[c5] at a4;refine wpIn_mono (Q5y a5 hu bv a4 (Ko b8) br c4 (a3 ps rfl) an.1 an.2 dp) fun e a' w' hp=> ?_
        obtain⟨s,m2,H2,B2,H02,D2,⟨ai,b7,x,hφ,rfl,rfl⟩,hf,a4⟩:=hp;exact⟨_,m2,H2,B2,H02,D2,HQ aj ai b7 x hφ,hf,a4⟩
       ·cases h
      ·cases h
    ·cases h
   ·cases h
  |_=>exact h.elim
end
structure Nxt (P:Program) (gl:Nat→AV) (ps:List AV) (n:Nat) (c:Code) (ks:List Nat) (kx:List Nat) (alts:List Alt) (vs:List AV) (bs:List Box):Prop where
 ok:∃vs' bs',LeVs vs vs'∧LeBs bs bs'∧X7 P gl ps n c ks vs' bs' kx alts
def A5(P:Program)(gl:Nat→AV)(ch0:Qo)(wf:WF)(hs:Zg)(ps:List AV)(k n:Nat)(c:Code)(ks:List Nat)(kb:List KB)(kx:List Nat)(kbx:List KB)(alts:List Alt)(vs:List AV)(bs:List Box)(N:List AV→List Box→Prop):Prop:=
 V9 P gl ch0 wf hs (some ps) k c (X8 n ks vs bs) (fun e s=>match Nat.beq s.n n with
  |true=>match Dm e with
   |true=>Vk kb s (fun s=>GN ps ks kb s N)
   |false=>Vk kbx s (fun s=>GN ps kx kbx s (Out alts e))
  |false=>False)
section
variable {P : Program} {gl : Nat → AV} {ch0 : Qo} {wf : WF} {hs : Zg}
theorem IZ{a3:Option (List AV)}(h0:ch0.Ok P gl)(a6:WF.Ok P gl wf)(a4:P.follows .mixedOrders=true){k:Nat}{c:Code}{st:St}{K:Exit→St→Prop}(a5:QT c=true)(h:V9 P gl ch0 wf hs a3 k c st K):Wk P gl a3 c st K:=
 BA h0 a6 a4 a3 k k (Nat.le_refl _) c st K a5 h
theorem X7.step{P:Program}{gl:Nat→AV}{ch0:Qo}{wf:WF}{hs:Zg}(h0:ch0.Ok P gl)(an:WF.Ok P gl wf)(ad:P.follows .mixedOrders=true){ps:List AV}{n:Nat}{c:Code}{ks:List Nat}{kb:List KB}{kx:List Nat}{kbx:List KB}{alts:List Alt}(ak:QT c=true){k:Nat}{vs:List AV}{bs:List Box}
  (hw:A5 P gl ch0 wf hs ps k n c ks kb kx kbx alts vs bs (Nxt P gl ps n c ks kx alts)):X7 P gl ps n c ks vs bs kx alts:=by
 refine⟨fun ro dp af B H0 rest m H a w a4 hr=>wpL.round ?_⟩
 refine wpIn_mono (IZ h0 an ad ak hw ro dp af B H0 rest m H a w (fun b5 e=>by cases e;exact a4) hr) fun e a2 w2 hp=> ?_
 obtain⟨s,m2,H2,B2,H02,D2,hq,ac,ae⟩:=hp;split at hq
 ·rename_i hn;have hn:=Nat.eq_of_beq_eq_true hn;split at hq
  ·rename_i he;obtain rfl:=WW he;obtain⟨s2,hc,hq⟩:=YR (gl:=gl) hq;obtain⟨m3,H3,a8⟩:=hc.2 _ _ _ _ _ _ _ ae;obtain⟨ar,ah,m4,a7,a5⟩:=GY a8 a4 hq;rw[hc.1,hn] at a5;obtain⟨b8,au,lv,lb,a7⟩:=a7.ok;obtain⟨m5,H5,a9⟩:=(CO (gl:=gl) (n:=n) (ks:=ks) lv lb).2 _ _ _ _ _ _ _ a5;refine wpL.mono (a7.ok ro dp af B2 H02 rest m5 H5 a2 w2 a4 a9) fun e a3 w3 am=> ?_
   obtain⟨s3,m6,H6,B3,H03,D3,h1,aj,h4⟩:=am;exact⟨s3,m6,H6,B3,H03,_,h1,ac.trans aj fun e=>⟨e,e⟩,h4⟩
  ·rename_i he;have:=LH he;obtain⟨s2,hc,hq⟩:=YR (gl:=gl) hq;obtain⟨m3,H3,a8⟩:=hc.2 _ _ _ _ _ _ _ ae;obtain⟨ar,ah,m4,ho,a5⟩:=GY a8 a4 hq;rw[hc.1,hn] at a5;obtain⟨aa,h1,x,h2,rfl,lv,lb⟩:=ho.ok;obtain⟨m5,H5,a9⟩:=(CO (gl:=gl) (n:=n) (ks:=kx) lv lb).2 _ _ _ _ _ _ _ a5;cases e':aa.ex with
   |normal=>exact absurd e' this
   |_=>exact⟨_,m5,H5,B2,H02,D2,⟨aa,h1,x,h2,e'.symm,rfl⟩,ac,a9⟩
 ·cases hq
end
structure NxtR (P:Program) (gl:Nat→AV) (ps:List AV) (n:Nat) (prm:Array Tmp) (azz bd:Code) (ks:List Nat) (vs:List AV) (alts:List Alt) (xs:List (List AV)) (bs:List Box):Prop where
 ok:∃bs2,LeBs bs bs2∧L2 P gl ps n prm azz bd ks vs alts xs bs2
def wrng(P:Program)(gl:Nat→AV)(ch0:Qo)(wf:WF)(hs:Zg)(ps:List AV)(k n:Nat)(a7:Array Tmp)(a6 bd:Code)(ks:List Nat)(kb kbx:List KB)(vs:List AV)(alts:List Alt)(x:List AV)(bs:List Box)(N:List Box→Prop):Prop:=
 match Lm ks vs with
 |true=>match Rr a7.toList x (X8 n ks vs bs) with
  |some s0=>V9 P gl ch0 wf hs (some (vs++ps)) k a6 s0 (fun e s1=>match Dm e with
   |true=>V9 P gl ch0 wf hs (some (vs++ps)) k bd s1 (fun e s2=>match HO e with
    |some j=>match j with
     |none=>Vk kb ⟨n,slOf ks vs,s2.hp,s2.nx⟩ (fun s=>GN ps ks kb s (fun a4 a3=>LeVs a4 vs∧N a3))
     |some _=>Vk kbx ⟨n,slOf ks vs,s2.hp,s2.nx⟩ (fun s=>GN ps ks kbx s (fun a4 a3=>LeVs a4 vs∧Out alts e vs a3))
    |none=>False)
   |false=>False)
  |none=>False
 |false=>False
section
variable {P : Program} {gl : Nat → AV} {ch0 : Qo} {wf : WF} {hs : Zg}
theorem Q1y{ps:List AV}{n:Nat}{ks:List Nat}{vs:List AV}{kb:List KB}{s:St}{N:List Box→Prop}(h:Vk kb ⟨n,slOf ks vs,s.hp,s.nx⟩ (fun s=>GN ps ks kb s (fun a5 a3=>LeVs a5 vs∧N a3))):∃a3,Turn gl n ks vs ps s a3∧N a3:=by
 obtain⟨s2,hc,hw⟩:=YR (gl:=gl) h;have a4:=hw;unfold GN at a4;split at a4
 ·split at a4
  ·rename_i a8 _ bs a7;refine⟨bs,fun m H B H0 rest tmps w a9 hr=> ?_,a4.2⟩
   obtain⟨m1,H1,aa⟩:=hc.2 _ _ _ _ _ _ _ hr;have ab:GN ps ks kb s2 (fun a5 a3=>LeVs a5 vs∧a3=bs):=by
    unfold GN;rw[a8,a7];exact⟨a4.1,rfl⟩
   obtain⟨a5,a3,m2,⟨lv,rfl⟩,a6⟩:=GY aa a9 ab;rw[show s2.n=n from hc.1] at a6;exact(CO (gl:=gl) (n:=n) (ks:=ks) lv (.refl _)).2 _ _ _ _ _ _ _ a6
  ·cases a4
 ·cases a4
theorem L2.step(h0:ch0.Ok P gl)(a9:WF.Ok P gl wf)(a4:P.follows .mixedOrders=true){ps:List AV}{k n:Nat}{a6:Array Tmp}{a3 bd:Code}{ks:List Nat}{kb kbx:List KB}{vs:List AV}{alts:List Alt}{x:List AV}{xs:List (List AV)}{bs:List Box}(ha:QT a3=true)(hb:QT bd=true)
  (hw:wrng P gl ch0 wf hs ps k n a6 a3 bd ks kb kbx vs alts x bs (NxtR P gl ps n a6 a3 bd ks vs alts xs)):L2 P gl ps n a6 a3 bd ks vs alts (x::xs) bs:=by
 unfold wrng at hw;split at hw
 ·rename_i ad;split at hw
  ·rename_i s0 ac;refine⟨ad,s0,ac,(IZ h0 a9 a4 ha hw).mono fun e s1 h1=> ?_⟩
   split at h1
   ·rename_i he;refine⟨WW he,(IZ h0 a9 a4 hb h1).mono fun e s2 h2=> ?_⟩
    split at h2
    ·rename_i j hj;split at h2
     ·obtain⟨a5,ht,hN⟩:=Q1y (gl:=gl) h2;exact⟨none,a5,hj,ht,hN.ok⟩
     ·rename_i c;obtain⟨a5,ht,hN⟩:=Q1y (gl:=gl) h2;exact⟨some c,a5,hj,ht,hN⟩
    ·cases h2
   ·cases h1
  ·cases hw
 ·cases hw
end
end HY
end
section
namespace HY
open Go Go.RowKit
def A2(P:Program)(gl:Nat→AV)(ch0:Qo)(wf:WF)(gd:Nat→Bool)(a3:Option (List AV))(fl f:Nat)(hs:Zg)(args:List AV)(hp:Tr Box)(nx:Nat)(K:AV→St→Prop):Prop:=
 match gd f with
 |true=>match P.funcs[f]? with
  |some fn=>match fn.body with
   |some c=>match Nat.ble args.length fn.ntmps with
    |true=>V9 P gl ch0 wf hs a3 fl c ⟨fn.ntmps,Vn 0 args,hp,nx⟩ (fun e s=>match Mv e with
     |true=>match HN P s fn.results.toList with
      |some r=>K r s
      |none=>False
     |false=>False)
    |false=>False
   |none=>False
  |none=>False
 |false=>False
def wlev(P:Program)(gl:Nat→AV)(ch0:Qo)(gd:Nat→Bool)(fl:Nat)(ex:WF):Nat→WF
 |0=>ex
 |k+1=>fun f hs args hp nx K=>match gd f with
  |true=>A2 P gl ch0 (wlev P gl ch0 gd fl ex k) gd none fl f hs args hp nx (fun r s=>K r s.hp s.nx)
  |false=>ex f hs args hp nx K
section
variable {P : Program} {gl : Nat → AV} {ch0 : Qo} {wf : WF} {hs : Zg} {gd : Nat → Bool} {fl : Nat}
theorem Tb{F:Fence}{n:Nat}{fn:Func}{tmps:Array Value}{R:Ending→World→Prop}{I:World→Prop}:∀(D:List Nat) (w:World),D.Nodup→I w→(∀g∈D,w.heap[g]? =some (.deferred (some [])))→(∀g∈D,∀w,I w→w.heap[g]? =some (.deferred (some []))→I (w.putObj g (.deferred none)))→
  (∀w',I w'→∃v,(results fn tmps).run P w'= .ok v w'∧R (.returned v) w')→LeavesInM F n P fn tmps R (EG D) .returning w
 | [],w,_,hI,_,_,hQ=>hQ w hI
 |g::D,w,hn,hI,ho,hs,hQ=>by
  rw[List.nodup_cons] at hn;have hg:=ho g (by simp)
  refine⟨by simp,.inl ⟨g,_,rfl,run_takeDeferred hg,?_⟩⟩
  refine Tb D _ hn.2 (hs g (by simp) w hI hg) (fun k hk=> ?_) (fun k hk=>hs k (List.mem_cons_of_mem _ hk)) hQ
  rw[World.putObj_heap_other (fun e:k=g=>by subst e;exact hn.1 hk)]
  exact ho k (List.mem_cons_of_mem _ hk)
theorem S3(h0:ch0.Ok P gl)(aq:WF.Ok P gl wf)(hp:DK P gd){a7:Option (List AV)}{f:Nat}{args:List AV}{a5:Tr Box}{nx:Nat}{K:AV→St→Prop}(hw:A2 P gl ch0 wf gd a7 fl f hs args a5 nx K)
  (m:Nat→Lc) (H:HV) (B:Nat→Prop) (H0:HV) (rest:List (AV×Value)) (w:World) (vs:Array Value) (ai:∀ps,a7=some ps→rest.map (·.1)=ps) (hh:RelH m H B H0 gl (lkb a5) nx w) (hl:args.length=vs.size)
  (a9:∀(j:Nat) (x:AV) (v:Value),args[j]? =some x→vs[j]? =some v→RV H (Q8 (lkb a5) m) x v) (ab:∀p∈rest,RV H (Q8 (lkb a5) m) p.1 p.2):
  Ans P f vs w fun e w'=>∃v m' H' r s tmps,K r s∧e= .returned v∧Qd B w w'∧RelS m' H' B H0 gl rest s tmps w'∧RV H' (s.env m') r v:=by
 unfold A2 at hw;split at hw
 ·rename_i hg;have a4:=hp.fn f hg;unfold okFn at a4;split at hw
  ·rename_i fn hf;rw[hf] at a4;simp only[Bool.and_eq_true,bne_iff_ne] at a4;obtain⟨aa,a4⟩:=a4;split at hw
   ·rename_i c hb;rw[hb] at a4;simp only at a4;split at hw
    ·rename_i af;have af:=Nat.le_of_ble_eq_true af;refine .inl ⟨N7 hf (by simpa using aa) (by rw[hb];rfl),?_⟩
     have ag:RelS m H B H0 gl rest ⟨fn.ntmps,Vn 0 args,a5,nx⟩ (Act.mk (vs++Array.replicate (fn.ntmps - vs.size) Go.undef) []).tmps w:=by
      refine⟨hh,by simp;omega,fun k=> ?_,ab⟩
      show RV H _ (lk .undef (Vn 0 args) k) _;rw[WX,if_pos (Nat.zero_le _),Nat.sub_zero];cases hx:args[k]? with
      |none=>exact .imm _ _ (.undef _)
      |some x=>
       have hk:k<vs.size:=by rw[← hl];exact(List.getElem?_eq_some_iff.1 hx).1
       have hv:(vs++Array.replicate (fn.ntmps - vs.size) Go.undef).getD k Go.undef=vs[k]:=by
        rw[Array.getD_eq_getD_getElem?,Array.getElem?_append_left hk,Array.getElem?_eq_getElem hk];rfl
       rw[hv];exact a9 k x _ hx (Array.getElem?_eq_getElem hk)
     refine CallsIn.calls (F:=FW none) (n:=0) (callsIn_of_wp_marks hf hb trivial (wpIn_mono (IZ h0 aq hp.mix a4 hw none 0 (fun _=>rfl) B H0 rest m H _ w ai ag) fun e a' w' hq=> ?_)) (fun k d hd=>by simp[FW] at hd)
     obtain⟨s,m',H',B',H0',D,hK,a3,hr⟩:=hq;split at hK
     ·rename_i am;split at hK
      ·rename_i r ah;have ae:LeavesInM (FW none) 0 P fn a'.tmps (fun e w'=>∃v m' H' r s tmps,K r s∧e= .returned v∧Qd B w w'∧RelS m' H' B H0 gl rest s tmps w'∧RV H' (s.env m') r v) a'.defers .returning w':=by
        rw[a3.dfr];show LeavesInM _ _ _ _ _ _ (EG D++[]) _ _;rw[List.append_nil];refine Tb (I:=fun w2=>Qd B w w2∧RelS m' H' B' H0' gl rest s a'.tmps w2) D w' a3.nod ⟨a3.bel,hr⟩ (fun g hg=>(a3.opn g hg).2.2) (fun g hg w2 hI ho=>⟨hI.1.obj (fun hB=>by have:=ag.heap.low g hB;have:=(a3.opn g hg).2.1;omega) ho (fun _ _ _ q=>by cases q),hI.2.obj (a3.opn g hg).1 ho (fun _ _ _ q=>by cases q)⟩) fun w2 hI=> ?_
        obtain⟨v,hv,ao⟩:=IV hI.2 ah;exact⟨v,hv,v,m',H',r,s,a'.tmps,hK,rfl,hI.1,hI.2.down a3.sub (fun b o hb=>a3.old b o hb) (hh.gv.to hI.1 fun _ _ hb=>hb),ao⟩
       cases e with
       |normal=>exact ae
       |ret=>exact ae
       |_=>cases am
      ·cases hK
     ·cases hK
    ·cases hw
   ·cases hw
  ·cases hw
 ·cases hw
theorem Q25{ex:WF}(h0:ch0.Ok P gl)(hp:DK P gd)(a4:WF.Ok P gl ex):∀k,WF.Ok P gl (wlev P gl ch0 gd fl ex k)
 |0=>a4
 |k+1=>fun f hs args a6 nx K h=>by
  simp only[wlev] at h;split at h
  ·intro m H B H0 rest w vs hh hl a3 a5;refine(S3 h0 (Q25 h0 hp a4 k) hp h m H B H0 rest w vs (fun _ e=>nomatch e) hh hl a3 a5).mono fun e w' hq=> ?_
   obtain⟨v,m',H',r,s,tmps,hK,rfl,hb,hr,a7⟩:=hq;exact⟨v,m',H',r,s.hp,s.nx,hK,rfl,hb,hr.heap,a7,hr.rest⟩
  ·exact a4 f hs args a6 nx K h
def endP(r:AV)(r0:AV)(s:St):Prop:=Lf (lkb s.hp) 12 r0 (fun t=>LeT t r)
def endH(ps:List AV)(kb:List KB)(r:AV)(a3:List Box)(r0:AV)(s:St):Prop:=
 Vk kb ⟨ps.length+1,Vn 0 (r0::ps),s.hp,s.nx⟩ (fun s=>GN ps [0] kb s (fun vs bs=>LeVs vs [r]∧LeBs bs a3))
def wpure(P:Program)(gl:Nat→AV)(ch0:Qo)(wf:WF)(gd:Nat→Bool)(fl f:Nat)(hs:Zg)(args:List AV)(r:AV):Prop:=
 A2 P gl ch0 wf gd (some []) fl f hs args .nil 0 (endP r)
def BB(P:Program)(gl:Nat→AV)(ch0:Qo)(wf:WF)(gd:Nat→Bool)(fl f:Nat)(hs:Zg)(kb:List KB)(args:List AV)(bs:List Box)(r:AV)(a3:List Box):Prop:=
 A2 P gl ch0 wf gd (some (Ws 0 bs)) fl f hs args (hpOf 0 bs) bs.length (endH (Ws 0 bs) kb r a3)
theorem Bi{m:Nat→Lc}{H:HV}{B:Nat→Prop}{H0:HV}{hp:Tr Box}{nx:Nat}{w:World}(h:RelH m H B H0 gl (lkb hp) nx w):RelH m (snap H (lkb hp) m w) B H0 gl (lkb .nil) 0 w where
 sat:=TY h.sat
 old b o hlt:=by
  unfold snap;rw[if_neg ?_];·exact h.old b o hlt
  ·rintro⟨id,bx,ver,h1,_,h3,rfl⟩;exact(h.sepR id _ h1 h3).1 hlt
 low:=h.low
 fresh _ _:=Zz _
 box _ _ hh:=by rw[Zz] at hh;cases hh
 sepR _ _ hh:=by rw[Zz] at hh;cases hh
 injR _ _ _ _ hh:=by rw[Zz] at hh;cases hh
 gl g:=(h.gl g).mono (IW fun id bx hh hr=>(h.sepR id bx hh hr).2.2)
 ty _ _ _ hh:=by rw[Zz] at hh;cases hh
 gv:=h.gv
theorem Pu.of(h0:ch0.Ok P gl)(a9:WF.Ok P gl wf)(hp:DK P gd){f:Nat}{args:List AV}{r:AV}(hw:wpure P gl ch0 wf gd fl f hs args r):Pu P gl f args r:=by
 refine⟨fun m H B H0 w vs hh hl a3=> ?_⟩
 refine(S3 h0 a9 hp hw m H B H0 [] w vs (fun ps e=>by cases e;rfl) hh hl a3 (fun p hp=>by simp at hp)).mono fun e w' hq=> ?_
 obtain⟨v,m',H',r0,s,tmps,hK,rfl,hb,hr,a8⟩:=hq;obtain⟨t,ht,a5⟩:=S1 (fun id b a4=>hr.heap.box id b a4) (fun id bx a4 a7=>(hr.heap.sepR id bx a4 a7).2.2) 12 r0 v _ a8 hK
 exact⟨v,m',snap H' (lkb s.hp) m' w',rfl,hb,Bi hr.heap,.imm _ _ (ht.ok _ _ a5)⟩
theorem PuH.of(h0:ch0.Ok P gl)(ac:WF.Ok P gl wf)(hp:DK P gd){f:Nat}{kb:List KB}{args:List AV}{bs a4:List Box}{r:AV}(hw:BB P gl ch0 wf gd fl f hs kb args bs r a4):PuH P gl f args bs r a4:=by
 refine⟨fun m H B H0 rest w vs hh hl a5 a3 a7=> ?_⟩
 refine(S3 h0 ac hp hw m H B H0 rest w vs (fun ps e=>by cases e;exact a3) hh hl a5 a7).mono fun e w' hq=> ?_
 obtain⟨v,m',H',r0,s,tmps,hK,rfl,hb,hr,a7⟩:=hq;unfold endH at hK;obtain⟨s2,hc,hK⟩:=YR (gl:=gl) hK;have hs:RelS m' H' B H0 gl rest ⟨(Ws 0 bs).length+1,Vn 0 (r0::Ws 0 bs),s.hp,s.nx⟩ (v::rest.map (·.2)).toArray w':=by
  refine⟨hr.heap,by simp[← a3],fun k=> ?_,hr.rest⟩
  show RV H' _ (lk .undef (Vn 0 (r0::Ws 0 bs)) k) _;rw[WX,if_pos (Nat.zero_le _),Nat.sub_zero];cases k with
  |zero=>exact a7
  |succ k=>
   rw[List.getElem?_cons_succ,← a3,List.getElem?_map];cases hk:rest[k]? with
   |none=>exact .imm _ _ (.undef _)
   |some p=>
    have:((v::rest.map (·.2)).toArray).getD (k+1) Go.undef=p.2:=by
     rw[Array.getD_eq_getD_getElem?,List.getElem?_toArray,List.getElem?_cons_succ,List.getElem?_map,hk];rfl
    rw[this];exact hr.rest p (List.mem_of_getElem? hk)
 obtain⟨m2,H2,aa⟩:=hc.2 _ _ _ _ _ _ _ hs;obtain⟨ap,ae,m3,⟨lv,lb⟩,ab⟩:=GY aa a3 hK;obtain⟨m4,H4,a6⟩:=(CO (gl:=gl) (n:=s2.n) (ks:=[0]) lv lb).2 _ _ _ _ _ _ _ ab;refine⟨v,m4,H4,rfl,hb,a6.heap,?_,a6.rest⟩;have:=a6.slot 0;have e:St.get (X8 s2.n [0] [r] a4) 0=r:=by
  show lk .undef (pt (slOf [] []) 0 r) 0=r;rw[D9];simp
 rw[e] at this;exact this
theorem Pu.ofCall{f:Nat}{args:List AV}{r0 r:AV}{hp':Tr Box}{nx':Nat}(h:Jc P gl f args r0 hp' nx')(ht:tree (lkb hp') false 12 r0=some r):Pu P gl f args r:=by
 refine⟨fun m H B H0 w vs hh hl a3=>(h m H B H0 w vs hh hl a3).mono fun e w' hq=> ?_⟩
 obtain⟨v,m',H',rfl,hb,hH,a6⟩:=hq;exact⟨v,m',snap H' (lkb hp') m' w',rfl,hb,Bi hH,.imm _ _ (M5 (H1:=H') false (fun id ver cs hh=>Y8 hh) (fun id ver cs hh=>hH.box id _ hh) (fun id bx hh hr=>(hH.sepR id bx hh hr).2.2) (fun _=>rfl) 12 r0 r v a6 ht)⟩
end
def Cu(r:Nat):Code→Option Code
 | .loop c=>match Nat.beq (GL c) r with
  |true=>some c
  |false=>Cu r c
 | .seq a b=>match Cu r a with
  |some c=>some c
  |none=>Cu r b
 | .cond _ a b=>match Cu r a with
  |some c=>some c
  |none=>Cu r b
 | .block _ c=>Cu r c
 |_=>none
def Uj(P:Program)(f r:Nat):Code:=match P.funcs[f]? with
 |some fn=>match fn.body with
  |some c=>match Cu r c with
   |some c=>c
   |none=>.skip
  |none=>.skip
 |none=>.skip
end HY
end
section
namespace HY
open Go Go.RowKit
def JQ(b:Bool)(m:Nat)(r:AV)(p:Option Nat):Prop:=match b with
  |true=>(r= .bool true∧p=some m)∨(r= .bool false∧p=none)
  |false=>r= .tup []∧(p=some m∨p=none)
structure JF (P:Program) (gl:Nat→AV) (l:Nat) (xs:List (List AV)) (f:Nat) (args:List AV) (p:Option Nat) (b:Bool) (m:Nat):Prop where
  ok:∀J,JOk P gl l xs J→∀Hc w (vs:Array Value),J p (fun _=>False) Hc w→args.length=vs.size→(∀(j:Nat) (c:AV) (v:Value),args[j]? =some c→vs[j]? =some v→RelI Hc c v)→
    Ans P f vs w fun e w'=>∃v r p' O' Hc',e= .returned v∧JQ b m r p'∧(∀H,RelI H r v)∧J p' O' Hc' w'
structure Fr (gl:Nat→AV) (J:JT) (p:Option Nat) (st:St) (tmps:Array Value) (w:World):Prop where
  ex:∃O Hc m H,RelS m H (BO O w) Hc gl [] st tmps w∧HV.le H Hc∧J p O Hc w
section
variable {P : Program} {gl : Nat → AV} {l : Nat} {xs : List (List AV)} {J : JT}
theorem Fr.moved(hJ:JOk P gl l xs J){p:Option Nat}{O:Nat→Prop}{Hc:HV}{w w':World}(hj:J p O Hc w)(hb:Qd (BO O w) w w'){m':Nat→Lc}{H':HV}{B':Nat→Prop}{H0':HV}{st':St}{a4:Array Value}(hs:∀b,BO O w b→B' b)(ho:∀b o,BO O w b→H0' b o=Hc b o)
    (hr:RelS m' H' B' H0' gl [] st' a4 w'):Fr gl J p st' a4 w':=by
  have a3:RelS m' H' (BO O w) Hc gl [] st' a4 w':=hr.down hs ho ((hJ.gv _ _ _ _ hj).to hb fun _ _ h=>h)
  have a6:=hJ.own _ _ _ _ _ hj hb;have a5:∀b,b<w'.heap.size→BO O w b∨HK O w w' b:=fun b a7=>by
    by_cases hO:O b
    · exact .inr (.inl hO)
    · rcases Nat.lt_or_ge b w.heap.size with h | h
      · exact .inl ⟨h,hO⟩
      · exact .inr (.inr ⟨h,a7⟩)
  have hk:∀b o v,H' b o=some v→HK O w w' b∨Hc b o=some v:=fun b o v hv=>by
    rcases a5 b (Uu a3.heap.sat hv) with h | h
    · exact .inr (by rw[← a3.heap.old b o h];exact hv)
    · exact .inl h
  have aa:=hJ.pub _ _ _ _ H' a6 a3.heap.sat hk;have ae:∀b o,b<w'.heap.size→unH Hc H' b o=H' b o:=fun b o a7=>by
    unfold unH;split
    · rename_i v hv
      rcases a5 b a7 with h | h
      · rw[a3.heap.old b o h,hv]
      · rw[hJ.dis _ _ _ _ a6 b h o] at hv;cases hv
    · rfl
  refine⟨_,_,m',H',a3.base (fun b o hb=>(ae b o hb.1).symm) (fun b hb=>hb.1) (fun id b ac ad ab=> ?_) (hJ.gv _ _ _ _ aa),unH_le (hJ.sat _ _ _ _ a6) a3.heap.sat,aa⟩
  obtain⟨x,y,z⟩:=a3.heap.sepR id b ac ad;refine ab.2 ⟨?_,z⟩;rcases a5 _ y with h | h
  · exact absurd h x
  · exact h
theorem Fr.turned(hJ:JOk P gl l xs J){p:Option Nat}{O O':Nat→Prop}{Hc Hc':HV}{w w':World}{m:Nat→Lc}{H:HV}{st:St}{tmps:Array Value}(hr:RelS m H (BO O w) Hc gl [] st tmps w)(ae:HV.le H Hc)(hj:J p (fun b=>O b∨O' b) Hc' w')(hb:Qd O w w')(hO:∀b,O' b→w.heap.size≤b)(hh:∀b o,b<w.heap.size→Hc' b o=Hc b o)(hl:HV.le Hc Hc'):Fr gl J p st tmps w':=by
  have ac:=hJ.sat _ _ _ _ hj;have aa:∀b o v,H b o=some v→b<w.heap.size:=fun b o v hv=>Uu hr.heap.sat hv
  have a8:HV.le H (fun b o=>if b<w.heap.size then H b o else Hc' b o):=fun b o v hv=>by
    simp only[if_pos (aa b o v hv)];exact hv
  have a9:HV.le (fun b o=>if b<w.heap.size then H b o else Hc' b o) Hc':=fun b o v hv=>by
    simp only at hv;split at hv
    · exact hl b o v (ae b o v hv)
    · exact hv
  have own:∀id b,lkb st.hp id=some b→Real b (m id)→O (m id).g:=fun id b a3 a4=>by
    obtain⟨x,y,_⟩:=hr.heap.sepR id b a3 a4;by_cases h:O (m id).g
    · exact h
    · exact absurd ⟨y,h⟩ x
  refine⟨_,_,m,_,⟨{sat:=fun b o v hv=>ac b o v (a9 b o v hv),old:=fun b o a6=> ?_,low:=fun b a6=>a6.1,fresh:=hr.heap.fresh,box:=fun id b a3=>(hr.heap.box id b a3).mono' a8 (.refl _) fun a4=>hb.block _ (own id b a3 a4),sepR:=fun id b a3 a4=>⟨fun a6=>a6.2 (.inl (own id b a3 a4)),Nat.lt_of_lt_of_le (hr.heap.sepR id b a3 a4).2.1 hb.size,fun o=> ?_⟩,injR:=hr.heap.injR,gv:=hJ.gv _ _ _ _ hj,gl:=fun g=>(hr.heap.gl g).mono a8,ty:=fun id v cs a3=>(hr.heap.ty id v cs a3).mono (hb.block _ (own id _ a3 trivial))},hr.size,fun k=>(hr.slot k).mono a8 (.refl _),fun p hp=>by simp at hp⟩,a9,hj⟩
  · show(if b<w.heap.size then H b o else Hc' b o)=Hc' b o
    split
    · rename_i ab
      rw[hr.heap.old b o ⟨ab,fun h=>a6.2 (.inl h)⟩,hh b o ab]
    · rfl
  · simp only[if_pos (hr.heap.sepR id b a3 a4).2.1]
    exact(hr.heap.sepR id b a3 a4).2.2 o
def JIn(J:JT)(O0:Nat→Prop)(Hc0:HV)(w0:World):JT:=fun p O Hc w=>J p (fun b=>O0 b∨O b) Hc w∧Qd O0 w0 w∧(∀b,O b→w0.heap.size≤b)∧(∀b o,b<w0.heap.size→Hc b o=Hc0 b o)∧HV.le Hc0 Hc
theorem JIn.ok(hJ:JOk P gl l xs J){O0:Nat→Prop}{Hc0:HV}{w0:World}(a3:∀b,O0 b→b<w0.heap.size):JOk P gl l xs (JIn J O0 Hc0 w0) where
  sat p O Hc w h:=hJ.sat _ _ _ _ h.1
  low p O Hc w h b hb:=hJ.low _ _ _ _ h.1 b (.inr hb)
  dis p O Hc w h b hb:=hJ.dis _ _ _ _ h.1 b (.inr hb)
  gls p O Hc w h:=hJ.gls _ _ _ _ h.1
  gv p O Hc w h:=(hJ.gv _ _ _ _ h.1).sup fun b hb=>⟨hb.1,fun h=>hb.2 (.inr h)⟩
  own p O Hc w w' h hb:=by
    obtain⟨h1,h2,h3,h4,h5⟩:=h;have:=hJ.own _ _ _ _ _ h1 (hb.mono fun b hb=>⟨hb.1,fun h=>hb.2 (.inr h)⟩)
    refine⟨?_,h2.trans (hb.mono fun b hb=>⟨Nat.lt_of_lt_of_le (a3 b hb) h2.size,fun h=>by have:=h3 b h;have:=a3 b hb;omega⟩),fun b hb=> ?_,h4,h5⟩
    · have e:HK (fun b=>O0 b∨O b) w w'=fun b=>O0 b∨HK O w w' b:=by
        funext b;simp only[HK,eq_iff_iff];exact or_assoc
      rw[← e];exact this
    · rcases hb with hb | hb
      · exact h3 b hb
      · exact Nat.le_trans h2.size hb.1
  pub p O Hc w H h hs hk:=by
    obtain⟨h1,h2,h3,h4,h5⟩:=h;have hn:∀b o,O0 b→H b o=none:=fun b o hb=>by
      cases hv:H b o with
      |none=>rfl
      |some v=>
        rcases hk b o v hv with h | h
        · have:=h3 b h;have:=a3 b hb;omega
        · rw[hJ.dis _ _ _ _ h1 b (.inl hb) o] at h;cases h
    have:=hJ.pub _ _ _ _ H h1 hs fun b o v hv=>(hk b o v hv).imp (fun h=>.inr h) id
    refine⟨?_,h2,fun b hb=>h3 b hb.1,fun b o hb=> ?_,fun b o v hv=>Rx b o v (h5 b o v hv)⟩
    · have e:Ri (fun b=>O0 b∨O b) H=fun b=>O0 b∨Ri O H b:=by
        funext b;simp only[Ri,eq_iff_iff];exact⟨fun⟨a,c⟩=>a.imp id fun a=>⟨a,c⟩,fun a=>a.elim (fun a=>⟨.inl a,fun o=>hn b o a⟩) fun a=>⟨.inr a.1,a.2⟩⟩
      rw[← e];exact this
    · rw[← h4 b o hb]
      unfold unH;split
      · rename_i v hv;rw[hv]
      · rename_i hv
        rw[hv];cases h6:H b o with
        |none=>rfl
        |some v=>
          rcases hk b o v h6 with h | h
          · have:=h3 b h;omega
          · rw[hv] at h;cases h
  round k O Hc w x vs h hx hl hr:=by
    obtain⟨h1,h2,h3,h4,h5⟩:=h;obtain⟨fn,tm,ab,bd,e,hR⟩:=hJ.round _ _ _ _ _ _ h1 hx hl hr;refine⟨fn,tm,ab,bd,e,fun ro n=>(hR ro n).mono fun e w' ⟨b,e1,e2,e3⟩=>⟨b,e1,e2.mono fun b hb=>.inr hb,?_,h2.trans (e2.mono fun b hb=>.inl hb),h3,h4,h5⟩⟩
    exact e3
end
theorem RV.val_inv{H:HV}{E:Env}{v u:Value}(h:RV H E (.val v) u):u=v:=by
  generalize hx:AV.val v=x at h;cases h with
  |imm _ _ h=>cases h with
    |val=>cases hx;rfl
    |_=>cases hx
  |_=>cases hx
def NY(r:Nat):Code→Option (Array Tmp×Code×Code)
  | .seq a b=>match NY r a with
    |some c=>some c
    |none=>NY r b
  | .cond _ a b=>match NY r a with
    |some c=>some c
    |none=>NY r b
  | .block _ c=>NY r c
  | .loop c=>NY r c
  | .rangeFunc _ ps a b=>match Nat.beq (GL (.seq a b)) r with
    |true=>some (ps,a,b)
    |false=>none
  |_=>none
def rng(P:Program)(f r:Nat):Array Tmp×Code×Code:=match P.funcs[f]? with
  |some fn=>match fn.body with
    |some c=>match NY r c with
      |some x=>x
      |none=>(#[],.skip,.skip)
    |none=>(#[],.skip,.skip)
  |none=>(#[],.skip,.skip)
def yv:AV→Option Nat
  | .val v=>match v with
    | .func g a b=>match g with
      | .yield l=>match a.toList,b.toList with
        | [],[]=>some l
        |_,_=>none
      |_=>none
    |_=>none
  |_=>none
theorem yv_inv{x:AV}{l:Nat}(h:yv x=some l):x= .val (.func (.yield l) #[] #[]):=by
  unfold yv at h;split at h
  · split at h
    · rename_i g a b
      split at h
      · split at h
        · rename_i ha hb
          cases h;have:a= #[]:=by simpa using ha
          subst this;have:b= #[]:=by simpa using hb
          subst this;rfl
        · cases h
      · cases h
    · cases h
  · cases h
def yld1(ev:Operand→AV)(op:Op):Option (Nat×List AV):=
  match op with
  | .call c=>match c.callee with
    | .value x=>match yv (ev x) with
      |some l=>some (l,c.args.toList.map ev)
      |none=>none
    |_=>none
  |_=>none
def isVal:AV→Bool
  | .val _=>true
  |_=>false
def hasRes(P:Program)(f:Nat):Bool:=match P.funcs[f]? with
  |some fn=>match fn.results.toList with
    | []=>false
    |_=>true
  |none=>false
def jstep(P:Program)(gl:Nat→AV)(ch0:Qo)(wf:WF)(hs:Zg)(l:Nat)(xs:List (List AV))(o:Oper)(p:Option Nat)(st:St)(K:Option Nat→St→Prop):Prop:=
  match JZ o.op with
  |true=>match yld1 (st.ev gl) o.op with
    |some (l',args)=>match optL (tree (fun _=>none) false 12) args with
      |some ts=>match p with
        |some k=>l'=l∧xs[k]? =some ts∧K (some (k+1)) (st.putO o.dst (.bool true))∧K none (st.putO o.dst (.bool false))
        |none=>False
      |none=>False
    |none=>match YN (st.ev gl) o.op with
      |some (f,args)=>match args.any isVal with
        |true=>match optL (tree (fun _=>none) false 12) args with
          |some ts=>match hasRes P f with
            |true=>∃m,JF P gl l xs f ts p true m∧K (some m) (st.putO o.dst (.bool true))∧K none (st.putO o.dst (.bool false))
            |false=>∃m,JF P gl l xs f ts p false m∧K (some m) (st.putO o.dst (.tup []))∧K none (st.putO o.dst (.tup []))
          |none=>False
        |false=>Ry P gl ch0 wf hs o st (K p)
      |none=>False
  |false=>Ry P gl ch0 wf hs o st (K p)
def jseq(P:Program)(gl:Nat→AV)(ch0:Qo)(wf:WF)(hs:Zg)(l:Nat)(xs:List (List AV))(all:List Oper):List Oper→Option Nat→St→(Option Nat→St→Prop)→Prop
  | [],p,st,K=>K p st
  |o::r,p,st,K=>match Z4 o.dst st.n with
    |true=>match NB o (gval all o st) with
      |some true=>jstep P gl ch0 wf hs l xs o p st (fun p s=>jseq P gl ch0 wf hs l xs all r p s K)
      |some false=>jseq P gl ch0 wf hs l xs all r p (st.putO o.dst (.tup [])) K
      |none=>False
    |false=>False
structure JO (a b:Exit×List AV) (m:Nat) (e:Exit) (p:Option Nat) (vs:List AV) (bs:List Box):Prop where
  ok:bs=[]∧((e=a.1∧p=some m∧vs=a.2)∨(e=b.1∧p=none∧vs=b.2))
theorem JO.a{a b:Exit×List AV}{m:Nat}{e:Exit}{p:Option Nat}{vs:List AV}(h1:e=a.1)(h2:p=some m)(h3:vs=a.2):JO a b m e p vs []:=⟨rfl,.inl ⟨h1,h2,h3⟩⟩
theorem JO.b{a b:Exit×List AV}{m:Nat}{e:Exit}{p:Option Nat}{vs:List AV}(h1:e=b.1)(h2:p=none)(h3:vs=b.2):JO a b m e p vs []:=⟨rfl,.inr ⟨h1,h2,h3⟩⟩
def JQL(n:Nat)(kx:List Nat)(a b:Exit×List AV)(m:Nat)(e:Exit)(p:Option Nat)(s:St):Prop:=(e=a.1∧p=some m∧s=X8 n kx a.2 [])∨(e=b.1∧p=none∧s=X8 n kx b.2 [])
structure JL (P:Program) (gl:Nat→AV) (l:Nat) (xs:List (List AV)) (n:Nat) (c:Code) (ks:List Nat) (vs:List AV) (bs:List Box) (p:Option Nat) (kx:List Nat) (x y:Exit×List AV) (m:Nat):Prop where
  ok:∀J,JOk P gl l xs J→∀(a:Act) (w:World),Fr gl J p (X8 n ks vs bs) a.tmps w→wpL P none 0 c (fun e a' w'=>∃p' st',JQL n kx x y m e p' st'∧a'.defers=a.defers∧Fr gl J p' st' a'.tmps w') a w
structure JH where
  ks:List Nat
  kb:List KB
  kx:List Nat
  x:Exit×List AV
  y:Exit×List AV
def lkJ:List (Nat×JH)→Nat→Option JH
  | [],_=>none
  | (k,h)::r,n=>match Nat.beq k n with
    |true=>some h
    |false=>lkJ r n
def CQ(P:Program)(gl:Nat→AV)(ch0:Qo)(wf:WF)(hs:Zg)(js:List (Nat×JH))(l:Nat)(xs:List (List AV)):Nat→Code→Option Nat→St→(Exit→Option Nat→St→Prop)→Prop
  |0,_,_,_,_=>False
  |k+1,c,p,st,K=>match c with
    | .skip=>K .normal p st
    | .label _=>K .normal p st
    | .exit id=>K (.exit id) p st
    | .ret=>K .ret p st
    | .region _ ops draw=>match draw with
      |true=>V9 P gl ch0 wf hs (some []) (k+1) c st (fun e s=>K e p s)
      |false=>jseq P gl ch0 wf hs l xs ops.toList ops.toList p st (K .normal)
    | .seq a b => CQ P gl ch0 wf hs js l xs k a p st (fun e p s => match Dm e with
        |true=>CQ P gl ch0 wf hs js l xs k b p s K
        |false=>K e p s)
    | .cond c a b=>match st.ev gl c with
      | .bool t=>match t with
        |true=>CQ P gl ch0 wf hs js l xs k a p st K
        |false=>CQ P gl ch0 wf hs js l xs k b p st K
      |_=>False
    | .block id c=>CQ P gl ch0 wf hs js l xs k c p st (fun e p s=>match exIs e id with
      |true=>K .normal p s
      |false=>K e p s)
    | .loop c=>match lkJ js (GL c) with
      |some h=>match h with
        | ⟨ks,kb,kx,x,y⟩=>Vk kb st (fun s=>GN [] ks kb s (fun vs bs=>∃m,JL P gl l xs st.n c ks vs bs p kx x y m∧K x.1 (some m) (X8 st.n kx x.2 [])∧K y.1 none (X8 st.n kx y.2 [])))
      |none=>False
    |_=>False
section
variable {P : Program} {gl : Nat → AV} {ch0 : Qo} {wf : WF} {hs : Zg} {js : List (Nat × JH)} {l : Nat} {xs : List (List AV)} {J : JT}
theorem Fv{H:HV}{E:Env}{args ts:List AV}{vs:Array Value}(hl:args.length=vs.size)(hv:∀(j:Nat) (x:AV) (v:Value),args[j]? =some x→vs[j]? =some v→RV H E x v)(h:optL (tree (fun _=>none) false 12) args=some ts):ts.length=vs.size∧∀(j:Nat) (t:AV) (v:Value),ts[j]? =some t→vs[j]? =some v→RelI H t v:=by
  have a4:snap H (fun _=>none) (fun _=>⟨0,0,0⟩) default=H:=by
    funext b o;unfold snap;rw[if_neg];rintro⟨_,_,_,e,_⟩;cases e
  have:=HI (R':=RelI (snap H (fun _=>none) (fun _=>⟨0,0,0⟩) default)) hl hv h fun x t v hx ht=>M5 (H1:=H) false (fun id ver cs hh=>by cases hh) (fun id ver cs hh=>by cases hh) (fun id bx hh=>by cases hh) (fun _=>rfl) 12 x t v hx ht
  rw[a4] at this;exact this
theorem Q5g(h0:ch0.Ok P gl)(bo:WF.Ok P gl wf)(hJ:JOk P gl l xs J){o:Oper}{p:Option Nat}{st:St}{K:Option Nat→St→Prop}{a:Act}{w:World}(hd:Z4 o.dst st.n=true)(hw:jstep P gl ch0 wf hs l xs o p st K)(hf:Fr gl J p st a.tmps w)(next:Act→World→Prop)(Q:Exit→Act→World→Prop)
    (hn:∀a' w' p' st',K p' st'→a'.defers=a.defers→Fr gl J p' st' a'.tmps w'→next a' w'):o.wpIn (FW none) 0 P a w next Q:=by
  obtain⟨O,Hc,m,H,hr,ab,hj⟩:=hf.ex;have a9:Ry P gl ch0 wf hs o st (K p)→o.wpIn (FW none) 0 P a w next Q:=fun hw=>
    S6 h0 bo hr hd hw none 0 next Q fun a' w' m' H' st' hk bc hb bl=>hn a' w' p st' hk bc (Fr.moved hJ hj hb (fun _ h=>h) (fun _ _ _=>rfl) bl)
  unfold jstep at hw;split at hw
  · rename_i hc
    split at hw
    · rename_i l' args hy
      split at hw
      · rename_i ts an
        split at hw
        · rename_i k
          obtain⟨rfl,hx,b7,b8⟩:=hw;unfold yld1 at hy;split at hy
          · rename_i c ho
            split at hy
            · rename_i x ba
              split at hy
              · rename_i l1 bq
                cases hy;have bp:=yv_inv bq;have b0:=hr.ev x;rw[bp] at b0;have az:a.eval x= .func (.yield l') #[] #[]:=b0.val_inv;have ae:=LJ hr c.args.toList;obtain⟨ah,ak⟩:=Fv (vs:=c.args.map a.eval) (by simp) (fun j y v hy hv=>ae.2 j y v hy (by simpa using hv)) an
                obtain⟨fn,tm,b3,bd,a8,ac⟩:=hJ.round _ _ _ _ _ _ hj hx ah (fun j t v ht hv=>(ak j t v ht hv).mono ab)
                refine⟨fun _ _=>trivial,?_⟩
                have af:(execOp a.eval o).run P w= .ok (.round l' fn tm b3 bd) w:=by
                  unfold execOp;simp only[ho,resolve,ba,Sem.run_bind,az,Deferred.ofValue,Sem.run_pure,Result.andThen_ok,invoke,Array.empty_append];exact a8
                rw[Oper.semAt_eq _ _ _ (fun c e=>by rw[ho] at e;cases e),af]
                refine⟨(fun hh=>by simp[FW] at hh),(ac none (0 - 1)).mono fun e w' a4=> ?_⟩
                obtain⟨b,rfl,hb,bh⟩:=a4;have be:Fr gl J (if b then some (k+1) else none) st a.tmps w':=Fr.turned (O':=fun _=>False) hJ hr ab (by
                  have e:(fun b=>O b∨False)=O:=by funext b;simp
                  rw[e];exact bh) hb (fun _ h=>h.elim) (fun _ _ _=>rfl) (.refl _)
                have a6:∀u:Bool,u=b→K (if b then some (k+1) else none) (st.putO o.dst (.bool u))→next (a.put o.dst (.bool b)) w':=fun u hu hK=>by
                  subst hu;refine hn _ _ _ _ hK (Yd _ _ _) ?_;obtain⟨O2,Hc2,m2,H2,am,a7,ag⟩:=be.ex;exact⟨O2,Hc2,m2,H2,am.putO hd (.imm _ _ (.bool _)),a7,ag⟩
                cases b with
                |true=>exact a6 true rfl b7
                |false=>exact a6 false rfl b8
              · cases hy
            · cases hy
          · cases hy
        · cases hw
      · cases hw
    · split at hw
      · rename_i f args ad
        split at hw
        · split at hw
          · rename_i ts an
            obtain⟨b,q,b5,hK⟩:∃b q,JF P gl l xs f ts p b q∧∀r p',JQ b q r p'→K p' (st.putO o.dst r):=by
              split at hw
              · obtain⟨q,h1,h2,h3⟩:=hw
                exact⟨true,q,h1,fun r p' hq=>by rcases hq with⟨rfl,rfl⟩ | ⟨rfl,rfl⟩<;>assumption⟩
              · obtain⟨q,h1,h2,h3⟩:=hw
                exact⟨false,q,h1,fun r p' hq=>by obtain⟨rfl,rfl | rfl⟩:=hq<;>assumption⟩
            obtain⟨vs,a8,hl,bm⟩:=TE hr ad;obtain⟨c,x,bu,ho,_⟩:=Dz ad;obtain⟨ah,ak⟩:=Fv hl bm an;have ax:=hJ.low _ _ _ _ hj;have bg:JIn J O Hc w p (fun _=>False) Hc w:=⟨by
              have e:(fun b=>O b∨False)=O:=by funext b;simp
              rw[e];exact hj,Qd.refl _ _,fun _ h=>h.elim,fun _ _ _=>rfl,.refl _⟩
            have au:=b5.ok _ (JIn.ok hJ (Hc0:=Hc) (w0:=w) ax) Hc w vs bg ah (fun j t v ht hv=>(ak j t v ht hv).mono ab)
            have a6:∀(e:Ending) (w':World),(∃v r p' O' Hc',e=Ending.returned v∧JQ b q r p'∧(∀H,RelI H r v)∧JIn J O Hc w p' O' Hc' w')→∃v,e=Ending.returned v∧next (a.put o.dst v) w':=fun e w' a4=>by
              obtain⟨v,r,p',O',Hc',rfl,hq,ay,g1,g2,g3,g4,g5⟩:=a4;refine⟨v,rfl,hn _ _ _ _ (hK r p' hq) (Yd _ _ _) ?_⟩;obtain⟨O2,Hc2,m2,H2,am,a7,ag⟩:=(Fr.turned hJ hr ab g1 g2 g3 g4 g5).ex;exact⟨O2,Hc2,m2,H2,am.putO hd (.imm _ _ (ay _)),a7,ag⟩
            refine⟨fun _ _=>trivial,?_⟩
            rw[Oper.semAt_eq _ _ _ (fun c e=>by rw[ho] at e;cases e),a8]
            rcases au with⟨aw,b9⟩ | ⟨v,w',hv,hq⟩
            · rw[aw vs w]
              refine⟨(fun hh=>by simp[FW] at hh),Nx (b9.mono fun e w' hp=> ?_)⟩
              obtain⟨v,rfl,ai⟩:=a6 e w' hp;exact ai
            · rw[hv]
              obtain⟨v',he,ai⟩:=a6 _ w' hq;cases he;exact ai
          · cases hw
        · exact a9 hw
      · cases hw
  · exact a9 hw
theorem Q14(h0:ch0.Ok P gl)(a5:WF.Ok P gl wf)(hJ:JOk P gl l xs J){all:List Oper}{d0:List Deferred}{K:Option Nat→St→Prop}{Q:Exit→Act→World→Prop}
    (hQ:∀(p:Option Nat) (sF:St) (a:Act) (w:World),K p sF→a.defers=d0→Fr gl J p sF a.tmps w→Q .normal a w):
    ∀(a3 r:List Oper) (p:Option Nat) (st:St) (a:Act) (w:World),all=a3++r→jseq P gl ch0 wf hs l xs all r p st K→a.defers=d0→Fr gl J p st a.tmps w→wpOpsIn (FW none) 0 P all.toArray Q (List.range' a3.length r.length) a w
  |a3,[],p,st,a,w,_,hk,hd,hf=>hQ p st a w hk hd hf
  |a3,o::r,p,st,a,w,he,hk,hd,hf=>by
    simp only[List.length_cons,List.range'_succ,wpOpsIn];have ho:all.toArray[a3.length]? =some o:=by rw[List.getElem?_toArray,he,List.getElem?_append_right (Nat.le_refl _)];simp
    simp only[ho];have ih:=Q14 h0 a5 hJ (all:=all) hQ (a3++[o]) r;simp only[List.length_append,List.length_cons,List.length_nil,Nat.zero_add,List.append_assoc,List.singleton_append] at ih;simp only[jseq] at hk;obtain⟨O,Hc,m,H,hr,aa,hj⟩:=hf.ex;split at hk
    · rename_i a4
      split at hk
      · rename_i hg
        rw[if_pos (Jk hr hg)];exact Q5g h0 a5 hJ a4 hk hf _ _ fun a' w' p' s hs a6 a7=>ih p' s a' w' he hs (a6.trans hd) a7
      · rename_i hg
        rw[if_neg (by rw[Jk hr hg];simp)]
        exact⟨fun _ _=>trivial,ih _ _ _ w he hk ((Yd _ _ _).trans hd) ⟨O,Hc,m,H,hr.putO a4 (.tup [] #[] rfl (fun j c v hj=>by simp at hj)),aa,hj⟩⟩
      · cases hk
    · cases hk
theorem TK(h0:ch0.Ok P gl)(ac:WF.Ok P gl wf)(aa:P.follows .mixedOrders=true)(hJ:JOk P gl l xs J):∀(k:Nat) (c:Code) (p:Option Nat) (st:St) (K:Exit→Option Nat→St→Prop),QT c=true→Qz c=false→CQ P gl ch0 wf hs js l xs k c p st K→
    ∀(a:Act) (w:World),Fr gl J p st a.tmps w→c.wpIn (FW none) 0 P (fun e a' w'=>∃p' st',K e p' st'∧a'.defers=a.defers∧Fr gl J p' st' a'.tmps w') a w
  |0,_,_,_,_,_,_,h=>h.elim
  |k+1,c,p,st,K,hok,hrg,h=>by
    have ih:=TK h0 ac aa hJ k;intro a w hf;cases c with
    |skip=>exact wpIn_skip ⟨p,st,h,rfl,hf⟩
    |label l=>exact wpIn_label ⟨p,st,h,rfl,hf⟩
    |exit id=>exact wpIn_exit ⟨p,st,h,rfl,hf⟩
    |ret=>exact wpIn_ret ⟨p,st,h,rfl,hf⟩
    |region id ops draw=>
      simp only[CQ] at h;cases draw with
      |true=>
        simp only at h;obtain⟨O,Hc,m,H,hr,af,hj⟩:=hf.ex;refine wpIn_mono (IZ h0 ac aa hok h none 0 (fun _=>rfl) _ _ [] m H a w (fun ps e=>by cases e;rfl) hr) fun e a' w' hp=> ?_
        obtain⟨s,m',H',B',H0',D,hk,a3,aq⟩:=hp;have hD:=a3.non rfl;subst hD;exact⟨p,s,hk,by simpa[EG] using a3.dfr,Fr.moved hJ hj a3.bel a3.sub a3.old aq⟩
      |false=>
        refine wpIn_region ?_;have:=Q14 h0 ac hJ (hs:=hs) (all:=ops.toList) (d0:=a.defers) (Q:=fun e a' w'=>∃p' st',K e p' st'∧a'.defers=a.defers∧Fr gl J p' st' a'.tmps w') (fun p s a' w' hk hd hf=>⟨p,s,hk,hd,hf⟩) [] ops.toList p st a w rfl h rfl hf
        simpa[List.range_eq_range'] using this
    |seq x y=>
      simp only[CQ] at h;simp only[QT,Bool.and_eq_true] at hok;simp only[Qz,Bool.or_eq_false_iff] at hrg;refine wpIn_seq (wpIn_mono (ih x p st _ hok.1 hrg.1 h a w hf) fun e a' w' hp=> ?_)
      obtain⟨p',s,hq,hd,a6⟩:=hp;split at hq
      · rename_i he
        obtain rfl:=WW he;refine wpIn_mono (ih y p' s K hok.2 hrg.2 hq a' w' a6) fun e a2 w2 ao=> ?_
        obtain⟨p2,s2,ap,an,ab⟩:=ao;exact⟨p2,s2,ap,an.trans hd,ab⟩
      · rename_i he
        have:=LH he;cases e with
        |normal=>exact absurd rfl this
        |_=>exact⟨p',s,hq,hd,a6⟩
    |cond c x y=>
      simp only[CQ] at h;simp only[QT,Bool.and_eq_true] at hok;simp only[Qz,Bool.or_eq_false_iff] at hrg;obtain⟨O,Hc,m,H,hr,af,hj⟩:=hf.ex;split at h
      · rename_i t ht
        have hv:=hr.ev c;rw[ht] at hv;cases t with
        |true=>exact wpIn_cond hv.bool_inv (ih x p st K hok.1 hrg.1 h a w hf)
        |false=>exact wpIn_cond hv.bool_inv (ih y p st K hok.2 hrg.2 h a w hf)
      · cases h
    |block id c=>
      simp only[CQ] at h;simp only[QT] at hok;simp only[Qz] at hrg;refine wpIn_block (wpIn_mono (ih c p st _ hok hrg h a w hf) fun e a' w' hp=> ?_)
      obtain⟨p',s,hq,hd,a6⟩:=hp;split at hq
      · rename_i he
        obtain rfl:=exIs_t he;simp only[Exit.inBlock,if_true];exact⟨p',s,hq,hd,a6⟩
      · rename_i he
        cases e with
        |exit i=>
          simp only[Exit.inBlock,if_neg (exIs_f he)];exact⟨p',s,hq,hd,a6⟩
        |_=>exact⟨p',s,hq,hd,a6⟩
    |loop c=>
      simp only[CQ] at h;split at h
      · rename_i h2 _
        obtain⟨ks,kb,kx,x,y⟩:=h2;simp only at h;obtain⟨s1,ae,h⟩:=YR (gl:=gl) h;obtain⟨O,Hc,m,H,hr,af,hj⟩:=hf.ex;obtain⟨m1,H1,ar⟩:=ae.2 _ _ _ _ _ _ _ hr;obtain⟨vs,bs,m2,⟨q,hL,ak,am⟩,ah⟩:=GY ar rfl h;rw[ae.1] at ah;have ab:=Fr.moved hJ hj (Qd.refl _ w) (fun _ h=>h) (fun _ _ _=>rfl) ah
        refine(wpL.mono (hL.ok J hJ a w ab) fun e a' w' ⟨p',s',hq,d,f⟩=>⟨p',s',?_,d,f⟩).loop
        rcases hq with⟨rfl,rfl,rfl⟩ | ⟨rfl,rfl,rfl⟩
        · exact ak
        · exact am
      · exact h.elim
    |_=>exact h.elim
structure NxtJ (P:Program) (gl:Nat→AV) (l:Nat) (xs:List (List AV)) (n:Nat) (c:Code) (ks:List Nat) (kx:List Nat) (x y:Exit×List AV) (m:Nat) (vs:List AV) (bs:List Box) (p:Option Nat):Prop where
  ok:∃vs' bs',LeVs vs vs'∧LeBs bs bs'∧JL P gl l xs n c ks vs' bs' p kx x y m
def jround(P:Program)(gl:Nat→AV)(ch0:Qo)(wf:WF)(hs:Zg)(js:List (Nat×JH))(l:Nat)(xs:List (List AV))(k n:Nat)(c:Code)(ks:List Nat)(kb:List KB)(vs:List AV)(bs:List Box)(p:Option Nat)(kx:List Nat)(x y:Exit×List AV)(m:Nat)(N:List AV→List Box→Option Nat→Prop):Prop:=
  CQ P gl ch0 wf hs js l xs k c p (X8 n ks vs bs) (fun e p s=>match Nat.beq s.n n with
    |true=>match Dm e with
      |true=>Vk kb s (fun s=>GN [] ks kb s (fun vs bs=>N vs bs p))
      |false=>GN [] kx [] s (fun vs bs=>JO x y m e p vs bs)
    |false=>False)
theorem JL.step(h0:ch0.Ok P gl)(ao:WF.Ok P gl wf)(a9:P.follows .mixedOrders=true){k n:Nat}{c:Code}(aj:QT c=true)(an:Qz c=false){ks:List Nat}{kb:List KB}{vs:List AV}{bs:List Box}{p:Option Nat}{kx:List Nat}{x y:Exit×List AV}{m:Nat}(hx:Dm x.1=false)(hy:Dm y.1=false)
    (hw:jround P gl ch0 wf hs js l xs k n c ks kb vs bs p kx x y m (NxtJ P gl l xs n c ks kx x y m)):JL P gl l xs n c ks vs bs p kx x y m:=by
  refine⟨fun J hJ a w hf=>wpL.round ?_⟩
  refine wpIn_mono (TK h0 ao a9 hJ k c p _ _ aj an hw a w hf) fun e a2 w2 hp=> ?_
  obtain⟨p2,s,hq,a7,ai⟩:=hp;split at hq
  · rename_i hn
    have hn:=Nat.eq_of_beq_eq_true hn;obtain⟨O,Hc,m1,H,hr,az,hj⟩:=ai.ex;split at hq
    · rename_i he
      obtain rfl:=WW he;obtain⟨s2,hc,hq⟩:=YR (gl:=gl) hq;obtain⟨m3,H3,ak⟩:=hc.2 _ _ _ _ _ _ _ hr;obtain⟨ap,ae,m4,hL,a4⟩:=GY ak rfl hq;rw[hc.1,hn] at a4;obtain⟨b6,aw,lv,lb,hL⟩:=hL.ok;obtain⟨m5,H5,am⟩:=(CO (gl:=gl) (n:=n) (ks:=ks) lv lb).2 _ _ _ _ _ _ _ a4;have a5:=Fr.moved hJ hj (Qd.refl _ w2) (fun _ h=>h) (fun _ _ _=>rfl) am
      exact wpL.mono (hL.ok J hJ a2 w2 a5) fun e a3 w3 ⟨p',s',q,d,f⟩=>⟨p',s',q,d.trans a7,f⟩
    · rename_i he
      have:=LH he;obtain⟨ap,ae,m4,⟨rfl,hL⟩,a4⟩:=GY hr rfl hq;rw[hn] at a4;have a5:=Fr.moved hJ hj (Qd.refl _ w2) (fun _ h=>h) (fun _ _ _=>rfl) a4
      have a8:∃p' st',JQL n kx x y m e p' st'∧a2.defers=a.defers∧Fr gl J p' st' a2.tmps w2:=by
        refine⟨p2,_,?_,a7,a5⟩;rcases hL with⟨h1,h2,h3⟩ | ⟨h1,h2,h3⟩
        · exact .inl ⟨h1,h2,by rw[h3]⟩
        · exact .inr ⟨h1,h2,by rw[h3]⟩
      cases e with
      |normal=>exact absurd rfl this
      |_=>exact a8
  · cases hq
def jres:AV→Bool
  | .bool _=>true
  | .tup []=>true
  | .undef=>true
  |_=>false
theorem jres_ok{H:HV}{E:Env}{r:AV}{v:Value}(h:RV H E r v)(hr:jres r=true)(H':HV):RelI H' r v:=by
  unfold jres at hr;split at hr
  · rw[h.bool_inv];exact .bool _
  · obtain⟨vs,rfl,hl,_⟩:=h.tup_inv
    exact .tup [] vs hl (fun j c u hj=>by simp at hj)
  · exact .undef _
  · cases hr
def jfun(P:Program)(gl:Nat→AV)(ch0:Qo)(wf:WF)(gd:Nat→Bool)(fl f:Nat)(hs:Zg)(js:List (Nat×JH))(l:Nat)(xs:List (List AV))(args:List AV)(p:Option Nat)(b:Bool)(m:Nat):Prop:=
  match gd f with
  |true=>match P.funcs[f]? with
    |some fn=>match fn.body with
      |some c=>match Nat.ble args.length fn.ntmps&& !Qz c with
        |true=>CQ P gl ch0 wf hs js l xs fl c p ⟨fn.ntmps,Vn 0 args,.nil,0⟩ (fun e p s=>match Mv e with
          |true=>match HN P s fn.results.toList with
            |some r=>match jres r with
              |true=>JQ b m r p
              |false=>False
            |none=>False
          |false=>False)
        |false=>False
      |none=>False
    |none=>False
  |false=>False
theorem JF.of{gd:Nat→Bool}(h0:ch0.Ok P gl)(aw:WF.Ok P gl wf)(hp:DK P gd){fl f:Nat}{args:List AV}{p:Option Nat}{b:Bool}{m:Nat}(hw:jfun P gl ch0 wf gd fl f hs js l xs args p b m):JF P gl l xs f args p b m:=by
  refine⟨fun J hJ Hc w vs hj hl a9=> ?_⟩
  unfold jfun at hw;split at hw
  · rename_i hg
    have a3:=hp.fn f hg;unfold okFn at a3;split at hw
    · rename_i fn hf
      rw[hf] at a3;simp only[Bool.and_eq_true,bne_iff_ne] at a3;obtain⟨ab,a3⟩:=a3;split at hw
      · rename_i c aa
        rw[aa] at a3;simp only at a3;split at hw
        · rename_i a6
          rw[Bool.and_eq_true,Bool.not_eq_true'] at a6;have ar:=a6.2;have a6:=Nat.le_of_ble_eq_true a6.1;refine .inl ⟨N7 hf (by simpa using ab) (by rw[aa];rfl),?_⟩
          have ad:=hJ.sat _ _ _ _ hj;have hh:RelH (fun _=>⟨0,0,0⟩) Hc (BO (fun _=>False) w) Hc gl (lkb .nil) 0 w:=
            {sat:=ad,old:=fun _ _ _=>rfl,low:=fun _ hk=>hk.1,fresh:=fun _ _=>Zz _,box:=(fun _ _ hh=>by rw[Zz] at hh;cases hh),sepR:=(fun _ _ hh=>by rw[Zz] at hh;cases hh),injR:=(fun _ _ _ _ hh=>by rw[Zz] at hh;cases hh),gl:=hJ.gls _ _ _ _ hj,ty:=(fun _ _ _ hh=>by rw[Zz] at hh;cases hh),gv:=hJ.gv _ _ _ _ hj}
          have aq:RelS (fun _=>⟨0,0,0⟩) Hc (BO (fun _=>False) w) Hc gl [] ⟨fn.ntmps,Vn 0 args,.nil,0⟩ (Act.mk (vs++Array.replicate (fn.ntmps - vs.size) Go.undef) []).tmps w:=by
            refine⟨hh,by simp;omega,fun k=> ?_,fun p hp=>by simp at hp⟩
            show RV Hc _ (lk .undef (Vn 0 args) k) _;rw[WX,if_pos (Nat.zero_le _),Nat.sub_zero];cases hx:args[k]? with
            |none=>exact .imm _ _ (.undef _)
            |some x=>
              have hk:k<vs.size:=by rw[← hl];exact(List.getElem?_eq_some_iff.1 hx).1
              have hv:(vs++Array.replicate (fn.ntmps - vs.size) Go.undef).getD k Go.undef=vs[k]:=by
                rw[Array.getD_eq_getD_getElem?,Array.getElem?_append_left hk,Array.getElem?_eq_getElem hk];rfl
              rw[hv];exact .imm _ _ (a9 k x _ hx (Array.getElem?_eq_getElem hk))
          refine CallsIn.calls (F:=FW none) (n:=0) (callsIn_of_wp hf aa trivial (wpIn_mono (TK h0 aw hp.mix hJ fl c p _ _ a3 ar hw _ w ⟨_,_,_,_,aq,.refl _,hj⟩) fun e a' w' hq=> ?_)) (fun k d hd=>by simp[FW] at hd)
          obtain⟨p',s,hK,hd,am⟩:=hq;obtain⟨O,Hc',m',H',ap,ax,an⟩:=am.ex;split at hK
          · rename_i aj
            split at hK
            · rename_i r ac
              split at hK
              · rename_i ao
                obtain⟨v,hv,au⟩:=IV ap ac;have a7:∃v0 r p' O' Hc',Ending.returned v= .returned v0∧JQ b m r p'∧(∀H,RelI H r v0)∧J p' O' Hc' w':=⟨v,r,p',O,Hc',rfl,hK,jres_ok au ao,an⟩;cases e with
                |normal=>exact⟨hd,v,hv,a7⟩
                |ret=>exact⟨hd,v,hv,a7⟩
                |_=>cases aj
              · cases hK
            · cases hK
          · cases hK
        · cases hw
      · cases hw
    · cases hw
  · cases hw
theorem Q56{H:HV}{y:Value}{a3:List AV}{us:Array Value}(hr:∀(j:Nat) (c:AV) (v:Value),a3[j]? =some c→us[j]? =some v→RelI H c v)(j:Nat)(c:AV)(v:Value)(hc:(AV.val y::a3)[j]? =some c)(hv:(#[y]++us)[j]? =some v):RelI H c v:=by
  cases j with
  |zero=>
    simp only[List.getElem?_cons_zero,Option.some.injEq] at hc;subst hc;have:y=v:=by rw[Array.getElem?_append_left (by simp)] at hv;simpa using hv
    subst this;exact .val _
  |succ j=>
    rw[List.getElem?_cons_succ] at hc;refine hr j c v hc ?_;rw[Array.getElem?_append_right (by simp)] at hv
    simpa using hv
theorem JQ_end{b:Bool}{m:Nat}{r:AV}{p:Option Nat}(h:JQ b m r p):p=some m∨p=none:=by
  cases b with
  |true=>exact h.elim (fun h=>.inl h.2) fun h=>.inr h.2
  |false=>exact h.2
theorem ItOk.of{f:Nat}{a3:List AV}(a4:Nc P f)(b:Bool)(h:∀l,JF P gl l xs f (.val (.func (.yield l) #[] #[])::a3) (some 0) b xs.length):ItOk P gl f a3 xs:=⟨fun l J hJ Hc w us hj hl hr=>by
  have hF:=h l;have a5:(AV.val (.func (.yield l) #[] #[])::a3).length=(#[Value.func (.yield l) #[] #[]]++us).size:=by simp[hl];omega
  have h1:=hF.ok J hJ Hc w (#[Value.func (.yield l) #[] #[]]++us) hj a5 (Q56 hr);exact(h1.calls a4).mono fun e w' ⟨v,r,p',O',Hc',e1,e2,e3,e4⟩=>⟨v,p',O',Hc',e1,JQ_end e2,e4⟩⟩
end
end HY
end
section
namespace HY
open Go Go.RowKit
end HY
end
section
namespace HY
open Go Go.RowKit
abbrev Str:=List UInt8
def ix{α:Type}(l:List α)(k:Int):Option α:=if 0≤k then l[k.toNat]? else none
@[reducible] def w6(n:Int):Int:=IntKind.u64.wrap n
@[reducible] def wr(n:Int):Int:=IntKind.i64.wrap n
@[reducible] def ii(n:Int):AV:=.int .i64 n
@[reducible] def kk(n:Nat):KB:= {slot:=n}
theorem lr{x:AV}:LeV x x:=.refl x
@[reducible] def jb(o:Bool)(v:Bool→List AV)(b:List Box):List Alt:=[⟨fun(_:Unit)=>true=o,.normal,fun _=>v true,fun _=>b⟩,⟨fun(_:Unit)=>false=o,.normal,fun _=>v false,fun _=>b⟩]
@[reducible] def lp{α β:Type}(o:α ⊕ β)(e:Exit)(v:α→List AV)(b:α→List Box)(e':Exit)(v':β→List AV)(b':β→List Box):List Alt:=[⟨fun x=>Sum.inl x=o,e,v,b⟩,⟨fun x=>Sum.inr x=o,e',v',b'⟩]
@[reducible] def l1{α:Type}(o:α)(e:Exit)(v:α→List AV)(b:α→List Box):List Alt:=[⟨fun x=>x=o,e,v,b⟩]
section
variable {ρ : Type} {r : ρ}
theorem kIf{c:Bool}{x y:Option ρ}{A B:Prop}(hA:x=some r→A)(hB:y=some r→B)(h:(if c=true then x else y)=some r):(c=true→A)∧(c=false→B):=by
 cases c with
 |true=>exact⟨fun _=>hA h,nofun⟩
 |false=>exact⟨nofun,fun _=>hB h⟩
theorem kIfD{p:Prop} [Decidable p] {x y:Option ρ} {A B:Prop} (hA:x=some r→A) (hB:y=some r→B) (h:(if p then x else y)=some r):(decide p=true→A)∧(decide p=false→B):=by
 by_cases hp:p;·rw[if_pos hp] at h;exact⟨fun _=>hA h,fun e=>absurd hp (of_decide_eq_false e)⟩
 ·rw[if_neg hp] at h;exact⟨fun e=>absurd (of_decide_eq_true e) hp,fun _=>hB h⟩
theorem kG{p:Prop} [Decidable p] {x:Option ρ} {A:Prop} (hA:x=some r→A) (h:(if p then x else none)=some r):p∧A:=by
 by_cases hp:p;·rw[if_pos hp] at h;exact⟨hp,hA h⟩
 ·rw[if_neg hp] at h;cases h
theorem kA{α:Type}{sh:α→AV}{l:List α}{q:Prop} [Decidable q] {x:Option ρ} {A:Prop} (hA:x=some r→A) (h:(if q then x else none)=some r):(l.length=(List.map sh l).length∧q)∧A:=by
 by_cases hp:q;·rw[if_pos hp] at h;exact⟨⟨by simp,hp⟩,hA h⟩
 ·rw[if_neg hp] at h;cases h
theorem kT{p:Prop}{x:Option ρ}{A:Prop}(hp:p)(hA:x=some r→A)(h:x=some r):p∧A:=⟨hp,hA h⟩
theorem kIx{α:Type}{enc:α→AV}{l:List α}{k:Int}{f:α→Option ρ}{A:α→Prop}(hA:∀x,f x=some r→A x)(h:(ix l k>>=f)=some r):∃x,(0≤k∧(List.map enc l)[k.toNat]? =some (enc x))∧A x:=by
 unfold ix at h;split at h
 ·rename_i h0;cases hx:l[k.toNat]? with
  |none=>rw[hx] at h;cases h
  |some x=>rw[hx] at h;exact⟨x,⟨h0,by rw[List.getElem?_map,hx];rfl⟩,hA x h⟩
 ·cases h
theorem kIxR{α τ:Type}{enc:α→AV}{sh:τ→AV}{un:α→τ}{l:List α}{k:Int}{f:τ→Option ρ}{A:τ→Prop}(hv:∀a,enc a=sh (un a))(hA:∀x,f x=some r→A x)(h:(Option.map un (ix l k)>>=f)=some r):∃x,(0≤k∧(List.map enc l)[k.toNat]? =some (sh x))∧A x:=by
 unfold ix at h;split at h
 ·rename_i h0;cases hx:l[k.toNat]? with
  |none=>rw[hx] at h;cases h
  |some x=>rw[hx] at h;exact⟨un x,⟨h0,by rw[List.getElem?_map,hx,Option.map_some,hv]⟩,hA _ h⟩
 ·cases h
theorem kOx{α:Type}{enc:α→AV}{l:List α}{k:Nat}{f:α→Option ρ}{A:α→Prop}(hA:∀x,f x=some r→A x)(h:(l[k]? >>=f)=some r):∃x,(List.map enc l)[k]? =some (enc x)∧A x:=by
 cases hx:l[k]? with
 |none=>rw[hx] at h;cases h
 |some x=>rw[hx] at h;exact⟨x,by rw[List.getElem?_map,hx];rfl,hA x h⟩
theorem kOxR{α τ:Type}{enc:α→AV}{sh:τ→AV}{un:α→τ}{l:List α}{k:Nat}{f:τ→Option ρ}{A:τ→Prop}(hv:∀a,enc a=sh (un a))(hA:∀x,f x=some r→A x)(h:(Option.map un l[k]? >>=f)=some r):∃x,(List.map enc l)[k]? =some (sh x)∧A x:=by
 cases hx:l[k]? with
 |none=>rw[hx] at h;cases h
 |some x=>rw[hx] at h;exact⟨un x,by rw[List.getElem?_map,hx,Option.map_some,hv],hA _ h⟩
theorem kU{s:Str}{k:Int}{f:UInt8→Option ρ}{A:UInt8→Prop}(hA:∀x,f x=some r→A x)(h:(ix s k>>=f)=some r):∃x,(0≤k∧s[k.toNat]? =some x)∧A x:=by
 unfold ix at h;split at h
 ·rename_i h0;cases hx:s[k.toNat]? with
  |none=>rw[hx] at h;cases h
  |some x=>rw[hx] at h;exact⟨x,⟨h0,rfl⟩,hA x h⟩
 ·cases h
theorem kC{P:Program}{gl:Nat→AV}{g:Nat}{args:List AV}{τ:Type}{sh:τ→AV}{x:Option τ}{f:τ→Option ρ}{A:τ→Prop}(hP:∀y,x=some y→Pu P gl g args (sh y))(hA:∀y,f y=some r→A y)(h:(x>>=f)=some r):∃y,Pu P gl g args (sh y)∧A y:=by
 cases x with
 |none=>cases h
 |some y=>exact⟨y,hP y rfl,hA y h⟩
theorem kCb{P:Program}{gl:Nat→AV}{g:Nat}{args:List AV}{c:Option Bool}{x y:Option ρ}{A B:Prop}(hP:∀u,c=some u→Pu P gl g args (.bool u))(hA:x=some r→A)(hB:y=some r→B)(h:(c>>=fun u=>if u=true then x else y)=some r):∃u,Pu P gl g args (.bool u)∧(u=true→A)∧(u=false→B):=by
 cases c with
 |none=>cases h
 |some u=>exact⟨u,hP u rfl,kIf hA hB h⟩
theorem kN{α:Type}{m:α}{f:α→Option ρ}{A:α→Prop}(n:α)(e:n=m)(hA:∀n,f n=some r→A n)(h:(some n>>=f)=some r):∃n,n=m∧A n:=⟨n,e,hA n h⟩
theorem kW{α:Type}{sh:α→AV}{v:AV}{f:α→Option ρ}{A:α→Prop}(x:α)(e:LeV v (sh x))(hA:∀x,f x=some r→A x)(h:(some x>>=f)=some r):∃x,LeV v (sh x)∧A x:=⟨x,e,hA x h⟩
theorem kBE{α:Type}{sh:α→AV}{xs:List AV}{f:List α→Option ρ}{A:List α→Prop}(l0:List α)(e:List.map sh l0=xs)(hA:∀l,l=l0→f l=some r→A l)(h:(some l0>>=f)=some r):∃l,List.map sh l=xs∧A l:=⟨l0,e,hA l0 rfl h⟩
theorem kO{α:Type}{sh:α→AV}{xs:List AV}{n:Nat}{f:List α→Option ρ}{A:List α→Prop}(l:List α)(e:List.map sh l=xs)(hn:l.length=n)(hA:∀l,f l=some r→A l)(h:(some l>>=f)=some r):∃l,(List.map sh l=xs∧l.length=n)∧A l:=⟨l,⟨e,hn⟩,hA l h⟩
theorem kL1{P:Program}{gl:Nat→AV}{ps:List AV}{n:Nat}{c:Code}{ks:List Nat}{vs:List AV}{bs:List Box}{kx:List Nat}{υ α:Type}{alts:υ→α→List Alt}{x:Option α}{f:υ→α→Option ρ}{A:υ→α→Prop}(u:υ)(hL:∀o,x=some o→X7 P gl ps n c ks vs bs kx (alts u o))(hA:∀u a,f u a=some r→A u a)(h:(some u>>=fun u=>x>>=f u)=some r):
  ∃u o,X7 P gl ps n c ks vs bs kx (alts u o)∧∀a,a=o→A u a:=by
 cases x with
 |none=>cases h
 |some o=>exact⟨u,o,hL o rfl,fun a e=>by subst e;exact hA u a h⟩
theorem kL2{P:Program}{gl:Nat→AV}{ps:List AV}{n:Nat}{c:Code}{ks:List Nat}{vs:List AV}{bs:List Box}{kx:List Nat}{υ α β:Type}{alts:υ→α ⊕ β→List Alt}{x:Option (α ⊕ β)}{f:υ→α→Option ρ}{g:υ→β→Option ρ}{A:υ→α→Prop}{B:υ→β→Prop}(u:υ){m:υ→α ⊕ β→Option ρ}(e1:∀u a,m u (.inl a)=f u a:=by intros;rfl)(e2:∀u a,m u (.inr a)=g u a:=by intros;rfl)(hL:∀o,x=some o→X7 P gl ps n c ks vs bs kx (alts u o))(hA:∀u a,f u a=some r→A u a)(hB:∀u b,g u b=some r→B u b)
  (h:(some u>>=fun u=>x>>=m u)=some r):∃u o,X7 P gl ps n c ks vs bs kx (alts u o)∧(∀a,Sum.inl a=o→A u a)∧∀b,Sum.inr b=o→B u b:=by
 cases x with
 |none=>cases h
 |some o=>exact⟨u,o,hL o rfl,fun a e=>by subst e;exact hA u a ((e1 u a).symm.trans h),fun b e=>by subst e;exact hB u b ((e2 u b).symm.trans h)⟩
theorem kJb{id:Nat}{υ:Type}{y:Option Bool}{f g:υ→Option ρ}{I:υ→Bool→Prop}{A B:υ→Prop}(u0:υ)(hI:∀u,u=u0→∀o,y=some o→I u o)(hA:∀u,f u=some r→A u)(hB:∀u,g u=some r→B u)(h:(some u0>>=fun u=>y>>=fun o=>if o=true then f u else g u)=some r):
  ∃u o,Jn id (I u o)∧(∀_:Unit,true=o→A u)∧∀_:Unit,false=o→B u:=by
 cases y with
 |none=>cases h
 |some o=>
  refine⟨u0,o,hI u0 rfl o rfl,fun _ e=> ?_,fun _ e=> ?_⟩
  ·subst e;exact hA u0 h
  ·subst e;exact hB u0 h
theorem kJ1{id:Nat}{υ α:Type}{y:Option α}{f:υ→α→Option ρ}{I:υ→α→Prop}{A:υ→α→Prop}(u0:υ)(hI:∀u,u=u0→∀o,y=some o→I u o)(hA:∀u a,f u a=some r→A u a)(h:(some u0>>=fun u=>y>>=f u)=some r):
  ∃u o,Jn id (I u o)∧∀a,a=o→A u a:=by
 cases y with
 |none=>cases h
 |some o=>exact⟨u0,o,hI u0 rfl o rfl,fun a e=>by subst e;exact hA u0 a h⟩
theorem kJbE{id:Nat}{υ:Type}{y:Option Bool}{f g:υ→Option ρ}{I:υ→Bool→Prop}{A B:υ→Prop}(u0:υ)(hI:∀u,u=u0→∀o,y=some o→I u o)(hA:∀u,u=u0→f u=some r→A u)(hB:∀u,u=u0→g u=some r→B u)(h:(some u0>>=fun u=>y>>=fun o=>if o=true then f u else g u)=some r):
  ∃u o,Jn id (I u o)∧(∀_:Unit,true=o→A u)∧∀_:Unit,false=o→B u:=by
 cases y with
 |none=>cases h
 |some o=>
  refine⟨u0,o,hI u0 rfl o rfl,fun _ e=> ?_,fun _ e=> ?_⟩
  ·subst e;exact hA u0 rfl h
  ·subst e;exact hB u0 rfl h
theorem kJ1E{id:Nat}{υ α:Type}{y:Option α}{f:υ→α→Option ρ}{I:υ→α→Prop}{A:υ→α→Prop}(u0:υ)(hI:∀u,u=u0→∀o,y=some o→I u o)(hA:∀u,u=u0→∀a,f u a=some r→A u a)(h:(some u0>>=fun u=>y>>=f u)=some r):
  ∃u o,Jn id (I u o)∧∀a,a=o→A u a:=by
 cases y with
 |none=>cases h
 |some o=>exact⟨u0,o,hI u0 rfl o rfl,fun a e=>by subst e;exact hA u0 rfl a h⟩
theorem kXj{υ:Type}{alts:υ→ρ→List Alt}{e:Exit}{vs:List AV}{bs:List Box}{u u0:υ}(he:u=u0)(o:ρ)(hO:Out (alts u0 o) e vs bs)(h:some o=some r):Out (alts u r) e vs bs:=by cases h;rw[he];exact hO
theorem kE{enc:ρ→AV}{t:AV}(v:ρ)(e:LeT t (enc v))(h:some v=some r):LeT t (enc r):=by cases h;exact e
theorem kEr{enc:ρ→AV}(v:ρ)(h:some v=some r):LeT (enc v) (enc r):=by cases h;exact⟨fun _ _ h=>h⟩
theorem kX{alts:ρ→List Alt}{e:Exit}{vs:List AV}{bs:List Box}(o:ρ)(hO:Out (alts o) e vs bs)(h:some o=some r):Out (alts r) e vs bs:=by cases h;exact hO
theorem kM{P:Program}{gl:Nat→AV}{ps:List AV}{n:Nat}{c:Code}{ks:List Nat}{vs a4:List AV}{bs a3:List Box}{kx:List Nat}{alts:ρ→List Alt}{x:Option ρ}(hv:LeVs vs a4)(hb:LeBs bs a3)(hL:∀o,x=some o→X7 P gl ps n c ks a4 a3 kx (alts o))(h:x=some r):Nxt P gl ps n c ks kx (alts r) vs bs:=⟨⟨a4,a3,hv,hb,hL r h⟩⟩
theorem kM0{P:Program}{gl:Nat→AV}{ps:List AV}{n:Nat}{c:Code}{ks:List Nat}{vs:List AV}{bs:List Box}{kx:List Nat}{alts:ρ→List Alt}{x:Option ρ}(hL:∀o,x=some o→X7 P gl ps n c ks vs bs kx (alts o))(h:x=some r):Nxt P gl ps n c ks kx (alts r) vs bs:=⟨⟨vs,bs,.refl _,.refl _,hL r h⟩⟩
end
theorem X7.le{P:Program}{gl:Nat→AV}{ps:List AV}{n:Nat}{c:Code}{ks:List Nat}{vs a5:List AV}{bs a4:List Box}{kx:List Nat}{alts:List Alt}(hv:LeVs vs a5)(hb:LeBs bs a4)(h:X7 P gl ps n c ks a5 a4 kx alts):X7 P gl ps n c ks vs bs kx alts:=⟨fun ro d a7 B H0 rest m H a w a3 hr=>by
 obtain⟨m5,H5,a6⟩:=(CO (gl:=gl) (n:=n) (ks:=ks) hv hb).2 _ _ _ _ _ _ _ hr;exact h.ok ro d a7 B H0 rest m5 H5 a w a3 a6⟩
section
variable {ρ : Type} {r : ρ}
theorem kH{P:Program}{gl:Nat→AV}{g:Nat}{args:List AV}{bs:List Box}{τ:Type}{sh:τ→AV}{bt:τ→List Box}{x:Option τ}{f:τ→Option ρ}{A:τ→Prop}(hP:∀y,x=some y→PuH P gl g args bs (sh y) (bt y))(hA:∀y,f y=some r→A y)(h:(x>>=f)=some r):∃y,PuH P gl g args bs (sh y) (bt y)∧A y:=by
 cases x with
 |none=>cases h
 |some y=>exact⟨y,hP y rfl,hA y h⟩
theorem kEH{enc:ρ→AV}{bt:ρ→List Box}{vs:List AV}{bs:List Box}(v:ρ)(e:LeVs vs [enc v]∧LeBs bs (bt v))(h:some v=some r):LeVs vs [enc r]∧LeBs bs (bt r):=by cases h;exact e
end
theorem LeV.owl{id ver sz n n':Nat}(h:n=n'):LeV (.ow id ver sz n) (.ow id ver sz n'):=h▸ .refl _
theorem LeB.ownEq{v sz:Nat}{xs ys:List AV}(h:ys=xs):LeB (.own v sz xs) (.own v sz ys):=h▸ .refl _
section
variable {α : Type} {sh : α → AV}
theorem mA(l:List α)(x:α):List.map sh (l++[x])=List.map sh l++[sh x]:=by simp
theorem mAA(l m:List α):List.map sh (l++m)=List.map sh l++List.map sh m:=List.map_append
theorem mAp{l m:List α}{A B:List AV}(h:List.map sh l=A)(k:List.map sh m=B):List.map sh (l++m)=A++B:=by rw[List.map_append,h,k]
theorem mTD(l:List α)(h k:Nat):List.map sh ((l.take h).drop k)=((List.map sh l).take h).drop k:=by simp
theorem mT(l:List α)(h:Nat):List.map sh (l.take h)=(List.map sh l).take h:=by simp
theorem mS(l:List α)(k:Nat)(x:α):List.map sh (l.set k x)=(List.map sh l).set k (sh x):=by simp
theorem leSl{sz:Nat}{xs ys:List AV}(h:xs=ys):LeV (.sl sz ys) (.sl sz xs):=LeV.of_eq (by rw[h])
theorem mLen(l:List α):(l.length:Int)=((List.map sh l).length:Int):=by simp
theorem mAR{τ:Type}{hh:τ→AV}{mk:τ→α}(hm:∀x,sh (mk x)=hh x)(l:List α)(x:τ):List.map sh (l++[mk x])=List.map sh l++[hh x]:=by simp[hm]
theorem mSR{τ:Type}{hh:τ→AV}{mk:τ→α}(hm:∀x,sh (mk x)=hh x)(l:List α)(k:Nat)(x:τ):List.map sh (l.set k (mk x))=(List.map sh l).set k (hh x):=by simp[hm]
theorem nM(l:List α):l.length=(List.map sh l).length:=by simp
theorem nA(l:List α)(x:α):(l++[x]).length=l.length+1:=by simp
theorem nAA(l m:List α):(l++m).length=l.length+(List.map sh m).length:=by simp
end
end HY
end
section
namespace HY
def eI(x:Int):AV:=.int .i64 x
def eB(x:Bool):AV:=.bool x
def eS(x:Str):AV:=.str x
def eU64(x:Int):AV:=.int .u64 x
def eI32(x:Int):AV:=.int .i32 x
def eLI(x:List Int):AV:=.sl 1 (List.map eI x)
def Ji(x:(List Int×Int)):AV:=.tup [eLI x.1,eI x.2]
def eLS(x:List Str):AV:=.sl 1 (List.map eS x)
def SA(x:(Bool×Bool)):AV:=.tup [eB x.1,eB x.2]
structure Qc where
 fk:Int
 fm:Int
 fv:Int
 fo:Int
 fw:Int
 deriving Inhabited,DecidableEq
def Qf(x:Qc):AV:=.agg [.int .i64 x.fk,.int .i64 x.fm,.int .i64 x.fv,.int .i64 x.fo,.int .i64 x.fw]
structure Qb where
 fa:Str
 fd:Qc
 fC:List Int
 fF:Int
 deriving Inhabited,DecidableEq
def Q4(x:Qb):AV:=.agg [.str x.fa,.int .i64 x.fd.fk,.int .i64 x.fd.fm,.int .i64 x.fd.fv,.int .i64 x.fd.fo,.int .i64 x.fd.fw,.sl 1 (List.map eI x.fC),.int .i64 x.fF]
structure Zh where
 fa:Str
 fBy:Int
 deriving Inhabited,DecidableEq
def Qk(x:Zh):AV:=.agg [.str x.fa,.int .i64 x.fBy]
structure gLin where
 fK:Int
 fL:List Zh
 deriving Inhabited,DecidableEq
def Qe(x:gLin):AV:=.agg [.int .i64 x.fK,.sl 2 (List.map Qk x.fL)]
structure Q7 where
 fj:gLin
 fu:Str
 fAt:List gLin
 deriving Inhabited,DecidableEq
def Q2(x:Q7):AV:=.agg [.int .i64 x.fj.fK,.sl 2 (List.map Qk x.fj.fL),.str x.fu,.sl 2 (List.map Qe x.fAt)]
structure gVal where
 fN:Int
 fD:Int
 deriving Inhabited,DecidableEq
def Nz(x:gVal):AV:=.agg [.int .i64 x.fN,.int .i64 x.fD]
structure QS (α:Type) where
 fOp:Int
 fa:Str
 fx:gVal
 fd:Qc
 fj:gLin
 fe:List Q7
 ff:List α
inductive Qa where
 |mk (x:QS Qa)
abbrev Q1:=QS Qa
def Qa.f:Qa→Q1
 | .mk x=>x
@[simp] theorem Qa.mk_f(e:Qa):Qa.mk e.f=e:=by cases e;rfl
@[simp] theorem Qa.f_mk(x:Q1):(Qa.mk x).f=x:=rfl
theorem Qa.lt{x:Q1}{a:Qa}(h:a∈x.ff):sizeOf a<sizeOf (Qa.mk x):=by
 have:=List.sizeOf_lt_of_mem h;cases x;simp only[Qa.mk.sizeOf_spec,QS.mk.sizeOf_spec] at*;omega
def Qi:Qa→AV
 | .mk x=>.agg [.int .i64 x.fOp,.str x.fa,.int .i64 x.fx.fN,.int .i64 x.fx.fD,.int .i64 x.fd.fk,.int .i64 x.fd.fm,.int .i64 x.fd.fv,.int .i64 x.fd.fo,.int .i64 x.fd.fw,.int .i64 x.fj.fK,.sl 2 (List.map Qk x.fj.fL),.sl 4 (List.map Q2 x.fe),.sl 13 (x.ff.attach.map fun a=>Qi a.1)]
 termination_by e=>sizeOf e
 decreasing_by exact Qa.lt a.2
def Q5(x:Q1):AV:=.agg [.int .i64 x.fOp,.str x.fa,.int .i64 x.fx.fN,.int .i64 x.fx.fD,.int .i64 x.fd.fk,.int .i64 x.fd.fm,.int .i64 x.fd.fv,.int .i64 x.fd.fo,.int .i64 x.fd.fw,.int .i64 x.fj.fK,.sl 2 (List.map Qk x.fj.fL),.sl 4 (List.map Q2 x.fe),.sl 13 (List.map Qi x.ff)]
theorem XH(e:Qa):Qi e=Q5 e.f:=by
 cases e with
 |mk x=>rw[Qi];simp[Q5,Qa.f]
structure ZH (α:Type) where
 fOp:Int
 fa:Str
 fy:Int
 fB:Int
 fA:Int
 fe:List Q7
 fg:Q1
 fb:List α
inductive Q0 where
 |mk (x:ZH Q0)
abbrev Qg:=ZH Q0
def Q0.f:Q0→Qg
 | .mk x=>x
@[simp] theorem Q0.mk_f(e:Q0):Q0.mk e.f=e:=by cases e;rfl
@[simp] theorem Q0.f_mk(x:Qg):(Q0.mk x).f=x:=rfl
theorem Q0.lt{x:Qg}{a:Q0}(h:a∈x.fb):sizeOf a<sizeOf (Q0.mk x):=by
 have:=List.sizeOf_lt_of_mem h;cases x;simp only[Q0.mk.sizeOf_spec,ZH.mk.sizeOf_spec] at*;omega
def Q6:Q0→AV
 | .mk x=>.agg [.int .i64 x.fOp,.str x.fa,.int .i64 x.fy,.int .i64 x.fB,.int .i64 x.fA,.sl 4 (List.map Q2 x.fe),.int .i64 x.fg.fOp,.str x.fg.fa,.int .i64 x.fg.fx.fN,.int .i64 x.fg.fx.fD,.int .i64 x.fg.fd.fk,.int .i64 x.fg.fd.fm,.int .i64 x.fg.fd.fv,.int .i64 x.fg.fd.fo,.int .i64 x.fg.fd.fw,.int .i64 x.fg.fj.fK,.sl 2 (List.map Qk x.fg.fj.fL),.sl 4 (List.map Q2 x.fg.fe),.sl 13 (List.map Qi x.fg.ff),.sl 20 (x.fb.attach.map fun a=>Q6 a.1)]
 termination_by e=>sizeOf e
 decreasing_by exact Q0.lt a.2
def Qp(x:Qg):AV:=.agg [.int .i64 x.fOp,.str x.fa,.int .i64 x.fy,.int .i64 x.fB,.int .i64 x.fA,.sl 4 (List.map Q2 x.fe),.int .i64 x.fg.fOp,.str x.fg.fa,.int .i64 x.fg.fx.fN,.int .i64 x.fg.fx.fD,.int .i64 x.fg.fd.fk,.int .i64 x.fg.fd.fm,.int .i64 x.fg.fd.fv,.int .i64 x.fg.fd.fo,.int .i64 x.fg.fd.fw,.int .i64 x.fg.fj.fK,.sl 2 (List.map Qk x.fg.fj.fL),.sl 4 (List.map Q2 x.fg.fe),.sl 13 (List.map Qi x.fg.ff),.sl 20 (List.map Q6 x.fb)]
theorem Z7(e:Q0):Q6 e=Qp e.f:=by
 cases e with
 |mk x=>rw[Q6];simp[Qp,Q0.f]
structure Q9 where
 fc:List Qb
 fb:List Q0
def Qj(x:Q9):AV:=.agg [.sl 8 (List.map Q4 x.fc),.sl 20 (List.map Q6 x.fb)]
structure Qw where
 fa:Str
 fx:Int
 deriving Inhabited,DecidableEq
def Qv(x:Qw):AV:=.agg [.str x.fa,.int .i64 x.fx]
structure Q3 where
 fi:Q9
 fp:List Str
 fh:List Str
 fq:List Int
def EB(x:Q3):AV:=.agg [.sl 8 (List.map Q4 x.fi.fc),.sl 20 (List.map Q6 x.fi.fb),.sl 1 (List.map eS x.fp),.sl 1 (List.map eS x.fh),.sl 1 (List.map eI x.fq)]
structure QH where
 fG:List Str
 fH:List Int
 fE:Int
 deriving Inhabited,DecidableEq
def Zr(x:QH):AV:=.agg [.sl 1 (List.map eS x.fG),.sl 1 (List.map eI x.fH),.int .i64 x.fE]
theorem EA(x:Q1):Qi (.mk x)=Q5 x:=XH _
theorem legExpr(x:Q1):LeL (AV.cells (Q5 x)) (AV.cells (Qi (.mk x))):=by rw[EA];exact .refl _
theorem UN(x:Qg):Q6 (.mk x)=Qp x:=Z7 _
def JX(x:List Qb):AV:=.sl 8 (List.map Q4 x)
def Qn(x:List Q0):AV:=.sl 20 (List.map Q6 x)
def YC(x:(Q9×Int)):AV:=.tup [Qj x.1,eI x.2]
def YB(x:List Q7):AV:=.sl 4 (List.map Q2 x)
def N5(x:List Zh):AV:=.sl 2 (List.map Qk x)
def YO(x:List Qa):AV:=.sl 13 (List.map Qi x)
def GI(x:List gLin):AV:=.sl 2 (List.map Qe x)
def GH(x:List Qw):AV:=.sl 2 (List.map Qv x)
def QE(x:(Qb×Bool)):AV:=.tup [Q4 x.1,eB x.2]
def VD(x:(Q1×Int)):AV:=.tup [Q5 x.1,eI x.2]
def Dr(x:(gLin×Int)):AV:=.tup [Qe x.1,eI x.2]
def Jz(x:(List Q0×Int)):AV:=.tup [Qn x.1,eI x.2]
def G7(x:(List Q7×Int)):AV:=.tup [YB x.1,eI x.2]
def Qm(x:(Qc×Int)):AV:=.tup [Qf x.1,eI x.2]
end HY
end
section
namespace HY
open Go Go.RowKit
def defOp(o:Oper)(st:St)(gl:Nat→AV):Option (Nat×List AV):=
 match o.op with
 | .defer c=>match o.guard with
  |none=>match o.dst with
   |none=>match c.callee with
    | .value x=>match c.args.toList with
     | []=>match st.ev gl x with
      | .fn g caps=>some (g,caps)
      |_=>none
     |_=>none
    |_=>none
   |some _=>none
  |some _=>none
 |_=>none
def Aj(P:Program)(gl:Nat→AV)(ch:Qo)(rd:Yf):List Oper→St→Option (St×Nat×List AV)
 | [],_=>none
 |o::l,st=>match l with
  | []=>match defOp o st gl with
   |some x=>some (st,x)
   |none=>none
  |o2::l2=>if Z4 o.dst st.n then(match o.guard with
   |none=>match Ip P gl ch rd o st with
    |some s=>Aj P gl ch rd (o2::l2) s
    |none=>none
   |some _=>none) else none
def H8(P:Program)(gl:Nat→AV)(ch:Qo)(rd:Yf)(fl:Nat):Code→St→Option (St×Nat×List AV×List Code)
 | .region _ ops false,st=>match Aj P gl ch rd ops.toList st with
  |some (s,g,caps)=>some (s,g,caps,[])
  |none=>none
 | .seq a b,st=>match H8 P gl ch rd fl a st with
  |some (s,g,caps,r)=>some (s,g,caps,r++[b])
  |none=>match VF P gl ch rd true fl a st with
   |some (.normal,s,[])=>H8 P gl ch rd fl b s
   |_=>none
 |_,_=>none
def Ab(P:Program)(gl:Nat→AV)(ch:Qo)(rd:Yf)(fl:Nat):List Code→St→Option (Exit×St×List Nat)
 | [],st=>some (.normal,st,[])
 |c::cs,st=>match VF P gl ch rd true fl c st with
  |some (.normal,s,d)=>match Ab P gl ch rd fl cs s with
   |some (e,s',d')=>some (e,s',d'++d)
   |none=>none
  |r=>r
def Mk(F:Fence)(n:Nat)(P:Program)(Q:Exit→Act→World→Prop):List Code→Act→World→Prop
 | [],a,w=>Q .normal a w
 |c::cs,a,w=>c.wpIn F n P (Exit.then (Mk F n P Q cs) Q) a w
theorem A4{F:Fence}{n:Nat}{P:Program}{Q:Exit→Act→World→Prop}{y:Code}:∀(l:List Code) (a:Act) (w:World),Mk F n P Q (l++[y]) a w→Mk F n P (Exit.then (y.wpIn F n P Q) Q) l a w
 | [],a,w,h=>wpIn_mono (show y.wpIn F n P (Exit.then (Mk F n P Q []) Q) a w from h) fun e a' w' hq=>by cases e<;>exact hq
 |c::cs,a,w,h=>wpIn_mono (show c.wpIn F n P (Exit.then (Mk F n P Q (cs++[y])) Q) a w from h) fun e a' w' hq=>by
  cases e with
  |normal=>exact A4 cs a' w' hq
  |_=>exact hq
theorem HR{F:Fence}{n:Nat}{P:Program}{Q Q':Exit→Act→World→Prop}:∀(l:List Code) (a:Act) (w:World),Mk F n P Q l a w→(∀e a w,Q e a w→Q' e a w)→Mk F n P Q' l a w
 | [],a,w,h,hq=>hq _ _ _ h
 |c::cs,a,w,h,hq=>wpIn_mono (show c.wpIn F n P (Exit.then (Mk F n P Q cs) Q) a w from h) fun e a' w' h'=>by
  cases e with
  |normal=>exact HR cs a' w' h' hq
  |_=>exact hq _ _ _ h'
section
variable {P : Program} {H0 : HV} {B : Nat → Prop} {gl : Nat → AV} {rest : List (AV × Value)} {ch : Qo} {rd : Yf}
theorem AR{ρ:Operand→Value}{c:Call}{x:Operand}{g:Nat}{vs:Array Value}{ty:TypeId}{w:World}(hc:c.callee= .value x)(ha:c.args.toList=[])(hx:ρ x= .func (.func g) #[] vs):
  (resolve ρ c ty).run P w= .ok {target:=.fn (.func g) vs,args:= #[]} w:=by
 have he:c.args= #[]:=by cases hh:c.args with | mk l=>rw[hh] at ha;simp at ha;subst ha;rfl
 simp[resolve,hc,he,hx,Deferred.ofValue]
theorem BT(a8:ch.Ok P gl)(a9:rd.Ok P gl){all:List Oper}{n:Nat}{d0:List Deferred}{w0:World}{sF:St}{g:Nat}{a5:List AV}{Q:Exit→Act→World→Prop}
  (hQ:∀(a:Act) (w:World) (m:Nat→Lc) (H:HV) (vs:Array Value),a.defers= {target:=.fn (.func g) vs,args:= #[]}::d0→Qd B w0 w→RelS m H B H0 gl rest sF a.tmps w→a5.length=vs.size→
   (∀(j:Nat) (x:AV) (v:Value),a5[j]? =some x→vs[j]? =some v→RV H (sF.env m) x v)→Q .normal a w):
  ∀(a3 l:List Oper) (st:St) (a:Act) (w:World) (m:Nat→Lc) (H:HV),all=a3++l→Aj P gl ch rd l st=some (sF,g,a5)→a.defers=d0→Qd B w0 w→RelS m H B H0 gl rest st a.tmps w→
   wpOpsIn (FW none) n P all.toArray Q (List.range' a3.length l.length) a w
 |a3,[],st,a,w,m,H,_,hk,_,_,_=>by cases hk
 |a3,[o],st,a,w,m,H,he,hk,hd,hb,hr=>by
  simp only[Aj] at hk;split at hk
  ·rename_i x hx;cases hk;unfold defOp at hx;split at hx<;>first | cases hx | skip
   rename_i c ho;split at hx<;>first | cases hx | skip
   rename_i hg;split at hx<;>first | cases hx | skip
   rename_i a6;split at hx<;>first | cases hx | skip
   rename_i x hc;split at hx<;>first | cases hx | skip
   rename_i a7;split at hx<;>first | cases hx | skip
   rename_i af;have ab:=hr.ev x;rw[af] at ab;obtain⟨vs,hu,hl,aa⟩:=ab.fn_inv;have ai:all.toArray[a3.length]? =some o:=by rw[List.getElem?_toArray,he,List.getElem?_append_right (Nat.le_refl _)];simp
   simp only[List.length_cons,List.length_nil,List.range'_succ,List.range'_zero,wpOpsIn,ai];rw[if_pos (by simp[Region.wanted,hg])]
   refine⟨fun _ _=>trivial,?_⟩
   have ac:(o.semAt (FW none).round a.eval).run P w= .ok (.defer {target:=.fn (.func g) vs,args:= #[]}) w:=by
    show(execOp a.eval o).run P w=_;unfold execOp;simp only[ho,Sem.run_bind,AR hc a7 hu,Result.andThen_ok,Sem.run_pure]
   rw[ac,Oper.uponIn_defer,a6];exact hQ _ w m H vs (by show _::a.defers=_;rw[hd]) hb hr hl aa
  ·cases hk
 |a3,o::o2::l2,st,a,w,m,H,he,hk,hd,hb,hr=>by
  rw[List.length_cons,List.range'_succ];simp only[wpOpsIn];have ho:all.toArray[a3.length]? =some o:=by rw[List.getElem?_toArray,he,List.getElem?_append_right (Nat.le_refl _)];simp
  simp only[ho];have ih:=BT a8 a9 (all:=all) (n:=n) hQ (a3++[o]) (o2::l2);simp only[List.length_append,List.length_cons,List.length_nil,Nat.zero_add,List.append_assoc,List.singleton_append] at ih;simp only[Aj] at hk;split at hk
  ·rename_i a6;split at hk
   ·rename_i hg;rw[if_pos (by simp[Region.wanted,hg])]
    split at hk
    ·rename_i s hs;exact HU a8 a9 hr a6 hs none n _ _ fun a' w' m' H' ae ad aj=>ih s a' w' m' H' he hk (ae.trans hd) (hb.trans ad) aj
    ·cases hk
   ·cases hk
  ·cases hk
theorem R1(a6:ch.Ok P gl)(a7:rd.Ok P gl)(a4:P.follows .mixedOrders=true)(n fl:Nat):∀(c:Code) (st s1:St) (g:Nat) (a3:List AV) (r:List Code),QT c=true→H8 P gl ch rd fl c st=some (s1,g,a3,r)→
  (∀x∈r,QT x=true)∧∀(m:Nat→Lc) (H:HV) (a:Act) (w:World),RelS m H B H0 gl rest st a.tmps w→∀Q:Exit→Act→World→Prop,
   (∀(a':Act) (w':World) (m':Nat→Lc) (H':HV) (vs:Array Value),a'.defers= {target:=.fn (.func g) vs,args:= #[]}::a.defers→Qd B w w'→RelS m' H' B H0 gl rest s1 a'.tmps w'→a3.length=vs.size→
    (∀(j:Nat) (x:AV) (v:Value),a3[j]? =some x→vs[j]? =some v→RV H' (s1.env m') x v)→Mk (FW none) n P Q r a' w')→c.wpIn (FW none) n P Q a w
 | .region id ops false,st,s1,g,a3,r,hok,hk=>by
  simp only[H8] at hk;split at hk
  ·rename_i s g' a8 hs;cases hk;refine⟨by simp,fun m H a w hr Q hQ=>wpIn_region ?_⟩
   have:=BT a6 a7 (all:=ops.toList) (n:=n) (d0:=a.defers) (w0:=w) (Q:=Q) (fun a' w' m' H' vs h1 h2 h3 h4 h5=>hQ a' w' m' H' vs h1 h2 h3 h4 h5) [] ops.toList st a w m H rfl hs rfl (Qd.refl _ _) hr
   simpa[List.range_eq_range'] using this
  ·cases hk
 | .seq x y,st,s1,g,a3,r,hok,hk=>by
  simp only[H8] at hk;simp only[QT,Bool.and_eq_true] at hok;split at hk
  ·rename_i s g' a8 r' hs;cases hk;obtain⟨o1,h1⟩:=R1 a6 a7 a4 n fl x st _ _ _ _ hok.1 hs;refine⟨fun z hz=>(List.mem_append.1 hz).elim (o1 z) fun h=>by simp at h;subst h;exact hok.2,fun m H a w hr Q hQ=>wpIn_seq (h1 m H a w hr _ fun a' w' m' H' vs q1 q2 q3 q4 q5=>A4 _ _ _ (hQ a' w' m' H' vs q1 q2 q3 q4 q5))⟩
  ·split at hk
   ·rename_i s hs;obtain⟨o1,h1⟩:=R1 a6 a7 a4 n fl y s _ _ _ _ hok.2 hk;refine⟨o1,fun m H a w hr Q hQ=>wpIn_seq (wpIn_mono (M6 a6 a7 a4 true none (fun _=>rfl) n fl x st .normal s [] hok.1 hs B H0 rest m H a w hr) fun e a' w' hq=> ?_)⟩
    obtain⟨rfl,m',H',D,hD,hd,am,hb,ac⟩:=hq;have:D=[]:=by cases D with | nil=>rfl | cons _ _=>simp at hD
    subst this;exact h1 m' H' a' w' ac Q fun a2 w2 m2 H2 vs q1 q2 q3 q4 q5=>hQ a2 w2 m2 H2 vs (by rw[q1,hd];rfl) (hb.trans q2) q3 q4 q5
   ·cases hk
 | .skip,_,_,_,_,_,_,hk=>by cases hk
 | .label _,_,_,_,_,_,_,hk=>by cases hk
 | .exit _,_,_,_,_,_,_,hk=>by cases hk
 | .ret,_,_,_,_,_,_,hk=>by cases hk
 | .region _ _ true,_,_,_,_,_,_,hk=>by cases hk
 | .cond ..,_,_,_,_,_,_,hk=>by cases hk
 | .block ..,_,_,_,_,_,_,hk=>by cases hk
 | .loop _,_,_,_,_,_,_,hk=>by cases hk
 | .rangeFunc ..,_,_,_,_,_,_,hk=>by cases hk
 | .scope _,_,_,_,_,_,_,hk=>by cases hk
 | .goto _,_,_,_,_,_,_,hk=>by cases hk
 | .refuse _,_,_,_,_,_,_,hk=>by cases hk
theorem FC(a5:ch.Ok P gl)(a6:rd.Ok P gl)(a3:P.follows .mixedOrders=true)(n fl:Nat):∀(l:List Code) (st:St) (ex:Exit) (st':St) (ds:List Nat),(∀x∈l,QT x=true)→Ab P gl ch rd fl l st=some (ex,st',ds)→
  ∀(rest:List (AV×Value)) (m:Nat→Lc) (H:HV) (a:Act) (w:World),RelS m H B H0 gl rest st a.tmps w→Mk (FW none) n P (fun e a' w'=>e=ex∧Ug gl B H0 rest a w st' ds a' w') l a w
 | [],st,ex,st',ds,_,hk,rest,m,H,a,w,hr=>by cases hk;exact⟨rfl,.nil rfl (Qd.refl _ _) hr⟩
 |c::cs,st,ex,st',ds,hok,hk,rest,m,H,a,w,hr=>by
  simp only[Ab] at hk;have hx:=fun e s d h=>M6 a5 a6 a3 true none (fun _=>rfl) n fl c st e s d (hok c (by simp)) h B H0 rest m H a w hr
  split at hk
  ·rename_i s d hs;split at hk
   ·rename_i e2 s2 d2 ac;cases hk;refine wpIn_mono (hx _ _ _ hs) fun e a' w' hq=> ?_
    obtain⟨rfl,m',H',D,hD,hd,a9,hb,ab⟩:=hq;have ih:=FC a5 a6 a3 n fl cs s _ _ _ (fun x hx=>hok x (by simp[hx])) ac _ m' H' a' w' (ab.more a9)
    exact HR cs _ _ ih fun e a2 w2 hq=>⟨hq.1,Ug.then (s1:=s) hD hd hb hq.2⟩
   ·cases hk
  ·rename_i aa;refine wpIn_mono (hx _ _ _ hk) fun e a' w' hq=> ?_
   obtain⟨rfl,hq⟩:=hq;cases e with
   |normal=>exact absurd hk (aa _ _)
   |_=>exact⟨rfl,hq⟩
def xdef(P:Program)(gl:Nat→AV)(gd:Nat→Bool)(fl:Nat)(ch:Qo)(rd:Yf)(g:Nat)(a3:List AV)(hp:Tr Box)(nx:Nat):Option (Tr Box×Nat):=
 bif gd g then(match P.funcs[g]? with
  |some fn=>match fn.body with
   |some c=>bif Nat.ble a3.length fn.ntmps then(match VF P gl ch rd true fl c ⟨fn.ntmps,Vn 0 a3,hp,nx⟩ with
    |some (ex,s,[])=>bif Mv ex then(match HN P s fn.results.toList with
     |some _=>some (s.hp,s.nx)
     |none=>none) else none
    |_=>none) else none
   |none=>none
  |none=>none) else none
def xfunD(P:Program)(gl:Nat→AV)(gd:Nat→Bool)(fl:Nat)(ch:Qo)(rd:Yf):Qo:=fun f args hp nx=>
 bif gd f then(match P.funcs[f]? with
  |some fn=>match fn.body with
   |some c=>bif Nat.ble args.length fn.ntmps then(match H8 P gl ch rd fl c ⟨fn.ntmps,Vn 0 args,hp,nx⟩ with
    |some (s1,g,caps,r)=>match Ab P gl ch rd fl r s1 with
     |some (ex,s,ds)=>bif Mv ex then(match shut ds s.hp with
      |some hp1=>match xdef P gl gd fl ch rd g caps hp1 s.nx with
       |some (hp2,nx2)=>match HN P (s.setHp hp2 nx2) fn.results.toList with
        |some r=>some (r,hp2,nx2)
        |none=>none
       |none=>none
      |none=>none) else none
     |none=>none
    |none=>none) else none
   |none=>none
  |none=>none) else none
theorem Bs{m:Nat→Lc}{H:HV}{F:Fence}{n:Nat}{fn:Func}{tmps:Array Value}{R:Ending→World→Prop}{nx:Nat}{hp':Tr Box}{T:List Deferred}:∀(D:List (Nat×Nat)) (hp:Tr Box) (w:World),RelH m H B H0 gl (lkb hp) nx w→(∀p∈D,(Q8 (lkb hp) m).lp p.1=some p.2)→shut (D.map (·.1)) hp=some hp'→
  (∀w',RelH m H B H0 gl (lkb hp') nx w'→Env.le (Q8 (lkb hp) m) (Q8 (lkb hp') m)→Qd B w w'→LeavesInM F n P fn tmps R T .returning w')→LeavesInM F n P fn tmps R (If D++T) .returning w
 | [],hp,w,h,_,hk,hQ=>by
  cases hk;exact hQ w h (.refl _) (Qd.refl _ _)
 | (id,l)::D,hp,w,h,hD,hk,hQ=>by
  simp only[List.map_cons,shut] at hk;split at hk
  ·rename_i a4;have hl:(m id).g=l:=by
    have:=hD (id,l) (by simp)
    rw[Q19 a4] at this;simpa using this
   have a3:w.heap[(m id).g]? =some (.deferred (some [])):=h.box _ _ a4;obtain⟨a6,a5,a7⟩:=h.putObj a4 rfl (b':=.defb false) rfl (.deferred none) (fun C e fr q=>by rw[a3] at q;cases q) (fun E' ab=>World.putObj_heap_same (h.sep _ _ a4).2.1)
   rw[← QI] at a6 a5;rw[hl] at a3 a6 a7;refine⟨by simp,.inl ⟨l,_,rfl,run_takeDeferred a3,?_⟩⟩
   exact Bs D _ _ a6 (fun p hp=>a5.lp _ _ (hD p (List.mem_cons_of_mem _ hp))) hk (fun w' h3 a8 a9=>hQ w' h3 (a5.trans a8) (a7.trans a9))
  ·cases hk
theorem RelS.frame{m:Nat→Lc}{H:HV}{hp:Tr Box}{nx:Nat}{w:World}(hh:RelH m H B H0 gl (lkb hp) nx w){n:Nat}{args:List AV}{vs:Array Value}(a7:args.length≤n)(hl:args.length=vs.size)(hv:∀(j:Nat) (x:AV) (v:Value),args[j]? =some x→vs[j]? =some v→RV H (Q8 (lkb hp) m) x v)
  (a3:∀p∈rest,RV H (Q8 (lkb hp) m) p.1 p.2):RelS m H B H0 gl rest ⟨n,Vn 0 args,hp,nx⟩ (vs++Array.replicate (n - vs.size) Go.undef) w:=by
 refine⟨hh,by simp;omega,fun k=> ?_,a3⟩
 show RV H _ (lk .undef (Vn 0 args) k) _;rw[WX,if_pos (Nat.zero_le _),Nat.sub_zero];cases hx:args[k]? with
 |none=>exact .imm _ _ (.undef _)
 |some x=>
  have hk:k<vs.size:=by rw[← hl];exact(List.getElem?_eq_some_iff.1 hx).1
  have a4:(vs++Array.replicate (n - vs.size) Go.undef).getD k Go.undef=vs[k]:=by
   rw[Array.getD_eq_getD_getElem?,Array.getElem?_append_left hk,Array.getElem?_eq_getElem hk];rfl
  rw[a4];exact hv k x _ hx (Array.getElem?_eq_getElem hk)
theorem xdef_ok{gd:Nat→Bool}{fl:Nat}(hp:DK P gd)(af:ch.Ok P gl)(ah:rd.Ok P gl){g:Nat}{a4:List AV}{a6 a9:Tr Box}{nx ad:Nat}(hk:xdef P gl gd fl ch rd g a4 a6 nx=some (a9,ad)){m:Nat→Lc}{H:HV}{w:World}{us:Array Value}
  (hh:RelH m H B H0 gl (lkb a6) nx w) (hl:a4.length=us.size) (hv:∀(j:Nat) (x:AV) (v:Value),a4[j]? =some x→us[j]? =some v→RV H (Q8 (lkb a6) m) x v) (ab:∀p∈rest,RV H (Q8 (lkb a6) m) p.1 p.2):
  (callFunc g us).run P w= .ok (.enter g us) w∧CallsDIn (FW none) 0 P g us .returning w fun e u' w'=>u'= .returning∧∃v m' H',e= .returned v∧Qd B w w'∧RelH m' H' B H0 gl (lkb a9) ad w'∧∀p∈rest,RV H' (Q8 (lkb a9) m') p.1 p.2:=by
 unfold xdef at hk;cases hg:gd g with
 |false=>rw[hg] at hk;cases hk
 |true=>
 rw[hg] at hk;simp only[cond_true] at hk;have a3:=hp.fn g hg;unfold okFn at a3;split at hk<;>first | cases hk | skip
 rename_i fn hf;rw[hf] at a3;simp only[Bool.and_eq_true,bne_iff_ne] at a3;obtain⟨a8,a3⟩:=a3;split at hk<;>first | cases hk | skip
 rename_i c hb;rw[hb] at a3;simp only at a3;cases a5:Nat.ble a4.length fn.ntmps with
 |false=>rw[a5] at hk;cases hk
 |true=>
 rw[a5] at hk;simp only[cond_true] at hk;have a5:=Nat.le_of_ble_eq_true a5;split at hk<;>first | cases hk | skip
 rename_i ex s hx;cases hex:Mv ex with
 |false=>rw[hex] at hk;cases hk
 |true=>
 rw[hex] at hk;simp only[cond_true] at hk;split at hk<;>first | cases hk | skip
 rename_i r hr;refine⟨N7 hf (by simpa using a8) (by rw[hb];rfl) us w,?_⟩
 have h0:=RelS.frame (rest:=rest) hh a5 hl hv ab;have a7:=M6 af ah hp.mix true none (fun _=>rfl) 0 fl c _ ex s [] a3 hx B H0 rest m H {tmps:=us++Array.replicate (fn.ntmps - us.size) Go.undef,defers:=[]} w h0
 refine callsDIn_of_wp hf hb trivial (wpIn_mono a7 fun e a' w' hq=> ?_)
 obtain⟨rfl,m',H',D,hD,hd,aq,ae,aa⟩:=hq;have:D=[]:=by cases D with | nil=>rfl | cons _ _=>simp at hD
 subst this;obtain⟨v,ai,_⟩:=IV aa hr;have ac:a'.defers=[]∧∃v,(results fn a'.tmps).run P w'= .ok v w'∧∃v' m' H',Ending.returned v= .returned v'∧Qd B w w'∧RelH m' H' B H0 gl (lkb s.hp) s.nx w'∧∀p∈rest,RV H' (Q8 (lkb s.hp) m') p.1 p.2:=
  ⟨by rw[hd];rfl,v,ai,v,m',H',rfl,ae,aa.heap,aa.rest⟩
 cases e with
 |normal=>exact ac
 |ret=>exact ac
 |_=>cases hex
theorem Q6l{gd:Nat→Bool}{fl:Nat}(hp:DK P gd)(ac:ch.Ok P gl)(ae:rd.Ok P gl):Qo.Ok P gl (xfunD P gl gd fl ch rd):=by
 intro f args bq nx r hp' nx' hk;unfold xfunD at hk;cases hg:gd f with
 |false=>rw[hg] at hk;cases hk
 |true=>
 rw[hg] at hk;simp only[cond_true] at hk;have a3:=hp.fn f hg;unfold okFn at a3;split at hk<;>first | cases hk | skip
 rename_i fn hf;rw[hf] at a3;simp only[Bool.and_eq_true,bne_iff_ne] at a3;obtain⟨ad,a3⟩:=a3;split at hk<;>first | cases hk | skip
 rename_i c hb;rw[hb] at a3;simp only at a3;cases a7:Nat.ble args.length fn.ntmps with
 |false=>rw[a7] at hk;cases hk
 |true=>
 rw[a7] at hk;simp only[cond_true] at hk;have a7:=Nat.le_of_ble_eq_true a7;split at hk<;>first | cases hk | skip
 rename_i s1 g a4 l hx;split at hk<;>first | cases hk | skip
 rename_i ex s ds be;cases hex:Mv ex with
 |false=>rw[hex] at hk;cases hk
 |true=>
 rw[hex] at hk;simp only[cond_true] at hk;split at hk<;>first | cases hk | skip
 rename_i b7 ag;split at hk<;>first | cases hk | skip
 rename_i bp bv ai;split at hk<;>first | cases hk | skip
 rename_i b8;intro m H B H0 rest w vs hh hl ab af;refine .inl ⟨N7 hf (by simpa using ad) (by rw[hb];rfl),?_⟩
 have h0:=RelS.frame (rest:=rest) hh a7 hl ab af;obtain⟨an,hD⟩:=R1 (B:=B) (H0:=H0) (rest:=rest) ac ae hp.mix 0 fl c _ s1 g a4 l a3 hx;refine CallsIn.calls (F:=FW none) (callsIn_of_wp_marks hf hb trivial (hD m H {tmps:=vs++Array.replicate (fn.ntmps - vs.size) Go.undef,defers:=[]} w h0 _ fun a1 w1 m1 H1 us b1 aq a8 ay az=> ?_)) (fun k d hd=>by simp[FW] at hd)
 have hz:∀p∈a4.zip us.toList,RV H1 (s1.env m1) p.1 p.2:=fun p hp=>by
  obtain⟨j,hj⟩:=List.getElem?_of_mem hp;rw[List.getElem?_zip_eq_some] at hj;exact az j _ _ hj.1 (by simpa using hj.2)
 refine HR _ _ _ (FC ac ae hp.mix 0 fl l s1 ex s ds an be (a4.zip us.toList++rest) m1 H1 a1 w1 ⟨a8.heap,a8.size,a8.slot,fun p hp=>(List.mem_append.1 hp).elim (hz p) (a8.rest p)⟩) fun e a' w' hq=> ?_
 obtain⟨rfl,m',H',D,ap,hd,b5,aw,a9⟩:=hq;subst ap;have ak:LeavesInM (FW none) 0 P fn a'.tmps (fun e w'=>∃v m' H',e= .returned v∧Qd B w w'∧RelH m' H' B H0 gl (lkb hp') nx' w'∧RV H' (Q8 (lkb hp') m') r v∧∀p∈rest,RV H' (Q8 (lkb hp') m') p.1 p.2) a'.defers .returning w':=by
  rw[hd,b1];refine Bs D _ w' a9.heap b5 ag fun w3 h3 ah ar=> ?_
  have a6:RelS m' H' B H0 gl (a4.zip us.toList++rest) (s.setHp b7 s.nx) a'.tmps w3:=⟨h3,a9.size,fun k=>(a9.slot k).mono (.refl _) ah,fun p hp=>(a9.rest p hp).mono (.refl _) ah⟩
  obtain⟨aj,ax⟩:=xdef_ok (rest:=(List.range s.n).map (fun k=>(s.get k,a'.tmps.getD k Go.undef))++rest) hp ac ae ai h3 ay (fun j x v hx hv=>by
   refine a6.rest (x,v) (List.mem_append_left _ (List.mem_of_getElem? (i:=j) ?_));rw[List.getElem?_zip_eq_some];exact⟨hx,by simpa using hv⟩) (fun p hp=>by
   rcases List.mem_append.1 hp with hp | hp
   ·obtain⟨k,_,rfl⟩:=List.mem_map.1 hp;exact a6.slot k
   ·exact a6.rest p (List.mem_append_right _ hp))
  refine⟨by simp,.inr ⟨fun h=>by simp[FW] at h,.func g,us,g,us,rfl,?_,fun _ _=>trivial,ax.mono fun e u' w4 ⟨hu,v,m2,H2,he,au,am,a5⟩=> ?_⟩⟩
  ·show(callFunc g (#[]++us)).run P w3=_;rw[Array.empty_append];exact aj
  ·subst hu;subst he;have ao:RelS m2 H2 B H0 gl rest (s.setHp hp' nx') a'.tmps w4:=by
    refine⟨am,a6.size,fun k=> ?_,fun p hp=>a5 p (List.mem_append_right _ hp)⟩
    rcases Nat.lt_or_ge k s.n with b6 | b3
    ·exact a5 (s.get k,a'.tmps.getD k Go.undef) (List.mem_append_left _ (List.mem_map.2 ⟨k,List.mem_range.2 b6,rfl⟩))
    ·have hu:a'.tmps.getD k Go.undef=Go.undef:=by rw[Array.getD_eq_getD_getElem?,Array.getElem?_eq_none (by rw[a6.size];exact b3)];rfl
     have:=a6.slot k;rw[hu] at this ⊢;exact Fw this
   obtain⟨v,hv,b9⟩:=IV ao b8;exact⟨v,hv,v,m2,H2,rfl,(aq.trans aw).trans (ar.trans au),am,b9,ao.rest⟩
 cases e with
 |normal=>exact ak
 |ret=>exact ak
 |_=>cases hex
def xcmp(nf:Nat):Qo:=fun f args hp nx=>bif Nat.beq f nf then(match args with
 | [.str a,.str b]=>some (.int .i64 (Lib.compareBytes a b),hp,nx)
 |_=>none) else none
theorem xcmp_ok{nf:Nat}{P:Program}{gl:Nat→AV}(h:∀(a b:ByteArray) (w:World),(callFunc nf #[.string a,.string b]).run P w= .ok (.value (.int .i64 (Lib.compareBytes a.data.toList b.data.toList))) w):Qo.Ok P gl (xcmp nf):=by
 intro f args hp nx r hp' nx' hk;unfold xcmp at hk;cases hf:Nat.beq f nf with
 |false=>rw[hf] at hk;cases hk
 |true=>
  rw[hf] at hk;obtain rfl:=Nat.eq_of_beq_eq_true hf;simp only[cond_true] at hk;split at hk<;>first | cases hk | skip
  rename_i a b;intro m H B H0 rest w vs hh hl a3 a4;obtain⟨v0,v1,rfl⟩:∃v0 v1,vs= #[v0,v1]:=by
   rcases vs with⟨_ | ⟨a,_ | ⟨b,_ | ⟨c,r⟩⟩⟩⟩<;>simp at hl
   exact⟨a,b,rfl⟩
  have h0:=(a3 0 _ v0 rfl rfl).str_inv;have h1:=(a3 1 _ v1 rfl rfl).str_inv;subst h0;subst h1;exact .inr ⟨_,w,h _ _ w,_,m,H,rfl,Qd.refl _ _,hh,.imm _ _ (.int _ _),a4⟩
end
end HY
end
section
namespace HY
open Go Go.RowKit
abbrev Kd:=List (Nat×List AV×AV×Tr Box×Nat)
def HE(f:Nat)(ts:List AV):Kd→Option (AV×Tr Box×Nat)
 | []=>none
 |e::r=>match Nat.beq e.1 f&&Dn (avEq 12) e.2.1 ts with
  |true=>some e.2.2
  |false=>HE f ts r
def memoHas(f:Nat)(T:Kd):Bool:=T.any fun e=>Nat.beq e.1 f
def memoCh(T:Kd):Qo:=fun f ts _ _=>HE f ts T
def KF(P:Program)(gl:Nat→AV)(T:Kd):Prop:=∀e∈T,Jc P gl e.1 e.2.1 e.2.2.1 e.2.2.2.1 e.2.2.2.2
theorem Tc{P:Program}{gl:Nat→AV}{f:Nat}{ts:List AV}{r:AV}{hp':Tr Box}{nx':Nat}:∀ {T:Kd},KF P gl T→HE f ts T=some (r,hp',nx')→Jc P gl f ts r hp' nx'
 | [],_,h=>by cases h
 | ⟨f',ts',r',hp2,nx2⟩::T,hT,h=>by
  simp only[HE] at h;split at h
  ·rename_i hc;rw[Bool.and_eq_true] at hc;have h1:=Nat.eq_of_beq_eq_true hc.1;have h2:=U0 (Ra 12) hc.2;cases h;have:=hT _ (List.mem_cons_self ..);subst h1;subst h2;exact this
  ·exact Tc (fun e he=>hT e (by simp[he])) h
def PJ(hp:Tr Box)(nx:Nat)(o:Option (AV×Option (Nat×Box))):Option (AV×Tr Box×Nat):=match o with
 |some (v,some (id,b))=>some (v,pt hp id b,nx+1)
 |some (v,none)=>some (v,hp,nx+1)
 |none=>none
theorem BI{P:Program}{gl:Nat→AV}{ch:Qo}(aa:∀f ts r0 hp' nx',ch f ts .nil 0=some (r0,hp',nx')→Jc P gl f ts r0 hp' nx'){f:Nat}{args:List AV}{hp:Tr Box}{nx:Nat}{r:AV}{hp':Tr Box}{nx':Nat}
  (hk:PJ hp nx (Ca ch (lkb hp) nx f args)=some (r,hp',nx')):Ee P gl f args hp nx r hp' nx':=by
 intro m H B H0 rest w vs hh hl a5 a7;have key:∀(v:AV) (ob:Option (Nat×Box)),Ca ch (lkb hp) nx f args=some (v,ob)→v=r→(match ob with | some (id,b)=>pt hp id b | none=>hp)=hp'→nx+1=nx'→
   Ans P f vs w fun e w'=>∃v m' H',e= .returned v∧Qd B w w'∧RelH m' H' B H0 gl (lkb hp') nx' w'∧RV H' (Q8 (lkb hp') m') r v∧∀p∈rest,RV H' (Q8 (lkb hp') m') p.1 p.2:=by
  intro v ob hx e1 e2 e3
  let st:St:=⟨1,.nil,hp,nx+1⟩
  let a:Act:= {tmps:= #[Go.undef],defers:=[]}
  have hr:RelS m H B H0 gl rest st a.tmps w:=by
   refine⟨{hh with fresh:=fun id ac=>hh.fresh id (Nat.le_of_succ_le ac)},rfl,fun k=> ?_,a7⟩
   have:st.get k=AV.undef:=by show lk AV.undef .nil k=_;unfold lk;cases path k<;>rfl
   rw[this];exact .imm _ _ (.undef _)
  have:=FD (P:=P) (st:=st) (a:=a) (dst:=some 0) aa hr rfl (hh.fresh nx (Nat.le_refl _)) (Nat.lt_succ_self nx) hl a5 hx;refine this.mono fun e w' ⟨u,m',H',he,hb,a4⟩=> ?_
  have hs:=a4.slot 0;have a6:(st.eff (some 0) (v,ob)).hp=hp':=by
   rw[← e2];cases ob with
   |none=>rfl
   |some b=>rfl
  have ad:(st.eff (some 0) (v,ob)).nx=nx':=by rw[Ct,← e3]
  have hg:(st.eff (some 0) (v,ob)).get 0=r:=by rw[VN,if_pos rfl,e1]
  rw[hg] at hs;unfold St.env at hs;rw[a6] at hs;have ht:(a.put (some 0) u).tmps.getD 0 Go.undef=u:=rfl;rw[ht] at hs;have a3:=a4.heap;rw[a6,ad] at a3;refine⟨u,m',H',he,hb,a3,hs,fun p hp=> ?_⟩
  have:=a4.rest p hp;unfold St.env at this
  rwa [a6] at this
 unfold PJ at hk;split at hk
 ·rename_i v id b hx;cases hk;exact key _ _ hx rfl rfl rfl
 ·rename_i v hx;cases hk;exact key _ _ hx rfl rfl rfl
 ·cases hk
def xmemo(T:Kd):Qo:=fun f args hp nx=>match memoHas f T with
 |true=>PJ hp nx (Ca (memoCh T) (lkb hp) nx f args)
 |false=>none
theorem Q6n{P:Program}{gl:Nat→AV}{T:Kd}(hT:KF P gl T):Qo.Ok P gl (xmemo T):=by
 intro f args hp nx r hp' nx' hk;unfold xmemo at hk;split at hk;·exact BI (fun f ts r0 hp' nx' h=>Tc hT h) hk
 ·cases hk
theorem YS{P:Program}{gl:Nat→AV}{ch:Qo}(a3:ch.Ok P gl){f:Nat}{ts:List AV}{r:AV}{hp':Tr Box}{nx':Nat}(h:PJ .nil 0 (Ca ch (lkb .nil) 0 f ts)=some (r,hp',nx')):Jc P gl f ts r hp' nx':=
 (BI (fun _ _ _ _ _ h=>(a3 _ _ _ _ _ _ _ h).zero) h).zero
def Mn(P:Program)(gl:Nat→AV)(gd:Nat→Bool)(fl:Nat)(xe:Qo)(T:Kd):Nat→Qo×Yf
 |0=>(fun _ _ _ _=>none,fun _ _ _ _=>none)
 |k+1=>(fun f args hp nx=>match xmemo T f args hp nx with
  |some r=>some r
  |none=>bif gd f then(match xfun P gl gd fl (Mn P gl gd fl xe T k).1 (Mn P gl gd fl xe T k).2 f args hp nx with
   |some r=>some r
   |none=>xfunD P gl gd fl (Mn P gl gd fl xe T k).1 (Mn P gl gd fl xe T k).2 f args hp nx) else xe f args hp nx,fun id args hp nx=>BR P gl fl (Mn P gl gd fl xe T k).1 (Mn P gl gd fl xe T k).2 id args hp nx)
def xcallM(P:Program)(gl:Nat→AV)(gd:Nat→Bool)(fl:Nat)(xe:Qo)(T:Kd)(k:Nat):Qo:=(Mn P gl gd fl xe T k).1
theorem N3{P:Program}{gl:Nat→AV}{gd:Nat→Bool}{fl:Nat}{xe:Qo}{T:Kd}(hp:DK P gd)(he:xe.Ok P gl)(hT:KF P gl T):∀k,Qo.Ok P gl (Mn P gl gd fl xe T k).1∧Yf.Ok P gl (Mn P gl gd fl xe T k).2
 |0=>⟨fun _ _ _ _ _ _ _ h=>(by cases h),fun _ _ _ _ _ _ _ h=>(by cases h)⟩
 |k+1=>⟨fun f args a6 nx r hp' nx' h=>by
   simp only[Mn] at h;split at h
   ·rename_i r0 hm;cases h;exact Q6n hT _ _ _ _ _ _ _ hm
   ·cases hg:gd f with
    |false=>rw[hg] at h;exact he _ _ _ _ _ _ _ h
    |true=>
     rw[hg] at h;simp only[cond_true] at h;split at h;·rename_i r0 hr;cases h;exact xfun_ok hp (N3 hp he hT k).1 (N3 hp he hT k).2 _ _ _ _ _ _ _ hr
     ·exact Q6l hp (N3 hp he hT k).1 (N3 hp he hT k).2 _ _ _ _ _ _ _ h,Q4v (N3 hp he hT k).1 (N3 hp he hT k).2 hp.mix fl⟩
theorem Yh{P:Program}{gl:Nat→AV}{gd:Nat→Bool}{fl:Nat}{xe:Qo}{T:Kd}(hp:DK P gd)(he:xe.Ok P gl)(hT:KF P gl T)(k:Nat):Qo.Ok P gl (xcallM P gl gd fl xe T k):=(N3 hp he hT k).1
def isTrue(r:Option (AV×Tr Box×Nat)):Bool:=match r with | some (.bool true,_)=>true | _=>false
end HY
end
section
namespace Go.Proofs.YtkgphhemcglgnaaGreatDoor
open Go HY
def spaces:List AV:=(List.replicate 9 (.int .u8 0))++(List.replicate 5 (.int .u8 1))++(List.replicate 18 (.int .u8 0))++[.int .u8 1]++(List.replicate 223 (.int .u8 0))
def gls:Nat→AV:=fun g=>bif Nat.beq g 0 then .ip 256 [.agg spaces] 0 0 else .undef
def gdMask:Nat:=1386335007159899871177539650738530515904954746129667442997097585808190759422965376564141270090081692417241154506698448224831668220
def gds:Nat→Bool:=fun f=>Nat.blt f 430&&Nat.testBit gdMask f
set_option maxRecDepth 1000000
theorem gds_all:((List.range 430).all fun f=> !gds f || okFn Tryz.prog f)=true:=by kernel_rfl
theorem CR:Tryz.prog.follows .mixedOrders=true:=by kernel_rfl
theorem V0:DK Tryz.prog gds:=⟨CR,fun f hf=>by
 have h:f<430:=by
  unfold gds at hf;rw[Bool.and_eq_true] at hf;exact Nat.le_of_ble_eq_true hf.1
 have:=List.all_eq_true.1 gds_all f (List.mem_range.2 h);rw[hf] at this;simpa using this⟩
end Go.Proofs.YtkgphhemcglgnaaGreatDoor
end
section
namespace Go.Proofs.YtkgphhemcglgnaaGreatDoor
open Go HY
set_option maxRecDepth 1000000
def ch0:Qo:=fun _ _ _ _=>none
theorem Dj:Qo.Ok Tryz.prog gls ch0:=fun _ _ _ _ _ _ _ h=>by cases h
noncomputable def wf0:WF:=wlev Tryz.prog gls ch0 gds 2000 (fun _ _ _ _ _ _=>False) 4
theorem DP:WF.Ok Tryz.prog gls wf0:=Q25 Dj V0 (fun _ _ _ _ _ _ h=>h.elim) 4
noncomputable def W(f:Nat)(hs:Zg)(args:List AV)(r:AV):Prop:=wpure Tryz.prog gls ch0 wf0 gds 2000 f hs args r
noncomputable def WR(f r n:Nat)(hs:Zg)(ks:List Nat)(kb:List KB)(kx:List Nat)(kbx:List KB)(alts:List Alt)(vs:List AV)(bs:List Box):Prop:=
 A5 Tryz.prog gls ch0 wf0 hs [] 2000 n (Uj Tryz.prog f (r+1)) ks kb kx kbx alts vs bs (Nxt Tryz.prog gls [] n (Uj Tryz.prog f (r+1)) ks kx alts)
theorem Pu1{φ:Prop}{f:Nat}{hs:Zg}{args:List AV}{r:AV}(e:φ=W f hs args r)(h:φ):Pu Tryz.prog gls f args r:=Pu.of (hs:=hs) Dj DP V0 (show W f hs args r from e▸h)
theorem Lp1{φ:Prop}{f r n:Nat}{hs:Zg}{ks:List Nat}{kb:List KB}{kx:List Nat}{kbx:List KB}{alts:List Alt}{vs:List AV}{bs:List Box}(a3:QT (Uj Tryz.prog f (r+1))=true)(e:φ=WR f r n hs ks kb kx kbx alts vs bs)(h:φ):X7 Tryz.prog gls [] n (Uj Tryz.prog f (r+1)) ks vs bs kx alts:=
 X7.step Dj DP CR a3 (show WR f r n hs ks kb kx kbx alts vs bs from e▸h)
noncomputable def WH(f:Nat)(hs:Zg)(kb:List KB)(args:List AV)(bs:List Box)(r:AV)(a3:List Box):Prop:=BB Tryz.prog gls ch0 wf0 gds 2000 f hs kb args bs r a3
theorem PuH1{φ:Prop}{f:Nat}{hs:Zg}{kb:List KB}{args:List AV}{bs a3:List Box}{r:AV}(e:φ=WH f hs kb args bs r a3)(h:φ):PuH Tryz.prog gls f args bs r a3:=PuH.of (hs:=hs) Dj DP V0 (show WH f hs kb args bs r a3 from e▸h)
abbrev PH(f:Nat)(args:List AV)(bs:List Box)(r:AV)(a3:List Box):Prop:=PuH Tryz.prog gls f args bs r a3
abbrev PU(f:Nat)(args:List AV)(r:AV):Prop:=Pu Tryz.prog gls f args r
abbrev LO(f r n:Nat)(ks:List Nat)(vs:List AV)(bs:List Box)(kx:List Nat)(alts:List Alt):Prop:=X7 Tryz.prog gls [] n (Uj Tryz.prog f (r+1)) ks vs bs kx alts
theorem Lp2{φ:Prop}{f r n:Nat}{hs:Zg}{ks:List Nat}{kb:List KB}{kx:List Nat}{kbx:List KB}{alts:List Alt}{vs:List AV}{bs:List Box}(h:φ)(a3:QT (Uj Tryz.prog f (r+1))=true:=by kernel_rfl)(e:φ=WR f r n hs ks kb kx kbx alts vs bs:=by kernel_rfl):X7 Tryz.prog gls [] n (Uj Tryz.prog f (r+1)) ks vs bs kx alts:=
 X7.step Dj DP CR a3 (show WR f r n hs ks kb kx kbx alts vs bs from e▸h)
theorem Pu2{φ:Prop}{f:Nat}{hs:Zg}{args:List AV}{r:AV}(h:φ)(e:φ=W f hs args r:=by kernel_rfl):Pu Tryz.prog gls f args r:=Pu.of (hs:=hs) Dj DP V0 (show W f hs args r from e▸h)
theorem PuH2{φ:Prop}{f:Nat}{hs:Zg}{kb:List KB}{args:List AV}{bs a3:List Box}{r:AV}(h:φ)(e:φ=WH f hs kb args bs r a3:=by kernel_rfl):PuH Tryz.prog gls f args bs r a3:=PuH.of (hs:=hs) Dj DP V0 (show WH f hs kb args bs r a3 from e▸h)
end Go.Proofs.YtkgphhemcglgnaaGreatDoor
end
